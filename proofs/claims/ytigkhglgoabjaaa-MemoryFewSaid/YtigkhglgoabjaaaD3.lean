/-
  victim.
-/
import Derived.Test.YtigkhglgoabjaaaD2
import Derived.Laws.EntriesVeiled
namespace Go.Proofs.Ytigkhglgoabjaaa
open Go.RowKit Go.Shelf
attribute [local go_sem] Oper.semAt_some

/-- Is a tenant above its share with more units? -/
def overB (S : List Int) (L : List E) (t : Nat) (z : Int) : Bool := decide (S.getD t 0 - z < usedOf L t)
/-- May an entry be removed for a tenant? -/
def fitsB (S : List Int) (L : List E) (t : Nat) (z : Int) (x : E) : Bool :=
  if overB S L t z then (x.t : Int) == (t : Int) else ((x.t : Int) != (t : Int)) && decide (S.getD x.t 0 ≤ usedOf L x.t - x.z)


/-- One cell of a call's own. -/
def Box (W : World) (b : Nat) (v : Value) : Prop := ∃ t, W.heap[b]? = some (.cells #[v] t (0, 0))
theorem Box.cell {W : World} {b : Nat} {v : Value} (h : Box W b v) : W.cell? ⟨b, 0, none⟩ = some v := by obtain ⟨t, h⟩ := h; simp [World.cell?, h]
theorem Box.frozen {W : World} {b : Nat} {v : Value} (h : Box W b v) (o : Nat) : W.frozen? ⟨b, o, none⟩ = false := by obtain ⟨t, h⟩ := h; simp [World.frozen?, h]
theorem Box.lt {W : World} {b : Nat} {v : Value} (h : Box W b v) : b < W.heap.size := by obtain ⟨t, h⟩ := h; exact (Array.getElem?_eq_some_iff.1 h).1
theorem Box.new (W : World) (t : TypeId) (v : Value) : Box (W.alloc (.cells #[v] t)) W.heap.size v := ⟨t, World.alloc_heap_new W _⟩
theorem Box.keep {W W' : World} {b : Nat} {v : Value} {A : Nat → Prop} (h : Box W b v) (k : Keep A W W') (hA : ¬ A b) : Box W' b v := by obtain ⟨t, h⟩ := h; exact ⟨t, k.heap h hA⟩
theorem Box.alloc {W : World} {b : Nat} {v : Value} (h : Box W b v) (o : Obj) : Box (W.alloc o) b v := h.keep (A := fun _ => False) ((Keep.refl _ W).alloc o) (fun h => h)
theorem Box.drew {W : World} {b : Nat} {v : Value} (h : Box W b v) : Box W.drew b v := h
theorem Box.drewN {W : World} {b : Nat} {v : Value} (h : Box W b v) (k : Nat) : Box (W.drewN k) b v := h
theorem Box.set {W : World} {b : Nat} {v : Value} (h : Box W b v) (v' : Value) : Box (W.setCell ⟨b, 0, none⟩ v') b v' := by
  obtain ⟨t, h⟩ := h
  refine ⟨t, ?_⟩
  simp [World.setCell, Array.getElem?_modify, h]
theorem PoolIs.drewN {w : World} {g : Gh} (h : PoolIs w g) (k : Nat) : PoolIs (w.drewN k) g := h.keep (A := fun _ => False) ((Keep.refl _ w).drewN k) (fun _ _ h => h)
theorem Box.of_heap {W : World} {b : Nat} {v : Value} {t : TypeId} (h : W.heap[b]? = some (.cells #[v] t (0, 0))) : Box W b v := ⟨t, h⟩

/-- What victim's own boxes are. -/
structure VB (W : World) (n : Nat) (g : Gh) (t : Nat) (f : Value) (r : Value) : Prop where
  b0 : Box W n (ptr g.bp)
  b1 : Box W (n + 1) (.int .i64 t)
  b2 : Box W (n + 1 + 1) r
  b3 : Box W (n + 1 + 1 + 1) f
  p : PoolIs W g

theorem VB.keep {W W' : World} {n : Nat} {g : Gh} {t : Nat} {f r : Value} {A : Nat → Prop} (h : VB W n g t f r) (k : Keep A W W') (hA : ∀ i, i ≤ n + 3 → ¬ A i) (hg : ∀ i, g.foot i → ¬ A i) : VB W' n g t f r :=
  ⟨h.b0.keep k (hA _ (by omega)), h.b1.keep k (hA _ (by omega)), h.b2.keep k (hA _ (by omega)), h.b3.keep k (hA _ (by omega)), h.p.keep k hg⟩

theorem vb_made (w : World) (g : Gh) (t : Nat) (f : Value) (h : PoolIs w g) :
    VB ((((w.alloc (.cells #[ptr g.bp] 32)).alloc (.cells #[.int .i64 t] 3)).alloc (.cells #[.pointer none] 55)).alloc (.cells #[f] 76)) w.heap.size g t f (.pointer none) := by
  refine ⟨(((Box.new w 32 _).alloc _).alloc _).alloc _, ?_, ?_, ?_, (((h.alloc _).alloc _).alloc _).alloc _⟩
  · have := Box.new (w.alloc (.cells #[ptr g.bp] 32)) 3 (.int .i64 t)
    rw [World.size_alloc] at this
    exact (this.alloc _).alloc _
  · have := Box.new ((w.alloc (.cells #[ptr g.bp] 32)).alloc (.cells #[.int .i64 t] 3)) 55 (.pointer none)
    rw [World.size_alloc, World.size_alloc] at this
    exact this.alloc _
  · have := Box.new (((w.alloc (.cells #[ptr g.bp] 32)).alloc (.cells #[.int .i64 t] 3)).alloc (.cells #[.pointer none] 55)) 76 f
    rw [World.size_alloc, World.size_alloc, World.size_alloc] at this
    exact this

theorem PoolIs.share {w : World} {g : Gh} (h : PoolIs w g) {t : Nat} (ht : t < g.sh.length) : w.cell? ⟨g.bs, t, none⟩ = some (.int .i64 (g.sh.getD t 0)) ∧ 0 ≤ g.sh.getD t 0 ∧ g.sh.getD t 0 ≤ 1000000 := by
  have e : g.sh[t]? = some (g.sh.getD t 0) := by simp [List.getD, List.getElem?_eq_getElem ht]
  exact ⟨h.sh t _ e, h.shr _ (List.mem_of_getElem? e)⟩

theorem PoolIs.used_bd {w : World} {g : Gh} (h : PoolIs w g) (t : Nat) : 0 ≤ usedOf g.es t ∧ usedOf g.es t ≤ 1000000 := by
  have hpos : ∀ y ∈ g.es, 1 ≤ y.z := fun y hy => (h.rng y hy).2
  have h1 := usedOf_nonneg g.es t hpos
  have h2 := usedOf_le_tot g.es t hpos
  have h3 := h.le; have h4 := h.cap
  omega

theorem PoolIs.z_bd {w : World} {g : Gh} (h : PoolIs w g) {x : E} (hx : x ∈ g.es) : 1 ≤ x.z ∧ x.z ≤ usedOf g.es x.t := by
  have hpos : ∀ y ∈ g.es, 1 ≤ y.z := fun y hy => (h.rng y hy).2
  exact ⟨hpos x hx, usedOf_mem_le _ x hpos hx⟩

theorem isOver_pool (g : Gh) (t : Nat) (z : Int) (w : World) (h : PoolIs w g) (ht : t < g.sh.length) (hz : 1 ≤ z) (hz2 : z ≤ 9223372036854775807) :
    Calls Try.prog 37 #[ptr g.bp, .int .i64 t, .int .i64 z] w fun e w' => e = .returned (.bool (overB g.sh g.es t z)) ∧ ∃ k, w' = w.drewN k := by
  obtain ⟨h1, h2, h3⟩ := h.share ht
  exact isOver_any g.bp g.bs g.bu g.sh.length g.sc g.uc t _ _ z _ w ht h.c6 h.c7 h1 (h.us t ht) (wrap_in (by omega) (by omega))

theorem fits_over (g : Gh) (t n : Nat) (z : Int) (x : Ent) (w : World) {f r : Value} (h : VB w n g t f r) (hx : x ∈ g.L) (ho : overB g.sh g.es t z = true) :
    Calls Try.prog 36 #[ptr x.b, .pointer (some ⟨n + 1, 0, none⟩)] w fun e w' => e = .returned (.bool (fitsB g.sh g.es t z x.e)) ∧ ∃ k, w' = w.drewN k := by
  rw [fitsB, if_pos ho]
  exact fits1_any x.b (n + 1) x.e.t t w (h.p.ents x hx).c1 h.b1.cell

theorem fits_under (g : Gh) (t n : Nat) (z : Int) (x : Ent) (w : World) {f r : Value} (h : VB w n g t f r) (hx : x ∈ g.L) (ho : overB g.sh g.es t z = false) :
    Calls Try.prog 38 #[ptr x.b, .pointer (some ⟨n + 1, 0, none⟩), .pointer (some ⟨n, 0, none⟩)] w fun e w' => e = .returned (.bool (fitsB g.sh g.es t z x.e)) ∧ ∃ k, w' = w.drewN k := by
  have hxe : x.e ∈ g.es := List.mem_map_of_mem hx
  rw [fitsB, if_neg (by rw [ho]; decide)]
  by_cases he : ((x.e.t : Int) != (t : Int)) = true
  · rw [he, Bool.true_and]
    obtain ⟨h1, h2, h3⟩ := h.p.share (h.p.rng _ hxe).1
    have h4 := h.p.used_bd x.e.t
    have h5 := h.p.z_bd hxe
    exact fits2_other x.b (n + 1) n g.bp g.bs g.bu g.sh.length g.sc g.uc x.e.t t (usedOf g.es x.e.t) x.e.z (g.sh.getD x.e.t 0) _ w (h.p.ents x hx).c1 (h.p.ents x hx).c2 h.b1.cell h.b0.cell he (h.p.rng _ hxe).1 h.p.c6 h.p.c7 h1 (h.p.us _ (h.p.rng _ hxe).1) (wrap_in (by omega) (by omega))
  · have he' : ((x.e.t : Int) != (t : Int)) = false := by simpa using he
    rw [he', Bool.false_and]
    exact fits2_same x.b (n + 1) n x.e.t t w (h.p.ents x hx).c1 h.b1.cell he'

/-- Between two rounds. -/
def VI (w : World) (g : Gh) (t : Nat) (z : Int) (f : Value) (i : Nat) (V : World) : Prop :=
  VB V w.heap.size g t f (.pointer none) ∧ Box V (w.heap.size + 1 + 1 + 1 + 1) (ptr g.bp) ∧ Keep (fun _ => False) w V ∧ ∀ y ∈ g.L.take i, fitsB g.sh g.es t z y.e = false
/-- A round has found one. -/
def VX (w : World) (g : Gh) (t : Nat) (z : Int) (c : Code) (i : Nat) (V : World) : Prop :=
  c = .ret ∧ ∃ x, g.L[i]? = some x ∧ Box V (w.heap.size + 1 + 1) (ptr x.b) ∧ Keep (fun _ => False) w V ∧ (∀ y ∈ g.L.take i, fitsB g.sh g.es t z y.e = false) ∧ fitsB g.sh g.es t z x.e = true

theorem VI_own (w : World) (g : Gh) (t : Nat) (z : Int) (f : Value) (h : PoolIs w g) (B : Nat) (hB : w.heap.size + 5 ≤ B) : OwnFrom B (VI w g t z f) := by
  rintro i V V' row ⟨h1, h2, h3, h4⟩ hg hr
  have k := Keep.of_grown hg
  have hA : ∀ i, i < w.heap.size + 5 → ¬ (row = some i) := fun i hi e => by have := (hr i e).1; omega
  exact ⟨h1.keep k (fun i hi => hA i (by omega)) (fun i hi => hA i (by have := h.foot_lt hi; omega)), h2.keep k (hA _ (by omega)), h3.trans' k (fun i e => .inr (by have := (hr i e).1; omega)), h4⟩

theorem VX_own (w : World) (g : Gh) (t : Nat) (z : Int) (B : Nat) (hB : w.heap.size + 5 ≤ B) (c : Code) : OwnFrom B (VX w g t z c) := by
  rintro i V V' row ⟨h0, x, h1, h2, h3, h4, h5⟩ hg hr
  have k := Keep.of_grown hg
  have hA : ∀ i, i < w.heap.size + 5 → ¬ (row = some i) := fun i hi e => by have := (hr i e).1; omega
  exact ⟨h0, x, h1, h2.keep k (hA _ (by omega)), h3.trans' k (fun i e => .inr (by have := (hr i e).1; omega)), h4, h5⟩

theorem keepsOthers_of_keep {V V' : World} (h : Keep (fun _ => False) V V') : KeepsOthers V V' :=
  ⟨h.size, fun _k _o hk _ => h.heap hk (fun h => h)⟩
theorem take_succ_get {α : Type} {l : List α} {i : Nat} {x : α} (h : l[i]? = some x) : l.take (i + 1) = l.take i ++ [x] := by
  rw [List.take_add_one, h]; rfl
theorem split_at {α : Type} {l : List α} {i : Nat} {x : α} (h : l[i]? = some x) : l = l.take i ++ x :: l.drop (i + 1) := by
  obtain ⟨hi, rfl⟩ := List.getElem?_eq_some_iff.1 h
  rw [← List.drop_eq_getElem_cons hi, List.take_append_drop]
theorem ringAt_get {g : Gh} {i : Nat} {x : Ent} (h : g.L[i]? = some x) : ringAt g.bp g.bl i = x.b := by simp [ringAt, Gh.bl, h]
theorem PoolIs.reads {W : World} {g : Gh} {bx : Nat} (h : PoolIs W g) (hb : Box W bx (ptr g.bp)) : AllReads bx g.bp g.bl W :=
  ⟨hb.cell, h.links, fun _b hb => (ring_cells h hb).2.2.1⟩
theorem PoolIs.bp_notin {W : World} {g : Gh} (h : PoolIs W g) : g.bp ∉ g.bl := by
  have hnd := h.nd
  simp only [List.nodup_cons, List.mem_cons, not_or] at hnd
  exact hnd.1.2.2

set_option maxRecDepth 100000 in
set_option maxHeartbeats 1000000 in
theorem victim_over (g : Gh) (t : Nat) (z : Int) (w : World) (h : PoolIs w g) (ht : t < g.sh.length) (hz : 1 ≤ z) (hz2 : z ≤ 9223372036854775807) (ho : overB g.sh g.es t z = true) :
    Calls Try.prog 29 #[ptr g.bp, .int .i64 t, .int .i64 z] w fun e w' =>
      ((∃ X x Y, g.L = X ++ x :: Y ∧ (∀ y ∈ X, fitsB g.sh g.es t z y.e = false) ∧ fitsB g.sh g.es t z x.e = true ∧ e = .returned (ptr x.b)) ∨
        ((∀ y ∈ g.L, fitsB g.sh g.es t z y.e = false) ∧ e = .returned (.pointer none))) ∧ Keep (fun _ => False) w w' := by
  have H := Lib.hid h; clear h
  have HO := Lib.hid ho; clear ho
  refine (callsIn_wide (n := 0)).1 ?_
  refine callsIn_of_wp_marks Try.func29 rfl trivial ?_ rfl
  simp only [Try.ntmps29, List.size_toArray, List.length_cons, List.length_nil, Nat.reduceAdd, Nat.reduceSub, Array.replicate_succ, Array.replicate_zero, List.push_toArray, List.append_toArray, List.nil_append, List.cons_append]
  gi_wp2_with fail
  have hv := vb_made w g t (.func (.func 36) #[] #[.pointer (some ⟨w.heap.size + 1, 0, none⟩)]) H.out
  have hkp := (((Keep.refl (fun _ => False) w).alloc (.cells #[ptr g.bp] 32)).alloc (.cells #[.int .i64 t] 3)).alloc (.cells #[.pointer none] 55) |>.alloc (.cells #[.func (.func 36) #[] #[.pointer (some ⟨w.heap.size + 1, 0, none⟩)]] 76)
  have hsz : ((((w.alloc (.cells #[ptr g.bp] 32)).alloc (.cells #[.int .i64 t] 3)).alloc (.cells #[.pointer none] 55)).alloc (.cells #[.func (.func 36) #[] #[.pointer (some ⟨w.heap.size + 1, 0, none⟩)]] 76)).heap.size = w.heap.size + 4 := by simp
  generalize (((w.alloc (.cells #[ptr g.bp] 32)).alloc (.cells #[.int .i64 t] 3)).alloc (.cells #[.pointer none] 55)).alloc (.cells #[.func (.func 36) #[] #[.pointer (some ⟨w.heap.size + 1, 0, none⟩)]] 76) = w1 at hv hkp hsz ⊢
  refine ⟨trivial, rfl, (callsIn_wide.2 (isOver_pool g t z w1 hv.p ht hz hz2)).mono ?_⟩
  rintro e w' ⟨rfl, k, rfl⟩
  rw [HO.out]
  have hv2 : VB (w1.drewN k) w.heap.size g t _ _ := hv.keep (A := fun _ => False) ((Keep.refl _ w1).drewN k) (fun _ _ h => h) (fun _ _ h => h)
  have hkp2 := hkp.drewN k
  have hsz2 : (w1.drewN k).heap.size = w.heap.size + 1 + 1 + 1 + 1 := hsz
  generalize w1.drewN k = w2 at hv2 hkp2 hsz2 ⊢
  clear hv hkp hsz
  have c0 := hv2.b0.cell
  have c3 := hv2.b3.cell
  have HV := Lib.hid hv2; clear hv2
  have HK := Lib.hid hkp2; clear hkp2
  have HZ := Lib.hid hsz2; clear hsz2
  gi_wp2_with fail
  refine ⟨trivial, rfl, (callsIn_wide.2 (all_any g.bp w2)).mono ?_⟩
  rintro e w' ⟨rfl, rfl⟩
  have hv3 : VB (w2.alloc (.cells #[ptr g.bp] 79)) w.heap.size g t _ _ := HV.out.keep (A := fun _ => False) ((Keep.refl _ w2).alloc _) (fun _ _ h => h) (fun _ _ h => h)
  have hkp3 := HK.out.alloc (.cells #[ptr g.bp] 79)
  have hb3 := Box.new w2 79 (ptr g.bp)
  have hsz3 : (w2.alloc (.cells #[ptr g.bp] 79)).heap.size = w.heap.size + 1 + 1 + 1 + 1 + 1 := by rw [World.size_alloc, HZ.out]
  rw [HZ.out] at hb3
  rw [HZ.out]
  generalize w2.alloc (.cells #[ptr g.bp] 79) = w3 at hv3 hkp3 hb3 hsz3 ⊢
  clear HV HK HZ c0 c3
  gi_wp2_with fail
  refine range_list (gf := 41) (lb := #[.pointer (some ⟨w.heap.size + 1 + 1 + 1 + 1, 0, none⟩)]) rfl (enters_of Try.func41 (by kernel_rfl) rfl) (all1_iter _ g.bp g.bl H.out.bp_notin) (fun _ _ => rfl)
    (VI w g t z (.func (.func 36) #[] #[.pointer (some ⟨w.heap.size + 1, 0, none⟩)])) (VX w g t z) (VI_own _ _ _ _ _ H.out _ (by omega)) (VX_own _ _ _ _ _ (by omega))
    (fun i V h => h.1.p.reads h.2.1) ⟨hv3, hb3, hkp3, by simp⟩
    (fun i => { tmps := #[ptr g.bp, .int .i64 t, .int .i64 z, .pointer (some ⟨w.heap.size, 0, none⟩), .pointer (some ⟨w.heap.size + 1, 0, none⟩), undef, .pointer (some ⟨w.heap.size + 1 + 1, 0, none⟩), .pointer (some ⟨w.heap.size + 1 + 1 + 1, 0, none⟩), ptr (ringAt g.bp g.bl i),
      .func (.func 36) #[] #[.pointer (some ⟨w.heap.size + 1, 0, none⟩)], ptr g.bp, .int .i64 t, .int .i64 z, .bool true, .bool false, undef, ptr g.bp, .pointer (some ⟨g.bp, 0, none⟩), .pointer (some ⟨g.bp, 0, none⟩),
      .func (.func 41) #[] #[.pointer (some ⟨w.heap.size + 1 + 1 + 1 + 1, 0, none⟩)], ptr (ringAt g.bp g.bl i), undef, undef, undef, undef], defers := [] }) ?assign ?body ?done ?stop
  case assign =>
    intro l i V K hi hK
    gi_wp2
    exact hK
  case body =>
    rintro l i V hi ⟨h1, h2, h3, h4⟩ hs
    have hil : i < g.L.length := by simpa [Gh.bl] using hi
    have hx : g.L[i]? = some g.L[i] := List.getElem?_eq_getElem hil
    generalize g.L[i] = x at hx
    have hxm : x ∈ g.L := List.mem_of_getElem? hx
    rw [ringAt_get hx]
    have c3 := h1.b3.cell
    have hfit := fits_over g t w.heap.size z x V h1 hxm HO.out
    have H1 := Lib.hid h1; clear h1
    have H2 := Lib.hid h2; clear h2
    have H3 := Lib.hid h3; clear h3
    have H4 := Lib.hid h4; clear h4
    have HX := Lib.hid hx; clear hx
    have HF := Lib.hid hfit; clear hfit
    have HS := Lib.hid hs; clear hs
    have HSZ := Lib.hid hsz3; clear hsz3
    gi_wp2_with fail
    refine ⟨trivial, rfl, ((callsIn_wide.2 HF.out).inRound l).mono ?_⟩
    rintro e w' ⟨rfl, k, rfl⟩
    have c2 : (V.drewN k).cell? ⟨w.heap.size + 1 + 1, 0, none⟩ = some (.pointer none) := H1.out.b2.cell
    have f2 : (V.drewN k).frozen? ⟨w.heap.size + 1 + 1, 0, none⟩ = false := H1.out.b2.frozen 0
    have hkd := (Keep.refl (fun _ => False) V).drewN k
    have H1' : VB (V.drewN k) w.heap.size g t _ _ := H1.out.keep hkd (fun _ _ h => h) (fun _ _ h => h)
    have H2' := H2.out.drewN k
    have H3' := H3.out.drewN k
    have hko := keepsOthers_of_keep hkd
    generalize V.drewN k = V2 at c2 f2 H1' H2' H3' hko ⊢
    clear H1 H2 H3 c3 HF hkd
    cases hfb : fitsB g.sh g.es t z x.e with
    | true =>
      have HFB := Lib.hid hfb; clear hfb
      have HB := Lib.hid (And.intro H1' (And.intro H2' (And.intro H3' hko))); clear H1' H2' H3' hko
      gi_wp2_with fail
      obtain ⟨v1, v2, v3, v4⟩ := HB.out
      exact ⟨(v4.trans (KeepsOthers.setCell _ _ _)).from _, rfl, x, HX.out, v1.b2.set _, v3.setCell (p := ⟨w.heap.size + 1 + 1, 0, none⟩) _ (.inr (by show _ ≤ w.heap.size + 1 + 1; omega)), H4.out, HFB.out⟩
    | false =>
      have HFB := Lib.hid hfb; clear hfb
      have HB := Lib.hid (And.intro H1' (And.intro H2' (And.intro H3' hko))); clear H1' H2' H3' hko
      gi_wp2_with fail
      obtain ⟨v1, v2, v3, v4⟩ := HB.out
      refine ⟨v4.from _, v1, v2, v3, ?_⟩
      rw [take_succ_get HX.out]
      intro y hy
      rcases List.mem_append.1 hy with hy | hy
      · exact H4.out y hy
      · simp at hy; subst hy; exact HFB.out
  case done =>
    rintro D V hD ⟨h1, h2, h3, h4⟩ hK
    have c2 := h1.b2.cell
    have f2 := h1.b2.frozen 0
    have hlen : g.bl.length = g.L.length := by simp [Gh.bl]
    rw [hlen, List.take_length] at h4
    have H1 := Lib.hid h1; clear h1
    have H2 := Lib.hid h2; clear h2
    have H3 := Lib.hid h3; clear h3
    have H4 := Lib.hid h4; clear h4
    have HK := Lib.hid hK; clear hK
    have HL := Lib.hid hlen; clear hlen
    gi_wp2_with fail
    have hK' := (KeepsOthers.setCell V ⟨w.heap.size + 1 + 1, 0, none⟩ (.pointer none)).same D _ HK.out rfl
    refine ⟨by simp, .inl ⟨_, _, rfl, run_takeDeferred hK', ?_⟩⟩
    have hc5 := cell_kept (World.cell?_setCell_same' V ⟨w.heap.size + 1 + 1, 0, none⟩ (.pointer none) (by rw [c2]; rfl)) (grownBy_putObj' _ D (.deferred none)) (fun r e => by cases e; exact ⟨_, hK', rfl⟩)
    refine ⟨.pointer none, by simp [results, Try.f29, go_sem, hc5], .inr ⟨H4.out, rfl⟩, ?_⟩
    exact (H3.out.setCell (p := ⟨w.heap.size + 1 + 1, 0, none⟩) _ (.inr (by show _ ≤ w.heap.size + 1 + 1; omega))).putObj _ (.inr (by rw [hsz3] at hD; omega))
  case stop =>
    rintro D c i V hD hi ⟨rfl, x, h1, h2, h3, h4, h5⟩ hK
    have H2 := Lib.hid h2; clear h2
    have H1 := Lib.hid h1; clear h1
    have H3 := Lib.hid h3; clear h3
    have H4 := Lib.hid h4; clear h4
    have H5 := Lib.hid h5; clear h5
    have HK := Lib.hid hK; clear hK
    gi_wp2_with fail
    refine ⟨by simp, .inl ⟨_, _, rfl, run_takeDeferred HK.out, ?_⟩⟩
    have hc5 := cell_kept H2.out.cell (grownBy_putObj' _ D (.deferred none)) (fun r e => by cases e; exact ⟨_, HK.out, rfl⟩)
    refine ⟨ptr x.b, by simp [results, Try.f29, go_sem, hc5], .inl ⟨_, x, _, split_at H1.out, H4.out, H5.out, rfl⟩, ?_⟩
    exact H3.out.putObj _ (.inr (by rw [hsz3] at hD; omega))
set_option maxRecDepth 100000 in
set_option maxHeartbeats 1000000 in
theorem victim_under (g : Gh) (t : Nat) (z : Int) (w : World) (h : PoolIs w g) (ht : t < g.sh.length) (hz : 1 ≤ z) (hz2 : z ≤ 9223372036854775807) (ho : overB g.sh g.es t z = false) :
    Calls Try.prog 29 #[ptr g.bp, .int .i64 t, .int .i64 z] w fun e w' =>
      ((∃ X x Y, g.L = X ++ x :: Y ∧ (∀ y ∈ X, fitsB g.sh g.es t z y.e = false) ∧ fitsB g.sh g.es t z x.e = true ∧ e = .returned (ptr x.b)) ∨
        ((∀ y ∈ g.L, fitsB g.sh g.es t z y.e = false) ∧ e = .returned (.pointer none))) ∧ Keep (fun _ => False) w w' := by
  have H := Lib.hid h; clear h
  have HO := Lib.hid ho; clear ho
  refine (callsIn_wide (n := 0)).1 ?_
  refine callsIn_of_wp_marks Try.func29 rfl trivial ?_ rfl
  simp only [Try.ntmps29, List.size_toArray, List.length_cons, List.length_nil, Nat.reduceAdd, Nat.reduceSub, Array.replicate_succ, Array.replicate_zero, List.push_toArray, List.append_toArray, List.nil_append, List.cons_append]
  gi_wp2_with fail
  have hv := vb_made w g t (.func (.func 36) #[] #[.pointer (some ⟨w.heap.size + 1, 0, none⟩)]) H.out
  have hkp := (((Keep.refl (fun _ => False) w).alloc (.cells #[ptr g.bp] 32)).alloc (.cells #[.int .i64 t] 3)).alloc (.cells #[.pointer none] 55) |>.alloc (.cells #[.func (.func 36) #[] #[.pointer (some ⟨w.heap.size + 1, 0, none⟩)]] 76)
  have hsz : ((((w.alloc (.cells #[ptr g.bp] 32)).alloc (.cells #[.int .i64 t] 3)).alloc (.cells #[.pointer none] 55)).alloc (.cells #[.func (.func 36) #[] #[.pointer (some ⟨w.heap.size + 1, 0, none⟩)]] 76)).heap.size = w.heap.size + 4 := by simp
  generalize (((w.alloc (.cells #[ptr g.bp] 32)).alloc (.cells #[.int .i64 t] 3)).alloc (.cells #[.pointer none] 55)).alloc (.cells #[.func (.func 36) #[] #[.pointer (some ⟨w.heap.size + 1, 0, none⟩)]] 76) = w1 at hv hkp hsz ⊢
  refine ⟨trivial, rfl, (callsIn_wide.2 (isOver_pool g t z w1 hv.p ht hz hz2)).mono ?_⟩
  rintro e w' ⟨rfl, k, rfl⟩
  rw [HO.out]
  have hv2 : VB (w1.drewN k) w.heap.size g t _ _ := hv.keep (A := fun _ => False) ((Keep.refl _ w1).drewN k) (fun _ _ h => h) (fun _ _ h => h)
  have hkp2 := hkp.drewN k
  have hsz2 : (w1.drewN k).heap.size = w.heap.size + 1 + 1 + 1 + 1 := hsz
  generalize w1.drewN k = w2 at hv2 hkp2 hsz2 ⊢
  clear hv hkp hsz
  have c0 := hv2.b0.cell
  have c3 := hv2.b3.cell
  have f3 := hv2.b3.frozen 0
  have HV := Lib.hid hv2; clear hv2
  have HK := Lib.hid hkp2; clear hkp2
  have HZ := Lib.hid hsz2; clear hsz2
  gi_wp2_with fail
  have hks := (Keep.refl (fun k => k = w.heap.size + 1 + 1 + 1) w2).setCell (p := ⟨w.heap.size + 1 + 1 + 1, 0, none⟩) (.func (.func 38) #[] #[.pointer (some ⟨w.heap.size + 1, 0, none⟩), .pointer (some ⟨w.heap.size, 0, none⟩)]) (.inl rfl)
  have hnf : ∀ i, g.foot i → ¬ (i = w.heap.size + 1 + 1 + 1) := fun i hi e => by have := H.out.foot_lt hi; omega
  have hv2' : VB (w2.setCell ⟨w.heap.size + 1 + 1 + 1, 0, none⟩ (.func (.func 38) #[] #[.pointer (some ⟨w.heap.size + 1, 0, none⟩), .pointer (some ⟨w.heap.size, 0, none⟩)])) w.heap.size g t (.func (.func 38) #[] #[.pointer (some ⟨w.heap.size + 1, 0, none⟩), .pointer (some ⟨w.heap.size, 0, none⟩)]) (.pointer none) :=
    ⟨HV.out.b0.keep hks (by omega), HV.out.b1.keep hks (by omega), HV.out.b2.keep hks (by omega), HV.out.b3.set _, HV.out.p.keep hks hnf⟩
  have hkp2' := HK.out.setCell (p := ⟨w.heap.size + 1 + 1 + 1, 0, none⟩) (.func (.func 38) #[] #[.pointer (some ⟨w.heap.size + 1, 0, none⟩), .pointer (some ⟨w.heap.size, 0, none⟩)]) (.inr (by show _ ≤ w.heap.size + 1 + 1 + 1; omega))
  have hsz2' : (w2.setCell ⟨w.heap.size + 1 + 1 + 1, 0, none⟩ (.func (.func 38) #[] #[.pointer (some ⟨w.heap.size + 1, 0, none⟩), .pointer (some ⟨w.heap.size, 0, none⟩)])).heap.size = w.heap.size + 1 + 1 + 1 + 1 := by rw [World.size_setCell, HZ.out]
  generalize w2.setCell ⟨w.heap.size + 1 + 1 + 1, 0, none⟩ (.func (.func 38) #[] #[.pointer (some ⟨w.heap.size + 1, 0, none⟩), .pointer (some ⟨w.heap.size, 0, none⟩)]) = w2' at hv2' hkp2' hsz2' ⊢
  clear HV HK HZ c0 c3 f3 hks
  have HV := Lib.hid hv2'; clear hv2'
  have HK := Lib.hid hkp2'; clear hkp2'
  have HZ := Lib.hid hsz2'; clear hsz2'
  refine ⟨trivial, rfl, (callsIn_wide.2 (all_any g.bp w2')).mono ?_⟩
  rintro e w' ⟨rfl, rfl⟩
  have hv3 : VB (w2'.alloc (.cells #[ptr g.bp] 79)) w.heap.size g t _ _ := HV.out.keep (A := fun _ => False) ((Keep.refl _ w2').alloc _) (fun _ _ h => h) (fun _ _ h => h)
  have hkp3 := HK.out.alloc (.cells #[ptr g.bp] 79)
  have hb3 := Box.new w2' 79 (ptr g.bp)
  have hsz3 : (w2'.alloc (.cells #[ptr g.bp] 79)).heap.size = w.heap.size + 1 + 1 + 1 + 1 + 1 := by rw [World.size_alloc, HZ.out]
  rw [HZ.out] at hb3
  rw [HZ.out]
  generalize w2'.alloc (.cells #[ptr g.bp] 79) = w3 at hv3 hkp3 hb3 hsz3 ⊢
  clear HV HK HZ
  gi_wp2_with fail
  refine range_list (gf := 41) (lb := #[.pointer (some ⟨w.heap.size + 1 + 1 + 1 + 1, 0, none⟩)]) rfl (enters_of Try.func41 (by kernel_rfl) rfl) (all1_iter _ g.bp g.bl H.out.bp_notin) (fun _ _ => rfl)
    (VI w g t z (.func (.func 38) #[] #[.pointer (some ⟨w.heap.size + 1, 0, none⟩), .pointer (some ⟨w.heap.size, 0, none⟩)])) (VX w g t z) (VI_own _ _ _ _ _ H.out _ (by omega)) (VX_own _ _ _ _ _ (by omega))
    (fun i V h => h.1.p.reads h.2.1) ⟨hv3, hb3, hkp3, by simp⟩
    (fun i => { tmps := #[ptr g.bp, .int .i64 t, .int .i64 z, .pointer (some ⟨w.heap.size, 0, none⟩), .pointer (some ⟨w.heap.size + 1, 0, none⟩), undef, .pointer (some ⟨w.heap.size + 1 + 1, 0, none⟩), .pointer (some ⟨w.heap.size + 1 + 1 + 1, 0, none⟩), ptr (ringAt g.bp g.bl i),
      .func (.func 36) #[] #[.pointer (some ⟨w.heap.size + 1, 0, none⟩)], ptr g.bp, .int .i64 t, .int .i64 z, .bool false, .bool true, .func (.func 38) #[] #[.pointer (some ⟨w.heap.size + 1, 0, none⟩), .pointer (some ⟨w.heap.size, 0, none⟩)], ptr g.bp, .pointer (some ⟨g.bp, 0, none⟩), .pointer (some ⟨g.bp, 0, none⟩),
      .func (.func 41) #[] #[.pointer (some ⟨w.heap.size + 1 + 1 + 1 + 1, 0, none⟩)], ptr (ringAt g.bp g.bl i), undef, undef, undef, undef], defers := [] }) ?assign ?body ?done ?stop
  case assign =>
    intro l i V K hi hK
    gi_wp2
    exact hK
  case body =>
    rintro l i V hi ⟨h1, h2, h3, h4⟩ hs
    have hil : i < g.L.length := by simpa [Gh.bl] using hi
    have hx : g.L[i]? = some g.L[i] := List.getElem?_eq_getElem hil
    generalize g.L[i] = x at hx
    have hxm : x ∈ g.L := List.mem_of_getElem? hx
    rw [ringAt_get hx]
    have c3 := h1.b3.cell
    have hfit := fits_under g t w.heap.size z x V h1 hxm HO.out
    have H1 := Lib.hid h1; clear h1
    have H2 := Lib.hid h2; clear h2
    have H3 := Lib.hid h3; clear h3
    have H4 := Lib.hid h4; clear h4
    have HX := Lib.hid hx; clear hx
    have HF := Lib.hid hfit; clear hfit
    have HS := Lib.hid hs; clear hs
    have HSZ := Lib.hid hsz3; clear hsz3
    gi_wp2_with fail
    refine ⟨trivial, rfl, ((callsIn_wide.2 HF.out).inRound l).mono ?_⟩
    rintro e w' ⟨rfl, k, rfl⟩
    have c2 : (V.drewN k).cell? ⟨w.heap.size + 1 + 1, 0, none⟩ = some (.pointer none) := H1.out.b2.cell
    have f2 : (V.drewN k).frozen? ⟨w.heap.size + 1 + 1, 0, none⟩ = false := H1.out.b2.frozen 0
    have hkd := (Keep.refl (fun _ => False) V).drewN k
    have H1' : VB (V.drewN k) w.heap.size g t _ _ := H1.out.keep hkd (fun _ _ h => h) (fun _ _ h => h)
    have H2' := H2.out.drewN k
    have H3' := H3.out.drewN k
    have hko := keepsOthers_of_keep hkd
    generalize V.drewN k = V2 at c2 f2 H1' H2' H3' hko ⊢
    clear H1 H2 H3 c3 HF hkd
    cases hfb : fitsB g.sh g.es t z x.e with
    | true =>
      have HFB := Lib.hid hfb; clear hfb
      have HB := Lib.hid (And.intro H1' (And.intro H2' (And.intro H3' hko))); clear H1' H2' H3' hko
      gi_wp2_with fail
      obtain ⟨v1, v2, v3, v4⟩ := HB.out
      exact ⟨(v4.trans (KeepsOthers.setCell _ _ _)).from _, rfl, x, HX.out, v1.b2.set _, v3.setCell (p := ⟨w.heap.size + 1 + 1, 0, none⟩) _ (.inr (by show _ ≤ w.heap.size + 1 + 1; omega)), H4.out, HFB.out⟩
    | false =>
      have HFB := Lib.hid hfb; clear hfb
      have HB := Lib.hid (And.intro H1' (And.intro H2' (And.intro H3' hko))); clear H1' H2' H3' hko
      gi_wp2_with fail
      obtain ⟨v1, v2, v3, v4⟩ := HB.out
      refine ⟨v4.from _, v1, v2, v3, ?_⟩
      rw [take_succ_get HX.out]
      intro y hy
      rcases List.mem_append.1 hy with hy | hy
      · exact H4.out y hy
      · simp at hy; subst hy; exact HFB.out
  case done =>
    rintro D V hD ⟨h1, h2, h3, h4⟩ hK
    have c2 := h1.b2.cell
    have f2 := h1.b2.frozen 0
    have hlen : g.bl.length = g.L.length := by simp [Gh.bl]
    rw [hlen, List.take_length] at h4
    have H1 := Lib.hid h1; clear h1
    have H2 := Lib.hid h2; clear h2
    have H3 := Lib.hid h3; clear h3
    have H4 := Lib.hid h4; clear h4
    have HK := Lib.hid hK; clear hK
    have HL := Lib.hid hlen; clear hlen
    gi_wp2_with fail
    have hK' := (KeepsOthers.setCell V ⟨w.heap.size + 1 + 1, 0, none⟩ (.pointer none)).same D _ HK.out rfl
    refine ⟨by simp, .inl ⟨_, _, rfl, run_takeDeferred hK', ?_⟩⟩
    have hc5 := cell_kept (World.cell?_setCell_same' V ⟨w.heap.size + 1 + 1, 0, none⟩ (.pointer none) (by rw [c2]; rfl)) (grownBy_putObj' _ D (.deferred none)) (fun r e => by cases e; exact ⟨_, hK', rfl⟩)
    refine ⟨.pointer none, by simp [results, Try.f29, go_sem, hc5], .inr ⟨H4.out, rfl⟩, ?_⟩
    exact (H3.out.setCell (p := ⟨w.heap.size + 1 + 1, 0, none⟩) _ (.inr (by show _ ≤ w.heap.size + 1 + 1; omega))).putObj _ (.inr (by rw [hsz3] at hD; omega))
  case stop =>
    rintro D c i V hD hi ⟨rfl, x, h1, h2, h3, h4, h5⟩ hK
    have H2 := Lib.hid h2; clear h2
    have H1 := Lib.hid h1; clear h1
    have H3 := Lib.hid h3; clear h3
    have H4 := Lib.hid h4; clear h4
    have H5 := Lib.hid h5; clear h5
    have HK := Lib.hid hK; clear hK
    gi_wp2_with fail
    refine ⟨by simp, .inl ⟨_, _, rfl, run_takeDeferred HK.out, ?_⟩⟩
    have hc5 := cell_kept H2.out.cell (grownBy_putObj' _ D (.deferred none)) (fun r e => by cases e; exact ⟨_, HK.out, rfl⟩)
    refine ⟨ptr x.b, by simp [results, Try.f29, go_sem, hc5], .inl ⟨_, x, _, split_at H1.out, H4.out, H5.out, rfl⟩, ?_⟩
    exact H3.out.putObj _ (.inr (by rw [hsz3] at hD; omega))

theorem victim_pool (g : Gh) (t : Nat) (z : Int) (w : World) (h : PoolIs w g) (ht : t < g.sh.length) (hz : 1 ≤ z) (hz2 : z ≤ 9223372036854775807) :
    Calls Try.prog 29 #[ptr g.bp, .int .i64 t, .int .i64 z] w fun e w' =>
      ((∃ X x Y, g.L = X ++ x :: Y ∧ (∀ y ∈ X, fitsB g.sh g.es t z y.e = false) ∧ fitsB g.sh g.es t z x.e = true ∧ e = .returned (ptr x.b)) ∨
        ((∀ y ∈ g.L, fitsB g.sh g.es t z y.e = false) ∧ e = .returned (.pointer none))) ∧ Keep (fun _ => False) w w' := by
  cases ho : overB g.sh g.es t z with
  | true => exact victim_over g t z w h ht hz hz2 ho
  | false => exact victim_under g t z w h ht hz hz2 ho
end Go.Proofs.Ytigkhglgoabjaaa
