/-
  Used, Remove, Touch over a pool, and over nil.
-/
import Derived.Test.YtigkhglgoabjaaaC1
namespace Go.Proofs.Ytigkhglgoabjaaa
open Go.RowKit

set_option maxHeartbeats 400000 in
theorem used_neg (p : Nat) (t : Int) (w : World) (ht : t < 0) : Calls Try.prog 19 #[ptr p, .int .i64 t] w fun e w' => e = .returned (.int .i64 0) ∧ w = w' := by
  have hd : decide (t < 0) = true := by simpa using ht
  go_enter Try.func19, Try.ntmps19
  go_wp2
  go_ret
  exact ⟨rfl, rfl⟩

set_option maxHeartbeats 400000 in
theorem used_big (p bu n c : Nat) (t : Int) (w : World) (h7 : w.cell? ⟨p, 7, none⟩ = some (.slice (some ⟨bu, 0, none⟩) n c)) (h0 : 0 ≤ t) (ht : (n : Int) ≤ t) : Calls Try.prog 19 #[ptr p, .int .i64 t] w fun e w' => e = .returned (.int .i64 0) ∧ w = w' := by
  have hd : decide (t < 0) = false := by simpa using h0
  have hd2 : decide ((n : Int) ≤ t) = true := by simpa using ht
  go_enter Try.func19, Try.ntmps19
  go_wp2
  go_ret
  exact ⟨rfl, rfl⟩

set_option maxHeartbeats 400000 in
theorem used_in (p bu n c t : Nat) (u : Int) (w : World) (h7 : w.cell? ⟨p, 7, none⟩ = some (.slice (some ⟨bu, 0, none⟩) n c)) (ht : t < n) (hu : w.cell? ⟨bu, t, none⟩ = some (.int .i64 u)) :
    Calls Try.prog 19 #[ptr p, .int .i64 t] w fun e w' => e = .returned (.int .i64 u) ∧ w = w' := by
  have hd : decide ((t : Int) < 0) = false := by simp
  have hd2 : decide ((n : Int) ≤ (t : Int)) = false := by simp; omega
  go_enter Try.func19, Try.ntmps19
  go_wp2
  go_ret
  exact ⟨rfl, rfl⟩

/-- The use of a tenant, whatever number names it. -/
def usedAt (g : Gh) (t : Int) : Int := if 0 ≤ t ∧ t < g.sh.length then usedOf g.es t.toNat else 0

theorem used_pool (g : Gh) (t : Int) (w : World) (h : PoolIs w g) : Calls Try.prog 19 #[ptr g.bp, .int .i64 t] w fun e w' => e = .returned (.int .i64 (usedAt g t)) ∧ w = w' := by
  by_cases h0 : t < 0
  · rw [usedAt, if_neg (by omega)]; exact used_neg _ _ _ h0
  · by_cases h1 : (g.sh.length : Int) ≤ t
    · rw [usedAt, if_neg (by omega)]; exact used_big _ _ _ _ _ _ h.c7 (by omega) h1
    · obtain ⟨k, rfl⟩ := Int.eq_ofNat_of_zero_le (show 0 ≤ t by omega)
      rw [usedAt, if_pos (by omega), Int.toNat_natCast]
      exact used_in _ _ _ _ _ _ _ h.c7 (by omega) (h.us k (by omega))

/-! ### Remove -/
set_option maxHeartbeats 400000 in
theorem remove_nil (key : ByteArray) (w : World) : Calls Try.prog 16 #[.pointer none, .string key] w fun e w' => e = .returned (.bool false) ∧ w = w' := by
  go_enter Try.func16, Try.ntmps16
  go_wp2_with (go_at_call 25; refine (find_nil _ _).mono ?_; rintro e w' ⟨rfl, rfl⟩)
  go_ret
  exact ⟨rfl, rfl⟩

set_option maxHeartbeats 400000 in
theorem remove_no (g : Gh) (key : ByteArray) (w : World) (h : PoolIs w g) (hks : key.size ≤ maxLen) (hk : key ∉ g.es.map E.key) : Calls Try.prog 16 #[ptr g.bp, .string key] w fun e w' => e = .returned (.bool false) ∧ w = w' := by
  have H := Lib.hid h; clear h
  have HK := Lib.hid hk; clear hk
  go_enter Try.func16, Try.ntmps16
  go_wp2_with (go_at_call 25; refine (find_no g key _ H.out hks HK.out).mono ?_; rintro e w' ⟨rfl, rfl⟩)
  go_ret
  exact ⟨rfl, rfl⟩

set_option maxHeartbeats 400000 in
theorem remove_yes (g : Gh) (X Y : List Ent) (x : Ent) (w : World) (h : PoolIs w g) (hL : g.L = X ++ x :: Y) : Calls Try.prog 16 #[ptr g.bp, .string x.e.key] w fun e w' =>
    e = .returned (.bool true) ∧ PoolIs w' { g with L := X ++ Y } ∧ Keep (Gh.foot { g with L := X ++ Y }) w w' := by
  have HL := Lib.hid hL; clear hL
  have H := Lib.hid h; clear h
  go_enter Try.func16, Try.ntmps16
  go_wp2_with fail
  refine (find_yes g x _ H.out (by rw [HL.out]; simp)).mono ?_
  rintro e w' ⟨rfl, rfl⟩
  go_wp2_with fail
  refine (take_pool _ g X Y x H.out HL.out).mono ?_
  rintro e w' ⟨rfl, hp, hk⟩
  have HP := Lib.hid hp; clear hp
  have HK := Lib.hid hk; clear hk
  go_wp2_with fail
  go_ret
  exact ⟨rfl, HP.out, HK.out⟩

/-! ### Touch -/
set_option maxHeartbeats 400000 in
theorem touch_nil (key : ByteArray) (w : World) : Calls Try.prog 15 #[.pointer none, .string key] w fun e w' => e = .returned (.bool false) ∧ w = w' := by
  go_enter Try.func15, Try.ntmps15
  go_wp2_with (go_at_call 25; refine (find_nil _ _).mono ?_; rintro e w' ⟨rfl, rfl⟩)
  go_ret
  exact ⟨rfl, rfl⟩

set_option maxHeartbeats 400000 in
theorem touch_no (g : Gh) (key : ByteArray) (w : World) (h : PoolIs w g) (hks : key.size ≤ maxLen) (hk : key ∉ g.es.map E.key) : Calls Try.prog 15 #[ptr g.bp, .string key] w fun e w' => e = .returned (.bool false) ∧ w = w' := by
  have H := Lib.hid h; clear h
  have HK := Lib.hid hk; clear hk
  go_enter Try.func15, Try.ntmps15
  go_wp2_with (go_at_call 25; refine (find_no g key _ H.out hks HK.out).mono ?_; rintro e w' ⟨rfl, rfl⟩)
  go_ret
  exact ⟨rfl, rfl⟩

/-- unlink and insert at the end, over a pool: what becomes of the world. -/
def touched (w : World) (bp a c x l k : Nat) : World :=
  (((((((w.setCell ⟨a, 4, none⟩ (ptr c)).setCell ⟨c, 3, none⟩ (ptr a)).drewN k).setCell ⟨x, 3, none⟩ (ptr l)).setCell ⟨x, 4, none⟩ (ptr bp)).setCell ⟨l, 4, none⟩ (ptr x)).setCell ⟨bp, 3, none⟩ (ptr x))

theorem PoolIs.touch {w : World} {g : Gh} (h : PoolIs w g) {X Y : List Ent} {x : Ent} (hL : g.L = X ++ x :: Y) (k : Nat) :
    let w1 := ((w.setCell ⟨lastB g.bp X, 4, none⟩ (ptr (headB g.bp Y))).setCell ⟨headB g.bp Y, 3, none⟩ (ptr (lastB g.bp X))).drewN k
    ((∃ v, w1.cell? ⟨x.b, 3, none⟩ = some v) ∧ (∃ v, w1.cell? ⟨x.b, 4, none⟩ = some v) ∧ w1.cell? ⟨g.bp, 3, none⟩ = some (ptr (lastB g.bp (X ++ Y))) ∧ (∃ v, w1.cell? ⟨lastB g.bp (X ++ Y), 4, none⟩ = some v) ∧
      w1.frozen? ⟨x.b, 3, none⟩ = false ∧ w1.frozen? ⟨x.b, 4, none⟩ = false ∧ w1.frozen? ⟨g.bp, 3, none⟩ = false ∧ w1.frozen? ⟨lastB g.bp (X ++ Y), 4, none⟩ = false ∧ x.b ≠ g.bp ∧ x.b ≠ lastB g.bp (X ++ Y)) ∧
    PoolIs (touched w g.bp (lastB g.bp X) (headB g.bp Y) x.b (lastB g.bp (X ++ Y)) k) { g with L := X ++ Y ++ [x] } ∧
    Keep g.foot w (touched w g.bp (lastB g.bp X) (headB g.bp Y) x.b (lastB g.bp (X ++ Y)) k) := by
  intro w1
  obtain ⟨A, hA⟩ := lastB_eq g.bp X
  obtain ⟨C, hC⟩ := headB_eq g.bp Y
  have hk := h.hook hL
  have hpath := h.path hL hA hC
  have hnd := h.nd
  simp only [List.nodup_cons, List.mem_cons, not_or] at hnd
  obtain ⟨⟨hps, hpu, hpL⟩, ⟨hsu, hsL⟩, huL, hLL⟩ := hnd
  have hbl : g.bl = X.map Ent.b ++ x.b :: Y.map Ent.b := bl_split hL
  have hx : x ∈ g.L := by rw [hL]; simp
  have hxb : x.b ∈ g.bl := List.mem_map_of_mem hx
  have har : lastB g.bp X = g.bp ∨ lastB g.bp X ∈ g.bl := (lastB_mem g.bp X).imp id (fun h => by rw [hbl]; simp only [List.mem_append]; exact .inl h)
  have hcr : headB g.bp Y = g.bp ∨ headB g.bp Y ∈ g.bl := (headB_mem g.bp Y).imp id (fun h => by rw [hbl]; simp only [List.mem_append, List.mem_cons]; exact .inr (.inr h))
  have hlm := lastB_mem g.bp (X ++ Y)
  have hlr : lastB g.bp (X ++ Y) = g.bp ∨ lastB g.bp (X ++ Y) ∈ g.bl := hlm.imp id (fun h => by
    rw [List.map_append, List.mem_append] at h; rw [hbl]; simp only [List.mem_append, List.mem_cons]; exact h.imp id .inr)
  obtain ⟨⟨va, hva⟩, _, hfa, has, hau, ham⟩ := ring_cells h har
  obtain ⟨_, ⟨vc, hvc⟩, hfc, hcs, hcu, hcm⟩ := ring_cells h hcr
  obtain ⟨⟨vl, hvl⟩, _, hfl, hls, hlu, hlm'⟩ := ring_cells h hlr
  obtain ⟨_, _, hfx, hxs, hxu, hxm⟩ := ring_cells h (.inr hxb)
  obtain ⟨_, _, hfp, hps', hpu', hpm⟩ := ring_cells h (.inl rfl)
  rw [hbl] at hLL hpL
  simp only [List.mem_append, List.mem_cons, not_or] at hpL
  rw [List.nodup_append] at hLL
  obtain ⟨nX, nY, nXY⟩ := hLL
  rw [List.nodup_cons] at nY
  have hxp : x.b ≠ g.bp := fun e => hpL.2.1 e.symm
  have hxl : x.b ≠ lastB g.bp (X ++ Y) := fun e => by
    rcases hlm with h1 | h1
    · exact hxp (e.trans h1)
    · rw [List.map_append, List.mem_append, ← e] at h1
      rcases h1 with h1 | h1
      · exact nXY _ h1 _ (by simp) rfl
      · exact nY.1 h1
  have hxa : lastB g.bp X ≠ x.b := fun e => by
    rcases lastB_mem g.bp X with h1 | h1
    · exact hxp (e.symm.trans h1)
    · rw [e] at h1; exact nXY _ h1 _ (by simp) rfl
  have hxc : headB g.bp Y ≠ x.b := fun e => by
    rcases headB_mem g.bp Y with h1 | h1
    · exact hxp (e.symm.trans h1)
    · rw [e] at h1; exact nY.1 h1
  have nXYd : (X.map Ent.b ++ Y.map Ent.b).Nodup := List.nodup_append.2 ⟨nX, nY.2, fun a ha b hb => nXY a ha b (List.mem_cons_of_mem _ hb)⟩
  -- the ring without x, in w1
  have e1 : ∀ b o, w1.cell? ⟨b, o, none⟩ = ((w.setCell ⟨lastB g.bp X, 4, none⟩ (ptr (headB g.bp Y))).setCell ⟨headB g.bp Y, 3, none⟩ (ptr (lastB g.bp X))).cell? ⟨b, o, none⟩ := fun _ _ => cell_drewN _ _ _
  have r4 : ∀ b, b ≠ lastB g.bp X → w1.cell? ⟨b, 4, none⟩ = w.cell? ⟨b, 4, none⟩ := fun b hne => by rw [e1, cell_set_off (by decide), cell_set_blk (fun e => hne e.symm)]
  have r3 : ∀ b, b ≠ headB g.bp Y → w1.cell? ⟨b, 3, none⟩ = w.cell? ⟨b, 3, none⟩ := fun b hne => by rw [e1, cell_set_blk (fun e => hne e.symm), cell_set_off (by decide)]
  have a4 : w1.cell? ⟨lastB g.bp X, 4, none⟩ = some (ptr (headB g.bp Y)) := by rw [e1, cell_set_off (by decide)]; exact cell_set_same hva
  have c3 : w1.cell? ⟨headB g.bp Y, 3, none⟩ = some (ptr (lastB g.bp X)) := by rw [e1]; exact cell_set_same (by rw [cell_set_off (by decide)]; exact hvc)
  have L1 : Links w1 (g.bp :: (X ++ Y).map Ent.b ++ [g.bp]) := by
    have e : g.bp :: (X ++ Y).map Ent.b ++ [g.bp] = A ++ lastB g.bp X :: headB g.bp Y :: C := by
      have : g.bp :: (X ++ Y).map Ent.b ++ [g.bp] = (g.bp :: X.map Ent.b) ++ (Y.map Ent.b ++ [g.bp]) := by simp
      rw [this, hA, hC]; simp
    rw [e]
    obtain ⟨l1, _, l2⟩ := links_split hpath
    obtain ⟨s1, s2⟩ := segs (w' := w1) hA hC (List.nodup_cons.2 ⟨by simp only [List.mem_append, not_or]; exact ⟨hpL.1, hpL.2.2⟩, nXYd⟩) (fun b _ hne => r4 b hne) (fun b _ hne => r3 b hne) l1 l2.2
    exact links_join s1 a4 c3 s2
  obtain ⟨A2, hA2⟩ := lastB_eq g.bp (X ++ Y)
  have L1' : Links w1 (A2 ++ lastB g.bp (X ++ Y) :: g.bp :: []) := by
    have e : g.bp :: (X ++ Y).map Ent.b ++ [g.bp] = A2 ++ lastB g.bp (X ++ Y) :: g.bp :: [] := by rw [hA2]; simp
    rw [← e]; exact L1
  obtain ⟨m1, ⟨m2, m3⟩, _⟩ := links_split L1'
  have fz1 : ∀ b o, w1.frozen? ⟨b, o, none⟩ = w.frozen? ⟨b, o, none⟩ := fun b o => by show (World.drewN _ k).frozen? _ = _; rw [frozen_drewN, World.frozen?_setCell, World.frozen?_setCell]
  have x3 := (r3 x.b (fun e => hxc e.symm)).trans hk.c3
  have x4 := (r4 x.b (fun e => hxa e.symm)).trans hk.c4
  refine ⟨⟨⟨_, x3⟩, ⟨_, x4⟩, m3, ⟨_, m2⟩, (fz1 _ _).trans (hfx _), (fz1 _ _).trans (hfx _), (fz1 _ _).trans (hfp _), (fz1 _ _).trans (hfl _), hxp, hxl⟩, ?_, ?_⟩
  · have e2 : touched w g.bp (lastB g.bp X) (headB g.bp Y) x.b (lastB g.bp (X ++ Y)) k = (((w1.setCell ⟨x.b, 3, none⟩ (ptr (lastB g.bp (X ++ Y)))).setCell ⟨x.b, 4, none⟩ (ptr g.bp)).setCell ⟨lastB g.bp (X ++ Y), 4, none⟩ (ptr x.b)).setCell ⟨g.bp, 3, none⟩ (ptr x.b) := rfl
    generalize touched w g.bp (lastB g.bp X) (headB g.bp Y) x.b (lastB g.bp (X ++ Y)) k = w2 at e2
    have q4 : ∀ b, b ≠ x.b → b ≠ lastB g.bp (X ++ Y) → w2.cell? ⟨b, 4, none⟩ = w1.cell? ⟨b, 4, none⟩ := fun b n1 n2 => by
      rw [e2, cell_set_off (by decide), cell_set_blk (fun e => n2 e.symm), cell_set_blk (fun e => n1 e.symm), cell_set_off (by decide)]
    have q3 : ∀ b, b ≠ x.b → b ≠ g.bp → w2.cell? ⟨b, 3, none⟩ = w1.cell? ⟨b, 3, none⟩ := fun b n1 n2 => by
      rw [e2, cell_set_blk (fun e => n2 e.symm), cell_set_off (by decide), cell_set_off (by decide), cell_set_blk (fun e => n1 e.symm)]
    have y3 : w2.cell? ⟨x.b, 3, none⟩ = some (ptr (lastB g.bp (X ++ Y))) := by
      rw [e2, cell_set_blk (fun e => hxp e.symm), cell_set_off (by decide), cell_set_off (by decide)]; exact cell_set_same x3
    have y4 : w2.cell? ⟨x.b, 4, none⟩ = some (ptr g.bp) := by
      rw [e2, cell_set_off (by decide), cell_set_blk (fun e => hxl e.symm)]; exact cell_set_same (by rw [cell_set_off (by decide)]; exact x4)
    have l4 : w2.cell? ⟨lastB g.bp (X ++ Y), 4, none⟩ = some (ptr x.b) := by
      rw [e2, cell_set_off (by decide)]; exact cell_set_same (by rw [cell_set_blk hxl, cell_set_off (by decide)]; exact m2)
    have p3 : w2.cell? ⟨g.bp, 3, none⟩ = some (ptr x.b) := by
      rw [e2]; exact cell_set_same (by rw [cell_set_off (by decide), cell_set_off (by decide), cell_set_blk hxp]; exact m3)
    have inXY : ∀ b, b ∈ X.map Ent.b ++ Y.map Ent.b → b ≠ x.b := fun b hb e => by
      subst e
      rw [List.mem_append] at hb
      rcases hb with h1 | h1
      · exact nXY _ h1 _ (by simp) rfl
      · exact nY.1 h1
    refine h.relink (X ++ Y ++ [x]) (fun y => by rw [hL]; simp only [List.mem_append, List.mem_cons, List.not_mem_nil, or_false]; exact ⟨fun h => h.elim (fun h => h.elim .inl (fun h => .inr (.inr h))) (fun h => .inr (.inl h)), fun h => h.elim (fun h => .inl (.inl h)) (fun h => h.elim .inr (fun h => .inl (.inr h)))⟩) ?_ ?_ ?_ ?_ ?_ ?_ ?_ ?_
    · intro b o hbm hb
      have n : ∀ d i, (d = g.bp ∨ d ∈ g.bl) → (i = 3 ∨ i = 4) → (d ≠ b ∨ i ≠ o) := fun d i hd hi => by
        by_cases e : d = b
        · subst e; have := hb hd; right; omega
        · exact .inl e
      rw [e2, cell_set_ne (n _ _ (.inl rfl) (.inl rfl)), cell_set_ne (n _ _ hlr (.inr rfl)), cell_set_ne (n _ _ (.inr hxb) (.inr rfl)), cell_set_ne (n _ _ (.inr hxb) (.inl rfl)), e1, cell_set_ne (n _ _ hcr (.inl rfl)), cell_set_ne (n _ _ har (.inr rfl))]
    · intro b o _
      rw [e2, World.frozen?_setCell, World.frozen?_setCell, World.frozen?_setCell, World.frozen?_setCell, fz1]
    · rw [e2, heap_set_ne hpm.symm, heap_set_ne hlm'.symm, heap_set_ne hxm.symm, heap_set_ne hxm.symm]
      exact (heap_set_ne hcm.symm).trans (heap_set_ne ham.symm)
    · have e : g.bp :: (X ++ Y ++ [x]).map Ent.b ++ [g.bp] = A2 ++ lastB g.bp (X ++ Y) :: x.b :: g.bp :: [] := by
        have : g.bp :: (X ++ Y ++ [x]).map Ent.b ++ [g.bp] = (g.bp :: (X ++ Y).map Ent.b) ++ [x.b, g.bp] := by simp
        rw [this, hA2]; simp
      rw [e]
      obtain ⟨s1, s2⟩ := segs (w' := w2) (X := (X ++ Y).map Ent.b) (Y := []) (C := []) (c := g.bp) hA2 rfl (by rw [List.append_nil, List.map_append]; exact List.nodup_cons.2 ⟨by simp only [List.mem_append, not_or]; exact ⟨hpL.1, hpL.2.2⟩, nXYd⟩)
        (fun b hb hne => q4 b (fun e => by
          rw [List.append_nil, List.map_append] at hb
          rcases List.mem_cons.1 hb with rfl | hb
          · exact hxp e.symm
          · exact inXY b hb e) hne)
        (fun b hb hne => q3 b (fun e => by
          rw [List.append_nil, List.map_append] at hb
          rcases List.mem_cons.1 hb with rfl | hb
          · exact hxp e.symm
          · exact inXY b hb e) hne) m1 trivial
      exact links_join s1 l4 y3 ⟨⟨y4, p3⟩, s2⟩
    · intro i
      simp only [Gh.es, hL, List.map_append, List.map_cons, List.map_nil, usedOf_append, usedOf_cons, usedOf_nil]; omega
    · simp only [Gh.es, hL, List.map_append, List.map_cons, List.map_nil, tot_append, tot_cons, tot_nil]; omega
    · simp only [List.map_append, List.map_cons, List.map_nil]
      rw [List.nodup_append]
      exact ⟨nXYd, by simp, fun a ha b hb e => by simp at hb; subst hb; exact inXY a ha e⟩
    · have hkeys := h.keys
      simp only [Gh.es, hL, List.map_append, List.map_cons] at hkeys
      rw [List.nodup_append, List.nodup_cons] at hkeys
      obtain ⟨kX, ⟨kx, kY⟩, kXY⟩ := hkeys
      simp only [List.map_append, List.map_cons, List.map_nil]
      rw [List.nodup_append, List.nodup_append]
      refine ⟨⟨kX, kY, fun a ha b hb => kXY a ha b (List.mem_cons_of_mem _ hb)⟩, by simp, fun a ha b hb e => ?_⟩
      simp only [List.mem_cons, List.not_mem_nil, or_false] at hb
      subst hb; subst e
      rcases List.mem_append.1 ha with h1 | h1
      · exact kXY _ h1 _ (by simp) rfl
      · exact kx h1
  · have f1 : ∀ b, (b = g.bp ∨ b ∈ g.bl) → g.foot b := fun b hb => hb.elim .inl (fun h => .inr (.inr (.inr (.inr h))))
    exact (((((((Keep.refl g.foot w).setCell (p := ⟨lastB g.bp X, 4, none⟩) _ (.inl (f1 _ har))).setCell (p := ⟨headB g.bp Y, 3, none⟩) _ (.inl (f1 _ hcr))).drewN k).setCell (p := ⟨x.b, 3, none⟩) _ (.inl (f1 _ (.inr hxb)))).setCell (p := ⟨x.b, 4, none⟩) _ (.inl (f1 _ (.inr hxb)))).setCell (p := ⟨lastB g.bp (X ++ Y), 4, none⟩) _ (.inl (f1 _ hlr))).setCell (p := ⟨g.bp, 3, none⟩) _ (.inl (f1 _ (.inl rfl)))

set_option maxHeartbeats 400000 in
theorem touch_yes (g : Gh) (X Y : List Ent) (x : Ent) (w : World) (h : PoolIs w g) (hL : g.L = X ++ x :: Y) : Calls Try.prog 15 #[ptr g.bp, .string x.e.key] w fun e w' =>
    e = .returned (.bool true) ∧ PoolIs w' { g with L := X ++ Y ++ [x] } ∧ Keep g.foot w w' := by
  have hx : x ∈ g.L := by rw [hL]; simp
  have hxb : x.b ∈ g.bl := List.mem_map_of_mem hx
  have hbl : g.bl = X.map Ent.b ++ x.b :: Y.map Ent.b := bl_split hL
  have hk := h.hook hL
  have har : lastB g.bp X = g.bp ∨ lastB g.bp X ∈ g.bl := (lastB_mem g.bp X).imp id (fun h => by rw [hbl]; simp only [List.mem_append]; exact .inl h)
  have hcr : headB g.bp Y = g.bp ∨ headB g.bp Y ∈ g.bl := (headB_mem g.bp Y).imp id (fun h => by rw [hbl]; simp only [List.mem_append, List.mem_cons]; exact .inr (.inr h))
  obtain ⟨⟨va, hva⟩, _, hfa, has, hau, ham⟩ := ring_cells h har
  obtain ⟨_, ⟨vc, hvc⟩, hfc, hcs, hcu, hcm⟩ := ring_cells h hcr
  have HL := Lib.hid hL; clear hL
  have HB := Lib.hid hbl; clear hbl
  have H := Lib.hid h; clear h
  have HF := Lib.hid (And.intro hfa hfc); clear hfa hfc
  go_enter Try.func15, Try.ntmps15
  go_wp2_with fail
  refine (find_yes g x _ H.out hx).mono ?_
  rintro e w' ⟨rfl, rfl⟩
  go_wp2_with fail
  refine (unlink_any x.b _ _ va vc _ hk.c3 hk.c4 hva hvc (HF.out.1 _) (HF.out.2 _)).mono ?_
  rintro e w' ⟨rfl, k, rfl⟩
  obtain ⟨⟨⟨v3, q1⟩, ⟨v4, q2⟩, q3, ⟨vl, q4⟩, q5, q6, q7, q8, q9, q10⟩, hP, hK⟩ := H.out.touch HL.out k
  have HP := Lib.hid hP; clear hP
  have HK := Lib.hid hK; clear hK
  obtain ⟨w1, hw1⟩ : ∃ w1, w1 = ((w.setCell ⟨lastB g.bp X, 4, none⟩ (ptr (headB g.bp Y))).setCell ⟨headB g.bp Y, 3, none⟩ (ptr (lastB g.bp X))).drewN k := ⟨_, rfl⟩
  rw [← hw1] at q1 q2 q3 q4 q5 q6 q7 q8 ⊢
  have HW := Lib.hid hw1; clear hw1 hva hvc hk
  go_wp2_with fail
  refine (insert_any x.b g.bp _ v3 v4 vl _ q9 q10 q1 q2 q3 q4 q5 q6 q7 q8).mono ?_
  rintro e w' ⟨rfl, hw2⟩
  have HW2 := Lib.hid hw2; clear hw2
  go_wp2_with fail
  go_ret
  have e2 : w' = touched w g.bp (lastB g.bp X) (headB g.bp Y) x.b (lastB g.bp (X ++ Y)) k := by rw [HW2.out, HW.out]; rfl
  exact ⟨rfl, by rw [e2]; exact HP.out, by rw [e2]; exact HK.out⟩
end Go.Proofs.Ytigkhglgoabjaaa
