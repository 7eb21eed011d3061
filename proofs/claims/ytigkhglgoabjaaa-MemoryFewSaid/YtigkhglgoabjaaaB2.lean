/-
  take and back, over a pool.
-/
import Derived.Test.YtigkhglgoabjaaaB1
import Derived.IntWalk
namespace Go.Proofs.Ytigkhglgoabjaaa
open Go.RowKit

theorem usedOf_append (X Y : List E) (t : Nat) : usedOf (X ++ Y) t = usedOf X t + usedOf Y t := by simp [usedOf]
theorem usedOf_cons (x : E) (Y : List E) (t : Nat) : usedOf (x :: Y) t = (if x.t = t then x.z else 0) + usedOf Y t := by simp [usedOf]
theorem tot_append (X Y : List E) : tot (X ++ Y) = tot X + tot Y := by simp [tot]
theorem tot_cons (x : E) (Y : List E) : tot (x :: Y) = x.z + tot Y := by simp [tot]
theorem usedOf_nil (t : Nat) : usedOf [] t = 0 := rfl
theorem tot_nil : tot [] = 0 := rfl
theorem tot_nonneg : ∀ (L : List E), (∀ x ∈ L, 1 ≤ x.z) → 0 ≤ tot L
  | [], _ => by simp [tot]
  | x :: r, h => by rw [tot_cons]; have := h x (by simp); have := tot_nonneg r (fun y hy => h y (by simp [hy])); omega
theorem usedOf_nonneg : ∀ (L : List E) (t : Nat), (∀ x ∈ L, 1 ≤ x.z) → 0 ≤ usedOf L t
  | [], _, _ => by simp [usedOf]
  | x :: r, t, h => by rw [usedOf_cons]; have := h x (by simp); have := usedOf_nonneg r t (fun y hy => h y (by simp [hy])); split <;> omega
theorem usedOf_le_tot : ∀ (L : List E) (t : Nat), (∀ x ∈ L, 1 ≤ x.z) → usedOf L t ≤ tot L
  | [], _, _ => by simp [usedOf, tot]
  | x :: r, t, h => by rw [usedOf_cons, tot_cons]; have := h x (by simp); have := usedOf_le_tot r t (fun y hy => h y (by simp [hy])); split <;> omega
theorem usedOf_mem_le : ∀ (L : List E) (x : E), (∀ x ∈ L, 1 ≤ x.z) → x ∈ L → x.z ≤ usedOf L x.t
  | y :: r, x, h, hx => by
    rw [usedOf_cons]
    have h1 := h y (by simp)
    have h2 := usedOf_nonneg r x.t (fun y hy => h y (by simp [hy]))
    rcases List.mem_cons.1 hx with rfl | hx
    · rw [if_pos rfl]; omega
    · have := usedOf_mem_le r x (fun y hy => h y (by simp [hy])) hx
      split <;> omega

def lastB (bp : Nat) (X : List Ent) : Nat := (bp :: X.map Ent.b).getLast (by simp)
def headB (bp : Nat) (Y : List Ent) : Nat := (Y.map Ent.b ++ [bp]).head (by simp)
theorem lastB_eq (bp : Nat) (X : List Ent) : ∃ A, bp :: X.map Ent.b = A ++ [lastB bp X] := ⟨_, (List.dropLast_concat_getLast (by simp)).symm⟩
theorem headB_eq (bp : Nat) (Y : List Ent) : ∃ C, Y.map Ent.b ++ [bp] = headB bp Y :: C := ⟨_, (List.cons_head_tail (by simp)).symm⟩
theorem lastB_mem (bp : Nat) (X : List Ent) : lastB bp X = bp ∨ lastB bp X ∈ X.map Ent.b := by
  exact List.mem_cons.1 (List.getLast_mem (l := bp :: X.map Ent.b) (by simp))
theorem headB_mem (bp : Nat) (Y : List Ent) : headB bp Y = bp ∨ headB bp Y ∈ Y.map Ent.b := by
  have := List.head_mem (l := Y.map Ent.b ++ [bp]) (by simp)
  simp only [List.mem_append, List.mem_cons, List.not_mem_nil, or_false] at this
  exact this.symm

/-- A detached entry that still knows its neighbours. -/
structure Hook (w : World) (bp : Nat) (X : List Ent) (x : Ent) (Y : List Ent) : Prop where
  e : EntIs w x
  c3 : w.cell? ⟨x.b, 3, none⟩ = some (ptr (lastB bp X))
  c4 : w.cell? ⟨x.b, 4, none⟩ = some (ptr (headB bp Y))

theorem Hook.keep {w w' : World} {bp : Nat} {X : List Ent} {x : Ent} {Y : List Ent} {A : Nat → Prop} (h : Hook w bp X x Y) (k : Keep A w w') (hA : ¬ A x.b) : Hook w' bp X x Y :=
  ⟨h.e.keep k hA, k.cell h.c3 hA, k.cell h.c4 hA⟩

theorem PoolIs.path {w : World} {g : Gh} (h : PoolIs w g) {X Y : List Ent} {x : Ent} (hL : g.L = X ++ x :: Y) {A C : List Nat} {a c : Nat} (hA : g.bp :: X.map Ent.b = A ++ [a]) (hC : Y.map Ent.b ++ [g.bp] = c :: C) :
    Links w (A ++ a :: x.b :: c :: C) := by
  have e : g.bp :: g.bl ++ [g.bp] = A ++ a :: x.b :: c :: C := by
    rw [← hC, Gh.bl, hL]
    simp only [List.map_append, List.map_cons]
    have : g.bp :: (X.map Ent.b ++ x.b :: Y.map Ent.b) ++ [g.bp] = (g.bp :: X.map Ent.b) ++ (x.b :: (Y.map Ent.b ++ [g.bp])) := by simp
    rw [this, hA]; simp
  rw [← e]; exact h.links

theorem PoolIs.hook {w : World} {g : Gh} (h : PoolIs w g) {X Y : List Ent} {x : Ent} (hL : g.L = X ++ x :: Y) : Hook w g.bp X x Y := by
  obtain ⟨A, hA⟩ := lastB_eq g.bp X
  obtain ⟨C, hC⟩ := headB_eq g.bp Y
  obtain ⟨_, l1, l2⟩ := links_split (h.path hL hA hC)
  exact ⟨h.ents x (by rw [hL]; simp), l1.2, l2.1.1⟩

theorem wrap_in {n : Int} (h1 : -9223372036854775808 ≤ n) (h2 : n ≤ 9223372036854775807) : IntKind.i64.wrap n = n := IntWalk.i64_in n ⟨h1, h2⟩

/-- Blocks of the ring. -/
theorem ring_cells {w : World} {g : Gh} (h : PoolIs w g) {b : Nat} (hb : b = g.bp ∨ b ∈ g.bl) : (∃ v, w.cell? ⟨b, 4, none⟩ = some v) ∧ (∃ v, w.cell? ⟨b, 3, none⟩ = some v) ∧ (∀ o, w.frozen? ⟨b, o, none⟩ = false) ∧ b ≠ g.bs ∧ b ≠ g.bu ∧ b ≠ g.bm := by
  have hnd := h.nd
  simp only [List.nodup_cons, List.mem_cons, not_or] at hnd
  obtain ⟨⟨hps, hpu, hpL⟩, ⟨hsu, hsL⟩, huL, hLL⟩ := hnd
  rcases hb with rfl | hb
  · have h4 : ∃ v, w.cell? ⟨g.bp, 4, none⟩ = some v := by
      obtain ⟨c, C, hC⟩ := head_of g.bp g.bl
      have hl := h.links
      rw [List.cons_append, hC] at hl
      exact ⟨_, hl.1.1⟩
    have h3 : ∃ v, w.cell? ⟨g.bp, 3, none⟩ = some v := by
      obtain ⟨A, a, hA⟩ := last_of g.bp g.bl
      have hl := h.links
      rw [hA, List.append_assoc] at hl
      exact ⟨_, (links_split (C := []) hl).2.1.2⟩
    exact ⟨h4, h3, h.fp, hps, hpu, h.map.not_cell h.c5⟩
  · obtain ⟨x, hx, rfl⟩ := List.mem_map.1 hb
    obtain ⟨X, Y, hL⟩ := List.append_of_mem hx
    have hk := h.hook hL
    exact ⟨⟨_, hk.c4⟩, ⟨_, hk.c3⟩, hk.e.fz, fun e => hsL (e ▸ hb), fun e => huL (e ▸ hb), h.map.not_cell hk.e.c0⟩

theorem bl_split {L X Y : List Ent} {x : Ent} (hL : L = X ++ x :: Y) : L.map Ent.b = X.map Ent.b ++ x.b :: Y.map Ent.b := by rw [hL]; simp

theorem take_pool (w : World) (g : Gh) (X Y : List Ent) (x : Ent) (h : PoolIs w g) (hL : g.L = X ++ x :: Y) :
    Calls Try.prog 28 #[ptr g.bp, ptr x.b] w fun e w' => e = .returned (.tuple #[]) ∧ PoolIs w' { g with L := X ++ Y } ∧ Keep (Gh.foot { g with L := X ++ Y }) w w' := by
  obtain ⟨A, hA⟩ := lastB_eq g.bp X
  obtain ⟨C, hC⟩ := headB_eq g.bp Y
  have hk := h.hook hL
  have hpath := h.path hL hA hC
  have hnd := h.nd
  simp only [List.nodup_cons, List.mem_cons, not_or] at hnd
  obtain ⟨⟨hps, hpu, hpL⟩, ⟨hsu, hsL⟩, huL, hLL⟩ := hnd
  have hbl : g.bl = X.map Ent.b ++ x.b :: Y.map Ent.b := bl_split hL
  have hx : x ∈ g.L := by rw [hL]; simp
  have hxe : x.e ∈ g.es := List.mem_map_of_mem hx
  have hxb : x.b ∈ g.bl := List.mem_map_of_mem hx
  obtain ⟨ht, hz⟩ := h.rng x.e hxe
  have har : lastB g.bp X = g.bp ∨ lastB g.bp X ∈ g.bl := (lastB_mem g.bp X).imp id (fun h => by rw [hbl]; simp only [List.mem_append]; exact .inl h)
  have hcr : headB g.bp Y = g.bp ∨ headB g.bp Y ∈ g.bl := (headB_mem g.bp Y).imp id (fun h => by rw [hbl]; simp only [List.mem_append, List.mem_cons]; exact .inr (.inr h))
  obtain ⟨⟨va, hva⟩, _, hfa, has, hau, ham⟩ := ring_cells h har
  obtain ⟨_, ⟨vc, hvc⟩, hfc, hcs, hcu, hcm⟩ := ring_cells h hcr
  have hum := h.map.not_cell (h.us _ ht)
  have hxu : x.b ≠ g.bu := fun e => huL (e ▸ hxb)
  have hpos : ∀ y ∈ g.es, 1 ≤ y.z := fun y hy => (h.rng y hy).2
  have htn := tot_nonneg _ hpos
  have hun := usedOf_nonneg _ x.e.t hpos
  have hul := usedOf_le_tot _ x.e.t hpos
  have hzu := usedOf_mem_le _ x.e hpos hxe
  have hle := h.le; have hcap := h.cap
  have hes : g.es = X.map Ent.e ++ x.e :: Y.map Ent.e := by simp [Gh.es, hL]
  refine (take_any g.bp x.b (lastB g.bp X) (headB g.bp Y) g.bm g.bu g.sh.length g.uc x.e.t x.e.key va vc (usedOf g.es x.e.t) (g.cap - tot g.es) x.e.z (-x.e.z) (usedOf g.es x.e.t - x.e.z) (g.cap - tot g.es + x.e.z) _ w
    hk.c3 hk.c4 hva hvc (hfa _) (hfc _) h.c8 hk.e.c0 (h.ks _ hxe) h.map ht h.c7 h.c9 (h.fp _) hk.e.c1 hk.e.c2 (h.us _ ht) (h.fu _) hpu hxu hau hcu
    (by rw [wrap_in (by omega) (by omega)]; omega) (by rw [wrap_in (by omega) (by omega)]; omega) (by rw [wrap_in (by omega) (by omega)]; omega)).mono ?_
  rintro e w' ⟨rfl, ob, k, hw', hm'⟩
  have hU := upd_of hw' hm' hva hvc (h.us _ ht) h.c9 ham hcm hum (h.map.not_cell h.c5) hau hcu hpu
  refine ⟨rfl, ?_, hU.keep.mono ?_⟩
  · rw [hbl] at hLL hpL huL hsL
    simp only [List.mem_append, List.mem_cons, not_or] at hpL huL hsL
    rw [List.nodup_append] at hLL
    obtain ⟨nX, nY, nXY⟩ := hLL
    rw [List.nodup_cons] at nY
    refine h.turn (X ++ Y) hU has hcs hau hcu ?_ (fun y hy => h.ents y (by rw [hL]; simp at hy ⊢; rcases hy with h | h <;> simp [h])) ?_ ?_ ?_ ?_ ?_ ?_ ?_ ?_
    · -- the links
      have e : g.bp :: (X ++ Y).map Ent.b ++ [g.bp] = A ++ lastB g.bp X :: headB g.bp Y :: C := by
        have : g.bp :: (X ++ Y).map Ent.b ++ [g.bp] = (g.bp :: X.map Ent.b) ++ (Y.map Ent.b ++ [g.bp]) := by simp
        rw [this, hA, hC]; simp
      rw [e]
      obtain ⟨l1, _, l2⟩ := links_split hpath
      have l3 := l2.2
      have nA : (A ++ [lastB g.bp X]).Nodup := by rw [← hA]; exact List.nodup_cons.2 ⟨hpL.1, nX⟩
      have nC : (headB g.bp Y :: C).Nodup := by
        rw [← hC, List.nodup_append]
        exact ⟨nY.2, by simp, fun a ha b hb e => by simp at hb; subst hb; subst e; exact hpL.2.2 ha⟩
      have oth4 : ∀ b, (b = g.bp ∨ b ∈ g.bl) → b ≠ lastB g.bp X → w'.cell? ⟨b, 4, none⟩ = w.cell? ⟨b, 4, none⟩ := fun b hb hne => by
        obtain ⟨_, _, _, hbs, hbu, hbm⟩ := ring_cells h hb
        exact hU.oth b 4 hbm (fun e => hne e.1) (by omega) (fun e => hbu e.1) (by omega)
      have oth3 : ∀ b, (b = g.bp ∨ b ∈ g.bl) → b ≠ headB g.bp Y → w'.cell? ⟨b, 3, none⟩ = w.cell? ⟨b, 3, none⟩ := fun b hb hne => by
        obtain ⟨_, _, _, hbs, hbu, hbm⟩ := ring_cells h hb
        exact hU.oth b 3 hbm (by omega) (fun e => hne e.1) (fun e => hbu e.1) (by omega)
      have inA : ∀ b ∈ A ++ [lastB g.bp X], b = g.bp ∨ b ∈ X.map Ent.b := fun b hb => by rw [← hA] at hb; simpa using hb
      have inC : ∀ b ∈ headB g.bp Y :: C, b = g.bp ∨ b ∈ Y.map Ent.b := fun b hb => by
        rw [← hC] at hb; simp only [List.mem_append, List.mem_cons, List.not_mem_nil, or_false] at hb; exact hb.symm
      have upX : ∀ b, (b = g.bp ∨ b ∈ X.map Ent.b) → (b = g.bp ∨ b ∈ g.bl) := fun b hb => hb.imp id (fun h => by rw [hbl]; simp only [List.mem_append]; exact .inl h)
      have upY : ∀ b, (b = g.bp ∨ b ∈ Y.map Ent.b) → (b = g.bp ∨ b ∈ g.bl) := fun b hb => hb.imp id (fun h => by rw [hbl]; simp only [List.mem_append, List.mem_cons]; exact .inr (.inr h))
      refine links_join (links_frame _ (fun b hb => ?_) (fun b hb => ?_) l1) hU.c1 hU.c2 (links_frame _ (fun b hb => ?_) (fun b hb => ?_) l3)
      · rw [List.dropLast_concat] at hb
        refine oth4 b (upX b (inA b (by simp [hb]))) (fun e => ?_)
        rw [List.nodup_append] at nA
        exact nA.2.2 b hb _ (by simp) e
      · have hbA : b ∈ X.map Ent.b := by rw [← hA] at hb; simpa using hb
        refine oth3 b (upX b (.inr hbA)) (fun e => ?_)
        rcases headB_mem g.bp Y with h1 | h1
        · rw [h1] at e; exact hpL.1 (e ▸ hbA)
        · exact nXY b hbA b (List.mem_cons_of_mem _ (e ▸ h1)) rfl
      · have hbC : b ∈ Y.map Ent.b := by
          rw [← hC, List.dropLast_concat] at hb; exact hb
        refine oth4 b (upY b (.inr hbC)) (fun e => ?_)
        rcases lastB_mem g.bp X with h1 | h1
        · rw [h1] at e; exact hpL.2.2 (e ▸ hbC)
        · exact nXY _ (e ▸ h1) b (List.mem_cons_of_mem _ hbC) rfl
      · simp only [List.tail_cons] at hb
        refine oth3 b (upY b (inC b (by simp [hb]))) (fun e => ?_)
        rw [List.nodup_cons] at nC
        exact nC.1 (e ▸ hb)
    · intro i _
      rw [List.map_append, hes, usedOf_append, usedOf_append, usedOf_cons, usedOf_append, usedOf_cons, if_pos rfl]
      by_cases hi : i = x.e.t
      · rw [if_pos hi, hi]; omega
      · rw [if_neg hi, if_neg (fun e => hi e.symm)]; omega
    · rw [List.map_append, hes, tot_append, tot_append, tot_cons]; omega
    · intro k v
      have hkeys := h.keys
      rw [hes, List.map_append, List.map_cons, List.nodup_append, List.nodup_cons] at hkeys
      obtain ⟨kX, ⟨kx, kY⟩, kXY⟩ := hkeys
      rw [hL]
      constructor
      · rintro ⟨hne, y, hy, rfl, rfl⟩
        refine ⟨y, ?_, rfl, rfl⟩
        simp only [List.mem_append, List.mem_cons] at hy ⊢
        rcases hy with hy | rfl | hy
        · exact .inl hy
        · exact absurd rfl hne
        · exact .inr hy
      · rintro ⟨y, hy, rfl, rfl⟩
        simp only [List.mem_append] at hy
        refine ⟨fun e => ?_, y, by simp only [List.mem_append, List.mem_cons]; exact hy.imp id .inr, rfl, rfl⟩
        have ek : y.e.key = x.e.key := by simpa using e
        rcases hy with hy | hy
        · exact kXY y.e.key (List.mem_map_of_mem (List.mem_map_of_mem hy)) x.e.key (by simp) ek
        · exact kx (ek ▸ List.mem_map_of_mem (List.mem_map_of_mem hy))
    · simp only [List.nodup_cons, List.mem_cons, not_or, List.map_append, List.mem_append]
      refine ⟨⟨hps, hpu, hpL.1, hpL.2.2⟩, ⟨hsu, hsL.1, hsL.2.2⟩, ⟨huL.1, huL.2.2⟩, ?_⟩
      rw [List.nodup_append]
      exact ⟨nX, nY.2, fun a ha b hb => nXY a ha b (List.mem_cons_of_mem _ hb)⟩
    · have hkeys := h.keys
      rw [hes, List.map_append, List.map_cons, List.nodup_append, List.nodup_cons] at hkeys
      obtain ⟨kX, ⟨kx, kY⟩, kXY⟩ := hkeys
      rw [List.map_append, List.map_append, List.nodup_append]
      exact ⟨kX, kY, fun a ha b hb => kXY a ha b (List.mem_cons_of_mem _ hb)⟩
    · intro y hy; refine h.ks y ?_; rw [hes]; simp only [List.map_append, List.mem_append, List.mem_cons] at hy ⊢; exact hy.imp id .inr
    · intro y hy; refine h.rng y ?_; rw [hes]; simp only [List.map_append, List.mem_append, List.mem_cons] at hy ⊢; exact hy.imp id .inr
    · have : tot ((X ++ Y).map Ent.e) = tot g.es - x.e.z := by rw [List.map_append, hes, tot_append, tot_append, tot_cons]; omega
      rw [this]; omega
  · rintro k (rfl | rfl | rfl | rfl | rfl)
    · rcases lastB_mem g.bp X with h1 | h1
      · exact .inl h1
      · exact .inr (.inr (.inr (.inr (by show _ ∈ (X ++ Y).map Ent.b; rw [List.map_append, List.mem_append]; exact .inl h1))))
    · rcases headB_mem g.bp Y with h1 | h1
      · exact .inl h1
      · exact .inr (.inr (.inr (.inr (by show _ ∈ (X ++ Y).map Ent.b; rw [List.map_append, List.mem_append]; exact .inr h1))))
    · exact .inr (.inr (.inl rfl))
    · exact .inl rfl
    · exact .inr (.inr (.inr (.inl rfl)))

/-- The two parts of a ring around a gap, when only the gap's two ends have turned. -/
theorem segs {w w' : World} {bp : Nat} {X Y A C : List Nat} {a c : Nat} (hA : bp :: X = A ++ [a]) (hC : Y ++ [bp] = c :: C) (hn : (bp :: (X ++ Y)).Nodup)
    (o4 : ∀ b, b ∈ bp :: (X ++ Y) → b ≠ a → w'.cell? ⟨b, 4, none⟩ = w.cell? ⟨b, 4, none⟩) (o3 : ∀ b, b ∈ bp :: (X ++ Y) → b ≠ c → w'.cell? ⟨b, 3, none⟩ = w.cell? ⟨b, 3, none⟩)
    (l1 : Links w (A ++ [a])) (l2 : Links w (c :: C)) : Links w' (A ++ [a]) ∧ Links w' (c :: C) := by
  simp only [List.nodup_cons, List.mem_append, not_or, List.nodup_append] at hn
  obtain ⟨⟨hpX, hpY⟩, nX, nY, nXY⟩ := hn
  have nA : (A ++ [a]).Nodup := by rw [← hA]; exact List.nodup_cons.2 ⟨hpX, nX⟩
  have nC : (c :: C).Nodup := by
    rw [← hC, List.nodup_append]
    exact ⟨nY, by simp, fun a ha b hb e => by simp at hb; subst hb; subst e; exact hpY ha⟩
  have ma : a = bp ∨ a ∈ X := by
    have : a ∈ bp :: X := by rw [hA]; simp
    simpa using this
  have mc : c = bp ∨ c ∈ Y := by
    have : c ∈ Y ++ [bp] := by rw [hC]; simp
    simp only [List.mem_append, List.mem_cons, List.not_mem_nil, or_false] at this
    exact this.symm
  refine ⟨links_frame _ (fun b hb => ?_) (fun b hb => ?_) l1, links_frame _ (fun b hb => ?_) (fun b hb => ?_) l2⟩
  · rw [List.dropLast_concat] at hb
    have hbX : b ∈ bp :: X := by rw [hA]; simp [hb]
    refine o4 b (by simp only [List.mem_cons, List.mem_append] at hbX ⊢; exact hbX.imp id .inl) (fun e => ?_)
    rw [List.nodup_append] at nA
    exact nA.2.2 b hb _ (by simp) e
  · have hbX : b ∈ X := by rw [← hA] at hb; simpa using hb
    refine o3 b (by simp [hbX]) (fun e => ?_)
    rcases mc with h1 | h1
    · rw [h1] at e; exact hpX (e ▸ hbX)
    · exact nXY b hbX b (e ▸ h1) rfl
  · have hbY : b ∈ Y := by rw [← hC, List.dropLast_concat] at hb; exact hb
    refine o4 b (by simp [hbY]) (fun e => ?_)
    rcases ma with h1 | h1
    · rw [h1] at e; exact hpY (e ▸ hbY)
    · exact nXY _ (e ▸ h1) b hbY rfl
  · simp only [List.tail_cons] at hb
    have hbY : b ∈ Y ++ [bp] := by rw [hC]; simp [hb]
    refine o3 b (by simp only [List.mem_cons, List.mem_append, List.not_mem_nil, or_false] at hbY ⊢; exact hbY.elim (fun h => .inr (.inr h)) .inl) (fun e => ?_)
    rw [List.nodup_cons] at nC
    exact nC.1 (e ▸ hb)

theorem path_split {w : World} {g : Gh} (h : PoolIs w g) {X Y : List Ent} (hL : g.L = X ++ Y) {A C : List Nat} {a c : Nat} (hA : g.bp :: X.map Ent.b = A ++ [a]) (hC : Y.map Ent.b ++ [g.bp] = c :: C) :
    Links w (A ++ a :: c :: C) := by
  have e : g.bp :: g.bl ++ [g.bp] = A ++ a :: c :: C := by
    rw [← hC, Gh.bl, hL, List.map_append]
    have : g.bp :: (X.map Ent.b ++ Y.map Ent.b) ++ [g.bp] = (g.bp :: X.map Ent.b) ++ (Y.map Ent.b ++ [g.bp]) := by simp
    rw [this, hA]; simp
  rw [← e]; exact h.links

theorem PoolIs.add {w w' : World} {g : Gh} {X Y : List Ent} {x : Ent} {R' : Value → Value → Prop} (h : PoolIs w g) (hL : g.L = X ++ Y) (hk : Hook w g.bp X x Y)
    (hxp : x.b ≠ g.bp) (hxs : x.b ≠ g.bs) (hxu : x.b ≠ g.bu) (hxL : x.b ∉ g.bl) (hxk : x.e.key ∉ g.es.map E.key) (hxks : x.e.key.size ≤ maxLen) (hxt : x.e.t < g.sh.length) (hxz : 1 ≤ x.e.z) (hfit : tot g.es + x.e.z ≤ g.cap)
    (hU : Upd w w' (lastB g.bp X) (headB g.bp Y) g.bu x.e.t g.bp g.bm (ptr x.b) (ptr x.b) (usedOf g.es x.e.t + x.e.z) (g.cap - tot g.es - x.e.z) R')
    (hR : ∀ k v, R' k v ↔ (k = .string x.e.key ∧ v = ptr x.b) ∨ (k ≠ .string x.e.key ∧ ∃ y ∈ g.L, k = .string y.e.key ∧ v = ptr y.b)) : PoolIs w' { g with L := X ++ x :: Y } := by
  obtain ⟨A, hA⟩ := lastB_eq g.bp X
  obtain ⟨C, hC⟩ := headB_eq g.bp Y
  have hpath := path_split h hL hA hC
  have hnd := h.nd
  simp only [List.nodup_cons, List.mem_cons, not_or] at hnd
  obtain ⟨⟨hps, hpu, hpL⟩, ⟨hsu, hsL⟩, huL, hLL⟩ := hnd
  have hbl : g.bl = X.map Ent.b ++ Y.map Ent.b := by rw [Gh.bl, hL, List.map_append]
  have hes : g.es = X.map Ent.e ++ Y.map Ent.e := by simp [Gh.es, hL]
  have har : lastB g.bp X = g.bp ∨ lastB g.bp X ∈ g.bl := (lastB_mem g.bp X).imp id (fun h => by rw [hbl]; simp only [List.mem_append]; exact .inl h)
  have hcr : headB g.bp Y = g.bp ∨ headB g.bp Y ∈ g.bl := (headB_mem g.bp Y).imp id (fun h => by rw [hbl]; simp only [List.mem_append]; exact .inr h)
  obtain ⟨_, _, hfa, has, hau, ham⟩ := ring_cells h har
  obtain ⟨_, _, hfc, hcs, hcu, hcm⟩ := ring_cells h hcr
  have hxm := h.map.not_cell hk.e.c0
  have hle := h.le; have hcap := h.cap
  have hxa : x.b ≠ lastB g.bp X := fun e => har.elim (fun h => hxp (e.trans h)) (fun h => hxL (e ▸ h))
  have hxc : x.b ≠ headB g.bp Y := fun e => hcr.elim (fun h => hxp (e.trans h)) (fun h => hxL (e ▸ h))
  refine h.turn (X ++ x :: Y) hU has hcs hau hcu ?_ ?_ ?_ ?_ ?_ ?_ ?_ ?_ ?_ ?_
  · have e : g.bp :: (X ++ x :: Y).map Ent.b ++ [g.bp] = A ++ lastB g.bp X :: x.b :: headB g.bp Y :: C := by
      have : g.bp :: (X ++ x :: Y).map Ent.b ++ [g.bp] = (g.bp :: X.map Ent.b) ++ x.b :: (Y.map Ent.b ++ [g.bp]) := by simp
      rw [this, hA, hC]; simp
    rw [e]
    obtain ⟨l1, _, l2⟩ := links_split hpath
    have ring : ∀ b, b ∈ g.bp :: (X.map Ent.b ++ Y.map Ent.b) → (b = g.bp ∨ b ∈ g.bl) := fun b hb => by rw [hbl]; simpa using hb
    obtain ⟨s1, s2⟩ := segs (w' := w') hA hC (by rw [← hbl]; exact List.nodup_cons.2 ⟨hpL, hLL⟩)
      (fun b hb hne => by obtain ⟨_, _, _, hbs, hbu, hbm⟩ := ring_cells h (ring b hb); exact hU.oth b 4 hbm (fun e => hne e.1) (by omega) (fun e => hbu e.1) (by omega))
      (fun b hb hne => by obtain ⟨_, _, _, hbs, hbu, hbm⟩ := ring_cells h (ring b hb); exact hU.oth b 3 hbm (by omega) (fun e => hne e.1) (fun e => hbu e.1) (by omega)) l1 l2
    exact links_join s1 hU.c1 ((hU.oth x.b 3 hxm (by omega) (fun e => hxc e.1) (fun e => hxu e.1) (by omega)).trans hk.c3)
      ⟨⟨(hU.oth x.b 4 hxm (fun e => hxa e.1) (by omega) (fun e => hxu e.1) (by omega)).trans hk.c4, hU.c2⟩, s2⟩
  · intro y hy
    simp only [List.mem_append, List.mem_cons] at hy
    rcases hy with hy | rfl | hy
    · exact h.ents y (by rw [hL]; simp [hy])
    · exact hk.e
    · exact h.ents y (by rw [hL]; simp [hy])
  · intro i _
    rw [List.map_append, List.map_cons, hes, usedOf_append, usedOf_append, usedOf_cons, usedOf_append]
    by_cases hi : i = x.e.t
    · rw [if_pos hi, hi, if_pos rfl]; omega
    · rw [if_neg hi, if_neg (fun e => hi e.symm)]; omega
  · rw [List.map_append, List.map_cons, hes, tot_append, tot_append, tot_cons]; omega
  · intro k v
    rw [hR, hL]
    constructor
    · rintro (⟨rfl, rfl⟩ | ⟨hne, y, hy, rfl, rfl⟩)
      · exact ⟨x, by simp, rfl, rfl⟩
      · refine ⟨y, ?_, rfl, rfl⟩
        simp only [List.mem_append, List.mem_cons] at hy ⊢
        exact hy.imp id .inr
    · rintro ⟨y, hy, rfl, rfl⟩
      simp only [List.mem_append, List.mem_cons] at hy
      have aux : y ∈ g.L → (Value.string y.e.key ≠ .string x.e.key) := fun hy e => by
        have ek : y.e.key = x.e.key := by simpa using e
        exact hxk (ek ▸ List.mem_map_of_mem (List.mem_map_of_mem hy))
      rcases hy with hy | rfl | hy
      · exact .inr ⟨aux (by rw [hL]; simp [hy]), y, by simp [hy], rfl, rfl⟩
      · exact .inl ⟨rfl, rfl⟩
      · exact .inr ⟨aux (by rw [hL]; simp [hy]), y, by simp [hy], rfl, rfl⟩
  · rw [hbl] at hpL hsL huL hLL hxL
    simp only [List.mem_append, not_or] at hpL hsL huL hxL
    rw [List.nodup_append] at hLL
    simp only [List.nodup_cons, List.mem_cons, not_or, List.map_append, List.map_cons, List.mem_append]
    refine ⟨⟨hps, hpu, hpL.1, hxp.symm, hpL.2⟩, ⟨hsu, hsL.1, hxs.symm, hsL.2⟩, ⟨huL.1, hxu.symm, huL.2⟩, ?_⟩
    rw [List.nodup_append]
    refine ⟨hLL.1, List.nodup_cons.2 ⟨hxL.2, hLL.2.1⟩, fun a ha b hb e => ?_⟩
    rcases List.mem_cons.1 hb with rfl | hb
    · exact hxL.1 (e ▸ ha)
    · exact hLL.2.2 a ha b hb e
  · have hkeys := h.keys
    rw [hes, List.map_append, List.nodup_append] at hkeys
    rw [hes, List.map_append, List.mem_append, not_or] at hxk
    simp only [List.map_append, List.map_cons]
    rw [List.nodup_append]
    refine ⟨hkeys.1, List.nodup_cons.2 ⟨hxk.2, hkeys.2.1⟩, fun a ha b hb e => ?_⟩
    rcases List.mem_cons.1 hb with rfl | hb
    · exact hxk.1 (e ▸ ha)
    · exact hkeys.2.2 a ha b hb e
  · intro y hy
    simp only [List.map_append, List.map_cons, List.mem_append, List.mem_cons] at hy
    rcases hy with hy | rfl | hy
    · exact h.ks y (by rw [hes, List.mem_append]; exact .inl hy)
    · exact hxks
    · exact h.ks y (by rw [hes, List.mem_append]; exact .inr hy)
  · intro y hy
    simp only [List.map_append, List.map_cons, List.mem_append, List.mem_cons] at hy
    rcases hy with hy | rfl | hy
    · exact h.rng y (by rw [hes, List.mem_append]; exact .inl hy)
    · exact ⟨hxt, hxz⟩
    · exact h.rng y (by rw [hes, List.mem_append]; exact .inr hy)
  · have : tot ((X ++ x :: Y).map Ent.e) = tot g.es + x.e.z := by rw [List.map_append, List.map_cons, hes, tot_append, tot_append, tot_cons]; omega
    rw [this]; omega

theorem back_pool (w : World) (g : Gh) (X Y : List Ent) (x : Ent) (h : PoolIs w g) (hL : g.L = X ++ Y) (hk : Hook w g.bp X x Y)
    (hxp : x.b ≠ g.bp) (hxs : x.b ≠ g.bs) (hxu : x.b ≠ g.bu) (hxL : x.b ∉ g.bl) (hxk : x.e.key ∉ g.es.map E.key) (hxks : x.e.key.size ≤ maxLen) (hxt : x.e.t < g.sh.length) (hxz : 1 ≤ x.e.z) (hfit : tot g.es + x.e.z ≤ g.cap) :
    Calls Try.prog 31 #[ptr g.bp, ptr x.b] w fun e w' => e = .returned (.tuple #[]) ∧ PoolIs w' { g with L := X ++ x :: Y } ∧ Keep g.foot w w' := by
  obtain ⟨A, hA⟩ := lastB_eq g.bp X
  obtain ⟨C, hC⟩ := headB_eq g.bp Y
  have hpath := path_split h hL hA hC
  have hnd := h.nd
  simp only [List.nodup_cons, List.mem_cons, not_or] at hnd
  obtain ⟨⟨hps, hpu, hpL⟩, ⟨hsu, hsL⟩, huL, hLL⟩ := hnd
  have hbl : g.bl = X.map Ent.b ++ Y.map Ent.b := by rw [Gh.bl, hL, List.map_append]
  have hes : g.es = X.map Ent.e ++ Y.map Ent.e := by simp [Gh.es, hL]
  have har : lastB g.bp X = g.bp ∨ lastB g.bp X ∈ g.bl := (lastB_mem g.bp X).imp id (fun h => by rw [hbl]; simp only [List.mem_append]; exact .inl h)
  have hcr : headB g.bp Y = g.bp ∨ headB g.bp Y ∈ g.bl := (headB_mem g.bp Y).imp id (fun h => by rw [hbl]; simp only [List.mem_append]; exact .inr h)
  obtain ⟨⟨va, hva⟩, _, hfa, has, hau, ham⟩ := ring_cells h har
  obtain ⟨_, ⟨vc, hvc⟩, hfc, hcs, hcu, hcm⟩ := ring_cells h hcr
  have hum := h.map.not_cell (h.us _ hxt)
  have hxm := h.map.not_cell hk.e.c0
  have hpos : ∀ y ∈ g.es, 1 ≤ y.z := fun y hy => (h.rng y hy).2
  have htn := tot_nonneg _ hpos
  have hun := usedOf_nonneg _ x.e.t hpos
  have hul := usedOf_le_tot _ x.e.t hpos
  have hle := h.le; have hcap := h.cap
  refine (back_any g.bp x.b (lastB g.bp X) (headB g.bp Y) g.bm g.bu g.sh.length g.uc x.e.t x.e.key va vc (usedOf g.es x.e.t) (g.cap - tot g.es) x.e.z x.e.z (usedOf g.es x.e.t + x.e.z) (g.cap - tot g.es - x.e.z) _ w
    hk.c3 hk.c4 hva hvc (hfa _) (hfc _) h.c8 hk.e.c0 hxks h.map hxt h.c7 h.c9 (h.fp _) hk.e.c1 hk.e.c2 (h.us _ hxt) (h.fu _) hpu hxu hau hcu
    (by rw [wrap_in (by omega) (by omega)]; omega) (by rw [wrap_in (by omega) (by omega)]) (by rw [wrap_in (by omega) (by omega)])).mono ?_
  rintro e w' ⟨rfl, ob, k, hw', hm'⟩
  have hU := upd_of hw' hm' hva hvc (h.us _ hxt) h.c9 ham hcm hum (h.map.not_cell h.c5) hau hcu hpu
  refine ⟨rfl, h.add hL hk hxp hxs hxu hxL hxk hxks hxt hxz hfit hU (fun _ _ => Iff.rfl), hU.keep.mono ?_⟩
  rintro k (rfl | rfl | rfl | rfl | rfl)
  · exact har.elim .inl (fun h => .inr (.inr (.inr (.inr h))))
  · exact hcr.elim .inl (fun h => .inr (.inr (.inr (.inr h))))
  · exact .inr (.inr (.inl rfl))
  · exact .inl rfl
  · exact .inr (.inr (.inr (.inl rfl)))

theorem PoolIs.relink {w w' : World} {g : Gh} (L' : List Ent) (h : PoolIs w g) (hmem : ∀ x, x ∈ L' ↔ x ∈ g.L)
    (oth : ∀ b o, b ≠ g.bm → ((b = g.bp ∨ b ∈ g.bl) → o ≠ 3 ∧ o ≠ 4) → w'.cell? ⟨b, o, none⟩ = w.cell? ⟨b, o, none⟩) (frz : ∀ b o, b ≠ g.bm → w'.frozen? ⟨b, o, none⟩ = w.frozen? ⟨b, o, none⟩)
    (hm : w'.heap[g.bm]? = w.heap[g.bm]?) (hlinks : Links w' (g.bp :: L'.map Ent.b ++ [g.bp]))
    (hused : ∀ i, usedOf (L'.map Ent.e) i = usedOf g.es i) (htot : tot (L'.map Ent.e) = tot g.es) (hnL : (L'.map Ent.b).Nodup) (hnk : ((L'.map Ent.e).map E.key).Nodup) : PoolIs w' { g with L := L' } := by
  have hpm : g.bp ≠ g.bm := h.map.not_cell h.c5
  have hum : g.bu ≠ g.bm := h.map.not_cell (h.us 0 h.n0)
  obtain ⟨x0, hx0⟩ : ∃ x, g.sh[0]? = some x := ⟨_, List.getElem?_eq_getElem h.n0⟩
  have hsm : g.bs ≠ g.bm := h.map.not_cell (h.sh 0 x0 hx0)
  have hnd := h.nd
  simp only [List.nodup_cons, List.mem_cons, not_or] at hnd
  obtain ⟨⟨hps, hpu, hpL⟩, ⟨hsu, hsL⟩, huL, hLL⟩ := hnd
  have hbmem : ∀ b, b ∈ L'.map Ent.b ↔ b ∈ g.bl := fun b => by simp only [Gh.bl, List.mem_map, hmem]
  have hemem : ∀ b, b ∈ L'.map Ent.e ↔ b ∈ g.es := fun b => by simp only [Gh.es, List.mem_map, hmem]
  have fp : ∀ o v, o ≠ 3 → o ≠ 4 → w.cell? ⟨g.bp, o, none⟩ = some v → w'.cell? ⟨g.bp, o, none⟩ = some v := fun o v h3 h4 hc => (oth g.bp o hpm (fun _ => ⟨h3, h4⟩)).trans hc
  refine ⟨fp 5 _ (by decide) (by decide) h.c5, fp 6 _ (by decide) (by decide) h.c6, fp 7 _ (by decide) (by decide) h.c7, fp 8 _ (by decide) (by decide) h.c8, ?_, fun o => (frz _ _ hpm).trans (h.fp o), fun o => (frz _ _ hum).trans (h.fu o), fun i x hx => ?_, fun i hi => ?_, hlinks, fun x hx => ?_, (h.map.of_heap hm).congr (fun k v => ?_), ?_, hnk, fun x hx => h.ks x ((hemem x).1 hx), fun x hx => h.rng x ((hemem x).1 hx), h.n0, h.n8, h.cap, by show tot (L'.map Ent.e) ≤ _; rw [htot]; exact h.le, h.shr⟩
  · show w'.cell? ⟨g.bp, 9, none⟩ = some (.int .i64 (g.cap - tot (L'.map Ent.e)))
    rw [htot]; exact fp 9 _ (by decide) (by decide) h.c9
  · exact (oth g.bs i hsm (fun e => e.elim (fun e => absurd e.symm hps) (fun e => absurd e hsL))).trans (h.sh i x hx)
  · show w'.cell? ⟨g.bu, i, none⟩ = some (.int .i64 (usedOf (L'.map Ent.e) i))
    rw [hused]
    exact (oth g.bu i hum (fun e => e.elim (fun e => absurd e.symm hpu) (fun e => absurd e huL))).trans (h.us i hi)
  · have hx' := h.ents x ((hmem x).1 hx)
    have hxm := h.map.not_cell hx'.c0
    exact ⟨(oth _ _ hxm (fun _ => ⟨by decide, by decide⟩)).trans hx'.c0, (oth _ _ hxm (fun _ => ⟨by decide, by decide⟩)).trans hx'.c1, (oth _ _ hxm (fun _ => ⟨by decide, by decide⟩)).trans hx'.c2, fun o => (frz _ _ hxm).trans (hx'.fz o)⟩
  · simp only [hmem]
  · simp only [List.nodup_cons, List.mem_cons, not_or, hbmem]
    exact ⟨⟨hps, hpu, hpL⟩, ⟨hsu, hsL⟩, huL, hnL⟩

end Go.Proofs.Ytigkhglgoabjaaa
