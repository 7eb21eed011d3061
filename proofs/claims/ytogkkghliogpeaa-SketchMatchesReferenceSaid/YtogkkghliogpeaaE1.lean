/-
  Merge: the plain part; both; what is refused.
-/
import Derived.Test.YtogkkghliogpeaaD1
import Derived.Test.YtogkkghliogpeaaG5
namespace Go.Proofs.Ytogkkghliogpeaa
open Go.RowKit Go.Shelf

/-- Two sketches' counter of a key. -/
def bothC (cap : Nat) (L : List C) (cap' : Nat) (L' : List C) (key : ByteArray) : C := ⟨key, loOf L key + loOf L' key, ofHi cap L key + ofHi cap' L' key⟩
/-- All keys. -/
def unionK (L L' : List C) : List ByteArray := L.map C.key ++ (L'.filter (fun y => (atC L y.key).isNone)).map C.key
def joinC (cap : Nat) (L : List C) (cap' : Nat) (L' : List C) : List C := ordC ((unionK L L').map (bothC cap L cap' L'))
def mergeC (cap : Nat) (L : List C) (cap' : Nat) (L' : List C) : List C := (joinC cap L cap' L').take cap

theorem OkL.ofHi {cap : Nat} {L : List C} (h : OkL cap L) (key : ByteArray) : 0 ≤ ofHi cap L key ∧ ofHi cap L key ≤ sumH L ∧ 0 ≤ loOf L key ∧ loOf L key ≤ ofHi cap L key ∧ loOf L key ≤ sumH L := by
  have h1 := h.hi0 key
  have h2 := h.least
  unfold Ytogkkghliogpeaa.ofHi
  unfold hiOf loOf at *
  cases e : atC L key with
  | none => rw [e] at h1; simp only [] at h1 ⊢; omega
  | some x => rw [e] at h1; simp only [] at h1 ⊢; omega

theorem mem_unionK {L L' : List C} {k : ByteArray} : k ∈ unionK L L' ↔ k ∈ L.map C.key ∨ k ∈ L'.map C.key := by
  unfold unionK
  rw [List.mem_append]
  constructor
  · rintro (h | h)
    · exact .inl h
    · obtain ⟨y, hy, rfl⟩ := List.mem_map.1 h
      exact .inr (List.mem_map_of_mem (List.mem_filter.1 hy).1)
  · rintro (h | h)
    · exact .inl h
    · obtain ⟨y, hy, rfl⟩ := List.mem_map.1 h
      cases e : atC L y.key with
      | none => exact .inr (List.mem_map_of_mem (List.mem_filter.2 ⟨hy, by rw [e]; rfl⟩))
      | some x => obtain ⟨h1, h2⟩ := atC_some e; exact .inl (by rw [← h2]; exact List.mem_map_of_mem h1)
theorem unionK_nodup {L L' : List C} (h : (L.map C.key).Nodup) (h' : (L'.map C.key).Nodup) : (unionK L L').Nodup := by
  unfold unionK
  rw [List.nodup_append]
  refine ⟨h, h'.sublist (List.filter_sublist.map _), fun a ha b hb e => ?_⟩
  subst e
  obtain ⟨y, hy, rfl⟩ := List.mem_map.1 hb
  obtain ⟨x, hx, e⟩ := List.mem_map.1 ha
  have := (List.mem_filter.1 hy).2
  rw [← e, atC_of_mem h hx] at this
  cases this
theorem both_keys (cap : Nat) (L : List C) (cap' : Nat) (L' : List C) (ks : List ByteArray) : (ks.map (bothC cap L cap' L')).map C.key = ks := by
  rw [List.map_map]
  exact (List.map_congr_left (fun x _ => rfl)).trans (List.map_id ks)

theorem sub_length {α : Type} : ∀ {A B : List α}, A.Nodup → (∀ x ∈ A, x ∈ B) → A.length ≤ B.length
  | [], B, _, _ => Nat.zero_le _
  | a :: A, B, hA, h => by
    obtain ⟨X, Y, rfl⟩ := List.append_of_mem (h a (by simp))
    rw [List.nodup_cons] at hA
    have := sub_length (B := X ++ Y) hA.2 (fun x hx => by
      have := h x (by simp [hx])
      simp only [List.mem_append, List.mem_cons] at this ⊢
      rcases this with h | h | h
      · exact .inl h
      · subst h; exact absurd hx hA.1
      · exact .inr h)
    simp only [List.length_append, List.length_cons] at this ⊢
    omega
theorem sumH_le {B : Int} : ∀ {L : List C}, (∀ x ∈ L, x.hi ≤ B) → sumH L ≤ L.length * B
  | [], _ => by simp [sumH]
  | x :: r, h => by
    have h1 := h x (by simp)
    have h2 := sumH_le (B := B) (L := r) (fun y hy => h y (by simp [hy]))
    simp only [sumH, List.length_cons, Int.natCast_add, Int.add_mul]
    omega

/-- Both are within bounds. -/
structure Mrg (cap : Nat) (L : List C) (cap' : Nat) (L' : List C) : Prop where
  ok : OkL cap L
  ok' : OkL cap' L'
  s1 : sumH L ≤ 1000000000000000
  s2 : sumH L' ≤ 1000000000000000 - sumH L
  le : cap ≤ cap'
  few : (unionK L L').length ≤ 12

theorem Mrg.both {cap : Nat} {L : List C} {cap' : Nat} {L' : List C} (m : Mrg cap L cap' L') (k : ByteArray) : 0 ≤ (bothC cap L cap' L' k).lo ∧ (bothC cap L cap' L' k).lo ≤ (bothC cap L cap' L' k).hi ∧ (bothC cap L cap' L' k).hi ≤ 1000000000000000 := by
  have h1 := m.ok.ofHi k
  have h2 := m.ok'.ofHi k
  have := m.s2
  unfold bothC
  simp only []
  omega
theorem Mrg.hi1 {cap : Nat} {L : List C} {cap' : Nat} {L' : List C} (m : Mrg cap L cap' L') {k : ByteArray} (hk : k ∈ unionK L L') : 1 ≤ (bothC cap L cap' L' k).hi := by
  have h1 := m.ok.ofHi k
  have h2 := m.ok'.ofHi k
  rcases mem_unionK.1 hk with h | h
  · obtain ⟨x, hx, rfl⟩ := List.mem_map.1 h
    have : Ytogkkghliogpeaa.ofHi cap L x.key = x.hi := by unfold Ytogkkghliogpeaa.ofHi; rw [atC_of_mem m.ok.keys hx]
    have := (m.ok.pos x hx).2.2
    unfold bothC
    simp only []
    omega
  · obtain ⟨x, hx, rfl⟩ := List.mem_map.1 h
    have : Ytogkkghliogpeaa.ofHi cap' L' x.key = x.hi := by unfold Ytogkkghliogpeaa.ofHi; rw [atC_of_mem m.ok'.keys hx]
    have := (m.ok'.pos x hx).2.2
    unfold bothC
    simp only []
    omega
theorem Mrg.ks {cap : Nat} {L : List C} {cap' : Nat} {L' : List C} (m : Mrg cap L cap' L') {k : ByteArray} (hk : k ∈ unionK L L') : k.size ≤ maxLen := by
  rcases mem_unionK.1 hk with h | h
  · obtain ⟨x, hx, rfl⟩ := List.mem_map.1 h; exact m.ok.ks x hx
  · obtain ⟨x, hx, rfl⟩ := List.mem_map.1 h; exact m.ok'.ks x hx

theorem Mrg.join_perm (cap : Nat) (L : List C) (cap' : Nat) (L' : List C) : (joinC cap L cap' L').Perm ((unionK L L').map (bothC cap L cap' L')) := ordC_perm _
theorem Mrg.join_mem {cap : Nat} {L : List C} {cap' : Nat} {L' : List C} {x : C} (hx : x ∈ joinC cap L cap' L') : x.key ∈ unionK L L' ∧ x = bothC cap L cap' L' x.key := by
  obtain ⟨k, hk, rfl⟩ := List.mem_map.1 ((Mrg.join_perm cap L cap' L').mem_iff.1 hx)
  exact ⟨hk, rfl⟩
theorem Mrg.join_keys {cap : Nat} {L : List C} {cap' : Nat} {L' : List C} (m : Mrg cap L cap' L') : ((joinC cap L cap' L').map C.key).Nodup := by
  rw [((Mrg.join_perm cap L cap' L').map C.key).nodup_iff, both_keys]
  exact unionK_nodup m.ok.keys m.ok'.keys
theorem Mrg.join_sorted {cap : Nat} {L : List C} {cap' : Nat} {L' : List C} (m : Mrg cap L cap' L') : (joinC cap L cap' L').Pairwise BefC := by
  refine ordC_sorted ?_
  rw [both_keys]
  exact unionK_nodup m.ok.keys m.ok'.keys
theorem Mrg.join_len {cap : Nat} {L : List C} {cap' : Nat} {L' : List C} (m : Mrg cap L cap' L') : (joinC cap L cap' L').length ≤ 12 := by
  rw [(Mrg.join_perm cap L cap' L').length_eq, List.length_map]; exact m.few
/-- A part of what is joined is small. -/
theorem Mrg.part {cap : Nat} {L : List C} {cap' : Nat} {L' : List C} (m : Mrg cap L cap' L') {M : List C} (hn : (M.map C.key).Nodup) (hM : ∀ x ∈ M, x ∈ joinC cap L cap' L') : 0 ≤ sumH M ∧ sumH M ≤ 12000000000000000 := by
  have hl : M.length ≤ 12 := by
    have h1 := sub_length hn (fun k hk => by
      obtain ⟨x, hx, rfl⟩ := List.mem_map.1 hk
      exact List.mem_map_of_mem (f := C.key) (hM x hx))
    rw [List.length_map, List.length_map] at h1
    exact Nat.le_trans h1 m.join_len
  refine ⟨sumH_nonneg (fun x hx => ?_), ?_⟩
  · obtain ⟨h1, h2⟩ := Mrg.join_mem (hM x hx)
    have := m.both x.key
    rw [h2]; omega
  · have := sumH_le (B := 1000000000000000) (L := M) (fun x hx => by
      obtain ⟨h1, h2⟩ := Mrg.join_mem (hM x hx)
      have := m.both x.key
      rw [h2]; omega)
    omega
theorem mergeC_ok {cap : Nat} {L : List C} {cap' : Nat} {L' : List C} (m : Mrg cap L cap' L') : OkL cap (mergeC cap L cap' L') := by
  have hsub : (mergeC cap L cap' L').Sublist (joinC cap L cap' L') := List.take_sublist _ _
  refine ⟨m.ok.cap1, m.ok.cap64, by unfold mergeC; simp; omega, m.join_sorted.sublist hsub, m.join_keys.sublist (hsub.map _), fun x hx => m.ks (Mrg.join_mem (hsub.mem hx)).1, fun x hx => ?_, ?_⟩
  · obtain ⟨h1, h2⟩ := Mrg.join_mem (hsub.mem hx)
    have := m.both x.key
    have := m.hi1 h1
    rw [h2]; omega
  · have := (m.part (m.join_keys.sublist (hsub.map _)) (fun x hx => hsub.mem hx)).2
    omega

set_option maxRecDepth 100000 in
set_option maxHeartbeats 1000000 in
theorem both_sk {w : World} {s bm cap t bm' cap' b1 b2 : Nat} {L L' : List C} (h : Sk w s bm cap L) (h' : Sk w t bm' cap' L') (hb1 : w.cell? ⟨b1, 0, none⟩ = some (ptr s)) (hb2 : w.cell? ⟨b2, 0, none⟩ = some (ptr t)) (key : ByteArray) (hk : key.size ≤ maxLen) :
    Calls Try.prog 36 #[.string key, ptr b1, ptr b2] w fun e w' => e = .returned (bnd (loOf L key + loOf L' key) (Ytogkkghliogpeaa.ofHi cap L key + Ytogkkghliogpeaa.ofHi cap' L' key)) ∧ Keep (fun _ => False) w w' := by
  obtain ⟨q1, q2, q3, q4, q5⟩ := h.ok.ofHi key
  obtain ⟨r1, r2, r3, r4, r5⟩ := h'.ok.ofHi key
  have s1 := h.ok.sum
  have s2 := h'.ok.sum
  obtain ⟨d0, d1, df⟩ := two_cell w (.int .i64 0) (.int .i64 0) 60
  have k1 := (Keep.refl (fun _ => False) w).alloc (.cells #[.int .i64 0, .int .i64 0] 60)
  have H := Lib.hid (h.keep k1 (fun h => h) (fun h => h))
  have H' := Lib.hid (h'.keep k1 (fun h => h) (fun h => h))
  have HK := Lib.hid k1
  have HB := Lib.hid (And.intro (k1.cell hb1 (fun h => h)) (k1.cell hb2 (fun h => h)))
  have HD := Lib.hid (And.intro d0 (And.intro d1 df))
  clear h h' hb1 hb2 d0 d1 df k1
  go_enter Try.func36, Try.ntmps36
  go_wp2_with fail
  generalize w.alloc (.cells #[.int .i64 0, .int .i64 0] 60) = W at *
  have c1 : ∀ p : KW W, p.val.cell? ⟨b1, 0, none⟩ = some (ptr s) := fun p => p.k.cell HB.out.1 (fun h => h)
  have c2 : ∀ p : KW W, p.val.cell? ⟨b2, 0, none⟩ = some (ptr t) := fun p => p.k.cell HB.out.2 (fun h => h)
  refine wp_region_kept_tail 7 (by kernel_rfl) (by kernel_rfl) ?_
  simp only [List.take_succ_cons, List.take_zero, List.drop_succ_cons, List.drop_zero]
  iterate 2 (quiet_step (fail))
  quiet_step ((go_at_call 37; refine Calls.kept_of (of_sk (H.out.keep (KW.k _) (fun h => h) (fun h => h)) key hk)))
  iterate 2 (quiet_step (fail))
  quiet_step ((go_at_call 37; refine Calls.kept_of (of_sk (H'.out.keep (KW.k _) (fun h => h) (fun h => h)) key hk)))
  quiet_step ((go_at_call 33; refine Calls.kept_of (add_bounds _ _ _ _ _ (by omega) (by omega) (by omega) (by omega))))
  refine wpQuiet_nil ?_
  intro p
  have e0 := p.k.cell HD.out.1 (fun h => h)
  have e1 := p.k.cell HD.out.2.1 (fun h => h)
  have hlt := World.block_lt_of_cell? _ _ HD.out.1
  have f0 := (p.k.frozen (b := w.heap.size) hlt (fun h => h) 0).trans (HD.out.2.2 0)
  have f1 := (p.k.frozen (b := w.heap.size) hlt (fun h => h) 1).trans (HD.out.2.2 1)
  have HP := Lib.hid (HK.out.trans p.k)
  clear c1 c2
  generalize p.val = W2 at *
  go_wp2_with fail
  have g0 : ((W2.setCell ⟨w.heap.size, 0, none⟩ (.int .i64 (loOf L key + loOf L' key))).setCell ⟨w.heap.size, 1, none⟩ (.int .i64 (Ytogkkghliogpeaa.ofHi cap L key + Ytogkkghliogpeaa.ofHi cap' L' key))).cell? ⟨w.heap.size, 0, none⟩ = some (.int .i64 (loOf L key + loOf L' key)) := (cell_set_off (by decide)).trans (cell_set_same e0)
  have g1 : ((W2.setCell ⟨w.heap.size, 0, none⟩ (.int .i64 (loOf L key + loOf L' key))).setCell ⟨w.heap.size, 1, none⟩ (.int .i64 (Ytogkkghliogpeaa.ofHi cap L key + Ytogkkghliogpeaa.ofHi cap' L' key))).cell? ⟨w.heap.size, 1, none⟩ = some (.int .i64 (Ytogkkghliogpeaa.ofHi cap L key + Ytogkkghliogpeaa.ofHi cap' L' key)) := cell_set_same ((cell_set_off (by decide)).trans e1)
  refine bodyPost_ret (v := bnd (loOf L key + loOf L' key) (Ytogkkghliogpeaa.ofHi cap L key + Ytogkkghliogpeaa.ofHi cap' L' key)) (by simp [results, Try.results36, go_sem, g0, g1]) rfl ⟨rfl, ?_⟩
  exact (HP.out.setCell _ (.inr (Nat.le_refl _))).setCell _ (.inr (Nat.le_refl _))
end Go.Proofs.Ytogkkghliogpeaa
