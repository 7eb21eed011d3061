/-
  Merge: the walk.
-/
import Derived.Test.YtogkkghliogpeaaE2
namespace Go.Proofs.Ytogkkghliogpeaa
open Go.RowKit Go.Shelf

/-- The counters of these keys, both sketches together. -/
def Joined (cap : Nat) (L : List C) (cap' : Nat) (L' : List C) (Sn : ByteArray → Prop) (M : List C) : Prop := ∀ x, x ∈ M ↔ ∃ k, Sn k ∧ x = bothC cap L cap' L' k

/-- While the two are joined. -/
structure MR (w : World) (s t cap : Nat) (L : List C) (cap' : Nat) (L' : List C) (Sn : ByteArray → Prop) (W : World) : Prop where
  k : Keep (fun _ => False) w W
  b1 : W.cell? ⟨w.heap.size, 0, none⟩ = some (ptr s)
  b2 : W.cell? ⟨w.heap.size + 1, 0, none⟩ = some (ptr t)
  a0 : W.cell? ⟨w.heap.size + 4, 0, none⟩ = some (ptr s)
  a1 : W.cell? ⟨w.heap.size + 4, 1, none⟩ = some (ptr t)
  sn : ∀ k, Sn k → k ∈ unionK L L'
  out : ∃ M, SkAt W (w.heap.size + 3) (w.heap.size + 2) cap (sumH M) M ∧ Joined cap L cap' L' Sn M

theorem nodup_of_keys : ∀ {L : List C}, (L.map C.key).Nodup → L.Nodup
  | [], _ => List.nodup_nil
  | x :: r, h => by
    rw [List.map_cons, List.nodup_cons] at h
    exact List.nodup_cons.2 ⟨fun hm => h.1 (List.mem_map_of_mem hm), nodup_of_keys h.2⟩

theorem Joined.mem {cap : Nat} {L : List C} {cap' : Nat} {L' : List C} {Sn : ByteArray → Prop} {M : List C} (h : Joined cap L cap' L' Sn M) (hs : ∀ k, Sn k → k ∈ unionK L L') : ∀ x ∈ M, x ∈ joinC cap L cap' L' := by
  intro x hx
  obtain ⟨k, hk, rfl⟩ := (h x).1 hx
  exact (Mrg.join_perm cap L cap' L').mem_iff.2 (List.mem_map_of_mem (hs k hk))
theorem Joined.put {cap : Nat} {L : List C} {cap' : Nat} {L' : List C} {Sn : ByteArray → Prop} {M : List C} (h : Joined cap L cap' L' Sn M) (k : ByteArray) : Joined cap L cap' L' (fun j => Sn j ∨ j = k) (putC M (bothC cap L cap' L' k)) := by
  intro x
  unfold putC
  rw [List.mem_cons, mem_delC, h x]
  constructor
  · rintro (rfl | ⟨⟨j, hj, rfl⟩, _⟩)
    · exact ⟨k, .inr rfl, rfl⟩
    · exact ⟨j, .inl hj, rfl⟩
  · rintro ⟨j, hj | rfl, rfl⟩
    · by_cases e : j = k
      · subst e; exact .inl rfl
      · exact .inr ⟨⟨j, hj, rfl⟩, e⟩
    · exact .inl rfl
theorem MR.keep {w : World} {s t cap : Nat} {L : List C} {cap' : Nat} {L' : List C} {Sn : ByteArray → Prop} {W W' : World} (h : MR w s t cap L cap' L' Sn W) (k : Keep (fun i => w.heap.size + 5 ≤ i) W W') : MR w s t cap L cap' L' Sn W' := by
  obtain ⟨M, h1, h2⟩ := h.out
  exact ⟨h.k.trans' k (fun i hi => .inr (by omega)), k.cell h.b1 (by omega), k.cell h.b2 (by omega), k.cell h.a0 (by omega), k.cell h.a1 (by omega), h.sn, M, h1.keep k (by omega) (by omega), h2⟩
theorem MR.congr {w : World} {s t cap : Nat} {L : List C} {cap' : Nat} {L' : List C} {Sn Sn' : ByteArray → Prop} {W : World} (h : MR w s t cap L cap' L' Sn W) (he : ∀ k, Sn' k ↔ Sn k) : MR w s t cap L cap' L' Sn' W := by
  obtain ⟨M, h1, h2⟩ := h.out
  exact ⟨h.k, h.b1, h.b2, h.a0, h.a1, fun k hk => h.sn k ((he k).1 hk), M, h1, fun x => (h2 x).trans ⟨fun ⟨k, a, b⟩ => ⟨k, (he k).2 a, b⟩, fun ⟨k, a, b⟩ => ⟨k, (he k).1 a, b⟩⟩⟩

/-- What has been joined when i sides are done. -/
def sideS (L L' : List C) (i : Nat) (k : ByteArray) : Prop := (1 ≤ i ∧ k ∈ L.map C.key) ∨ (2 ≤ i ∧ k ∈ L'.map C.key)

/-- Within a side: S has come, l is to come. -/
def InM (w : World) (s t cap : Nat) (L : List C) (cap' : Nat) (L' : List C) (i bq r : Nat) (Lq S l : List C) (W : World) : Prop :=
  Lq.Perm (S ++ l) ∧ Ranging Try.prog 9 W bq r (CRel Lq) (l.map encC) ∧ MR w s t cap L cap' L' (fun k => sideS L L' i k ∨ k ∈ S.map C.key) W

def MergePost (w : World) (s cap : Nat) (M : List C) (e : Ending) (w' : World) : Prop := ∃ bm, e = .returned (.int .i64 0) ∧ Sk w' s bm cap M ∧ Keep (fun k => k = s) w w' ∧ w.heap.size ≤ bm

theorem MR.begin {w W : World} {s t cap : Nat} {L : List C} {cap' : Nat} {L' : List C} (k : Keep (fun _ => False) w W) (hsz : W.heap.size = w.heap.size + 2) (b1 : W.cell? ⟨w.heap.size, 0, none⟩ = some (ptr s)) (b2 : W.cell? ⟨w.heap.size + 1, 0, none⟩ = some (ptr t)) :
    MR w s t cap L cap' L' (sideS L L' 0) (((W.alloc (.map #[] 0)).alloc (.cells #[.int .i64 cap, .int .i64 0, .map (some (w.heap.size + 2))] 58)).alloc (.cells #[ptr s, ptr t] 25)) := by
  have ka : Keep (fun _ => False) W (((W.alloc (.map #[] 0)).alloc (.cells #[.int .i64 cap, .int .i64 0, .map (some (w.heap.size + 2))] 58)).alloc (.cells #[ptr s, ptr t] 25)) := (((Keep.refl _ W).alloc _).alloc _).alloc _
  have hn := new_at W cap
  rw [hsz] at hn
  have kb : Keep (fun _ => False) ((W.alloc (.map #[] 0)).alloc (.cells #[.int .i64 cap, .int .i64 0, .map (some (w.heap.size + 2))] 58)) (((W.alloc (.map #[] 0)).alloc (.cells #[.int .i64 cap, .int .i64 0, .map (some (w.heap.size + 2))] 58)).alloc (.cells #[ptr s, ptr t] 25)) := (Keep.refl _ _).alloc _
  obtain ⟨t0, t1, _⟩ := two_cell ((W.alloc (.map #[] 0)).alloc (.cells #[.int .i64 cap, .int .i64 0, .map (some (w.heap.size + 2))] 58)) (ptr s) (ptr t) 25
  have hs2 : ((W.alloc (.map #[] 0)).alloc (.cells #[.int .i64 cap, .int .i64 0, .map (some (w.heap.size + 2))] 58)).heap.size = w.heap.size + 4 := by simp [hsz]
  rw [hs2] at t0 t1
  refine ⟨k.trans ka, ka.cell b1 (fun h => h), ka.cell b2 (fun h => h), t0, t1, fun k hk => by rcases hk with ⟨h, _⟩ | ⟨h, _⟩ <;> omega, [], hn.keep kb (fun h => h) (fun h => h), fun x => ?_⟩
  constructor
  · intro h; cases h
  · rintro ⟨k, hk, _⟩
    rcases hk with ⟨h, _⟩ | ⟨h, _⟩ <;> omega

/-- While the last ones are dropped. -/
structure DR (w : World) (s cap : Nat) (J : List C) (b j : Nat) (W : World) : Prop where
  k : Keep (fun _ => False) w W
  b1 : W.cell? ⟨w.heap.size, 0, none⟩ = some (ptr s)
  ce : ∀ i x, J[i]? = some x → W.cell? ⟨b, i, none⟩ = some (.string x.key)
  out : ∃ M, SkAt W (w.heap.size + 3) (w.heap.size + 2) cap (sumH M) M ∧ M.Perm (J.take cap ++ J.drop (cap + j))

theorem drop_step {J M : List C} {cap j : Nat} {x : C} (hk : (J.map C.key).Nodup) (hx : J[cap + j]? = some x) (hp : M.Perm (J.take cap ++ J.drop (cap + j))) (hM : (M.map C.key).Nodup) : x ∈ M ∧ (delC M x.key).Perm (J.take cap ++ J.drop (cap + (j + 1))) := by
  have hl := (List.getElem?_eq_some_iff.1 hx).1
  have he : J.drop (cap + j) = x :: J.drop (cap + j + 1) := by
    rw [List.drop_eq_getElem_cons hl]
    rw [List.getElem?_eq_getElem hl] at hx
    cases hx
    rfl
  rw [he] at hp
  have hxM : x ∈ M := hp.mem_iff.2 (by simp)
  exact ⟨hxM, List.Perm.cons_inv ((delC_split hM hxM).symm.trans (hp.trans List.perm_middle))⟩

theorem merge_end {w W : World} {s bm cap : Nat} {L R M : List C} (h : Sk w s bm cap L) (hk : Keep (fun _ => False) w W) (hsk : SkAt W (w.heap.size + 3) (w.heap.size + 2) cap (sumH M) M) (hp : M.Perm R) (ok : OkL cap R) :
    MergePost w s cap R (.returned (.int .i64 0)) (((W.setCell ⟨s, 0, none⟩ (.int .i64 cap)).setCell ⟨s, 1, none⟩ (.int .i64 (sumH M))).setCell ⟨s, 2, none⟩ (.map (some (w.heap.size + 2)))) := by
  have hs := h.at_.lt.1
  have hw := h.keep hk (fun h => h) (fun h => h)
  have hn : w.heap.size + 2 ≠ s := by omega
  have k0 : Keep (fun k => k = s) w W := hk.mono (fun _ h => h.elim)
  have kk := ((k0.setCell (p := ⟨s, 0, none⟩) (.int .i64 cap) (.inl rfl)).setCell (p := ⟨s, 1, none⟩) (.int .i64 (sumH M)) (.inl rfl)).setCell (p := ⟨s, 2, none⟩) (.map (some (w.heap.size + 2))) (.inl rfl)
  refine ⟨w.heap.size + 2, rfl, ⟨⟨?_, ?_, ?_, fun o => ?_, ?_, ok.keys, ok.ks⟩, ok⟩, kk, by omega⟩
  · exact (cell_set_off (by decide)).trans ((cell_set_off (by decide)).trans (cell_set_same hw.at_.c0))
  · rw [← sumH_perm hp]
    exact (cell_set_off (by decide)).trans (cell_set_same ((cell_set_off (by decide)).trans hw.at_.c1))
  · exact cell_set_same ((cell_set_off (by decide)).trans ((cell_set_off (by decide)).trans hw.at_.c2))
  · rw [World.frozen?_setCell, World.frozen?_setCell, World.frozen?_setCell]; exact hw.at_.fz o
  · refine (hsk.map.congr (CRel.perm hp)).of_heap ?_
    rw [heap_set_ne (by simpa using hn), heap_set_ne (by simpa using hn), heap_set_ne (by simpa using hn)]

theorem MergePost.drew {w X : World} {s cap : Nat} {R : List C} {e : Ending} (h : MergePost w s cap R e X) : MergePost w s cap R e X.drew := by
  obtain ⟨bm, he, hsk, hk, hle⟩ := h
  exact ⟨bm, he, hsk.keep (Keep.refl (fun _ => False) X).drew (fun h => h) (fun h => h), hk.drew, hle⟩

set_option maxRecDepth 100000 in
set_option maxHeartbeats 4000000 in
theorem merge_sk {w : World} {s bm cap t bm' cap' : Nat} {L L' : List C} (h : Sk w s bm cap L) (h' : Sk w t bm' cap' L') (hst : s ≠ t) (hbb : bm ≠ bm') (m : Mrg cap L cap' L') :
    Calls Try.prog 18 #[ptr s, ptr t] w (MergePost w s cap (mergeC cap L cap' L')) := by
  have k1 := (((Keep.refl (fun _ => False) w).alloc (.cells #[ptr s] 25)).alloc (.cells #[ptr t] 25))
  have hs := h.keep k1 (fun h => h) (fun h => h)
  have hs' := h'.keep k1 (fun h => h) (fun h => h)
  obtain ⟨n1, _⟩ := new_cell w (ptr s) 25
  obtain ⟨n2, _⟩ := new_cell (w.alloc (.cells #[ptr s] 25)) (ptr t) 25
  have m1 := ((Keep.refl (fun _ => False) (w.alloc (.cells #[ptr s] 25))).alloc (.cells #[ptr t] 25)).cell n1 (fun h => h)
  rw [World.size_alloc] at n2
  have hsz : ((w.alloc (.cells #[ptr s] 25)).alloc (.cells #[ptr t] 25)).heap.size = w.heap.size + 2 := by simp
  have b1 := h.ok.cap64
  have b2 := h'.ok.cap64
  have b3 := (h.ok.hi0 ⟨#[]⟩)
  have b4 := (h'.ok.hi0 ⟨#[]⟩)
  have b5 : 0 ≤ sumH L := by omega
  have b6 : 0 ≤ sumH L' := by omega
  have h1 : ¬ cap' < cap := by have := m.le; omega
  have h2 : ¬ 1000000000000000 < sumH L := by have := m.s1; omega
  have h3 : ¬ 1000000000000000 - sumH L < sumH L' := by have := m.s2; omega
  have HK := Lib.hid k1
  have H := Lib.hid h
  have H' := Lib.hid h'
  have HM := Lib.hid m
  have HNE := Lib.hid (And.intro hst hbb)
  have HSZ := Lib.hid hsz
  have HW := Lib.hid (And.intro hs hs')
  have hmm := @run_makeMap Try.prog
  clear h h' n1 k1 b3 b4 m hst hbb hsz hs hs'
  go_enter Try.func18, Try.ntmps18
  go_wp2_with fail
  have c0 := HW.out.1.at_.c0
  have c0' := HW.out.2.at_.c0
  have c1 := HW.out.1.at_.c1
  have c1' := HW.out.2.at_.c1
  generalize (w.alloc (.cells #[ptr s] 25)).alloc (.cells #[ptr t] 25) = W at *
  have HB := Lib.hid (And.intro m1 n2)
  go_quiet (fail)
  have kd := (Keep.refl (fun _ => False) W).drewN nq
  have HW1 := Lib.hid (And.intro (HW.out.1.keep kd (fun h => h) (fun h => h)) (HW.out.2.keep kd (fun h => h) (fun h => h)))
  have HK1 := Lib.hid (HK.out.drewN nq)
  have HB1 := Lib.hid (And.intro (kd.cell HB.out.1 (fun h => h)) (kd.cell HB.out.2 (fun h => h)))
  have HSZ1 : Hid ((W.drewN nq).heap.size = w.heap.size + 2) := Lib.hid HSZ.out
  clear kd c0 c0' c1 c1' m1 n2 HW HB HSZ HK
  generalize W.drewN nq = W1 at *
  have c1 := HW1.out.1.at_.c1
  have c1' := HW1.out.2.at_.c1
  have m1 := HB1.out.1
  have n2 := HB1.out.2
  go_wp2_with fail
  go_quiet (fail)
  have kd := (Keep.refl (fun _ => False) W1).drewN nq
  have HW2 := Lib.hid (And.intro (HW1.out.1.keep kd (fun h => h) (fun h => h)) (HW1.out.2.keep kd (fun h => h) (fun h => h)))
  have HK2 := Lib.hid (HK1.out.drewN nq)
  have HB2 := Lib.hid (And.intro (kd.cell HB1.out.1 (fun h => h)) (kd.cell HB1.out.2 (fun h => h)))
  have HSZ2 : Hid ((W1.drewN nq).heap.size = w.heap.size + 2) := Lib.hid HSZ1.out
  clear kd c1 c1' m1 n2 HW1 HB1 HSZ1 HK1
  generalize W1.drewN nq = W2 at *
  have c0 := HW2.out.1.at_.c0
  have m1 := HB2.out.1
  have ka : Keep (fun _ => False) W2 ((W2.alloc (.map #[] 0)).alloc (.cells #[.int .i64 cap, .int .i64 0, .map (some W2.heap.size)] 58)) := ((Keep.refl _ W2).alloc _).alloc _
  have m2 := ka.cell HB2.out.1 (fun h => h)
  have n2 := ka.cell HB2.out.2 (fun h => h)
  clear ka
  have HR0 := Lib.hid (MR.begin (cap := cap) (L := L) (cap' := cap') (L' := L') HK2.out HSZ2.out HB2.out.1 HB2.out.2)
  rw [← HSZ2.out] at HR0
  go_wp2_with fail
  generalize ((W2.alloc (.map #[] 0)).alloc (.cells #[.int .i64 cap, .int .i64 0, .map (some W2.heap.size)] 58)).alloc (.cells #[ptr s, ptr t] 25) = W3 at *
  rw [HSZ2.out]
  clear c0 m1 m2 n2 hmm HW2 HB2 HSZ2 HK2 h1 h2 h3
  go_loopg [55] 2 (fun g1 vi wr => ∃ i : Nat, vi = .int .i64 i ∧ i ≤ 2 ∧ 2 ≤ g1 + i ∧ MR w s t cap L cap' L' (sideS L L' i) wr)
  case atStart => exact ⟨0, rfl, by omega, by omega, HR0.out⟩
  case round =>
    clear HR0
    obtain ⟨i, rfl, hi2, hg1, hr⟩ := hrel
    by_cases hlt : i < 2
    · have hltz : (i : Int) < 2 := by omega
      obtain ⟨q, bq, cq, Lq, hq, hcq, hsub, hnext⟩ : ∃ q bq cq Lq, Sk w q bq cq Lq ∧ wr.cell? ⟨w.heap.size + 4, i, none⟩ = some (ptr q) ∧ (∀ x ∈ Lq, x.key ∈ unionK L L') ∧ ∀ k, sideS L L' (i + 1) k ↔ (sideS L L' i k ∨ k ∈ Lq.map C.key) := by
        have hc : i = 0 ∨ i = 1 := by omega
        rcases hc with rfl | rfl
        · exact ⟨s, bm, cap, L, H.out, hr.a0, fun x hx => mem_unionK.2 (.inl (List.mem_map_of_mem hx)), fun k => by unfold sideS; simp⟩
        · exact ⟨t, bm', cap', L', H'.out, hr.a1, fun x hx => mem_unionK.2 (.inr (List.mem_map_of_mem hx)), fun k => by unfold sideS; simp⟩
      have hqw := hq.keep hr.k (fun h => h) (fun h => h)
      have c2 := hqw.at_.c2
      have hi0 : (0 : Int) ≤ (i : Int) := by omega
      obtain ⟨ob, left, hrun, hrg, hnd, hmem⟩ := hqw.at_.map.range (t := 56) Try.underlying56
      have hrg' := hrg.perm (list_of_rel hq.ok.keys hnd hmem).symm
      have hge : w.heap.size + 5 ≤ wr.heap.size := World.block_lt_of_cell? _ _ hr.a0
      have kal : Keep (fun i => w.heap.size + 5 ≤ i) wr (wr.alloc ob) := (Keep.refl _ wr).alloc ob
      have HR1 := Lib.hid (hr.keep kal)
      have HRG := Lib.hid hrg'
      have HQ := Lib.hid (And.intro hq (And.intro hsub hnext))
      have HLTQ := Lib.hid hq.at_.lt
      have HGE := Lib.hid hge
      clear hr hrg hrg' hnd hmem hq hqw kal hsub hnext hge
      go_wp2_with fail
      generalize wr.alloc ob = W4 at *
      generalize hR : wr.heap.size = r at *
      have HRR := Lib.hid hR
      clear hrun c2 hcq hR
      go_loopg [9] Lq.length (fun g2 _ wr2 => ∃ S l, l.length ≤ g2 ∧ InM w s t cap L cap' L' i bq r Lq S l wr2)
      case atStart => exact ⟨[], Lq, Nat.le_refl _, List.Perm.refl _, HRG.out, HR1.out.congr (fun k => by simp)⟩
      case round =>
        clear HR1 HRG
        obtain ⟨S, l, hg2, pm, rg, hm⟩ := hrel
        have HRG := Lib.hid rg
        have HMR := Lib.hid hm
        have HPM := Lib.hid pm
        rcases rg.next 0 with ⟨h0, hrun⟩ | ⟨k, v, left', w', hp, hR, hrun, hrg', kk, hsz, hen⟩
        · have hl : l = [] := by simpa using h0
          subst hl
          have HN : Hid (MR w s t cap L cap' L' (sideS L L' (i + 1)) wr) := Lib.hid (hm.congr (fun k => by
            rw [List.append_nil] at pm
            rw [HQ.out.2.2 k]
            exact or_congr Iff.rfl ((pm.map C.key).mem_iff)))
          clear rg hm pm h0
          go_wp2_with fail
          go_roundg (2 - (i + 1))
          case rel => exact ⟨i + 1, by go_num, by omega, by omega, HN.out⟩
          case measure => omega
        · obtain ⟨x, hxl, hxe⟩ := List.mem_map.1 (hp.mem_iff.2 (List.mem_cons_self))
          obtain ⟨rfl, rfl⟩ := encC_key hxe
          obtain ⟨X, Y, rfl⟩ := List.append_of_mem hxl
          have hp2 : ((X ++ Y).map encC).Perm left' := by
            have h1 : ((X ++ x :: Y).map encC).Perm (encC x :: (X ++ Y).map encC) := (List.perm_middle).map encC
            have h2 := h1.symm.trans hp
            exact List.Perm.cons_inv h2
          have hrg2 := hrg'.perm hp2.symm
          have hxq : x ∈ Lq := pm.mem_iff.2 (by simp)
          have hxu := HQ.out.2.1 x hxq
          have HXU := Lib.hid hxu
          have hkx : x.key.size ≤ maxLen := HM.out.ks hxu
          have hrge : w.heap.size + 5 ≤ r := HGE.out
          have HM2 := Lib.hid (hm.keep (kk.mono (fun i (e : i = r) => show w.heap.size + 5 ≤ i by omega)))
          have HRG2 := Lib.hid hrg2
          have HKX := Lib.hid hkx
          clear rg hm pm hp hp2 hrg' hrg2 hxl hxe hR kk hxq hxu hkx
          go_wp2_with fail
          with_reducible refine (both_sk (H.out.keep HM2.out.k (fun h => h) (fun h => h)) (H'.out.keep HM2.out.k (fun h => h) (fun h => h)) HM2.out.b1 HM2.out.b2 x.key HKX.out).mono ?_
          rintro e W5 ⟨rfl, k5⟩
          have hrl := HRG2.out.lt
          have HRG5 := Lib.hid (HRG2.out.of_heap (k5.block _ hrl.2.1 (fun h => h)) (k5.block _ hrl.1 (fun h => h)))
          have HM5 := Lib.hid (HM2.out.keep (k5.mono (fun _ h => h.elim)))
          obtain ⟨M, hsk, hj⟩ := HM5.out.out
          have hpart := HM.out.part hsk.keys (hj.mem HM5.out.sn)
          have hbo := HM.out.both x.key
          have hhi : 0 ≤ hiOf M x.key ∧ hiOf M x.key ≤ sumH M := by
            have hnn : ∀ y ∈ M, 0 ≤ y.hi := fun y hy => by
              obtain ⟨h1, h2⟩ := Mrg.join_mem (hj.mem HM5.out.sn y hy)
              have := HM.out.both y.key
              rw [h2]; omega
            unfold hiOf
            cases e : atC M x.key with
            | none => exact ⟨by simp, hpart.1⟩
            | some y => obtain ⟨h1, _⟩ := atC_some e; exact ⟨hnn y h1, sumH_mem hnn h1⟩
          have hput : Calls Try.prog 32 #[ptr (w.heap.size + 2 + 1), .string x.key, bnd (loOf L x.key + loOf L' x.key) (Ytogkkghliogpeaa.ofHi cap L x.key + Ytogkkghliogpeaa.ofHi cap' L' x.key)] W5 (PutPost W5 (w.heap.size + 3) (w.heap.size + 2) cap (sumH M) M (bothC cap L cap' L' x.key)) :=
            put_sk hsk (bothC cap L cap' L' x.key) HKX.out (by show -4611686018427387904 ≤ (bothC cap L cap' L' x.key).hi - hiOf M x.key ∧ (bothC cap L cap' L' x.key).hi - hiOf M x.key ≤ 4611686018427387904; omega) (by omega)
          have HPUT := Lib.hid hput
          have HSK := Lib.hid (And.intro hsk hj)
          clear k5 hsk hj hpart hbo hhi hput hrl
          go_wp2_with fail
          with_reducible refine HPUT.out.mono ?_
          clear HPUT
          rintro e W6 ⟨rfl, hsk6, k6, -⟩
          have HN : Hid (InM w s t cap L cap' L' i bq r Lq (S ++ [x]) (X ++ Y) W6) := Lib.hid (by
            have hlq := HLTQ.out
            refine ⟨perm_step HPM.out, HRG5.out.of_heap (k6.block _ HRG5.out.lt.2.1 (by omega)) (k6.block _ HRG5.out.lt.1 (by omega)), ?_⟩
            have hm5 := HM5.out
            refine ⟨hm5.k.trans' k6 (fun i hi => .inr (by omega)), k6.cell hm5.b1 (by omega), k6.cell hm5.b2 (by omega), k6.cell hm5.a0 (by omega), k6.cell hm5.a1 (by omega), ?_, putC M (bothC cap L cap' L' x.key), ?_, ?_⟩
            · rintro k (hk | hk)
              · exact hm5.sn k (.inl hk)
              · rw [List.map_append, List.mem_append] at hk
                rcases hk with hk | hk
                · exact hm5.sn k (.inr hk)
                · simp only [List.map_cons, List.map_nil, List.mem_singleton] at hk
                  rw [hk]; exact HXU.out
            · rw [sumH_put HSK.out.1.keys]; exact hsk6
            · intro y
              rw [HSK.out.2.put x.key y]
              constructor
              · rintro ⟨k, (hk | hk) | rfl, e⟩
                · exact ⟨k, .inl hk, e⟩
                · exact ⟨k, .inr (by rw [List.map_append]; exact List.mem_append_left _ hk), e⟩
                · exact ⟨_, .inr (by simp), e⟩
              · rintro ⟨k, hk | hk, e⟩
                · exact ⟨k, .inl (.inl hk), e⟩
                · rw [List.map_append, List.mem_append] at hk
                  rcases hk with hk | hk
                  · exact ⟨k, .inl (.inr hk), e⟩
                  · simp only [List.map_cons, List.map_nil, List.mem_singleton] at hk
                    exact ⟨k, .inr hk, e⟩)
          clear hsk6 k6
          go_wp2_with fail
          go_roundg (X ++ Y).length
          case rel => exact ⟨S ++ [x], X ++ Y, Nat.le_refl _, HN.out⟩
          case measure => simp at hg2 ⊢; omega
    · obtain rfl : i = 2 := by omega
      have hltz : ¬ ((2 : Nat) : Int) < 2 := by omega
      obtain ⟨M, hsk, hj⟩ := hr.out
      have hpm : M.Perm (joinC cap L cap' L') := by
        refine perm_of_mem (nodup_of_keys hsk.keys) (nodup_of_keys HM.out.join_keys) (fun x => ?_)
        rw [hj x, (Mrg.join_perm cap L cap' L').mem_iff, List.mem_map]
        constructor
        · rintro ⟨k, hk, rfl⟩; exact ⟨k, hr.sn k hk, rfl⟩
        · rintro ⟨k, hk, rfl⟩
          refine ⟨k, ?_, rfl⟩
          rcases mem_unionK.1 hk with h | h
          · exact .inl ⟨by omega, h⟩
          · exact .inr ⟨by omega, h⟩
      have hsk2 := hsk.perm hpm
      rw [sumH_perm hpm] at hsk2
      have HO : Hid (Calls Try.prog 34 #[ptr (w.heap.size + 2 + 1)] wr (SortPost wr (joinC cap L cap' L'))) := Lib.hid (ordered_sk hsk2 HM.out.join_sorted HM.out.join_len)
      have HSK := Lib.hid hsk2
      have HMR := Lib.hid hr
      clear hr hsk hj hpm hsk2
      go_wp2_with fail
      with_reducible refine HO.out.mono ?_
      clear HO
      rintro e W7 ⟨v, rfl, ⟨a, c, rfl, hcc, hc⟩, k7⟩
      rw [List.length_map] at hcc ⊢
      have HC := Lib.hid hc
      have HK7 := Lib.hid (HMR.out.k.trans k7)
      have HSK7 := Lib.hid (HSK.out.keep k7 (fun h => h) (fun h => h))
      have HB7 := Lib.hid (k7.cell HMR.out.b1 (fun h => h))
      have HG7 : Hid (w.heap.size + 5 ≤ wr.heap.size) := Lib.hid (World.block_lt_of_cell? _ _ HMR.out.a0)
      obtain ⟨m, hm⟩ : ∃ m, m = (joinC cap L cap' L').length := ⟨_, rfl⟩
      rw [← hm] at hcc ⊢
      have HMM := Lib.hid hm
      have hm12 : m ≤ 12 := by rw [hm]; exact HM.out.join_len
      have mb1 := HB7.out
      have c0 := (H.out.keep HK7.out (fun h => h) (fun h => h)).at_.c0
      clear hc k7 hm
      by_cases hgt : cap < m
      · have hgtz : (cap : Int) < (m : Int) := by omega
        obtain ⟨x0, hx0⟩ : ∃ x, (joinC cap L cap' L')[0]? = some x := ⟨_, List.getElem?_eq_getElem (by rw [← HMM.out]; omega)⟩
        obtain ⟨b, rfl, hb, _⟩ := HC.out 0 x0.key (by rw [List.getElem?_map, hx0]; rfl)
        have hcell : ∀ (j : Nat) (x : C), (joinC cap L cap' L')[j]? = some x → W7.cell? ⟨b, j, none⟩ = some (.string x.key) := fun j x hj => by
          obtain ⟨b', e, _, h⟩ := HC.out j x.key (by rw [List.getElem?_map, hj]; rfl)
          cases e; exact h
        have HCE := Lib.hid hcell
        have HBB := Lib.hid (show w.heap.size + 5 ≤ b by have := HG7.out; omega)
        have hcc2 : cap ≠ c := by omega
        have hcc3 : cap ≤ c := by omega
        have hcc4 : (m : Int) ≤ (c : Int) := by omega
        obtain ⟨d, rfl⟩ : ∃ d, m = cap + d := ⟨m - cap, by omega⟩
        have hdd : decide ((cap : Int) < (cap : Int) + (d : Int)) = true := by simp; omega
        have HDR : Hid (DR w s cap (joinC cap L cap' L') b 0 W7) := Lib.hid ⟨HK7.out, HB7.out, HCE.out, _, HSK7.out, by rw [Nat.add_zero, List.take_append_drop]⟩
        clear hcell hx0 hb
        go_wp2_with fail
        clear mb1 c0
        go_loopg [91] d (fun g3 vj wr3 => ∃ j : Nat, vj = .int .i64 j ∧ j ≤ d ∧ d ≤ g3 + j ∧ DR w s cap (joinC cap L cap' L') b j wr3)
        case atStart => exact ⟨0, rfl, by omega, by omega, HDR.out⟩
        case round =>
          clear HDR
          obtain ⟨j, rfl, hjd, hg3, hdr⟩ := hrel
          have HDR := Lib.hid hdr
          clear hdr
          by_cases hlt3 : j < d
          · have hltz3 : (j : Int) < (d : Int) := by omega
            have hj0 : (0 : Int) ≤ (j : Int) := by omega
            obtain ⟨x, hx⟩ : ∃ x, (joinC cap L cap' L')[cap + j]? = some x := ⟨_, List.getElem?_eq_getElem (by rw [← HMM.out]; omega)⟩
            have hcl := HDR.out.ce _ _ hx
            have HX := Lib.hid hx
            clear hx
            go_wp2_with fail
            obtain ⟨M, hsk, hpm⟩ := HDR.out.out
            have hsubM : ∀ y ∈ M, y ∈ joinC cap L cap' L' := fun y hy => by
              rcases List.mem_append.1 (hpm.mem_iff.1 hy) with h | h
              · exact List.mem_of_mem_take h
              · exact List.mem_of_mem_drop h
            have hpart := HM.out.part hsk.keys hsubM
            obtain ⟨hxM, hdel⟩ := drop_step HM.out.join_keys HX.out hpm hsk.keys
            have hxj := Mrg.join_mem (hsubM x hxM)
            have hxb := HM.out.both x.key
            rw [← hxj.2] at hxb
            have hhx := hiOf_mem hsk.keys hxM
            have hdrop : Calls Try.prog 30 #[ptr (w.heap.size + 2 + 1), .string x.key] wr fun e w' => e = .returned (.tuple #[]) ∧ SkAt w' (w.heap.size + 3) (w.heap.size + 2) cap (sumH M - hiOf M x.key) (delC M x.key) ∧ Keep (fun k => k = w.heap.size + 3 ∨ k = w.heap.size + 2) wr w' :=
              drop_sk hsk x.key (HM.out.ks hxj.1) (by omega) (by omega)
            with_reducible refine hdrop.mono ?_
            clear hdrop
            rintro e W8 ⟨rfl, hsk8, k8⟩
            have HN : Hid (DR w s cap (joinC cap L cap' L') b (j + 1) W8) := Lib.hid ⟨HDR.out.k.trans' k8 (fun i hi => .inr (by omega)), k8.cell HDR.out.b1 (by omega), fun i y hy => k8.cell (HDR.out.ce i y hy) (by have := HBB.out; omega), delC M x.key, by rw [sumH_del hsk.keys]; exact hsk8, hdel⟩
            clear hsk hpm hsubM hpart hxM hdel hxj hxb hhx hsk8 k8 hcl
            go_wp2_with fail
            go_roundg (d - (j + 1))
            case rel => exact ⟨j + 1, by go_num, by omega, by omega, HN.out⟩
            case measure => omega
          · have hltz3 : ¬ (j : Int) < (d : Int) := by omega
            obtain ⟨M, hsk, hpm⟩ := HDR.out.out
            have hpm2 : M.Perm (mergeC cap L cap' L') := by
              rw [List.drop_eq_nil_of_le (by have := HMM.out; omega), List.append_nil] at hpm
              exact hpm
            have HKE := Lib.hid HDR.out.k
            have HSE := Lib.hid (And.intro hsk trivial)
            have HBE := Lib.hid HDR.out.b1
            have HFIN := Lib.hid (merge_end H.out HDR.out.k hsk hpm2 (mergeC_ok HM.out)).drew
            clear hsk hpm hpm2
            go_wp2_with fail
            have hs2 := H.out.keep HKE.out (fun h => h) (fun h => h)
            have e0 : wr.cell? ⟨s, 0, none⟩ = some (.int .i64 cap) := hs2.at_.c0
            have e1 : wr.cell? ⟨s, 1, none⟩ = some (.int .i64 (sumH L)) := hs2.at_.c1
            have e2 : wr.cell? ⟨s, 2, none⟩ = some (.map (some bm)) := hs2.at_.c2
            have f0 : wr.frozen? ⟨s, 0, none⟩ = false := hs2.at_.fz 0
            have f1 : wr.frozen? ⟨s, 1, none⟩ = false := hs2.at_.fz 1
            have f2 : wr.frozen? ⟨s, 2, none⟩ = false := hs2.at_.fz 2
            have o0 : wr.drew.cell? ⟨w.heap.size + 2 + 1, 0, none⟩ = some (.int .i64 cap) := HSE.out.1.c0
            have o1 : wr.drew.cell? ⟨w.heap.size + 2 + 1, 1, none⟩ = some (.int .i64 (sumH M)) := HSE.out.1.c1
            have o2 : wr.drew.cell? ⟨w.heap.size + 2 + 1, 2, none⟩ = some (.map (some (w.heap.size + 2))) := HSE.out.1.c2
            have mb : wr.drew.cell? ⟨w.heap.size, 0, none⟩ = some (ptr s) := HBE.out
            clear hs2
            refine wp_region_still_tail 5 (by kernel_rfl) (by kernel_rfl) ?_
            simp only [List.take_succ_cons, List.take_zero, List.drop_succ_cons, List.drop_zero]
            change wpStill _ _ wr.drew _ _ _
            iterate 5 still_step
            refine wpStill_nil ?_
            go_wp2_with fail
            go_ret
            exact HFIN.out
      · have hgtz : ¬ (cap : Int) < (m : Int) := by omega
        have HKE := HK7
        have HSE := Lib.hid (And.intro HSK7.out trivial)
        have HBE := HB7
        obtain ⟨M, hM⟩ : ∃ M, M = joinC cap L cap' L' := ⟨_, rfl⟩
        rw [← hM] at HSE
        have HFIN := Lib.hid (merge_end H.out HK7.out HSK7.out (show (joinC cap L cap' L').Perm (mergeC cap L cap' L') by unfold mergeC; rw [List.take_of_length_le (by have := HMM.out; omega)]) (mergeC_ok HM.out)).drew
        rw [← hM] at HFIN
        clear hM
        go_wp2_with fail
        clear mb1 c0
        have hs2 := H.out.keep HKE.out (fun h => h) (fun h => h)
        have e0 : W7.cell? ⟨s, 0, none⟩ = some (.int .i64 cap) := hs2.at_.c0
        have e1 : W7.cell? ⟨s, 1, none⟩ = some (.int .i64 (sumH L)) := hs2.at_.c1
        have e2 : W7.cell? ⟨s, 2, none⟩ = some (.map (some bm)) := hs2.at_.c2
        have f0 : W7.frozen? ⟨s, 0, none⟩ = false := hs2.at_.fz 0
        have f1 : W7.frozen? ⟨s, 1, none⟩ = false := hs2.at_.fz 1
        have f2 : W7.frozen? ⟨s, 2, none⟩ = false := hs2.at_.fz 2
        have o0 : W7.drew.cell? ⟨w.heap.size + 2 + 1, 0, none⟩ = some (.int .i64 cap) := HSE.out.1.c0
        have o1 : W7.drew.cell? ⟨w.heap.size + 2 + 1, 1, none⟩ = some (.int .i64 (sumH M)) := HSE.out.1.c1
        have o2 : W7.drew.cell? ⟨w.heap.size + 2 + 1, 2, none⟩ = some (.map (some (w.heap.size + 2))) := HSE.out.1.c2
        have mb : W7.drew.cell? ⟨w.heap.size, 0, none⟩ = some (ptr s) := HBE.out
        clear hs2
        refine wp_region_still_tail 5 (by kernel_rfl) (by kernel_rfl) ?_
        simp only [List.take_succ_cons, List.take_zero, List.drop_succ_cons, List.drop_zero]
        change wpStill _ _ W7.drew _ _ _
        iterate 5 still_step
        refine wpStill_nil ?_
        go_wp2_with fail
        go_ret
        exact HFIN.out
end Go.Proofs.Ytogkkghliogpeaa
