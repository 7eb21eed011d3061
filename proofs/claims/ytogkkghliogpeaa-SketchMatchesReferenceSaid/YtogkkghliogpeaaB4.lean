/-
  drop, least, bounds.add.
-/
import Derived.Test.YtogkkghliogpeaaB3
namespace Go.Proofs.Ytogkkghliogpeaa
open Go.RowKit

set_option maxRecDepth 100000 in
set_option maxHeartbeats 2000000 in
theorem drop_sk {w : World} {s bm : Nat} {cap tot : Int} {L : List C} (h : SkAt w s bm cap tot L) (key : ByteArray) (hk : key.size ≤ maxLen) (h1 : 0 ≤ hiOf L key ∧ hiOf L key ≤ 4611686018427387904) (h2 : 0 ≤ tot ∧ tot ≤ 4611686018427387903) :
    Calls Try.prog 30 #[ptr s, .string key] w fun e w' => e = .returned (.tuple #[]) ∧ SkAt w' s bm cap (tot - hiOf L key) (delC L key) ∧ Keep (fun k => k = s ∨ k = bm) w w' := by
  have c1' : w.drew.cell? ⟨s, 1, none⟩ = some (.int .i64 tot) := h.c1
  have c2' : w.drew.cell? ⟨s, 2, none⟩ = some (.map (some bm)) := h.c2
  have fz := h.fz 1
  have lk := look_one (w := w.drew) (h.map.of_heap rfl) hk
  have fd := field_hi (loOf L key) (hiOf L key) w.drew
  have H := Lib.hid h
  clear h
  go_enter Try.func30, Try.ntmps30
  go_wp2_with fail
  refine wp_region_still_tail 14 (by kernel_rfl) (by kernel_rfl) ?_
  simp only [List.take_succ_cons, List.take_zero, List.drop_succ_cons, List.drop_zero]
  change wpStill _ _ w.drew _ _ _
  iterate 14 still_step
  refine wpStill_nil ?_
  have hne := H.out.ne
  have kset : Keep (fun k => k = s) w (w.setCell ⟨s, 1, none⟩ (.int .i64 (tot - hiOf L key))).drew := ((Keep.refl (fun k => k = s) w).setCell _ (.inl rfl)).drew
  have g0 : (w.setCell ⟨s, 1, none⟩ (.int .i64 (tot - hiOf L key))).drew.cell? ⟨s, 0, none⟩ = some (.int .i64 cap) := (cell_set_off (by decide)).trans H.out.c0
  have g1 : (w.setCell ⟨s, 1, none⟩ (.int .i64 (tot - hiOf L key))).drew.cell? ⟨s, 1, none⟩ = some (.int .i64 (tot - hiOf L key)) := cell_set_same H.out.c1
  have g2 : (w.setCell ⟨s, 1, none⟩ (.int .i64 (tot - hiOf L key))).drew.cell? ⟨s, 2, none⟩ = some (.map (some bm)) := (cell_set_off (by decide)).trans H.out.c2
  have gf : ∀ o, (w.setCell ⟨s, 1, none⟩ (.int .i64 (tot - hiOf L key))).drew.frozen? ⟨s, o, none⟩ = false := fun o => (World.frozen?_setCell _ _ _ _).trans (H.out.fz o)
  have gm : MapRel Try.prog 9 (w.setCell ⟨s, 1, none⟩ (.int .i64 (tot - hiOf L key))).drew bm (CRel L) := H.out.map.of_heap (heap_set_ne (Ne.symm hne))
  obtain ⟨es', ck', hdel, hm2⟩ := gm.delete (t := 56) (et := 60) strKeyed Try.underlying56 (keyStr hk) 0
  have HG := Lib.hid (And.intro g0 (And.intro g1 (And.intro gf (And.intro kset (And.intro hm2 hne)))))
  clear g0 g1 gf gm kset hm2 hne
  go_wp2_with fail
  go_end0
  obtain ⟨g0, g1, gf, kset, hm2, hne⟩ := HG.out
  generalize (w.setCell ⟨s, 1, none⟩ (.int .i64 (tot - hiOf L key))).drew = V at *
  have kput := (Keep.refl (fun k => k = bm) V).putObj (b := bm) (.map es' ck') (.inl rfl)
  exact ⟨rfl, ⟨kput.cell g0 hne, kput.cell g1 hne, kput.cell g2 hne, fun o => (frozen_put hne).trans (gf o), hm2.congr (fun k v => CRel.del k v), delC_keys H.out.keys _, fun y hy => H.out.ks y (mem_delC.1 hy).1⟩, (kset.mono (fun _ h => .inl h)).trans (kput.mono (fun _ h => .inr h))⟩

/-- The last key. -/
def lastK (L : List C) : ByteArray := match L.getLast? with | none => ⟨#[]⟩ | some x => x.key

theorem last_key {w : World} {s bm : Nat} {cap tot : Int} {L : List C} (h : SkAt w s bm cap tot L) (hs : L.Pairwise BefC) (hL : L ≠ []) :
    Calls Try.prog 31 #[ptr s] w fun e w' => e = .returned (.string (lastK L)) ∧ Keep (fun _ => False) w w' :=
  (last_sk h).mono fun e w' ⟨out, he, hk, hl, _⟩ => by
    obtain ⟨x, hx, hxk⟩ := isLast_eq h.keys hs (hl hL)
    refine ⟨?_, hk⟩
    unfold lastK
    rw [he, hx, ← hxk]

/-- A sketch, its counters in their order. -/
structure Sk (w : World) (s bm cap : Nat) (L : List C) : Prop where
  at_ : SkAt w s bm cap (sumH L) L
  ok : OkL cap L

theorem Sk.keep {w w' : World} {s bm cap : Nat} {L : List C} {A : Nat → Prop} (h : Sk w s bm cap L) (k : Keep A w w') (h1 : ¬ A s) (h2 : ¬ A bm) : Sk w' s bm cap L := ⟨h.at_.keep k h1 h2, h.ok⟩

theorem last_size {cap : Nat} {L : List C} (h : OkL cap L) : (lastK L).size ≤ maxLen := by
  unfold lastK
  cases e : L.getLast? with
  | none => simp [maxLen, ByteArray.size]
  | some x => exact h.ks x (List.mem_of_getLast? e)
theorem hiOf_last {cap : Nat} {L : List C} (h : OkL cap L) (hl : ¬ L.length < cap) : hiOf L (lastK L) = leastC cap L := by
  have hc := h.cap1
  unfold lastK leastC
  rw [if_neg hl]
  cases e : L.getLast? with
  | none =>
    rw [List.getLast?_eq_none_iff] at e
    rw [e] at hl
    simp at hl
    omega
  | some x => simp only []; exact hiOf_mem h.keys (List.mem_of_getLast? e)

set_option maxRecDepth 100000 in
set_option maxHeartbeats 2000000 in
theorem least_sk {w : World} {s bm cap : Nat} {L : List C} (h : Sk w s bm cap L) :
    Calls Try.prog 29 #[ptr s] w fun e w' => e = .returned (.int .i64 (leastC cap L)) ∧ Keep (fun _ => False) w w' := by
  have hlen : ∀ (n : Nat) ty, (Builtin.len_ #[56] ty #[.map (some bm)]).run Try.prog (w.drewN n) = .ok (.int .i64 L.length) (w.drewN n) := fun n ty => (h.at_.keep ((Keep.refl (fun _ => False) w).drewN n) (fun h => h) (fun h => h)).len ty
  have c0 := h.at_.c0
  have c2 := h.at_.c2
  have H := Lib.hid h
  have h1 := h.ok.cap64
  have h2 := h.ok.len
  clear h
  by_cases hl : L.length < cap
  · have hd : decide ((L.length : Int) < (cap : Int)) = true := by simp; omega
    have HC : Hid (leastC cap L = 0) := Lib.hid (by unfold leastC; rw [if_pos hl])
    go_enter Try.func29, Try.ntmps29
    go_wp2_with fail
    go_quiet (fail)
    go_wp2_with fail
    go_ret
    exact ⟨by rw [HC.out]; rfl, (Keep.refl _ _).drewN _⟩
  · have hd : decide ((L.length : Int) < (cap : Int)) = false := by simp; omega
    have HC : Hid (hiOf L (lastK L) = leastC cap L) := Lib.hid (hiOf_last H.out.ok hl)
    have HNE : Hid (L ≠ []) := Lib.hid (fun e => by rw [e] at hl; have := H.out.ok.cap1; simp at hl; omega)
    go_enter Try.func29, Try.ntmps29
    go_wp2_with fail
    go_quiet (fail)
    go_wp2_with fail
    have H1 := Lib.hid (H.out.keep ((Keep.refl (fun _ => False) w).drewN nq) (fun h => h) (fun h => h))
    have HK := Lib.hid ((Keep.refl (fun _ => False) w).drewN nq)
    generalize w.drewN nq = W at *
    have c2' : ∀ p : KW W, p.val.cell? ⟨s, 2, none⟩ = some (.map (some bm)) := fun p => p.k.cell H1.out.at_.c2 (fun h => h)
    have lk : ∀ p : KW W, (Instr.lookup 56 (.map (some bm)) (.string (lastK L)) false).run Try.prog p.val = .ok (bnd (loOf L (lastK L)) (hiOf L (lastK L))) p.val := fun p => look_one (H1.out.keep p.k (fun h => h) (fun h => h)).at_.map (last_size H1.out.ok)
    have fd : ∀ p : KW W, (Instr.field 60 (bnd (loOf L (lastK L)) (hiOf L (lastK L))) 1).run Try.prog p.val = .ok (.int .i64 (hiOf L (lastK L))) p.val := fun p => field_hi _ _ _
    clear c0 c2 hlen
    refine wp_region_quiet_kept (by kernel_rfl) (by kernel_rfl) ?_
    repeat (quiet_step ((go_at_call 31; refine Calls.kept_of (last_key (H1.out.keep (KW.k _) (fun h => h) (fun h => h)).at_ H.out.ok.sorted HNE.out))))
    refine wpQuiet_nil ?_
    rintro _ ⟨p, rfl⟩
    go_wp2_with fail
    go_ret
    exact ⟨by rw [HC.out]; rfl, HK.out.trans p.k⟩
end Go.Proofs.Ytogkkghliogpeaa
