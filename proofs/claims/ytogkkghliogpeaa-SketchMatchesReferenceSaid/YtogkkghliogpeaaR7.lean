/-
  The reference's joined.
-/
import Derived.Test.YtogkkghliogpeaaR4
namespace Go.Proofs.Ytogkkghliogpeaa
open Go.RowKit Go.Shelf

/-- A counter in a block of its own. -/
structure Blk (W : World) (z : Nat) (k : ByteArray) (n e : Int) : Prop where
  c0 : W.cell? ⟨z, 0, none⟩ = some (.string k)
  c1 : W.cell? ⟨z, 1, none⟩ = some (.int .i64 n)
  c2 : W.cell? ⟨z, 2, none⟩ = some (.int .i64 e)
  f : ∀ o, W.frozen? ⟨z, o, none⟩ = false
theorem Blk.new (W : World) (k : ByteArray) (n e : Int) : Blk (W.alloc (.cells #[.string k, .int .i64 n, .int .i64 e] 37)) W.heap.size k n e := by
  obtain ⟨d0, d1, d2, df⟩ := three_cell W (.string k) (.int .i64 n) (.int .i64 e) 37
  exact ⟨d0, d1, d2, df⟩
theorem Blk.lt {W : World} {z : Nat} {k : ByteArray} {n e : Int} (h : Blk W z k n e) : z < W.heap.size := World.block_lt_of_cell? _ _ h.c0
theorem Blk.keep {W W' : World} {z : Nat} {k : ByteArray} {n e : Int} {A : Nat → Prop} (h : Blk W z k n e) (kp : Keep A W W') (hA : ¬ A z) : Blk W' z k n e :=
  ⟨kp.cell h.c0 hA, kp.cell h.c1 hA, kp.cell h.c2 hA, fun o => (kp.frozen h.lt hA o).trans (h.f o)⟩
theorem Blk.kept {W W' : World} {z : Nat} {k : ByteArray} {n e : Int} (h : Blk W z k n e) (kp : Keep (fun _ => False) W W') : Blk W' z k n e := h.keep kp (fun h => h)
theorem Blk.set1 {W : World} {z : Nat} {k : ByteArray} {n e : Int} (h : Blk W z k n e) (m : Int) : Blk (W.setCell ⟨z, 1, none⟩ (.int .i64 m)) z k m e :=
  ⟨(cell_set_off (by decide)).trans h.c0, cell_set_same h.c1, (cell_set_off (by decide)).trans h.c2, fun o => by rw [World.frozen?_setCell]; exact h.f o⟩
theorem Blk.other {W : World} {z z' : Nat} {k : ByteArray} {n e : Int} (h : Blk W z k n e) (hz : z ≠ z') (p : Nat) (v : Value) : Blk (W.setCell ⟨z', p, none⟩ v) z k n e :=
  h.keep ((Keep.refl (fun k => k = z') W).setCell (p := ⟨z', p, none⟩) v (.inl rfl)) hz

theorem getV_form {cap : Nat} {L : List C} (ok : OkL cap L) (key : ByteArray) : ∃ k n e f, getV L key = .tuple #[ctrV k n e, .bool f] ∧ n - e = loOf L key ∧ (f = true → n = Ytogkkghliogpeaa.ofHi cap L key) ∧ (f = false → leastC cap L = Ytogkkghliogpeaa.ofHi cap L key) ∧ 0 ≤ e ∧ e ≤ n ∧ n ≤ sumH L := by
  have h0 := ok.hi0 key
  unfold getV loOf Ytogkkghliogpeaa.ofHi
  cases e : atC L key with
  | none => exact ⟨⟨#[]⟩, 0, 0, false, rfl, by simp, (fun h => nomatch h), fun _ => rfl, by omega, by omega, by omega⟩
  | some x =>
    have hx := (atC_some e).1
    have := ok.pos x hx
    have := ok.mem hx
    exact ⟨key, x.hi, x.hi - x.lo, true, rfl, by simp only []; omega, fun _ => rfl, (fun h => nomatch h), by omega, by omega, by omega⟩

set_option maxRecDepth 100000 in
set_option maxHeartbeats 4000000 in
theorem joined_sk {w : World} {r r' : Nat} {v v' : Value} {cap cap' : Nat} {L L' : List C} (h : Rf w r v cap (L.map ctrOf)) (ok : OkL cap L) (h' : Rf w r' v' cap' (L'.map ctrOf)) (ok' : OkL cap' L') (key : ByteArray) :
    Calls Try.prog 39 #[ptr r, ptr r', .string key] w fun e w' => e = .returned (ctrV key (bothC cap L cap' L' key).hi ((bothC cap L cap' L' key).hi - (bothC cap L cap' L' key).lo)) ∧ Keep (fun _ => False) w w' := by
  obtain ⟨ka, na, ea, fa, hga, hla, hta, hfa, ha0, ha1, ha2⟩ := getV_form ok key
  obtain ⟨kb, nb, eb, fb, hgb, hlb, htb, hfb, hb0, hb1, hb2⟩ := getV_form ok' key
  have hsa := ok.sum
  have hsb := ok'.sum
  have hla1 := ok.least
  have hlb1 := ok'.least
  have H := Lib.hid h
  have H' := Lib.hid h'
  have HOK := Lib.hid ok
  have HOK' := Lib.hid ok'
  have k0 : Keep (fun _ => False) w (w.alloc (.cells #[.string ⟨#[]⟩, .int .i64 0, .int .i64 0] 37)) := (Keep.refl _ w).alloc _
  have HG1 := Lib.hid (rget_sk (h.kept k0) ok key)
  rw [hga] at HG1
  have HZ0 := Lib.hid (And.intro k0 (Blk.new w ⟨#[]⟩ 0 0))
  have HG2 : Hid (∀ W, Keep (fun _ => False) w W → Calls Try.prog 27 #[ptr r', .string key] W fun e w' => e = .returned (.tuple #[ctrV kb nb eb, .bool fb]) ∧ Keep (fun _ => False) W w') := Lib.hid (fun W k => by
    have := rget_sk (h'.kept k) ok' key
    rwa [hgb] at this)
  have HBO : Hid (bothC cap L cap' L' key = ⟨key, na - ea + (nb - eb), Ytogkkghliogpeaa.ofHi cap L key + Ytogkkghliogpeaa.ofHi cap' L' key⟩) := Lib.hid (by unfold bothC; rw [← hla, ← hlb])
  have HTA := Lib.hid (And.intro hta hfa)
  have HTB := Lib.hid (And.intro htb hfb)
  have hlow : na - ea + nb - eb = na - ea + (nb - eb) := by omega
  have HLOW := Lib.hid hlow
  clear h h' ok ok' k0 hga hla hta hfa hgb hlb htb hfb hlow
  generalize hz0 : w.heap.size = z0 at HZ0
  have HZS := Lib.hid hz0
  clear hz0
  go_enter Try.func39, Try.ntmps39
  go_wp2_with fail
  rw [HZS.out]
  with_reducible refine HG1.out.mono ?_
  rintro e W1 ⟨rfl, k1⟩
  have HK1 := Lib.hid (HZ0.out.1.trans k1)
  have HB0 := Lib.hid (HZ0.out.2.kept k1)
  clear k1 HG1 HZ0
  go_wp2_with fail
  have hk2 : Keep (fun _ => False) W1 (W1.alloc (.cells #[.string ka, .int .i64 na, .int .i64 ea] 37)) := (Keep.refl _ W1).alloc _
  have HK2 := Lib.hid (HK1.out.trans hk2)
  have HB2 := Lib.hid (And.intro (HB0.out.kept hk2) (Blk.new W1 ka na ea))
  have HN1 := Lib.hid HB0.out.lt
  clear hk2 HB0
  generalize W1.alloc (.cells #[.string ka, .int .i64 na, .int .i64 ea] 37) = W2 at *
  generalize hz1 : W1.heap.size = z1 at *
  clear hz1
  with_reducible refine (HG2.out _ HK2.out).mono ?_
  rintro e W3 ⟨rfl, k3⟩
  have HK3 := Lib.hid (HK2.out.trans k3)
  have HB3 := Lib.hid (And.intro (HB2.out.1.kept k3) (HB2.out.2.kept k3))
  clear k3 HG2 HB2
  have hk4 : Keep (fun _ => False) W3 (W3.alloc (.cells #[.string kb, .int .i64 nb, .int .i64 eb] 37)) := (Keep.refl _ W3).alloc _
  have HK4 := Lib.hid (HK3.out.trans hk4)
  have HB4 := Lib.hid (And.intro (HB3.out.1.kept hk4) (And.intro (HB3.out.2.kept hk4) (Blk.new W3 kb nb eb)))
  have HN2 := Lib.hid (And.intro HB3.out.1.lt HB3.out.2.lt)
  have x1 := HB4.out.2.1.c1
  have x2 := HB4.out.2.1.c2
  clear hk4 HB3
  cases fa with
  | false =>
    cases fb with
    | false =>
      go_wp2_with fail
      generalize W3.alloc (.cells #[.string kb, .int .i64 nb, .int .i64 eb] 37) = W4 at *
      generalize hz2 : W3.heap.size = z2 at *
      clear hz2 x1 x2
      with_reducible refine (rleast_sk (H.out.kept HK4.out) HOK.out).mono ?_
      rintro e W5 ⟨rfl, k5⟩
      have HK5 := Lib.hid (HK4.out.trans k5)
      have HB5 := Lib.hid (And.intro (HB4.out.1.kept k5) (And.intro (HB4.out.2.1.kept k5) (HB4.out.2.2.kept k5)))
      clear k5 HK4 HB4
      have y1 := HB5.out.2.1.c1
      have yf := HB5.out.2.1.f 1
      have HK6 : Hid (Keep (fun _ => False) w (W5.setCell ⟨z1, 1, none⟩ (.int .i64 (leastC cap L)))) := Lib.hid (HK5.out.setCell (p := ⟨z1, 1, none⟩) _ (.inr (show w.heap.size ≤ z1 by have := HN1.out; have := HZS.out; omega)))
      have HB6 := Lib.hid (And.intro (HB5.out.1.other (show z0 ≠ z1 by have := HN1.out; omega) 1 (.int .i64 (leastC cap L))) (And.intro (HB5.out.2.1.set1 (leastC cap L)) (HB5.out.2.2.other (show z2 ≠ z1 by have := HN2.out.2; omega) 1 (.int .i64 (leastC cap L)))))
      have x1 := HB6.out.2.1.c1
      have x2 := HB6.out.2.2.c1
      clear HK5 HB5
      go_wp2_with fail
      generalize W5.setCell ⟨z1, 1, none⟩ (.int .i64 (leastC cap L)) = W6 at *
      clear y1 yf
      clear x1 x2
      with_reducible refine (rleast_sk (H'.out.kept HK6.out) HOK'.out).mono ?_
      rintro e W7 ⟨rfl, k7⟩
      have HK7 := Lib.hid (HK6.out.trans k7)
      have HB7 := Lib.hid (And.intro (HB6.out.1.kept k7) (And.intro (HB6.out.2.1.kept k7) (HB6.out.2.2.kept k7)))
      clear k7 HK6 HB6
      have y1 := HB7.out.2.2.c1
      have yf := HB7.out.2.2.f 1
      have HK8 : Hid (Keep (fun _ => False) w (W7.setCell ⟨z2, 1, none⟩ (.int .i64 (leastC cap' L')))) := Lib.hid (HK7.out.setCell (p := ⟨z2, 1, none⟩) _ (.inr (show w.heap.size ≤ z2 by have := HN1.out; have := HN2.out; have := HZS.out; omega)))
      have HB8 := Lib.hid (And.intro (HB7.out.1.other (show z0 ≠ z2 by have := HN2.out; omega) 1 (.int .i64 (leastC cap' L'))) (And.intro (HB7.out.2.1.other (show z1 ≠ z2 by have := HN2.out.2; omega) 1 (.int .i64 (leastC cap' L'))) (HB7.out.2.2.set1 (leastC cap' L'))))
      have x1 := HB8.out.2.1.c1
      have x2 := HB8.out.2.2.c1
      have d0 := HB8.out.1.c0
      have d1 := HB8.out.1.c1
      have d2 := HB8.out.1.c2
      have f0 := HB8.out.1.f 0
      have f1 := HB8.out.1.f 1
      have f2 := HB8.out.1.f 2
      clear HK7 HB7
      go_wp2_with fail
      obtain ⟨g0, g1, g2⟩ := set3 d0 d1 d2 (.string key) (.int .i64 (leastC cap L + leastC cap' L')) (.int .i64 (leastC cap L + leastC cap' L' - (na - ea + nb - eb)))
      have hbo : bothC cap L cap' L' key = ⟨key, na - ea + nb - eb, leastC cap L + leastC cap' L'⟩ := by rw [HBO.out, ← HTA.out.2 (by trivial), ← HTB.out.2 (by trivial), HLOW.out]
      refine bodyPost_ret (v := ctrV key (leastC cap L + leastC cap' L') (leastC cap L + leastC cap' L' - (na - ea + nb - eb))) (by simp [results, Try.results39, go_sem, g0, g1, g2]) rfl ⟨by rw [hbo], ?_⟩
      exact ((HK8.out.setCell _ (.inr (Nat.le_of_eq HZS.out))).setCell _ (.inr (Nat.le_of_eq HZS.out))).setCell _ (.inr (Nat.le_of_eq HZS.out))
    | true =>
      go_wp2_with fail
      generalize W3.alloc (.cells #[.string kb, .int .i64 nb, .int .i64 eb] 37) = W4 at *
      generalize hz2 : W3.heap.size = z2 at *
      clear hz2 x1 x2
      with_reducible refine (rleast_sk (H.out.kept HK4.out) HOK.out).mono ?_
      rintro e W5 ⟨rfl, k5⟩
      have HK5 := Lib.hid (HK4.out.trans k5)
      have HB5 := Lib.hid (And.intro (HB4.out.1.kept k5) (And.intro (HB4.out.2.1.kept k5) (HB4.out.2.2.kept k5)))
      clear k5 HK4 HB4
      have y1 := HB5.out.2.1.c1
      have yf := HB5.out.2.1.f 1
      have HK6 : Hid (Keep (fun _ => False) w (W5.setCell ⟨z1, 1, none⟩ (.int .i64 (leastC cap L)))) := Lib.hid (HK5.out.setCell (p := ⟨z1, 1, none⟩) _ (.inr (show w.heap.size ≤ z1 by have := HN1.out; have := HZS.out; omega)))
      have HB6 := Lib.hid (And.intro (HB5.out.1.other (show z0 ≠ z1 by have := HN1.out; omega) 1 (.int .i64 (leastC cap L))) (And.intro (HB5.out.2.1.set1 (leastC cap L)) (HB5.out.2.2.other (show z2 ≠ z1 by have := HN2.out.2; omega) 1 (.int .i64 (leastC cap L)))))
      have x1 := HB6.out.2.1.c1
      have x2 := HB6.out.2.2.c1
      clear HK5 HB5
      have d0 := HB6.out.1.c0
      have d1 := HB6.out.1.c1
      have d2 := HB6.out.1.c2
      have f0 := HB6.out.1.f 0
      have f1 := HB6.out.1.f 1
      have f2 := HB6.out.1.f 2
      go_wp2_with fail
      generalize W5.setCell ⟨z1, 1, none⟩ (.int .i64 (leastC cap L)) = W6 at *
      clear y1 yf
      obtain ⟨g0, g1, g2⟩ := set3 d0 d1 d2 (.string key) (.int .i64 (leastC cap L + nb)) (.int .i64 (leastC cap L + nb - (na - ea + nb - eb)))
      have hbo : bothC cap L cap' L' key = ⟨key, na - ea + nb - eb, leastC cap L + nb⟩ := by rw [HBO.out, ← HTA.out.2 (by trivial), ← HTB.out.1 (by trivial), HLOW.out]
      refine bodyPost_ret (v := ctrV key (leastC cap L + nb) (leastC cap L + nb - (na - ea + nb - eb))) (by simp [results, Try.results39, go_sem, g0, g1, g2]) rfl ⟨by rw [hbo], ?_⟩
      exact ((HK6.out.setCell _ (.inr (Nat.le_of_eq HZS.out))).setCell _ (.inr (Nat.le_of_eq HZS.out))).setCell _ (.inr (Nat.le_of_eq HZS.out))
  | true =>
    cases fb with
    | false =>
      go_wp2_with fail
      generalize W3.alloc (.cells #[.string kb, .int .i64 nb, .int .i64 eb] 37) = W4 at *
      generalize hz2 : W3.heap.size = z2 at *
      clear hz2 x1 x2
      with_reducible refine (rleast_sk (H'.out.kept HK4.out) HOK'.out).mono ?_
      rintro e W7 ⟨rfl, k7⟩
      have HK7 := Lib.hid (HK4.out.trans k7)
      have HB7 := Lib.hid (And.intro (HB4.out.1.kept k7) (And.intro (HB4.out.2.1.kept k7) (HB4.out.2.2.kept k7)))
      clear k7 HK4 HB4
      have y1 := HB7.out.2.2.c1
      have yf := HB7.out.2.2.f 1
      have HK8 : Hid (Keep (fun _ => False) w (W7.setCell ⟨z2, 1, none⟩ (.int .i64 (leastC cap' L')))) := Lib.hid (HK7.out.setCell (p := ⟨z2, 1, none⟩) _ (.inr (show w.heap.size ≤ z2 by have := HN1.out; have := HN2.out; have := HZS.out; omega)))
      have HB8 := Lib.hid (And.intro (HB7.out.1.other (show z0 ≠ z2 by have := HN2.out; omega) 1 (.int .i64 (leastC cap' L'))) (And.intro (HB7.out.2.1.other (show z1 ≠ z2 by have := HN2.out.2; omega) 1 (.int .i64 (leastC cap' L'))) (HB7.out.2.2.set1 (leastC cap' L'))))
      have x1 := HB8.out.2.1.c1
      have x2 := HB8.out.2.2.c1
      have d0 := HB8.out.1.c0
      have d1 := HB8.out.1.c1
      have d2 := HB8.out.1.c2
      have f0 := HB8.out.1.f 0
      have f1 := HB8.out.1.f 1
      have f2 := HB8.out.1.f 2
      clear HK7 HB7
      go_wp2_with fail
      obtain ⟨g0, g1, g2⟩ := set3 d0 d1 d2 (.string key) (.int .i64 (na + leastC cap' L')) (.int .i64 (na + leastC cap' L' - (na - ea + nb - eb)))
      have hbo : bothC cap L cap' L' key = ⟨key, na - ea + nb - eb, na + leastC cap' L'⟩ := by rw [HBO.out, ← HTA.out.1 (by trivial), ← HTB.out.2 (by trivial), HLOW.out]
      refine bodyPost_ret (v := ctrV key (na + leastC cap' L') (na + leastC cap' L' - (na - ea + nb - eb))) (by simp [results, Try.results39, go_sem, g0, g1, g2]) rfl ⟨by rw [hbo], ?_⟩
      exact ((HK8.out.setCell _ (.inr (Nat.le_of_eq HZS.out))).setCell _ (.inr (Nat.le_of_eq HZS.out))).setCell _ (.inr (Nat.le_of_eq HZS.out))
    | true =>
      have d0 := HB4.out.1.c0
      have d1 := HB4.out.1.c1
      have d2 := HB4.out.1.c2
      have f0 := HB4.out.1.f 0
      have f1 := HB4.out.1.f 1
      have f2 := HB4.out.1.f 2
      go_wp2_with fail
      generalize W3.alloc (.cells #[.string kb, .int .i64 nb, .int .i64 eb] 37) = W4 at *
      generalize hz2 : W3.heap.size = z2 at *
      clear hz2 x1 x2
      obtain ⟨g0, g1, g2⟩ := set3 d0 d1 d2 (.string key) (.int .i64 (na + nb)) (.int .i64 (na + nb - (na - ea + nb - eb)))
      have hbo : bothC cap L cap' L' key = ⟨key, na - ea + nb - eb, na + nb⟩ := by rw [HBO.out, ← HTA.out.1 (by trivial), ← HTB.out.1 (by trivial), HLOW.out]
      refine bodyPost_ret (v := ctrV key (na + nb) (na + nb - (na - ea + nb - eb))) (by simp [results, Try.results39, go_sem, g0, g1, g2]) rfl ⟨by rw [hbo], ?_⟩
      exact ((HK4.out.setCell _ (.inr (Nat.le_of_eq HZS.out))).setCell _ (.inr (Nat.le_of_eq HZS.out))).setCell _ (.inr (Nat.le_of_eq HZS.out))
end Go.Proofs.Ytogkkghliogpeaa
