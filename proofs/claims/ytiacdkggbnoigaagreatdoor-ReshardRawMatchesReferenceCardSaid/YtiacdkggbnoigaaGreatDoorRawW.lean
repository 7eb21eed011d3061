/-
  ReshardRawMatchesReference: the walk.
-/
import Derived.Test.YtiacdkggbnoigaaGreatDoorM4
import Derived.Test.YtiacdkggbnoigaaGreatDoorM5
namespace Go.Proofs.YtiacdkggbnoigaaGreatDoor
open Go.RowKit Go.Shelf

theorem Rng.form {W : World} {v : Value} {ep : Int} {l : List Mb} {ow : List Int} (h : Rng W v ep l ow) : ∃ a c b d, v = .agg #[.int .i64 ep, .slice a l.length c, .slice b ow.length d] := by
  obtain ⟨vm, vo, rfl, h1, h2⟩ := h.at_
  obtain ⟨a, c, b, off, rfl, hr⟩ := h1.at_
  obtain ⟨a', c', b', off', rfl, hr'⟩ := h2.at_
  exact ⟨a, c, a', c', rfl⟩
theorem Mvs.cut {W : World} {a : Option Addr} {n c : Nat} {l : List Mv} (h : Mvs W (.slice a n c) l) {q : Nat} (hq : q ≤ n) : Mvs W (.slice a q c) (l.take q) ∧ (l.take q).length = q ∧ n ≤ c := by
  obtain ⟨h1, h2, h3⟩ := Mbs.cut h hq
  unfold Mvs
  rw [List.map_take]
  rw [← List.map_take] at h2
  exact ⟨h1, by rwa [List.length_map] at h2, h3⟩
theorem Mbs.bds {W : World} {v : Value} {l : List Mb} (h : Mbs W v l) : ∀ m ∈ l, I64 m.node ∧ I64 m.region ∧ I64 m.weight := h.bd
/-- Two rings in a literal. -/
theorem rings_new (W : World) (x0 x1 x2 y0 y1 y2 : Value) (t : TypeId) : Box3 (W.alloc (.cells #[x0, x1, x2, y0, y1, y2] t)) W.heap.size x0 x1 x2 ∧ (W.alloc (.cells #[x0, x1, x2, y0, y1, y2] t)).cell? ⟨W.heap.size, 3, none⟩ = some y0 ∧ (W.alloc (.cells #[x0, x1, x2, y0, y1, y2] t)).cell? ⟨W.heap.size, 4, none⟩ = some y1 ∧ (W.alloc (.cells #[x0, x1, x2, y0, y1, y2] t)).cell? ⟨W.heap.size, 5, none⟩ = some y2 := by
  refine ⟨⟨?_, ?_, ?_, fun o => ?_⟩, ?_, ?_, ?_⟩ <;> simp
theorem Rng.its' {W : World} {ep : Int} {v b : Value} {l : List Mb} {ow : List Int} (h : Rng W (.agg #[.int .i64 ep, v, b]) ep l ow) : Its W b ow := by
  obtain ⟨vm, vo, e, h1, h2⟩ := h.at_
  cases e
  exact h2
set_option maxRecDepth 100000 in
set_option maxHeartbeats 16000000 in
theorem raw13_law (v : Value) (ep : Int) (lr0 : List Mb) (or0 : List Int) (vl : Value) (ll : List Mb) (vm : Value) (ms : List Mv) (vx : Value) (xs : List Int) (a b : Int) (w : World) (hr : Rng w v ep lr0 or0) (hl : Mbs w vl ll) (hm : Mvs w vm ms) (hx : Its w vx xs) (ha : I64 a) (hb : I64 b) (hT : Tab w) :
    Calls Tryz.prog 3 #[v, vl, vm, vx, .int .i64 a, .int .i64 b] w fun e w' => e = .returned (.bool true) ∧ Keep (fun _ => False) w w' := by
  have HEP : Hid (I64 ep) := Lib.hid hr.bd
  obtain ⟨ra, rc, rb, rd, rfl⟩ := hr.form
  have HR := Lib.hid hr
  have HX := Lib.hid hx
  have HT := Lib.hid hT
  have HVX := Lib.hid (mem13_vl xs)
  have HMBD : Hid (∀ m ∈ ms, I64 m.slot ∧ I64 m.frm ∧ I64 m.to_) := Lib.hid (fun m h => by
    have := Mbs.bds hm (mvMb m) (List.mem_map.2 ⟨m, h, rfl⟩)
    exact this)
  obtain ⟨la, lc, hvl⟩ : ∃ a c, vl = .slice a ll.length c := by obtain ⟨a, c, b, off, h, _⟩ := hl.at_; exact ⟨_, _, h⟩
  subst hvl
  obtain ⟨ma, mc, hvm⟩ := hm.form
  subst hvm
  obtain ⟨nl, hnl⟩ : ∃ n, min ll.length 3 = n := ⟨_, rfl⟩
  obtain ⟨nm, hnm⟩ : ∃ n, min ms.length 20 = n := ⟨_, rfl⟩
  obtain ⟨hn, hn2, hn3⟩ := hl.cut (q := nl) (by omega)
  obtain ⟨hv, hv2, hv3⟩ := hm.cut (q := nm) (by omega)
  have HN := Lib.hid hn
  have HM : Hid (Mvs w (.slice ma nm mc) (ms.take nm)) := Lib.hid hv
  have HMB2 : Hid (∀ m ∈ ms.take nm, I64 m.slot ∧ I64 m.frm ∧ I64 m.to_) := Lib.hid (fun m h => HMBD.out m (List.mem_of_mem_take h))
  have HNL := Lib.hid hn2
  generalize ll.take nl = l3 at *
  generalize ms.take nm = m20 at *
  obtain ⟨l0, hl0⟩ : ∃ n, ll.length = n := ⟨_, rfl⟩
  obtain ⟨m0, hm0⟩ : ∃ n, ms.length = n := ⟨_, rfl⟩
  rw [hl0] at hnl hn3 ⊢
  rw [hm0] at hnm hv3 ⊢
  have en : min (l0 : Int) 3 = (nl : Int) := by omega
  have em : min (m0 : Int) 20 = (nm : Int) := by omega
  have hn0 : (0 : Int) ≤ (nl : Int) := by omega
  have hnc : (nl : Int) ≤ (lc : Int) := by omega
  have hm0' : (0 : Int) ≤ (nm : Int) := by omega
  have hmc : (nm : Int) ≤ (mc : Int) := by omega
  have hnc' : nl ≤ lc := by omega
  have hmc' : nm ≤ mc := by omega
  clear hl0 hm0 hnl hnm hn3 hv3 hn hv hn2 hv2 hr hl hm hx hT HMBD ha hb
  obtain ⟨nlr, hnlr⟩ : ∃ n, lr0.length = n := ⟨_, rfl⟩
  obtain ⟨nor, hnor⟩ : ∃ n, or0.length = n := ⟨_, rfl⟩
  rw [hnlr, hnor] at HR ⊢
  clear hnlr hnor
  have HB6 := Lib.hid (Box3.new w (.int .i64 ep) (.slice ra nlr rc) (.slice rb nor rd) 25)
  have KV : Hid (Keep (fun _ => False) w (w.alloc (.cells #[.int .i64 ep, .slice ra nlr rc, .slice rb nor rd] 25))) := Lib.hid ((Keep.refl _ w).alloc _)
  go_enter Tryz.func3, Tryz.ntmps3
  go_upto_region 1 with (fail)
  generalize w.alloc (.cells #[.int .i64 ep, .slice ra nlr rc, .slice rb nor rd] 25) = W1 at *
  generalize hz6 : w.heap.size = z6 at HB6 ⊢
  have HZ6 := Lib.hid hz6
  clear hz6
  go_wp2_with fail
  with_reducible refine (sane13_any W1 (HT.out.kept KV.out)).mono ?_
  rintro e W2 ⟨rfl, k⟩
  replace KV := Lib.hid (KV.out.trans k)
  replace HB6 := Lib.hid (HB6.out.kept k)
  clear k
  obtain ⟨x0, x1, x2, xf⟩ := HB6.out
  go_wp2_with fail
  clear x0 x1 x2 xf
  with_reducible refine (few_any _ ep lr0 or0 W2 (HR.out.kept KV.out)).mono ?_
  rintro e W3 ⟨fa, fc, fb, fd, rfl, hrf, k⟩
  have HLF : Hid ((lr0.take 25).length ≤ 25 ∧ (or0.take 66).length ≤ 66) := Lib.hid ⟨by rw [List.length_take]; omega, by rw [List.length_take]; omega⟩
  generalize lr0.take 25 = lf at *
  generalize or0.take 66 = of at *
  obtain ⟨nf, hnf⟩ : ∃ n, lf.length = n := ⟨_, rfl⟩
  obtain ⟨nof, hnof⟩ : ∃ n, of.length = n := ⟨_, rfl⟩
  rw [hnf, hnof] at hrf ⊢
  clear hnf hnof
  have ka : Keep (fun _ => False) W3 (W3.alloc (.cells #[.int .i64 ep, .slice fa nf fc, .slice fb nof fd] 25)) := (Keep.refl _ W3).alloc _
  have HB14 := Lib.hid (Box3.new W3 (.int .i64 ep) (.slice fa nf fc) (.slice fb nof fd) 25)
  have HRF := Lib.hid (hrf.kept ka)
  replace KV := Lib.hid (KV.out.trans (k.trans ka))
  replace HB6 := Lib.hid (HB6.out.kept (k.trans ka))
  clear hrf k ka
  go_upto_region 3 with (fail)
  generalize W3.alloc (.cells #[.int .i64 ep, .slice fa nf fc, .slice fb nof fd] 25) = V3 at *
  generalize W3.heap.size = z14 at *
  go_wp2_with fail
  with_reducible refine (members_mbs _ xs (HX.out.kept KV.out)).mono ?_
  rintro e W4 ⟨a2, c2, rfl, hmm, k⟩
  replace KV := Lib.hid (KV.out.trans k)
  replace HB6 := Lib.hid (HB6.out.kept k)
  replace HB14 := Lib.hid (HB14.out.kept k)
  replace HRF := Lib.hid (HRF.out.kept k)
  have HMM := Lib.hid hmm
  clear hmm k
  generalize mem13 xs = lx at *
  obtain ⟨nx, hnx⟩ : ∃ n, lx.length = n := ⟨_, rfl⟩
  have HNX := Lib.hid hnx
  rw [hnx] at HMM ⊢
  have hnew := (new_ok 7 _ lx W4 HMM.out HVX.out.1 (HT.out.kept KV.out) (by decide)).mono (fun _ _ h => h.use HVX.out.1 (by unfold I64; decide))
  have HOX := Lib.hid (ok_new PN QS HVX.out.1 (ep := 7) (by decide))
  clear hnx
  go_wp2_with fail
  with_reducible refine hnew.mono ?_
  clear hnew
  rintro e W5 ⟨am, cm, ao, co, rfl, hrs, k⟩
  rw [HNX.out] at hrs ⊢
  generalize ownersL PN QS lx = ox at *
  have ka : Keep (fun _ => False) W5 (W5.alloc (.cells #[.int .i64 7, .slice am nx cm, .slice ao 64 co] 25)) := (Keep.refl _ W5).alloc _
  have HB15 := Lib.hid (Box3.new W5 (.int .i64 7) (.slice am nx cm) (.slice ao 64 co) 25)
  have HZ5 : Hid (w.heap.size ≤ W5.heap.size) := Lib.hid (by have := KV.out.size; have := k.size; omega)
  have HZB : Hid (z14 < W5.heap.size ∧ z6 < W5.heap.size) := Lib.hid ⟨(HB14.out.kept k).lt, (HB6.out.kept k).lt⟩
  have HRF5 := Lib.hid (HRF.out.kept k)
  have HRS5 := Lib.hid hrs
  have KA5 := Lib.hid ka
  replace KV := Lib.hid (KV.out.trans (k.trans ka))
  replace HB6 := Lib.hid (HB6.out.kept (k.trans ka))
  replace HB14 := Lib.hid (HB14.out.kept (k.trans ka))
  clear hrs k ka HMM HRF
  go_upto_region 6 with (fail)
  generalize W5.alloc (.cells #[.int .i64 7, .slice am nx cm, .slice ao 64 co] 25) = V5 at *
  generalize hz15 : W5.heap.size = z15 at HB15 HZB HZ5 ⊢
  have HZ15 := Lib.hid hz15
  clear hz15
  have hne : z6 ≠ z15 := by have := HZB.out; omega
  obtain ⟨x0, x1, x2, xf⟩ := HB6.out
  obtain ⟨y0, y1, y2, yf⟩ := HB15.out
  go_upto_region 7 with (fail)
  clear x0 x1 x2 xf y0 y1 y2 yf hne
  have kq : Keep (fun j => j = z15) V5 (V5.setCell ⟨z15, 0, none⟩ (.int .i64 ep)) := (Keep.refl (fun j => j = z15) V5).setCell (p := ⟨z15, 0, none⟩) _ (.inl rfl)
  replace HB15 := Lib.hid (HB15.out.set0 (.int .i64 ep))
  replace HB14 := Lib.hid (HB14.out.keep kq (by have := HZB.out; omega))
  have K56 := Lib.hid (KA5.out.trans' kq (fun j e => .inr (by have h5 : j = z15 := e; have := HZ15.out; omega)))
  have HRF := Lib.hid (HRF5.out.kept K56.out)
  have HRS2 : Hid (Rng (V5.setCell ⟨z15, 0, none⟩ (.int .i64 ep)) (.agg #[.int .i64 ep, .slice am nx cm, .slice ao 64 co]) ep lx ox) := Lib.hid (by
    have h := HRS5.out.kept K56.out
    obtain ⟨-, vm, vo, e, h1, h2⟩ := h
    cases e
    exact ⟨HEP.out, _, _, rfl, h1, h2⟩)
  replace KV := Lib.hid (KV.out.trans' kq (fun j e => .inr (by have h5 : j = z15 := e; have := HZ5.out; omega)))
  clear kq HB6 HRS5 HRF5 KA5 K56 HZ5 HZ6 HZ15
  generalize V5.setCell ⟨z15, 0, none⟩ (.int .i64 ep) = V6 at *
  go_upto_region 9 with (fail)
  clear en em hn0 hnc hm0' hmc hnc' hmc'
  obtain ⟨x0, x1, x2, xf⟩ := HB14.out
  obtain ⟨y0, y1, y2, yf⟩ := HB15.out
  go_upto_region 10 with (fail)
  clear x0 x1 x2 xf y0 y1 y2 yf
  have ka : Keep (fun _ => False) V6 (V6.alloc (.cells #[.int .i64 ep, .slice fa nf fc, .slice fb nof fd, .int .i64 ep, .slice am nx cm, .slice ao 64 co] 25)) := (Keep.refl _ V6).alloc _
  have HLS := Lib.hid (rings_new V6 (.int .i64 ep) (.slice fa nf fc) (.slice fb nof fd) (.int .i64 ep) (.slice am nx cm) (.slice ao 64 co) 25)
  replace KV := Lib.hid (KV.out.trans ka)
  replace HB15 := Lib.hid (HB15.out.kept ka)
  replace HRF := Lib.hid (HRF.out.kept ka)
  replace HRS2 := Lib.hid (HRS2.out.kept ka)
  clear ka HB14
  generalize V6.alloc (.cells #[.int .i64 ep, .slice fa nf fc, .slice fb nof fd, .int .i64 ep, .slice am nx cm, .slice ao 64 co] 25) = W9 at *
  generalize V6.heap.size = zs at *
  have HCEL : Hid (∀ k : Nat, k < 2 → ∃ (am : Option Addr) (nm cm : Nat) (ao : Option Addr) (no co : Nat) (lk : List Mb) (ok : List Int), (W9.cell? ⟨zs, k * 3, none⟩ = some (.int .i64 ep) ∧ W9.cell? ⟨zs, k * 3 + 1, none⟩ = some (.slice am nm cm) ∧ W9.cell? ⟨zs, k * 3 + 2, none⟩ = some (.slice ao no co)) ∧ Rng W9 (.agg #[.int .i64 ep, .slice am nm cm, .slice ao no co]) ep lk ok ∧ lk.length ≤ 25 ∧ ok.length ≤ 66) := Lib.hid (fun k hk => by
    obtain ⟨⟨g0, g1, g2, -⟩, g3, g4, g5⟩ := HLS.out
    rcases Nat.lt_or_ge k 1 with h | h
    · obtain rfl : k = 0 := by omega
      exact ⟨fa, nf, fc, fb, nof, fd, lf, of, ⟨g0, g1, g2⟩, HRF.out, HLF.out.1, HLF.out.2⟩
    · obtain rfl : k = 1 := by omega
      exact ⟨am, nx, cm, ao, 64, co, lx, ox, ⟨g3, g4, g5⟩, HRS2.out, by have := HVX.out.2; omega, by rw [HOX.out.2.2.2.1]; decide⟩)
  clear HLS HRF HLF
  go_loopg [65] 2 (fun gh v65 wr => ∃ k : Nat, gh + k = 2 ∧ v65 = .int .i64 k ∧ Keep (fun _ => False) W9 wr)
  case atStart => exact ⟨0, by omega, rfl, Keep.refl _ _⟩
  case round =>
    obtain ⟨k, hk, rfl, hkeep⟩ := hrel
    have HKR := Lib.hid hkeep
    clear hkeep
    by_cases hlt : k < 2
    · obtain ⟨ya, yn, yc, yb, yo, yd, lk, ok, hcell, hrk, hlk, hok⟩ := HCEL.out k hlt
      have HLK := Lib.hid (And.intro hlk hok)
      have c0 := HKR.out.cell hcell.1 (fun h => h)
      have c1 := HKR.out.cell hcell.2.1 (fun h => h)
      have c2 := HKR.out.cell hcell.2.2 (fun h => h)
      have hkz : (k : Int) < 2 := by omega
      have hk0 : (0 : Int) ≤ (k : Int) := by omega
      have HRY0 := Lib.hid (hrk.kept HKR.out)
      clear hcell hlk hok hrk
      go_upto_region 12 with (fail)
      clear c0 c1 c2
      have ka : Keep (fun _ => False) wr (wr.alloc (.cells #[.int .i64 ep, .slice ya yn yc, .slice yb yo yd] 25)) := (Keep.refl _ wr).alloc _
      have HB20 := Lib.hid (Box3.new wr (.int .i64 ep) (.slice ya yn yc) (.slice yb yo yd) 25)
      have HRY := Lib.hid (HRY0.out.kept ka)
      have K9 := Lib.hid (HKR.out.trans ka)
      clear ka HRY0
      generalize wr.alloc (.cells #[.int .i64 ep, .slice ya yn yc, .slice yb yo yd] 25) = X0 at *
      generalize wr.heap.size = z20 at *
      obtain ⟨EA, LA, OA, errA, nlA, noA, hokA, htwA⟩ := two_change ep lk l3 ok
      have HOKA := Lib.hid hokA
      have HTWA := Lib.hid htwA
      clear hokA htwA
      obtain ⟨x0, x1, x2, xf⟩ := HB20.out
      go_wp2_with fail
      clear x0 x1 x2 xf
      with_reducible refine (HTWA.out _ _ X0 HRY.out (HN.out.kept (KV.out.trans K9.out)) (HT.out.kept (KV.out.trans K9.out))).1.mono ?_
      rintro e Y21 ⟨_, rfl, ⟨m21, c21, o21, d21, rfl, hm, ho⟩, kk⟩
      have ka : Keep (fun _ => False) Y21 (Y21.alloc (.cells #[.int .i64 EA, .slice m21 nlA c21, .slice o21 noA d21] 25)) := (Keep.refl _ Y21).alloc _
      have HB21 := Lib.hid (Box3.new Y21 (.int .i64 EA) (.slice m21 nlA c21) (.slice o21 noA d21) 25)
      have HR21 := Lib.hid ((raw_rng HOKA.out hm ho).kept ka)
      replace kk := kk.trans ka
      replace HB20 := Lib.hid (HB20.out.kept kk)
      replace HRY := Lib.hid (HRY.out.kept kk)
      replace K9 := Lib.hid (K9.out.trans kk)
      clear ka kk hm ho
      go_upto_region 13 with (fail)
      generalize Y21.alloc (.cells #[.int .i64 EA, .slice m21 nlA c21, .slice o21 noA d21] 25) = X21 at *
      generalize Y21.heap.size = z21 at *
      obtain ⟨x0, x1, x2, xf⟩ := HB20.out
      go_wp2_with fail
      clear x0 x1 x2 xf
      with_reducible refine (HTWA.out _ _ X21 HRY.out (HN.out.kept (KV.out.trans K9.out)) (HT.out.kept (KV.out.trans K9.out))).2.mono ?_
      rintro e Y23 ⟨_, rfl, ⟨m23, c23, o23, d23, rfl, hm, ho⟩, kk⟩
      have ka : Keep (fun _ => False) Y23 (Y23.alloc (.cells #[.int .i64 EA, .slice m23 nlA c23, .slice o23 noA d23] 25)) := (Keep.refl _ Y23).alloc _
      have HB23 := Lib.hid (Box3.new Y23 (.int .i64 EA) (.slice m23 nlA c23) (.slice o23 noA d23) 25)
      have HR23 := Lib.hid ((raw_rng HOKA.out hm ho).kept ka)
      replace kk := kk.trans ka
      replace HB20 := Lib.hid (HB20.out.kept kk)
      replace HRY := Lib.hid (HRY.out.kept kk)
      replace HB21 := Lib.hid (HB21.out.kept kk)
      replace HR21 := Lib.hid (HR21.out.kept kk)
      replace K9 := Lib.hid (K9.out.trans kk)
      clear ka kk hm ho
      go_upto_region 14 with (fail)
      generalize Y23.alloc (.cells #[.int .i64 EA, .slice m23 nlA c23, .slice o23 noA d23] 25) = X23 at *
      generalize Y23.heap.size = z23 at *
      obtain ⟨EB, LB, OB, errB, nlB, noB, hokB, htwB⟩ := two_replace ep lk ok a b (by have := HLK.out; omega)
      have HOKB := Lib.hid hokB
      have HTWB := Lib.hid htwB
      clear hokB htwB
      obtain ⟨x0, x1, x2, xf⟩ := HB20.out
      go_wp2_with fail
      clear x0 x1 x2 xf
      with_reducible refine (HTWB.out _ X23 HRY.out (HT.out.kept (KV.out.trans K9.out))).1.mono ?_
      rintro e Y25 ⟨_, rfl, ⟨m25, c25, o25, d25, rfl, hm, ho⟩, kk⟩
      have ka : Keep (fun _ => False) Y25 (Y25.alloc (.cells #[.int .i64 EB, .slice m25 nlB c25, .slice o25 noB d25] 25)) := (Keep.refl _ Y25).alloc _
      have HB25 := Lib.hid (Box3.new Y25 (.int .i64 EB) (.slice m25 nlB c25) (.slice o25 noB d25) 25)
      have HR25 := Lib.hid ((raw_rng HOKB.out hm ho).kept ka)
      replace kk := kk.trans ka
      replace HB20 := Lib.hid (HB20.out.kept kk)
      replace HRY := Lib.hid (HRY.out.kept kk)
      replace HB21 := Lib.hid (HB21.out.kept kk)
      replace HR21 := Lib.hid (HR21.out.kept kk)
      replace HB23 := Lib.hid (HB23.out.kept kk)
      replace HR23 := Lib.hid (HR23.out.kept kk)
      replace K9 := Lib.hid (K9.out.trans kk)
      clear ka kk hm ho
      go_upto_region 15 with (fail)
      generalize Y25.alloc (.cells #[.int .i64 EB, .slice m25 nlB c25, .slice o25 noB d25] 25) = X25 at *
      generalize Y25.heap.size = z25 at *
      obtain ⟨x0, x1, x2, xf⟩ := HB20.out
      go_wp2_with fail
      clear x0 x1 x2 xf
      with_reducible refine (HTWB.out _ X25 HRY.out (HT.out.kept (KV.out.trans K9.out))).2.mono ?_
      rintro e Y27 ⟨_, rfl, ⟨m27, c27, o27, d27, rfl, hm, ho⟩, kk⟩
      have ka : Keep (fun _ => False) Y27 (Y27.alloc (.cells #[.int .i64 EB, .slice m27 nlB c27, .slice o27 noB d27] 25)) := (Keep.refl _ Y27).alloc _
      have HB27 := Lib.hid (Box3.new Y27 (.int .i64 EB) (.slice m27 nlB c27) (.slice o27 noB d27) 25)
      have HR27 := Lib.hid ((raw_rng HOKB.out hm ho).kept ka)
      replace kk := kk.trans ka
      replace HB20 := Lib.hid (HB20.out.kept kk)
      replace HRY := Lib.hid (HRY.out.kept kk)
      replace HB21 := Lib.hid (HB21.out.kept kk)
      replace HR21 := Lib.hid (HR21.out.kept kk)
      replace HB23 := Lib.hid (HB23.out.kept kk)
      replace HR23 := Lib.hid (HR23.out.kept kk)
      replace HB25 := Lib.hid (HB25.out.kept kk)
      replace HR25 := Lib.hid (HR25.out.kept kk)
      replace K9 := Lib.hid (K9.out.trans kk)
      clear ka kk hm ho
      go_upto_region 16 with (fail)
      generalize Y27.alloc (.cells #[.int .i64 EB, .slice m27 nlB c27, .slice o27 noB d27] 25) = X27 at *
      generalize Y27.heap.size = z27 at *
      obtain ⟨EC, LC, OC, errC, nlC, noC, hokC, htwC⟩ := two_leave ep lk ok a (by have := HLK.out; omega)
      have HOKC := Lib.hid hokC
      have HTWC := Lib.hid htwC
      clear hokC htwC
      obtain ⟨x0, x1, x2, xf⟩ := HB20.out
      go_wp2_with fail
      clear x0 x1 x2 xf
      with_reducible refine (HTWC.out _ X27 HRY.out (HT.out.kept (KV.out.trans K9.out))).1.mono ?_
      rintro e Y29 ⟨_, rfl, ⟨m29, c29, o29, d29, rfl, hm, ho⟩, kk⟩
      have ka : Keep (fun _ => False) Y29 (Y29.alloc (.cells #[.int .i64 EC, .slice m29 nlC c29, .slice o29 noC d29] 25)) := (Keep.refl _ Y29).alloc _
      have HB29 := Lib.hid (Box3.new Y29 (.int .i64 EC) (.slice m29 nlC c29) (.slice o29 noC d29) 25)
      have HR29 := Lib.hid ((raw_rng HOKC.out hm ho).kept ka)
      replace kk := kk.trans ka
      replace HB20 := Lib.hid (HB20.out.kept kk)
      replace HRY := Lib.hid (HRY.out.kept kk)
      replace HB21 := Lib.hid (HB21.out.kept kk)
      replace HR21 := Lib.hid (HR21.out.kept kk)
      replace HB23 := Lib.hid (HB23.out.kept kk)
      replace HR23 := Lib.hid (HR23.out.kept kk)
      replace HB25 := Lib.hid (HB25.out.kept kk)
      replace HR25 := Lib.hid (HR25.out.kept kk)
      replace HB27 := Lib.hid (HB27.out.kept kk)
      replace HR27 := Lib.hid (HR27.out.kept kk)
      replace K9 := Lib.hid (K9.out.trans kk)
      clear ka kk hm ho
      go_upto_region 17 with (fail)
      generalize Y29.alloc (.cells #[.int .i64 EC, .slice m29 nlC c29, .slice o29 noC d29] 25) = X29 at *
      generalize Y29.heap.size = z29 at *
      obtain ⟨x0, x1, x2, xf⟩ := HB20.out
      go_wp2_with fail
      clear x0 x1 x2 xf
      with_reducible refine (HTWC.out _ X29 HRY.out (HT.out.kept (KV.out.trans K9.out))).2.mono ?_
      rintro e Y31 ⟨_, rfl, ⟨m31, c31, o31, d31, rfl, hm, ho⟩, kk⟩
      have ka : Keep (fun _ => False) Y31 (Y31.alloc (.cells #[.int .i64 EC, .slice m31 nlC c31, .slice o31 noC d31] 25)) := (Keep.refl _ Y31).alloc _
      have HB31 := Lib.hid (Box3.new Y31 (.int .i64 EC) (.slice m31 nlC c31) (.slice o31 noC d31) 25)
      have HR31 := Lib.hid ((raw_rng HOKC.out hm ho).kept ka)
      replace kk := kk.trans ka
      replace HB20 := Lib.hid (HB20.out.kept kk)
      replace HRY := Lib.hid (HRY.out.kept kk)
      replace HB21 := Lib.hid (HB21.out.kept kk)
      replace HR21 := Lib.hid (HR21.out.kept kk)
      replace HB23 := Lib.hid (HB23.out.kept kk)
      replace HR23 := Lib.hid (HR23.out.kept kk)
      replace HB25 := Lib.hid (HB25.out.kept kk)
      replace HR25 := Lib.hid (HR25.out.kept kk)
      replace HB27 := Lib.hid (HB27.out.kept kk)
      replace HR27 := Lib.hid (HR27.out.kept kk)
      replace HB29 := Lib.hid (HB29.out.kept kk)
      replace HR29 := Lib.hid (HR29.out.kept kk)
      replace K9 := Lib.hid (K9.out.trans kk)
      clear ka kk hm ho
      go_upto_region 18 with (fail)
      generalize Y31.alloc (.cells #[.int .i64 EC, .slice m31 nlC c31, .slice o31 noC d31] 25) = X31 at *
      generalize Y31.heap.size = z31 at *
      obtain ⟨x0, x1, x2, xf⟩ := HB21.out
      obtain ⟨y0, y1, y2, yf⟩ := HB23.out
      go_wp2_with fail
      clear x0 x1 x2 xf y0 y1 y2 yf
      with_reducible refine (same_true HR21.out HR23.out).mono ?_
      rintro e S0 ⟨rfl, kk⟩
      replace HB20 := Lib.hid (HB20.out.kept kk)
      replace HRY := Lib.hid (HRY.out.kept kk)
      replace HB21 := Lib.hid (HB21.out.kept kk)
      replace HR21 := Lib.hid (HR21.out.kept kk)
      replace HB23 := Lib.hid (HB23.out.kept kk)
      replace HR23 := Lib.hid (HR23.out.kept kk)
      replace HB25 := Lib.hid (HB25.out.kept kk)
      replace HR25 := Lib.hid (HR25.out.kept kk)
      replace HB27 := Lib.hid (HB27.out.kept kk)
      replace HR27 := Lib.hid (HR27.out.kept kk)
      replace HB29 := Lib.hid (HB29.out.kept kk)
      replace HR29 := Lib.hid (HR29.out.kept kk)
      replace HB31 := Lib.hid (HB31.out.kept kk)
      replace HR31 := Lib.hid (HR31.out.kept kk)
      replace K9 := Lib.hid (K9.out.trans kk)
      clear kk
      obtain ⟨x0, x1, x2, xf⟩ := HB25.out
      obtain ⟨y0, y1, y2, yf⟩ := HB27.out
      go_wp2_with fail
      clear x0 x1 x2 xf y0 y1 y2 yf
      with_reducible refine (same_true HR25.out HR27.out).mono ?_
      rintro e S1 ⟨rfl, kk⟩
      replace HB20 := Lib.hid (HB20.out.kept kk)
      replace HRY := Lib.hid (HRY.out.kept kk)
      replace HB21 := Lib.hid (HB21.out.kept kk)
      replace HR21 := Lib.hid (HR21.out.kept kk)
      replace HB23 := Lib.hid (HB23.out.kept kk)
      replace HR23 := Lib.hid (HR23.out.kept kk)
      replace HB25 := Lib.hid (HB25.out.kept kk)
      replace HR25 := Lib.hid (HR25.out.kept kk)
      replace HB27 := Lib.hid (HB27.out.kept kk)
      replace HR27 := Lib.hid (HR27.out.kept kk)
      replace HB29 := Lib.hid (HB29.out.kept kk)
      replace HR29 := Lib.hid (HR29.out.kept kk)
      replace HB31 := Lib.hid (HB31.out.kept kk)
      replace HR31 := Lib.hid (HR31.out.kept kk)
      replace K9 := Lib.hid (K9.out.trans kk)
      clear kk
      obtain ⟨x0, x1, x2, xf⟩ := HB29.out
      obtain ⟨y0, y1, y2, yf⟩ := HB31.out
      go_wp2_with fail
      clear x0 x1 x2 xf y0 y1 y2 yf
      with_reducible refine (same_true HR29.out HR31.out).mono ?_
      rintro e S2 ⟨rfl, kk⟩
      replace HB20 := Lib.hid (HB20.out.kept kk)
      replace HRY := Lib.hid (HRY.out.kept kk)
      replace HB21 := Lib.hid (HB21.out.kept kk)
      replace HR21 := Lib.hid (HR21.out.kept kk)
      replace HB23 := Lib.hid (HB23.out.kept kk)
      replace HR23 := Lib.hid (HR23.out.kept kk)
      replace HB25 := Lib.hid (HB25.out.kept kk)
      replace HR25 := Lib.hid (HR25.out.kept kk)
      replace HB27 := Lib.hid (HB27.out.kept kk)
      replace HR27 := Lib.hid (HR27.out.kept kk)
      replace HB29 := Lib.hid (HB29.out.kept kk)
      replace HR29 := Lib.hid (HR29.out.kept kk)
      replace HB31 := Lib.hid (HB31.out.kept kk)
      replace HR31 := Lib.hid (HR31.out.kept kk)
      replace K9 := Lib.hid (K9.out.trans kk)
      clear kk
      clear HB21 HR21 HB23 HR23 HB25 HR25 HB27 HR27 HB29 HR29 HB31 HR31
      have HB15R := Lib.hid (HB15.out.kept K9.out)
      have HRSR := Lib.hid (HRS2.out.kept K9.out)
      go_upto_region 20 with (fail)
      -- Apply and Moves
      have r0 : ∀ p : KA (fun _ => False) S2, p.val.cell? ⟨z20, 0, none⟩ = some (.int .i64 ep) := fun p => (HB20.out.kept p.k).1
      have r1 : ∀ p : KA (fun _ => False) S2, p.val.cell? ⟨z20, 1, none⟩ = some (.slice ya yn yc) := fun p => (HB20.out.kept p.k).2.1
      have r2 : ∀ p : KA (fun _ => False) S2, p.val.cell? ⟨z20, 2, none⟩ = some (.slice yb yo yd) := fun p => (HB20.out.kept p.k).2.2.1
      have s0 : ∀ p : KA (fun _ => False) S2, p.val.cell? ⟨z15, 0, none⟩ = some (.int .i64 ep) := fun p => (HB15R.out.kept p.k).1
      have s1 : ∀ p : KA (fun _ => False) S2, p.val.cell? ⟨z15, 1, none⟩ = some (.slice am nx cm) := fun p => (HB15R.out.kept p.k).2.1
      have s2 : ∀ p : KA (fun _ => False) S2, p.val.cell? ⟨z15, 2, none⟩ = some (.slice ao 64 co) := fun p => (HB15R.out.kept p.k).2.2.1
      refine wp_region_walk [(true, 0), (true, 1), (true, 3), (true, 4), (false, 2), (false, 5), (false, 6), (false, 7), (false, 8), (true, 9), (true, 10), (true, 12), (true, 13), (false, 11), (false, 14), (false, 15), (false, 16), (false, 17)] (inKA (fun _ => False) S2) (by kernel_rfl) (by kernel_rfl) ?_
      iterate 4 (refine walkW_read rfl (fun K hK => ?_); go_simp; refine hK _ ?_; clear hK K)
      have HKD : Hid (Keep (fun _ => False) S2 S2.drew) := Lib.hid (Keep.refl _ S2).drew
      have HAP : Hid (∀ W, Keep (fun _ => False) S2 W → Calls Tryz.prog 16 #[.agg #[.int .i64 ep, .slice ya yn yc, .slice yb yo yd], .slice ma nm mc] W (CloneI (applyL ok m20) W)) := Lib.hid (fun W kw => applyG_any _ _ ep lk ok m20 W (HRY.out.kept kw) (by have := HLK.out; omega) (Mvs.kept HM.out (KV.out.trans (K9.out.trans kw))))
      have HRP : Hid (∀ W, Keep (fun _ => False) S2 W → Calls Tryz.prog 17 #[.agg #[.int .i64 ep, .slice ya yn yc, .slice yb yo yd], .slice ma nm mc] W (CloneI (applyL ok m20) W)) := Lib.hid (fun W kw => refApplyG_any _ _ ep lk ok m20 W (HRY.out.kept kw) (by have := HLK.out; omega) (Mvs.kept HM.out (KV.out.trans (K9.out.trans kw))))
      have HAPB : Hid ((∀ x ∈ applyL ok m20, I64 x) ∧ (applyL ok m20).length ≤ 66) := Lib.hid ⟨applyL_bd m20 ok (HRY.out.its').bd (fun m h => (HMB2.out m h).2.2), by rw [applyL_len]; exact HLK.out.2⟩
      generalize applyL ok m20 = apl at *
      generalize S2.drew = U0 at *
      refine walkW_do rfl (inKA.of HKD.out) (fun K hK => ?_)
      go_simp
      refine (HAP.out U0 HKD.out).mono ?_
      rintro e U1 ⟨pa, pc, rfl, hown, k1⟩
      refine hK _ _ ?_; clear hK K
      have HIA := Lib.hid (its_owns hown (by have := HAPB.out.2; omega) HAPB.out.1)
      have HK1 := Lib.hid (HKD.out.trans k1)
      clear hown k1
      refine walkW_do rfl (inKA.of HK1.out) (fun K hK => ?_)
      go_simp
      refine (HRP.out U1 HK1.out).mono ?_
      rintro e U2 ⟨qa, qc, rfl, hown, k1⟩
      refine hK _ _ ?_; clear hK K
      have HIB := Lib.hid (its_owns hown (by have := HAPB.out.2; omega) HAPB.out.1)
      have HIA2 := Lib.hid (HIA.out.kept k1)
      have HK2 := Lib.hid (HK1.out.trans k1)
      clear hown k1 HIA
      refine walkW_do rfl (inKA.of HK2.out) (fun K hK => ?_)
      go_simp
      refine (ints_true HIA2.out HIB.out).mono ?_
      rintro e U3 ⟨rfl, k1⟩
      refine hK _ _ ?_; clear hK K
      have HK3 := Lib.hid (HK2.out.trans k1)
      clear k1 HIA2 HIB HAP HRP HAPB
      iterate 2 (refine walkW_do rfl (inKA.of HK3.out) (fun K hK => ?_); go_simp; refine hK _ _ ?_; clear hK K)
      iterate 4 (refine walkW_read rfl (fun K hK => ?_); go_simp; refine hK _ ?_; clear hK K)
      clear r0 r1 r2 s0 s1 s2
      have HVB := Lib.hid (movesV_bd (oa := ok) (ob := ox) (HRY.out.its').bd HOX.out.obd)
      have HVL : Hid ((movesV ok ox).length ≤ 64) := Lib.hid (by unfold movesV; split; exact movesK_len ok ox 64; simp)
      have HMV := Lib.hid (movesV_any _ _ ep ep lk lx ok ox U3 (HRY.out.kept HK3.out) (HRSR.out.kept HK3.out))
      have HRMV : Hid (∀ W, Keep (fun _ => False) S2 W → Calls Tryz.prog 20 #[.agg #[.int .i64 ep, .slice ya yn yc, .slice yb yo yd], .agg #[.int .i64 ep, .slice am nx cm, .slice ao 64 co]] W (MvPost (movesV ok ox) W)) := Lib.hid (fun W kw => refMovesV_any _ _ ep ep lk lx ok ox W (HRY.out.kept kw) (HRSR.out.kept kw))
      generalize movesV ok ox = mvl at *
      refine walkW_do rfl (inKA.of HK3.out) (fun K hK => ?_)
      go_simp
      refine HMV.out.mono ?_
      rintro e U4 ⟨pa, pc, rfl, hown, k1⟩
      refine hK _ _ ?_; clear hK K
      have HVA := Lib.hid (mvs_owns hown (by have := HVL.out; omega) HVB.out)
      have HK4 := Lib.hid (HK3.out.trans k1)
      clear hown k1 HMV
      refine walkW_do rfl (inKA.of HK4.out) (fun K hK => ?_)
      go_simp
      refine (HRMV.out U4 HK4.out).mono ?_
      rintro e U5 ⟨qa, qc, rfl, hown, k1⟩
      refine hK _ _ ?_; clear hK K
      have HVB2 := Lib.hid (mvs_owns hown (by have := HVL.out; omega) HVB.out)
      have HVA2 := Lib.hid (Mvs.kept HVA.out k1)
      have HK5 := Lib.hid (HK4.out.trans k1)
      clear hown k1 HVA
      refine walkW_do rfl (inKA.of HK5.out) (fun K hK => ?_)
      go_simp
      refine (sameMoves_any _ _ mvl U5 HVA2.out HVB2.out (by have := HVL.out; omega)).mono ?_
      rintro e U6 ⟨rfl, k1⟩
      refine hK _ _ ?_; clear hK K
      have HK6 := Lib.hid (HK5.out.trans k1)
      clear k1 HVA2 HVB2 HRMV
      iterate 2 (refine walkW_do rfl (inKA.of HK6.out) (fun K hK => ?_); go_simp; refine hK _ _ ?_; clear hK K)
      refine ⟨inKA.of HK6.out, ?_⟩
      replace K9 := Lib.hid (K9.out.trans HK6.out)
      replace HB20 := Lib.hid (HB20.out.kept HK6.out)
      replace HRY := Lib.hid (HRY.out.kept HK6.out)
      clear HK1 HK2 HK3 HK4 HK5 HK6 HKD HB15R HRSR HVB HVL
      by_cases hn : 0 < nl
      · have hnz : (0 : Int) < (nl : Int) := by omega
        have hnp : 0 < nl := hn
        obtain ⟨m, hm⟩ : ∃ m, l3[0]? = some m := ⟨_, List.getElem?_eq_getElem (by have := HNL.out; omega)⟩
        obtain ⟨EJ, LJ, OJ, errJ, nlJ, noJ, hokJ, htwJ⟩ := two_join ep lk ok m (by have := HLK.out; omega) (HN.out.bd m (List.mem_of_getElem? hm))
        have HOKJ := Lib.hid hokJ
        have HTWJ := Lib.hid htwJ
        obtain ⟨-, -, na', nc', nb, noff, ev, hnc, hna, hncell⟩ := HN.out
        obtain ⟨rfl, -, rfl⟩ := Value.slice.inj ev
        obtain rfl := hna (by have := HNL.out; omega)
        have HMC : Hid (w.cell? ⟨nb, noff, none⟩ = some (.int .i64 m.node) ∧ w.cell? ⟨nb, noff + 1, none⟩ = some (.int .i64 m.region) ∧ w.cell? ⟨nb, noff + 2, none⟩ = some (.int .i64 m.weight)) := Lib.hid (by
          have := hncell 0 m hm
          simpa using this)
        clear hokJ htwJ ev hna hncell hm hnc hn
        obtain ⟨m1, m2, m3⟩ := m
        simp only [mbV] at HTWJ HMC
        go_upto_region 23 with (fail)
        have r0 : ∀ p : KA (fun _ => False) U6, p.val.cell? ⟨z20, 0, none⟩ = some (.int .i64 ep) := fun p => (HB20.out.kept p.k).1
        have r1 : ∀ p : KA (fun _ => False) U6, p.val.cell? ⟨z20, 1, none⟩ = some (.slice ya yn yc) := fun p => (HB20.out.kept p.k).2.1
        have r2 : ∀ p : KA (fun _ => False) U6, p.val.cell? ⟨z20, 2, none⟩ = some (.slice yb yo yd) := fun p => (HB20.out.kept p.k).2.2.1
        have s0 : ∀ p : KA (fun _ => False) U6, p.val.cell? ⟨nb, noff, none⟩ = some (.int .i64 m1) := fun p => (KV.out.trans (K9.out.trans p.k)).cell HMC.out.1 (fun h => h)
        have s1 : ∀ p : KA (fun _ => False) U6, p.val.cell? ⟨nb, noff + 1, none⟩ = some (.int .i64 m2) := fun p => (KV.out.trans (K9.out.trans p.k)).cell HMC.out.2.1 (fun h => h)
        have s2 : ∀ p : KA (fun _ => False) U6, p.val.cell? ⟨nb, noff + 2, none⟩ = some (.int .i64 m3) := fun p => (KV.out.trans (K9.out.trans p.k)).cell HMC.out.2.2 (fun h => h)
        refine wp_region_free3 [0, 1, 2, 3] [⟨4, 164, []⟩, ⟨5, 159, [164]⟩, ⟨8, 33, []⟩, ⟨6, 165, [159]⟩, ⟨7, 166, [159]⟩] ⟨7, 166, [159]⟩ (by simp) [(false, 9), (false, 10)] (inKA (fun _ => False) U6) (rawS 164 159 33 165 166 U6.heap.size EJ LJ OJ errJ nlJ noJ) (Keep (fun _ => False)) (by kernel_rfl) (by kernel_rfl) (inKA.of (Keep.refl _ U6).drew) rawS_keep (fun w w' hw hk => by obtain ⟨p, rfl⟩ := hw; exact inKA.of (p.k.trans hk)) ?_
        iterate 4 (refine headW_step rfl (fun K hK => ?_); go_simp; refine hK _ ?_; clear hK K)
        clear r0 r1 r2 s0 s1 s2
        refine ⟨?_, ?_, ?_, ?_⟩
        · intro h hh
          simp only [List.mem_cons, List.not_mem_nil, or_false] at hh
          rcases hh with rfl | rfl | rfl | rfl | rfl <;> simp
        · refine freeW_step rfl (fun vs W hC hS K hK => ?_) (freeW_step rfl (fun vs W hC hS K hK => ?_) (freeW_step rfl (fun vs W hC hS K hK => ?_) (freeW_step rfl (fun vs W hC hS K hK => ?_) (freeW_step rfl (fun vs W hC hS K hK => ?_) trivial))))
          · obtain ⟨p, rfl⟩ := hC
            simp only [putL, List.foldl]
            have HJ := Lib.hid (HTWJ.out _ p.val (HRY.out.kept p.k) (HT.out.kept (KV.out.trans (K9.out.trans p.k)))).1
            have hsz := p.k.size
            go_simp
            refine HJ.out.mono ?_
            rintro e W2 ⟨v, rfl, hnv, kk⟩
            exact hK _ _ ⟨fun _ => hnv.lo hsz, fun e => absurd e (by decide), fun e => absurd e (by decide), fun e => absurd e (by decide)⟩ kk
          · have hnv := (hS 164 (by simp)).1 (.inl rfl)
            simp only [putL, List.foldl]
            generalize vs 164 = vc at *
            go_simp
            exact hK _ _ ⟨fun _ => hnv, fun e => absurd e (by decide), fun e => absurd e (by decide), fun e => absurd e (by decide)⟩ (Keep.refl _ W)
          · obtain ⟨p, rfl⟩ := hC
            simp only [putL, List.foldl]
            have hsz := p.k.size
            go_simp
            exact hK _ _ ⟨fun e => absurd e (by decide), fun _ => ⟨p.val.heap.size, rfl, hsz, Box3.new _ _ _ _ _, ⟨_, World.alloc_heap_new _ _⟩⟩, fun e => absurd e (by decide), fun e => absurd e (by decide)⟩ ((Keep.refl _ p.val).alloc _)
          · obtain ⟨a, c, b, d, e1, h1, h2⟩ := (hS 159 (by simp)).1 (.inr rfl)
            simp only [putL, List.foldl]
            generalize vs 159 = vv at *
            subst e1
            go_simp
            exact hK _ _ ⟨fun e => absurd e (by decide), fun e => absurd e (by decide), fun _ => ⟨a, c, b, d, rfl, h1, h2⟩, fun e => absurd e (by decide)⟩ (Keep.refl _ W)
          · obtain ⟨a, c, b, d, e1, h1, h2⟩ := (hS 159 (by simp)).1 (.inr rfl)
            simp only [putL, List.foldl]
            generalize vs 159 = vv at *
            subst e1
            go_simp
            exact hK _ _ ⟨fun e => absurd e (by decide), fun e => absurd e (by decide), fun e => absurd e (by decide), fun _ => rfl⟩ (Keep.refl _ W)
        · refine ⟨_, rfl, rfl, fun vs W hC hS K hK => ?_⟩
          obtain ⟨a, c, b, d, e1, -⟩ := (hS ⟨5, 159, [164]⟩ (by simp) (by decide)).1 (.inr rfl)
          simp only [] at e1
          simp only [List.filter, List.map, putL, List.foldl, Nat.reduceBEq, Bool.not_false, Bool.not_true]
          generalize vs 159 = vv at *
          subst e1
          go_simp
          exact hK _ ⟨fun e => absurd e (by decide), fun e => absurd e (by decide), fun e => absurd e (by decide), fun _ => rfl⟩
        intro vs W hC hS
        obtain ⟨p, rfl⟩ := hC
        obtain ⟨a30, c30, b30, d30, e2, -⟩ := (hS ⟨4, 164, []⟩ (by simp)).1 (.inl rfl)
        obtain ⟨a26, c26, b26, d26, e3, -⟩ := (hS ⟨5, 159, [164]⟩ (by simp)).1 (.inr rfl)
        obtain ⟨z33, e4, hz9, hb9, ht9⟩ := (hS ⟨8, 33, []⟩ (by simp)).2.1 rfl
        obtain ⟨m33, c33, o33, d33, e5, hm9, ho9⟩ := (hS ⟨6, 165, [159]⟩ (by simp)).2.2.1 rfl
        have e6 := (hS ⟨7, 166, [159]⟩ (by simp)).2.2.2 rfl
        simp only [] at e2 e3 e4 e5 e6
        simp only [List.map, putL, List.foldl]
        generalize vs 164 = v30 at *
        generalize vs 159 = v26 at *
        generalize vs 33 = v10 at *
        generalize vs 165 = v31 at *
        generalize vs 166 = v32 at *
        subst e2 e3 e4 e5 e6
        have HGMZ : Hid (∀ b, (Value.slice m33 nlJ c33).ownBlock = some b → b ≠ z33) := Lib.hid (fun b hb => own_ne hm9 ht9 (by decide) hb)
        have HGOZ : Hid (∀ b, (Value.slice o33 noJ d33).ownBlock = some b → b ≠ z33) := Lib.hid (fun b hb => own_ne ho9 ht9 (by decide) hb)
        have HKP := Lib.hid p.k
        have HBP := Lib.hid hb9
        have HRP := Lib.hid (raw_rng HOKJ.out hm9 ho9)
        have HZ9 : Hid (U6.heap.size ≤ z33) := Lib.hid hz9
        clear hS hz9 hb9 ht9 hm9 ho9
        generalize p.val = V at *
        obtain ⟨y0, y1, y2, yf⟩ := HBP.out
        refine walkW_do rfl (inKA.of HKP.out) (fun K hK => ?_)
        go_simp
        refine hK _ _ ?_; clear hK K
        clear y0 y1 y2 yf
        have kq : Keep (fun j => j = z33) V (((V.setCell ⟨z33, 0, none⟩ (.int .i64 EJ)).setCell ⟨z33, 1, none⟩ (.slice m33 nlJ c33)).setCell ⟨z33, 2, none⟩ (.slice o33 noJ d33)) := (((Keep.refl (fun j => j = z33) V).setCell (p := ⟨z33, 0, none⟩) _ (.inl rfl)).setCell (p := ⟨z33, 1, none⟩) _ (.inl rfl)).setCell (p := ⟨z33, 2, none⟩) _ (.inl rfl)
        have HB33 := Lib.hid (((HBP.out.set0 (.int .i64 EJ)).set1 (.slice m33 nlJ c33)).set2 (.slice o33 noJ d33))
        have HR33 := Lib.hid (HRP.out.keep kq (fun b hb e => HGMZ.out b hb e) (fun b hb e => HGOZ.out b hb e))
        have HKQ := Lib.hid (HKP.out.trans' kq (fun j e => .inr (by have h5 : j = z33 := e; have := HZ9.out; omega)))
        clear kq HBP HRP HKP HGMZ HGOZ HZ9
        generalize ((V.setCell ⟨z33, 0, none⟩ (.int .i64 EJ)).setCell ⟨z33, 1, none⟩ (.slice m33 nlJ c33)).setCell ⟨z33, 2, none⟩ (.slice o33 noJ d33) = X33 at *
        refine walkW_do rfl (inKA.of HKQ.out) (fun K hK => ?_)
        go_simp
        refine hK _ _ ?_; clear hK K
        refine ⟨inKA.of HKQ.out, ?_⟩
        replace K9 := Lib.hid (K9.out.trans HKQ.out)
        replace HB20 := Lib.hid (HB20.out.kept HKQ.out)
        replace HRY := Lib.hid (HRY.out.kept HKQ.out)
        clear HKQ
        go_upto_region 24 with (fail)
        have r0 : ∀ p : KA (fun _ => False) X33, p.val.cell? ⟨z20, 0, none⟩ = some (.int .i64 ep) := fun p => (HB20.out.kept p.k).1
        have r1 : ∀ p : KA (fun _ => False) X33, p.val.cell? ⟨z20, 1, none⟩ = some (.slice ya yn yc) := fun p => (HB20.out.kept p.k).2.1
        have r2 : ∀ p : KA (fun _ => False) X33, p.val.cell? ⟨z20, 2, none⟩ = some (.slice yb yo yd) := fun p => (HB20.out.kept p.k).2.2.1
        have s0 : ∀ p : KA (fun _ => False) X33, p.val.cell? ⟨nb, noff, none⟩ = some (.int .i64 m1) := fun p => (KV.out.trans (K9.out.trans p.k)).cell HMC.out.1 (fun h => h)
        have s1 : ∀ p : KA (fun _ => False) X33, p.val.cell? ⟨nb, noff + 1, none⟩ = some (.int .i64 m2) := fun p => (KV.out.trans (K9.out.trans p.k)).cell HMC.out.2.1 (fun h => h)
        have s2 : ∀ p : KA (fun _ => False) X33, p.val.cell? ⟨nb, noff + 2, none⟩ = some (.int .i64 m3) := fun p => (KV.out.trans (K9.out.trans p.k)).cell HMC.out.2.2 (fun h => h)
        refine wp_region_free3 [0, 1, 2, 3] [⟨4, 172, []⟩, ⟨5, 167, [172]⟩, ⟨8, 35, []⟩, ⟨6, 173, [167]⟩, ⟨7, 174, [167]⟩] ⟨7, 174, [167]⟩ (by simp) [(false, 9), (false, 10)] (inKA (fun _ => False) X33) (rawS 172 167 35 173 174 X33.heap.size EJ LJ OJ errJ nlJ noJ) (Keep (fun _ => False)) (by kernel_rfl) (by kernel_rfl) (inKA.of (Keep.refl _ X33).drew) rawS_keep (fun w w' hw hk => by obtain ⟨p, rfl⟩ := hw; exact inKA.of (p.k.trans hk)) ?_
        iterate 4 (refine headW_step rfl (fun K hK => ?_); go_simp; refine hK _ ?_; clear hK K)
        clear r0 r1 r2 s0 s1 s2
        refine ⟨?_, ?_, ?_, ?_⟩
        · intro h hh
          simp only [List.mem_cons, List.not_mem_nil, or_false] at hh
          rcases hh with rfl | rfl | rfl | rfl | rfl <;> simp
        · refine freeW_step rfl (fun vs W hC hS K hK => ?_) (freeW_step rfl (fun vs W hC hS K hK => ?_) (freeW_step rfl (fun vs W hC hS K hK => ?_) (freeW_step rfl (fun vs W hC hS K hK => ?_) (freeW_step rfl (fun vs W hC hS K hK => ?_) trivial))))
          · obtain ⟨p, rfl⟩ := hC
            simp only [putL, List.foldl]
            have HJ := Lib.hid (HTWJ.out _ p.val (HRY.out.kept p.k) (HT.out.kept (KV.out.trans (K9.out.trans p.k)))).2
            have hsz := p.k.size
            go_simp
            refine HJ.out.mono ?_
            rintro e W2 ⟨v, rfl, hnv, kk⟩
            exact hK _ _ ⟨fun _ => hnv.lo hsz, fun e => absurd e (by decide), fun e => absurd e (by decide), fun e => absurd e (by decide)⟩ kk
          · have hnv := (hS 172 (by simp)).1 (.inl rfl)
            simp only [putL, List.foldl]
            generalize vs 172 = vc at *
            go_simp
            exact hK _ _ ⟨fun _ => hnv, fun e => absurd e (by decide), fun e => absurd e (by decide), fun e => absurd e (by decide)⟩ (Keep.refl _ W)
          · obtain ⟨p, rfl⟩ := hC
            simp only [putL, List.foldl]
            have hsz := p.k.size
            go_simp
            exact hK _ _ ⟨fun e => absurd e (by decide), fun _ => ⟨p.val.heap.size, rfl, hsz, Box3.new _ _ _ _ _, ⟨_, World.alloc_heap_new _ _⟩⟩, fun e => absurd e (by decide), fun e => absurd e (by decide)⟩ ((Keep.refl _ p.val).alloc _)
          · obtain ⟨a, c, b, d, e1, h1, h2⟩ := (hS 167 (by simp)).1 (.inr rfl)
            simp only [putL, List.foldl]
            generalize vs 167 = vv at *
            subst e1
            go_simp
            exact hK _ _ ⟨fun e => absurd e (by decide), fun e => absurd e (by decide), fun _ => ⟨a, c, b, d, rfl, h1, h2⟩, fun e => absurd e (by decide)⟩ (Keep.refl _ W)
          · obtain ⟨a, c, b, d, e1, h1, h2⟩ := (hS 167 (by simp)).1 (.inr rfl)
            simp only [putL, List.foldl]
            generalize vs 167 = vv at *
            subst e1
            go_simp
            exact hK _ _ ⟨fun e => absurd e (by decide), fun e => absurd e (by decide), fun e => absurd e (by decide), fun _ => rfl⟩ (Keep.refl _ W)
        · refine ⟨_, rfl, rfl, fun vs W hC hS K hK => ?_⟩
          obtain ⟨a, c, b, d, e1, -⟩ := (hS ⟨5, 167, [172]⟩ (by simp) (by decide)).1 (.inr rfl)
          simp only [] at e1
          simp only [List.filter, List.map, putL, List.foldl, Nat.reduceBEq, Bool.not_false, Bool.not_true]
          generalize vs 167 = vv at *
          subst e1
          go_simp
          exact hK _ ⟨fun e => absurd e (by decide), fun e => absurd e (by decide), fun e => absurd e (by decide), fun _ => rfl⟩
        intro vs W hC hS
        obtain ⟨p, rfl⟩ := hC
        obtain ⟨a30, c30, b30, d30, e2, -⟩ := (hS ⟨4, 172, []⟩ (by simp)).1 (.inl rfl)
        obtain ⟨a26, c26, b26, d26, e3, -⟩ := (hS ⟨5, 167, [172]⟩ (by simp)).1 (.inr rfl)
        obtain ⟨z35, e4, hz9, hb9, ht9⟩ := (hS ⟨8, 35, []⟩ (by simp)).2.1 rfl
        obtain ⟨m35, c35, o35, d35, e5, hm9, ho9⟩ := (hS ⟨6, 173, [167]⟩ (by simp)).2.2.1 rfl
        have e6 := (hS ⟨7, 174, [167]⟩ (by simp)).2.2.2 rfl
        simp only [] at e2 e3 e4 e5 e6
        simp only [List.map, putL, List.foldl]
        generalize vs 172 = v30 at *
        generalize vs 167 = v26 at *
        generalize vs 35 = v10 at *
        generalize vs 173 = v31 at *
        generalize vs 174 = v32 at *
        subst e2 e3 e4 e5 e6
        have HGMZ : Hid (∀ b, (Value.slice m35 nlJ c35).ownBlock = some b → b ≠ z35) := Lib.hid (fun b hb => own_ne hm9 ht9 (by decide) hb)
        have HGOZ : Hid (∀ b, (Value.slice o35 noJ d35).ownBlock = some b → b ≠ z35) := Lib.hid (fun b hb => own_ne ho9 ht9 (by decide) hb)
        have HKP := Lib.hid p.k
        have HBP := Lib.hid hb9
        have HRP := Lib.hid (raw_rng HOKJ.out hm9 ho9)
        have HZ9 : Hid (X33.heap.size ≤ z35) := Lib.hid hz9
        clear hS hz9 hb9 ht9 hm9 ho9
        generalize p.val = V at *
        obtain ⟨y0, y1, y2, yf⟩ := HBP.out
        refine walkW_do rfl (inKA.of HKP.out) (fun K hK => ?_)
        go_simp
        refine hK _ _ ?_; clear hK K
        clear y0 y1 y2 yf
        have kq : Keep (fun j => j = z35) V (((V.setCell ⟨z35, 0, none⟩ (.int .i64 EJ)).setCell ⟨z35, 1, none⟩ (.slice m35 nlJ c35)).setCell ⟨z35, 2, none⟩ (.slice o35 noJ d35)) := (((Keep.refl (fun j => j = z35) V).setCell (p := ⟨z35, 0, none⟩) _ (.inl rfl)).setCell (p := ⟨z35, 1, none⟩) _ (.inl rfl)).setCell (p := ⟨z35, 2, none⟩) _ (.inl rfl)
        have HB35 := Lib.hid (((HBP.out.set0 (.int .i64 EJ)).set1 (.slice m35 nlJ c35)).set2 (.slice o35 noJ d35))
        have HR35 := Lib.hid (HRP.out.keep kq (fun b hb e => HGMZ.out b hb e) (fun b hb e => HGOZ.out b hb e))
        have HKQ := Lib.hid (HKP.out.trans' kq (fun j e => .inr (by have h5 : j = z35 := e; have := HZ9.out; omega)))
        clear kq HBP HRP HKP HGMZ HGOZ HZ9
        generalize ((V.setCell ⟨z35, 0, none⟩ (.int .i64 EJ)).setCell ⟨z35, 1, none⟩ (.slice m35 nlJ c35)).setCell ⟨z35, 2, none⟩ (.slice o35 noJ d35) = X35 at *
        refine walkW_do rfl (inKA.of HKQ.out) (fun K hK => ?_)
        go_simp
        refine hK _ _ ?_; clear hK K
        refine ⟨inKA.of HKQ.out, ?_⟩
        replace K9 := Lib.hid (K9.out.trans HKQ.out)
        replace HB20 := Lib.hid (HB20.out.kept HKQ.out)
        replace HRY := Lib.hid (HRY.out.kept HKQ.out)
        replace HB33 := Lib.hid (HB33.out.kept HKQ.out)
        replace HR33 := Lib.hid (HR33.out.kept HKQ.out)
        clear HKQ
        obtain ⟨x0, x1, x2, xf⟩ := HB33.out
        obtain ⟨y0, y1, y2, yf⟩ := HB35.out
        go_wp2_with fail
        clear x0 x1 x2 xf y0 y1 y2 yf
        with_reducible refine (same_true HR33.out HR35.out).mono ?_
        rintro e S9 ⟨rfl, kk⟩
        replace K9 := Lib.hid (K9.out.trans kk)
        clear kk
        go_wp2_with fail
        go_roundg (2 - (k + 1))
        case rel => exact ⟨k + 1, by omega, by go_num, K9.out⟩
        case measure => omega
      · have hnz : ¬ (0 : Int) < (nl : Int) := by omega
        go_wp2_with fail
        go_roundg (2 - (k + 1))
        case rel => exact ⟨k + 1, by omega, by go_num, K9.out⟩
        case measure => omega
    · obtain rfl : k = 2 := by omega
      have hkz : ¬ (((2 : Nat) : Int) < 2) := by omega
      go_wp2_with fail
      go_ret
      exact ⟨rfl, KV.out.trans HKR.out⟩
end Go.Proofs.YtiacdkggbnoigaaGreatDoor
