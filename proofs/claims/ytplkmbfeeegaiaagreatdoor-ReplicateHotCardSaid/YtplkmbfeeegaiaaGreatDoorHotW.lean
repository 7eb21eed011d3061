/-
  ReplicateHot.
-/
import Derived.Test.YtplkmbfeeegaiaaGreatDoorZ5
import Derived.Test.YtplkmbfeeegaiaaGreatDoorHotP
namespace Go.Proofs.YtplkmbfeeegaiaaGreatDoor
open Go.RowKit Go.Shelf

/-- Uses in a slice. -/
structure Uses (W : World) (v : Value) (ps : List (Int × Int)) : Prop where
  n : ps.length ≤ 1000000000000000
  bd : ∀ p ∈ ps, I64 p.1 ∧ I64 p.2
  at_ : ∃ a c b off, v = .slice a ps.length c ∧ ps.length ≤ c ∧ (0 < ps.length → a = some ⟨b, off, none⟩) ∧ ∀ j p, ps[j]? = some p → W.cell? ⟨b, off + j * 2, none⟩ = some (.int .i64 p.1) ∧ W.cell? ⟨b, off + j * 2 + 1, none⟩ = some (.int .i64 p.2)
/-- Ten numbers, ten truth values. -/
def IA (W : World) (b : Nat) (f : Nat → Int) : Prop := ∀ q : Nat, q < 10 → W.cell? ⟨b, q, none⟩ = some (.int .i64 (f q)) ∧ W.frozen? ⟨b, q, none⟩ = false
theorem IA.lt {W : World} {b : Nat} {f : Nat → Int} (h : IA W b f) : b < W.heap.size := World.block_lt_of_cell? _ _ (h 0 (by omega)).1
theorem IA.keep {W W' : World} {A : Nat → Prop} {b : Nat} {f : Nat → Int} (h : IA W b f) (k : Keep A W W') (hA : ¬ A b) : IA W' b f := fun q hq => ⟨k.cell (h q hq).1 hA, (k.frozen h.lt hA q).trans (h q hq).2⟩
theorem IA.set {W : World} {b : Nat} {f : Nat → Int} (h : IA W b f) {q : Nat} (hq : q < 10) (n : Int) : IA (W.setCell ⟨b, q, none⟩ (.int .i64 (f q + n))) b (updU f q n) := by
  intro p hp
  refine ⟨?_, by rw [World.frozen?_setCell]; exact (h p hp).2⟩
  unfold updU
  by_cases e : p = q
  · subst e
    rw [cell_set_same (h p hp).1, if_pos rfl]
  · rw [cell_set_off (by omega), (h p hp).1, if_neg e]
def FA (W : World) (b : Nat) (f : Nat → Bool) : Prop := ∀ q : Nat, q < 10 → W.cell? ⟨b, q, none⟩ = some (.bool (f q)) ∧ W.frozen? ⟨b, q, none⟩ = false
theorem FA.lt {W : World} {b : Nat} {f : Nat → Bool} (h : FA W b f) : b < W.heap.size := World.block_lt_of_cell? _ _ (h 0 (by omega)).1
theorem FA.keep {W W' : World} {A : Nat → Prop} {b : Nat} {f : Nat → Bool} (h : FA W b f) (k : Keep A W W') (hA : ¬ A b) : FA W' b f := fun q hq => ⟨k.cell (h q hq).1 hA, (k.frozen h.lt hA q).trans (h q hq).2⟩
theorem FA.set {W : World} {b : Nat} {f : Nat → Bool} (h : FA W b f) {q : Nat} (hq : q < 10) : FA (W.setCell ⟨b, q, none⟩ (.bool true)) b (fun r => f r || decide (r = q)) := by
  intro p hp
  refine ⟨?_, by rw [World.frozen?_setCell]; exact (h p hp).2⟩
  by_cases e : p = q
  · subst e
    rw [cell_set_same (h p hp).1]
    simp
  · rw [cell_set_off (by omega), (h p hp).1]
    simp [e]
theorem FA.congr {W : World} {b : Nat} {f g : Nat → Bool} (h : FA W b f) (e : ∀ q, f q = g q) : FA W b g := fun q hq => by rw [← e]; exact h q hq
theorem infoBool : (Tryz.prog.info? 4).map (fun i => (i.zero, i.size, i.bytes)) = some (some (.bool false), 1, 1) := by kernel_rfl
theorem diffU_le (u : Nat → Int) : diffU u ≤ 10 := by
  unfold diffU
  exact Nat.le_trans (List.length_filter_le _ _) (by simp)
/-- Which keys are among the first i. -/
def fndK (hot : List ByteArray) (i : Nat) (q : Nat) : Bool := (hot.take i).any (fun k => decide (k = keyT q))
theorem fndK_succ {hot : List ByteArray} {i qi : Nat} (h : hot[i]? = some (keyT qi)) (hqi : qi < 10) (q : Nat) (hq : q < 10) : fndK hot (i + 1) q = (fndK hot i q || decide (q = qi)) := by
  unfold fndK
  rw [List.take_add_one, h, Option.toList_some, List.any_append]
  congr 1
  simp only [List.any_cons, List.any_nil, Bool.or_false]
  exact decide_eq_decide.2 ⟨fun e => (keyT_inj hqi hq e).symm, fun e => by rw [e]⟩
theorem fndK_new {hot : List ByteArray} (hn : hot.Nodup) {i qi : Nat} (h : hot[i]? = some (keyT qi)) : fndK hot i qi = false := by
  unfold fndK
  rw [List.any_eq_false]
  intro k hk e
  have e := of_decide_eq_true e
  subst e
  obtain ⟨j, hj⟩ := List.mem_iff_getElem?.1 hk
  have hjl := (List.getElem?_eq_some_iff.1 hj).1
  rw [List.length_take] at hjl
  rw [List.getElem?_take_of_lt (by omega)] at hj
  obtain ⟨h1a, h1b⟩ := List.getElem?_eq_some_iff.1 hj
  obtain ⟨h2a, h2b⟩ := List.getElem?_eq_some_iff.1 h
  exact absurd ((List.pairwise_iff_getElem.1 (List.nodup_iff_pairwise_ne.1 hn)) j i h1a h2a (by omega)) (by rw [h1b, h2b]; simp)
theorem fndK_all {hot : List ByteArray} {i q : Nat} (h : hot.length ≤ i) (hm : keyT q ∈ hot) : fndK hot i q = true := by
  unfold fndK
  rw [List.take_of_length_le h, List.any_eq_true]
  exact ⟨_, hm, by simp⟩

set_option maxRecDepth 100000 in
theorem key15_any (n : Int) (hn : I64 n) (w : World) : Calls Tryz.prog 44 #[.int .i64 n] w fun e w' => e = .returned (.string (keyT (pk n 10).toNat)) ∧ Keep (fun _ => False) w w' := by
  have HN := Lib.hid hn
  have hp := pk_bd n 10 (by decide)
  have HPK := Lib.hid (pick15_any n 10 w hn (by decide))
  clear hn
  generalize pk n 10 = p at *
  obtain ⟨q, rfl⟩ : ∃ q : Nat, p = q := ⟨p.toNat, by omega⟩
  have HD := Lib.hid (digits_any q (by omega))
  have hds := dig_size (n := q) (by omega)
  have HK : Hid (keyT (q : Int).toNat = (⟨#[114, 111, 119, 32, 49, 32]⟩ : ByteArray) ++ dig q) := Lib.hid (by rw [Int.toNat_natCast]; rfl)
  generalize dig q = d at *
  have hz : ¬ (9223372036854775807 < 6 + d.size) := by omega
  go_enter Tryz.func44, Tryz.ntmps44
  go_wp2_with fail
  with_reducible refine HPK.out.mono ?_
  rintro e w' ⟨rfl, rfl⟩
  go_wp2_with fail
  with_reducible refine (HD.out w).mono ?_
  rintro e W2 ⟨rfl, k⟩
  have HKK := Lib.hid k
  clear k
  go_wp2_with fail
  go_ret
  exact ⟨by rw [HK.out]; rfl, HKK.out⟩

set_option maxRecDepth 100000 in
set_option maxHeartbeats 8000000 in
theorem repHot_any (kk : Int) (v : Value) (ps : List (Int × Int)) (share : Int) (w : World) (hkk : I64 kk) (h : Uses w v ps) (hsh : I64 share) (hT : Tab w) (hP : Pow w) : Calls Tryz.prog 10 #[.int .i64 kk, v, .int .i64 share] w fun e w' => e = .returned (.bool true) ∧ Keep (fun _ => False) w w' := by
  have HT := Lib.hid hT
  have HKK := Lib.hid hkk
  have HSH := Lib.hid hsh
  obtain ⟨hpn, hpb, pa, pc, pb, po, rfl, hpc, hpa, hpcell⟩ := h
  have HPB := Lib.hid hpb
  have HPA := Lib.hid hpa
  have HPC := Lib.hid hpcell
  obtain ⟨pn, hpn'⟩ : ∃ n, ps.length = n := ⟨_, rfl⟩
  have HPN := Lib.hid hpn'
  rw [hpn'] at hpn hpc HPA ⊢
  clear hT hP hkk hsh hpb hpa hpcell hpn'
  have hp1 := pk_bd kk 8 (by decide)
  have hp2 := pk_bd share 100 (by decide)
  have HPK := Lib.hid (fun W => pick15_any kk 8 W HKK.out (by decide))
  go_enter Tryz.func10, Tryz.ntmps10
  go_wp2_with fail
  with_reducible refine (sane15_any w HT.out).mono ?_
  rintro e W1 ⟨rfl, k1⟩
  have HK1 := Lib.hid k1
  clear k1
  generalize pk kk 8 = p at *
  obtain ⟨pq, rfl⟩ : ∃ q : Nat, p = q := ⟨p.toNat, by omega⟩
  obtain ⟨cap, hcap⟩ : ∃ c : Nat, 1 + pq = c := ⟨_, rfl⟩
  have hw1 : IntKind.i64.wrap (1 + (pq : Int)) = (cap : Int) := by rw [show (1 : Int) + (pq : Int) = (cap : Int) by omega]; exact wrapI (by unfold I64; omega)
  have hcap8 : 1 ≤ cap ∧ cap ≤ 8 := by omega
  go_wp2_with fail
  with_reducible refine (HPK.out W1).mono ?_
  rintro e w' ⟨rfl, rfl⟩
  go_wp2_with fail
  have hnew := Sk.new_ok cap hcap8.1 (by omega) W1
  with_reducible refine hnew.mono ?_
  clear hnew
  rintro e W2 ⟨s, bm, rfl, hsk, k2, hs, hbm⟩
  have HS2 := Lib.hid hsk
  have HK2 := Lib.hid (HK1.out.trans k2)
  have HZS : Hid (w.heap.size ≤ s ∧ w.heap.size ≤ bm) := Lib.hid (by have := HK1.out.size; omega)
  clear hsk k2 hs hbm HK1
  go_wp2_with fail
  with_reducible refine (pick15_any share 100 W2 HSH.out (by decide)).mono ?_
  rintro e w' ⟨rfl, rfl⟩
  generalize pk share 100 = ss at *
  obtain ⟨sh, hsh⟩ : ∃ sh : Int, 1 + ss = sh := ⟨_, rfl⟩
  have hw2 : IntKind.i64.wrap (1 + ss) = sh := by rw [hsh]; exact wrapI (by unfold I64; omega)
  have hsh1 : 1 ≤ sh ∧ sh ≤ 100 := by omega
  clear hsh
  obtain ⟨i0, hi, hz0, hz1, hz2⟩ := info_parts infoInt
  obtain ⟨W3, hmk, hown3, hgr3⟩ := run_makeSlice_full (P := Tryz.prog) W2 W2.heap.size 22 3 i0 _ 1 Tryz.underlying22 hi hz0 hz1 .i64 .i64 10 (by decide) (by rw [hz2]; decide) (by decide) (Nat.le_refl _)
  have hmk1 : (Instr.makeSlice 22 (.int .i64 10) (.int .i64 10)).run Tryz.prog W2 = .ok (.slice (some ⟨W2.heap.size, 0, none⟩) 10 10) W3 := hmk
  have HK23 : Hid (Keep (fun _ => False) W2 W3) := Lib.hid ((Keep.of_grown hgr3).mono (fun j e => by cases e))
  have HIA3 : Hid (IA W3 W2.heap.size (fun _ => 0)) := Lib.hid (by
    have h := hown3
    rw [show (madeCells (Value.int .i64 0).cells (10 * 1)).toList = List.replicate 10 (Value.int .i64 0) by exact toList_madeCells_one _ _] at h
    intro q hq
    refine ⟨?_, h.frozenAt q⟩
    rw [h.cellAt q (by omega), List.getElem?_replicate, if_pos (by omega)])
  have HS3 : Hid (Sk.Sk W3 s bm cap []) := Lib.hid (HS2.out.keep HK23.out (fun h => h) (fun h => h))
  have HK3 := Lib.hid (HK2.out.trans HK23.out)
  have HGS : Hid (s < W2.heap.size ∧ bm < W2.heap.size) := Lib.hid ⟨HS2.out.at_.lt.1, HS2.out.at_.lt.2⟩
  have HGW : Hid (w.heap.size ≤ W2.heap.size) := Lib.hid HK2.out.size
  clear hmk hown3 hgr3 hi hz0 hz1 hz2 HS2 HK2 HK23
  go_upto_region 7 with (fail)
  clear hmk1
  generalize W2.heap.size = g at *
  go_upto_region 10 with (fail)
  have hdz : ((0 : Int)) = ((diffU (fun _ => 0) : Nat) : Int) := rfl
  go_loopg [11, 12, 13] 60 (fun gh v11 v12 v13 wr => ∃ (k : Nat) (u : Nat → Int) (L : List Sk.C), gh + k = 60 ∧ v13 = .int .i64 k ∧ v11 = .int .i64 (Sk.sumH L) ∧ v12 = .int .i64 (diffU u : Nat) ∧ HotI cap u L ∧ Sk.Sk wr s bm cap L ∧ IA wr g u ∧ Keep (fun j => j = s ∨ j = bm ∨ j = g) W3 wr ∧ Sk.sumH L ≤ 1000 * k ∧ ∀ q, u q ≤ 1000 * k)
  case atStart => exact ⟨0, fun _ => 0, [], by omega, rfl, rfl, rfl, HotI.nil cap, HS3.out, HIA3.out, Keep.refl _ _, by simp [Sk.sumH], by simp⟩
  case round =>
    clear HS3 HIA3 hdz
    obtain ⟨k, u, L, hk, rfl, rfl, rfl, hhi, hsk, hia, hkeep, hsum, hub⟩ := hrel
    have HHI := Lib.hid hhi
    have HSK := Lib.hid hsk
    have HIA := Lib.hid hia
    have HKE := Lib.hid hkeep
    have HSUM := Lib.hid hsum
    have HUB := Lib.hid hub
    have HKW : Hid (Keep (fun _ => False) w wr) := Lib.hid (HK3.out.trans' hkeep (fun j e => .inr (by have := HZS.out; have := HGW.out; rcases e with e | e | e <;> omega)))
    clear hhi hsk hia hkeep hsum hub
    by_cases hlt : k < pn ∧ k < 60
    · obtain ⟨hltp, hlt6⟩ := hlt
      obtain ⟨pr, hpr⟩ : ∃ x, ps[k]? = some x := ⟨_, List.getElem?_eq_getElem (by rw [HPN.out]; exact hltp)⟩
      obtain rfl := HPA.out (by omega)
      obtain ⟨c0, c1⟩ := HPC.out k pr hpr
      replace c0 := HKW.out.cell c0 (fun h => h)
      replace c1 := HKW.out.cell c1 (fun h => h)
      obtain ⟨hb0, hb1⟩ := HPB.out pr (List.mem_of_getElem? hpr)
      obtain ⟨pk0, pn0⟩ := pr
      simp only [] at c0 c1 hb0 hb1
      have HB0 := Lib.hid hb0
      have HB1 := Lib.hid hb1
      have HC0 := Lib.hid c0
      have hq1 := pk_bd pk0 10 (by decide)
      have hn1 := pk_bd pn0 1000 (by decide)
      have hkz : (k : Int) < (pn : Int) := by omega
      have hk6 : (k : Int) < 60 := by omega
      have hk0 : (0 : Int) ≤ (k : Int) := by omega
      have HPRK := Lib.hid hpr
      have HSKP := Lib.hid HSK.out.ok.pos
      clear hpr hb0 hb1
      go_wp2_with fail
      with_reducible refine (pick15_any pn0 1000 wr HB1.out (by decide)).mono ?_
      rintro e w' ⟨rfl, rfl⟩
      generalize pk pn0 1000 = n1 at *
      obtain ⟨nn, hnn⟩ : ∃ nn : Int, 1 + n1 = nn := ⟨_, rfl⟩
      have hw3 : IntKind.i64.wrap (1 + n1) = nn := by rw [hnn]; exact wrapI (by unfold I64; omega)
      have hnn1 : 1 ≤ nn ∧ nn ≤ 1000 := by omega
      clear hnn
      have HKEY := Lib.hid (key15_any pk0 HB0.out wr)
      have HPQ := Lib.hid (fun W => pick15_any pk0 10 W HB0.out (by decide))
      generalize pk pk0 10 = qq at *
      obtain ⟨q, rfl⟩ : ∃ q : Nat, qq = q := ⟨qq.toNat, by omega⟩
      rw [Int.toNat_natCast] at HKEY
      have hq10 : q < 10 := by omega
      go_wp2_with fail
      with_reducible refine HKEY.out.mono ?_
      rintro e V1 ⟨rfl, k1⟩
      have HSK1 : Hid (Sk.Sk V1 s bm cap L) := Lib.hid (HSK.out.keep k1 (fun h => h) (fun h => h))
      have HIA1 := Lib.hid (HIA.out.keep k1 (fun h => h))
      have HKE1 : Hid (Keep (fun j => j = s ∨ j = bm ∨ j = g) W3 V1) := Lib.hid (HKE.out.trans (k1.mono (fun _ h => h.elim)))
      have HC01 : Hid (V1.cell? ⟨pb, po + k * 2, none⟩ = some (.int .i64 pk0)) := Lib.hid (k1.cell HC0.out (fun h => h))
      have HKW1 := Lib.hid (HKW.out.trans k1)
      clear k1 c0 c1 HSK HIA HKE HKEY hw3
      have HADD := Lib.hid (Sk.add_ok HSK1.out (keyT q) (by have := keyT_size hq10; unfold maxLen; omega) nn (by omega) (by omega) (by have := HSUM.out; omega))
      have HHI2 := Lib.hid (HHI.out.add HSK1.out.ok hq10 hnn1.1)
      have HSUM2 : Hid (Sk.sumH (Sk.addC cap L (keyT q) nn) = Sk.sumH L + nn) := Lib.hid (Sk.addC_sum HSK1.out.ok (keyT q) nn)
      generalize keyT q = ky at *
      go_wp2_with fail
      with_reducible refine HADD.out.mono ?_
      rintro e V2 ⟨rfl, hsk2, k2⟩
      have HSK2 := Lib.hid hsk2
      have HIA2 : Hid (IA V2 g u) := Lib.hid (HIA1.out.keep k2 (fun e => by have := HGS.out; rcases e with e | e <;> omega))
      have HKE2 : Hid (Keep (fun j => j = s ∨ j = bm ∨ j = g) W3 V2) := Lib.hid (HKE1.out.trans (k2.mono (fun j e => by rcases e with e | e; exact .inl e; exact .inr (.inl e))))
      have HKW2 : Hid (Keep (fun _ => False) w V2) := Lib.hid (HK3.out.trans' HKE2.out (fun j e => .inr (by have := HZS.out; have := HGW.out; rcases e with e | e | e <;> omega)))
      have c0 := HKW2.out.cell (HPC.out k (pk0, pn0) HPRK.out).1 (fun h => h)
      simp only [] at c0
      clear hsk2 k2 HSK1 HIA1 HKE1 HC01 HKW1 HADD
      go_wp2_with fail
      with_reducible refine (HPQ.out V2).mono ?_
      rintro e w' ⟨rfl, rfl⟩
      have cu := (HIA2.out q hq10).1
      have cf := (HIA2.out q hq10).2
      have hq0z : (0 : Int) ≤ (q : Int) := by omega
      have hqz : (q : Int) < 10 := by omega
      have hu0 := HHI.out.nn q
      have huq := HUB.out q
      have hdl := diffU_le u
      have HUB2 : Hid (∀ r, updU u q nn r ≤ 1000 * ((k : Int) + 1)) := Lib.hid (fun r => by unfold updU; have := HUB.out r; split <;> omega)
      have HS3 := Lib.hid (HIA2.out.set hq10 nn)
      have HD0 := Lib.hid (fun h => diffU_new (u := u) hq10 hnn1.1 h)
      have HD1 := Lib.hid (fun h => diffU_same (u := u) (q := q) hnn1.1 h)
      obtain ⟨uq, huqe⟩ : ∃ x, u q = x := ⟨_, rfl⟩
      rw [huqe] at cu hu0 huq HS3 HD0 HD1
      clear huqe
      have wu : IntKind.i64.wrap (uq + nn) = uq + nn := wrapI (by unfold I64; omega)
      have hsl := HSUM.out
      have hs0 := Sk.sumH_nonneg (L := L) (fun y hy => by have := HSKP.out y hy; omega)
      have wt : IntKind.i64.wrap (Sk.sumH L + nn) = Sk.sumH L + nn := wrapI (by unfold I64; omega)
      have HKS : Hid (Keep (fun j => j = g) V2 (V2.setCell ⟨g, q, none⟩ (.int .i64 (uq + nn)))) := Lib.hid ((Keep.refl (fun j => j = g) V2).setCell (p := ⟨g, q, none⟩) _ (.inl rfl))
      have HSK3 : Hid (Sk.Sk (V2.setCell ⟨g, q, none⟩ (.int .i64 (uq + nn))) s bm cap (Sk.addC cap L ky nn)) := Lib.hid (HSK2.out.keep HKS.out (fun e => by have h5 : s = g := e; have := HGS.out; omega) (fun e => by have h5 : bm = g := e; have := HGS.out; omega))
      have HKE3 : Hid (Keep (fun j => j = s ∨ j = bm ∨ j = g) W3 (V2.setCell ⟨g, q, none⟩ (.int .i64 (uq + nn)))) := Lib.hid (HKE2.out.trans (HKS.out.mono (fun j e => .inr (.inr e))))
      generalize Sk.addC cap L ky nn = L2 at *
      have HSB : Hid (Sk.sumH L2 ≤ 1000 * ((k : Int) + 1)) := Lib.hid (by rw [HSUM2.out]; omega)
      by_cases h0 : uq = 0
      · have hb : (uq == 0) = true := by simpa using h0
        have HDD := Lib.hid (HD0.out h0)
        clear h0
        generalize diffU u = du at *
        have wd : IntKind.i64.wrap ((du : Int) + 1) = ((du + 1 : Nat) : Int) := by rw [wrapI (by unfold I64; omega)]; omega
        go_wp2_with fail
        clear c0
        have c0 := HKW2.out.cell (HPC.out k (pk0, pn0) HPRK.out).1 (fun h => h)
        simp only [] at c0
        with_reducible refine (HPQ.out V2).mono ?_
        rintro e w' ⟨rfl, rfl⟩
        go_wp2_with fail
        clear c0 cu cf
        go_roundg (60 - (k + 1))
        case rel => exact ⟨k + 1, updU u q nn, L2, by omega, by go_num, by rw [HSUM2.out], by rw [HDD.out]; rfl, HHI2.out, HSK3.out, HS3.out, HKE3.out, HSB.out, HUB2.out⟩
        case measure => omega
      · have hb : (uq == 0) = false := by simpa using h0
        have HDD := Lib.hid (HD1.out (by omega))
        clear h0
        generalize diffU u = du at *
        go_wp2_with fail
        with_reducible refine (HPQ.out V2).mono ?_
        rintro e w' ⟨rfl, rfl⟩
        go_wp2_with fail
        clear c0 cu cf
        go_roundg (60 - (k + 1))
        case rel => exact ⟨k + 1, updU u q nn, L2, by omega, by go_num, by rw [HSUM2.out], by rw [HDD.out], HHI2.out, HSK3.out, HS3.out, HKE3.out, HSB.out, HUB2.out⟩
        case measure => omega
    · have HFA := Lib.hid (hot_facts HHI.out HSK.out.ok hsh1)
      have HLL : Hid (L.length ≤ 12) := Lib.hid (by have := HSK.out.ok.len; omega)
      have HHOT := Lib.hid (hot_sk HSK.out HLL.out sh)
      have hs0 := Sk.sumH_nonneg (L := L) (fun y hy => by have := HSK.out.ok.pos y hy; omega)
      have hs1 := HSUM.out
      have hdl := diffU_le u
      have HNN := Lib.hid HHI.out.nn
      generalize hotL L sh = hot at *
      generalize Sk.sumH L = tot at *
      obtain ⟨du, hdu⟩ : ∃ d, diffU u = d := ⟨_, rfl⟩
      have HDU := Lib.hid hdu
      rw [hdu] at hdl ⊢
      clear hdu
      by_cases hkp : k < pn
      · obtain rfl : k = 60 := by omega
        have hkz : (60 : Int) < (pn : Int) := by omega
        have hkz2 : ((60 : Nat) : Int) < (pn : Int) := by omega
        clear HSK HHI
        go_upto_region 19 with (fail)
        go_wp2_with fail
        with_reducible refine HHOT.out.mono ?_
        rintro e V1 ⟨vh, rfl, hst, k1⟩
        obtain ⟨hhn, ha, hc, hb, hof, rfl, hhc, hha, hhcell⟩ := hst
        have HHC := Lib.hid hhcell
        have HIA1 := Lib.hid (HIA.out.keep k1 (fun h => h))
        have HKW1 := Lib.hid (HKW.out.trans k1)
        obtain ⟨hl, hhl⟩ : ∃ n, hot.length = n := ⟨_, rfl⟩
        have HHL := Lib.hid hhl
        rw [hhl] at hhn hhc hha ⊢
        have HHA := Lib.hid hha
        have HL100 : Hid ((hl : Int) * sh ≤ 100) := Lib.hid (by rw [← hhl]; exact HFA.out.few)
        have hl100 : (hl : Int) ≤ 100 := by
          have h1 := HL100.out
          have h2 : (hl : Int) * 1 ≤ (hl : Int) * sh := Int.mul_le_mul_of_nonneg_left hsh1.1 (by omega)
          omega
        clear hhcell k1 HIA HKE HKW HHOT hha hhl
        obtain ⟨i0, hi, hz0, hz1, hz2⟩ := info_parts infoBool
        obtain ⟨V2, hmk, hown2, hgr2⟩ := run_makeSlice_full (P := Tryz.prog) V1 V1.heap.size 76 4 i0 _ 1 Tryz.underlying76 hi hz0 hz1 .i64 .i64 10 (by decide) (by rw [hz2]; decide) (by decide) (Nat.le_refl _)
        have hmk1 : (Instr.makeSlice 76 (.int .i64 10) (.int .i64 10)).run Tryz.prog V1 = .ok (.slice (some ⟨V1.heap.size, 0, none⟩) 10 10) V2 := hmk
        have HK12 : Hid (Keep (fun _ => False) V1 V2) := Lib.hid ((Keep.of_grown hgr2).mono (fun j e => by cases e))
        have HFB : Hid (FA V2 V1.heap.size (fndK hot 0)) := Lib.hid (by
          have h := hown2
          rw [show (madeCells (Value.bool false).cells (10 * 1)).toList = List.replicate 10 (Value.bool false) by exact toList_madeCells_one _ _] at h
          intro q hq
          refine ⟨?_, h.frozenAt q⟩
          rw [h.cellAt q (by omega), List.getElem?_replicate, if_pos (by omega)]
          rfl)
        have HIA2 := Lib.hid (HIA1.out.keep HK12.out (fun h => h))
        have HKW2 := Lib.hid (HKW1.out.trans HK12.out)
        have HGF : Hid (g < V1.heap.size ∧ w.heap.size ≤ V1.heap.size) := Lib.hid ⟨HIA1.out.lt, HKW1.out.size⟩
        have HHC2 : Hid (∀ V, Keep (fun j => j = V1.heap.size) V2 V → ∀ j x, hot[j]? = some x → V.cell? ⟨hb, hof + j, none⟩ = some (.string x)) := Lib.hid (fun V k j x hj => by
          have h1 := HHC.out j x hj
          have h2 := World.block_lt_of_cell? _ _ h1
          exact k.cell (HK12.out.cell h1 (fun h => h)) (fun e => by have h5 : hb = V1.heap.size := e; have h6 : hb < V1.heap.size := h2; omega))
        clear hmk hown2 hgr2 hi hz0 hz1 hz2 HIA1 HKW1 HHC HK12
        go_upto_region 21 with (fail)
        clear hmk1
        generalize V1.heap.size = gf at *
        go_upto_region 22 with (fail)
        go_loopg [17] hl (fun gh v17 wr2 => ∃ i : Nat, gh + i = hl ∧ v17 = .int .i64 i ∧ FA wr2 gf (fndK hot i) ∧ Keep (fun j => j = gf) V2 wr2)
        case atStart => exact ⟨0, by omega, rfl, HFB.out, Keep.refl _ _⟩
        case round =>
          clear HFB
          obtain ⟨i, hi, rfl, hfa, hkeep⟩ := hrel
          have HF := Lib.hid hfa
          have HKE := Lib.hid hkeep
          clear hfa hkeep
          by_cases hlt : i < hl
          · obtain ⟨hk, hhk⟩ : ∃ x, hot[i]? = some x := ⟨_, List.getElem?_eq_getElem (by rw [HHL.out]; exact hlt)⟩
            obtain ⟨qi, hqi, hqe, hqs⟩ := HFA.out.name hk (List.mem_of_getElem? hhk)
            subst hqe
            have HHK := Lib.hid hhk
            have hiz : (i : Int) < (hl : Int) := by omega
            have hi0 : (0 : Int) ≤ (i : Int) := by omega
            have HNW := Lib.hid (fndK_new HFA.out.nd hhk)
            have HSC := Lib.hid (fndK_succ hhk hqi)
            obtain rfl := HHA.out (by omega)
            have HUQ := Lib.hid hqs
            clear hhk hqs
            go_upto_region 24 with (fail)
            go_upto_region 26 with (fail)
            go_loopg [18, 19] 10 (fun gh v18 v19 wr3 => ∃ n : Nat, gh + n = 10 ∧ v19 = .int .i64 n ∧ v18 = .bool (decide (qi < n)) ∧ FA wr3 gf (fun q => fndK hot i q || (decide (q = qi) && decide (qi < n))) ∧ Keep (fun j => j = gf) V2 wr3)
            case atStart => exact ⟨0, by omega, rfl, by rw [decide_eq_false (by omega)], HF.out.congr (fun q => by rw [decide_eq_false (show ¬ qi < 0 by omega), Bool.and_false, Bool.or_false]), HKE.out⟩
            case round =>
              clear HF HKE
              obtain ⟨n, hn, rfl, rfl, hfa, hkeep⟩ := hrel
              have HF := Lib.hid hfa
              have HKE := Lib.hid hkeep
              clear hfa hkeep
              by_cases hn10 : n < 10
              · have hnz : (n : Int) < 10 := by omega
                have hn0 : (0 : Int) ≤ (n : Int) := by omega
                have HKN : Hid (∀ W, Calls Tryz.prog 44 #[.int .i64 (n : Int)] W fun e w' => e = .returned (.string (keyT n)) ∧ Keep (fun _ => False) W w') := Lib.hid (fun W => by
                  have h := key15_any (n : Int) (by unfold I64; omega) W
                  have e : (pk (n : Int) 10).toNat = n := by unfold pk; rw [if_neg (by omega)]; omega
                  rwa [e] at h)
                have ch : ∀ p : KA (fun _ => False) wr, p.val.cell? ⟨hb, hof + i, none⟩ = some (.string (keyT qi)) := fun p => p.k.cell (HHC2.out _ HKE.out i _ HHK.out) (fun h => h)
                obtain ⟨beq, hbeq⟩ : ∃ b, ((keyT n).toList == (keyT qi).toList) = b := ⟨_, rfl⟩
                have HBE : Hid (beq = decide (n = qi)) := Lib.hid (by
                  rw [← hbeq]
                  by_cases e : n = qi
                  · subst e; simp
                  · rw [decide_eq_false e]
                    have : (keyT n).toList ≠ (keyT qi).toList := fun h => e (keyT_inj hn10 hqi (Sk.toList_inj h))
                    simpa using this)
                generalize keyT n = kn at *
                go_upto_region 28 with (fail)
                refine wp_region_walk [(true, 0), (true, 2), (true, 3), (true, 4), (true, 5), (false, 1), (false, 6)] (inKA (fun _ => False) wr) (by kernel_rfl) (by kernel_rfl) ?_
                iterate 5 (refine walkW_read rfl (fun K hK => ?_); go_simp; refine hK _ ?_; clear hK K)
                clear ch
                have HKD : Hid (Keep (fun _ => False) wr wr.drew) := Lib.hid (Keep.refl _ wr).drew
                refine walkW_do rfl (inKA.of HKD.out) (fun K hK => ?_)
                go_simp
                refine (HKN.out _).mono ?_
                rintro e U1 ⟨rfl, k1⟩
                have HK1 := Lib.hid (HKD.out.trans k1)
                clear k1
                refine hK _ _ ?_; clear hK K
                refine walkW_do rfl (inKA.of HK1.out) (fun K hK => ?_)
                go_simp
                refine hK _ _ ?_; clear hK K
                refine ⟨inKA.of HK1.out, ?_⟩
                have HF1 := Lib.hid (HF.out.keep HK1.out (fun h => h))
                have HKE1 : Hid (Keep (fun j => j = gf) V2 U1) := Lib.hid (HKE.out.trans (HK1.out.mono (fun _ h => h.elim)))
                clear HF HKE HKD HK1
                cases beq with
                | true =>
                  have hnq : n = qi := of_decide_eq_true HBE.out.symm
                  subst hnq
                  have cfn : U1.cell? ⟨gf, n, none⟩ = some (.bool false) := by
                    have := (HF1.out n hn10).1
                    simp only [] at this
                    rw [HNW.out, decide_eq_false (show ¬ n < n by omega), Bool.and_false, Bool.or_false] at this
                    exact this
                  have cff := (HF1.out n hn10).2
                  have cu := HKE1.out.cell (HIA2.out n hn10).1 (fun e => by have h5 : g = gf := e; have := HGF.out; omega)
                  have huq := HUQ.out
                  have hub := HUB.out n
                  have hnn0 := HNN.out n
                  obtain ⟨un, hun⟩ : ∃ x, u n = x := ⟨_, rfl⟩
                  rw [hun] at cu huq hub hnn0
                  clear hun hbeq
                  have wm1 : IntKind.i64.wrap (100 * un) = 100 * un := wrapI (by unfold I64; omega)
                  have hst0 : 0 ≤ sh * tot := Int.mul_nonneg (by omega) hs0
                  have hst1 : sh * tot ≤ 100 * 60000 := Int.mul_le_mul hsh1.2 (by omega) hs0 (by omega)
                  have wm2 : IntKind.i64.wrap (sh * tot) = sh * tot := wrapI (by unfold I64; omega)
                  have hlt2 : ¬ 100 * un < sh * tot := by omega
                  have HF2 : Hid (FA (U1.setCell ⟨gf, n, none⟩ (.bool true)) gf (fun q => fndK hot i q || (decide (q = n) && decide (n < n + 1)))) := Lib.hid ((HF1.out.set hn10).congr (fun q => by
                    rw [decide_eq_false (show ¬ n < n by omega), decide_eq_true (show n < n + 1 by omega), Bool.and_false, Bool.or_false, Bool.and_true]))
                  have HKS : Hid (Keep (fun j => j = gf) U1 (U1.setCell ⟨gf, n, none⟩ (.bool true))) := Lib.hid ((Keep.refl (fun j => j = gf) U1).setCell (p := ⟨gf, n, none⟩) _ (.inl rfl))
                  have HKE2 := Lib.hid (HKE1.out.trans HKS.out)
                  have HDT : Hid (decide (n < n + 1) = true) := Lib.hid (decide_eq_true (by omega))
                  go_wp2_with fail
                  clear cfn cff cu
                  go_roundg (10 - (n + 1))
                  case rel => exact ⟨n + 1, by omega, by go_num, by rw [HDT.out], HF2.out, HKE2.out⟩
                  case measure => omega
                | false =>
                  have hnq : ¬ n = qi := of_decide_eq_false HBE.out.symm
                  have hde : decide (qi < n + 1) = decide (qi < n) := decide_eq_decide.2 ⟨fun h => by omega, fun h => by omega⟩
                  have HDE := Lib.hid hde
                  have HF2 : Hid (FA U1 gf (fun q => fndK hot i q || (decide (q = qi) && decide (qi < n + 1)))) := Lib.hid (HF1.out.congr (fun q => by rw [hde]))
                  clear hbeq hde
                  generalize decide (qi < n) = dq at *
                  go_wp2_with fail
                  go_roundg (10 - (n + 1))
                  case rel => exact ⟨n + 1, by omega, by go_num, by rw [HDE.out], HF2.out, HKE1.out⟩
                  case measure => omega
              · obtain rfl : n = 10 := by omega
                have hnz : ¬ (10 : Int) < 10 := by omega
                have hdq : decide (qi < 10) = true := decide_eq_true hqi
                have HF2 : Hid (FA wr gf (fndK hot (i + 1))) := Lib.hid (fun q hq => by
                  have h := HF.out q hq
                  simp only [hdq, Bool.and_true] at h
                  rw [← HSC.out q hq] at h
                  exact h)
                rw [hdq]
                clear hdq
                go_wp2_with fail
                go_roundg (hl - (i + 1))
                case rel => exact ⟨i + 1, by omega, by go_num, HF2.out, HKE.out⟩
                case measure => omega
          · obtain rfl : i = hl := by omega
            have HIA9 := Lib.hid (HIA2.out.keep HKE.out (fun e => by have h5 : g = gf := e; have := HGF.out; omega))
            have HKF : Hid (Keep (fun _ => False) w wr) := Lib.hid (HKW2.out.trans' HKE.out (fun j e => .inr (by have h5 : j = gf := e; have := HGF.out; omega)))
            have hiz : ¬ (i : Int) < (i : Int) := by omega
            have HALL := Lib.hid (fun q (h : keyT q ∈ hot) => fndK_all (i := i) (by rw [HHL.out]; omega) h)
            have HF9 : Hid (FA wr gf (fndK hot i)) := HF
            generalize hff : fndK hot i = ff at *
            clear hff
            have HFB := Lib.hid HF9.out
            clear HF HF9
            go_upto_region 35 with (fail)
            clear hiz
            go_upto_region 36 with (fail)
            go_loopg [20] 10 (fun gh v20 wr4 => ∃ n : Nat, gh + n = 10 ∧ v20 = .int .i64 n ∧ wr4 = wr)
            case atStart => exact ⟨0, by omega, rfl, rfl⟩
            case round =>
              obtain ⟨n, hn, rfl, rfl⟩ := hrel
              by_cases hn10 : n < 10
              · have hnz : (n : Int) < 10 := by omega
                have hn0 : (0 : Int) ≤ (n : Int) := by omega
                have cu := (HIA9.out n hn10).1
                have cf := (HFB.out n hn10).1
                have hub := HUB.out n
                have hnn0 := HNN.out n
                have HFD := Lib.hid (fun (h1 : du ≤ cap) (h2 : 0 < u n) (h3 : sh * tot ≤ 100 * u n) => HALL.out n (HFA.out.found (by rw [HDU.out]; exact h1) n hn10 h2 h3))
                obtain ⟨un, hun⟩ : ∃ x, u n = x := ⟨_, rfl⟩
                rw [hun] at cu hub hnn0 HFD
                clear hun
                obtain ⟨fb, hfb⟩ : ∃ b, ff n = b := ⟨_, rfl⟩
                rw [hfb] at cf HFD
                clear hfb
                have wm1 : IntKind.i64.wrap (100 * un) = 100 * un := wrapI (by unfold I64; omega)
                have hst0 : 0 ≤ sh * tot := Int.mul_nonneg (by omega) hs0
                have hst1 : sh * tot ≤ 100 * 60000 := Int.mul_le_mul hsh1.2 (by omega) hs0 (by omega)
                have wm2 : IntKind.i64.wrap (sh * tot) = sh * tot := wrapI (by unfold I64; omega)
                go_wp2_with fail
                with_reducible refine (HPK.out _).mono ?_
                rintro e w' ⟨rfl, rfl⟩
                by_cases c1 : du ≤ cap
                · have c1z : (du : Int) ≤ (cap : Int) := by omega
                  by_cases c2 : 0 < un
                  · by_cases c3 : sh * tot ≤ 100 * un
                    · obtain rfl := HFD.out c1 c2 c3
                      go_wp2_with fail
                      clear cu cf
                      go_roundg (10 - (n + 1))
                      case rel => exact ⟨n + 1, by omega, by go_num, rfl⟩
                      case measure => omega
                    · go_wp2_with fail
                      clear cu cf
                      go_roundg (10 - (n + 1))
                      case rel => exact ⟨n + 1, by omega, by go_num, rfl⟩
                      case measure => omega
                  · go_wp2_with fail
                    clear cu cf
                    go_roundg (10 - (n + 1))
                    case rel => exact ⟨n + 1, by omega, by go_num, rfl⟩
                    case measure => omega
                · have c1z : ¬ (du : Int) ≤ (cap : Int) := by omega
                  go_wp2_with fail
                  clear cu cf
                  go_roundg (10 - (n + 1))
                  case rel => exact ⟨n + 1, by omega, by go_num, rfl⟩
                  case measure => omega
              · obtain rfl : n = 10 := by omega
                have hfew := HL100.out
                have hfew0 : 0 ≤ (i : Int) * sh := Int.mul_nonneg (by omega) (by omega)
                have wl : IntKind.i64.wrap ((i : Int) * sh) = (i : Int) * sh := wrapI (by unfold I64; omega)
                have hnz : ¬ (10 : Int) < 10 := by omega
                go_wp2_with fail
                go_ret
                exact ⟨rfl, HKF.out⟩
      · have hkz : ¬ (k : Int) < (pn : Int) := by omega
        clear HSK HHI
        go_upto_region 19 with (fail)
        go_wp2_with fail
        with_reducible refine HHOT.out.mono ?_
        rintro e V1 ⟨vh, rfl, hst, k1⟩
        obtain ⟨hhn, ha, hc, hb, hof, rfl, hhc, hha, hhcell⟩ := hst
        have HHC := Lib.hid hhcell
        have HIA1 := Lib.hid (HIA.out.keep k1 (fun h => h))
        have HKW1 := Lib.hid (HKW.out.trans k1)
        obtain ⟨hl, hhl⟩ : ∃ n, hot.length = n := ⟨_, rfl⟩
        have HHL := Lib.hid hhl
        rw [hhl] at hhn hhc hha ⊢
        have HHA := Lib.hid hha
        have HL100 : Hid ((hl : Int) * sh ≤ 100) := Lib.hid (by rw [← hhl]; exact HFA.out.few)
        have hl100 : (hl : Int) ≤ 100 := by
          have h1 := HL100.out
          have h2 : (hl : Int) * 1 ≤ (hl : Int) * sh := Int.mul_le_mul_of_nonneg_left hsh1.1 (by omega)
          omega
        clear hhcell k1 HIA HKE HKW HHOT hha hhl
        obtain ⟨i0, hi, hz0, hz1, hz2⟩ := info_parts infoBool
        obtain ⟨V2, hmk, hown2, hgr2⟩ := run_makeSlice_full (P := Tryz.prog) V1 V1.heap.size 76 4 i0 _ 1 Tryz.underlying76 hi hz0 hz1 .i64 .i64 10 (by decide) (by rw [hz2]; decide) (by decide) (Nat.le_refl _)
        have hmk1 : (Instr.makeSlice 76 (.int .i64 10) (.int .i64 10)).run Tryz.prog V1 = .ok (.slice (some ⟨V1.heap.size, 0, none⟩) 10 10) V2 := hmk
        have HK12 : Hid (Keep (fun _ => False) V1 V2) := Lib.hid ((Keep.of_grown hgr2).mono (fun j e => by cases e))
        have HFB : Hid (FA V2 V1.heap.size (fndK hot 0)) := Lib.hid (by
          have h := hown2
          rw [show (madeCells (Value.bool false).cells (10 * 1)).toList = List.replicate 10 (Value.bool false) by exact toList_madeCells_one _ _] at h
          intro q hq
          refine ⟨?_, h.frozenAt q⟩
          rw [h.cellAt q (by omega), List.getElem?_replicate, if_pos (by omega)]
          rfl)
        have HIA2 := Lib.hid (HIA1.out.keep HK12.out (fun h => h))
        have HKW2 := Lib.hid (HKW1.out.trans HK12.out)
        have HGF : Hid (g < V1.heap.size ∧ w.heap.size ≤ V1.heap.size) := Lib.hid ⟨HIA1.out.lt, HKW1.out.size⟩
        have HHC2 : Hid (∀ V, Keep (fun j => j = V1.heap.size) V2 V → ∀ j x, hot[j]? = some x → V.cell? ⟨hb, hof + j, none⟩ = some (.string x)) := Lib.hid (fun V k j x hj => by
          have h1 := HHC.out j x hj
          have h2 := World.block_lt_of_cell? _ _ h1
          exact k.cell (HK12.out.cell h1 (fun h => h)) (fun e => by have h5 : hb = V1.heap.size := e; have h6 : hb < V1.heap.size := h2; omega))
        clear hmk hown2 hgr2 hi hz0 hz1 hz2 HIA1 HKW1 HHC HK12
        go_upto_region 21 with (fail)
        clear hmk1
        generalize V1.heap.size = gf at *
        go_upto_region 22 with (fail)
        go_loopg [17] hl (fun gh v17 wr2 => ∃ i : Nat, gh + i = hl ∧ v17 = .int .i64 i ∧ FA wr2 gf (fndK hot i) ∧ Keep (fun j => j = gf) V2 wr2)
        case atStart => exact ⟨0, by omega, rfl, HFB.out, Keep.refl _ _⟩
        case round =>
          clear HFB
          obtain ⟨i, hi, rfl, hfa, hkeep⟩ := hrel
          have HF := Lib.hid hfa
          have HKE := Lib.hid hkeep
          clear hfa hkeep
          by_cases hlt : i < hl
          · obtain ⟨hk, hhk⟩ : ∃ x, hot[i]? = some x := ⟨_, List.getElem?_eq_getElem (by rw [HHL.out]; exact hlt)⟩
            obtain ⟨qi, hqi, hqe, hqs⟩ := HFA.out.name hk (List.mem_of_getElem? hhk)
            subst hqe
            have HHK := Lib.hid hhk
            have hiz : (i : Int) < (hl : Int) := by omega
            have hi0 : (0 : Int) ≤ (i : Int) := by omega
            have HNW := Lib.hid (fndK_new HFA.out.nd hhk)
            have HSC := Lib.hid (fndK_succ hhk hqi)
            obtain rfl := HHA.out (by omega)
            have HUQ := Lib.hid hqs
            clear hhk hqs
            go_upto_region 24 with (fail)
            go_upto_region 26 with (fail)
            go_loopg [18, 19] 10 (fun gh v18 v19 wr3 => ∃ n : Nat, gh + n = 10 ∧ v19 = .int .i64 n ∧ v18 = .bool (decide (qi < n)) ∧ FA wr3 gf (fun q => fndK hot i q || (decide (q = qi) && decide (qi < n))) ∧ Keep (fun j => j = gf) V2 wr3)
            case atStart => exact ⟨0, by omega, rfl, by rw [decide_eq_false (by omega)], HF.out.congr (fun q => by rw [decide_eq_false (show ¬ qi < 0 by omega), Bool.and_false, Bool.or_false]), HKE.out⟩
            case round =>
              clear HF HKE
              obtain ⟨n, hn, rfl, rfl, hfa, hkeep⟩ := hrel
              have HF := Lib.hid hfa
              have HKE := Lib.hid hkeep
              clear hfa hkeep
              by_cases hn10 : n < 10
              · have hnz : (n : Int) < 10 := by omega
                have hn0 : (0 : Int) ≤ (n : Int) := by omega
                have HKN : Hid (∀ W, Calls Tryz.prog 44 #[.int .i64 (n : Int)] W fun e w' => e = .returned (.string (keyT n)) ∧ Keep (fun _ => False) W w') := Lib.hid (fun W => by
                  have h := key15_any (n : Int) (by unfold I64; omega) W
                  have e : (pk (n : Int) 10).toNat = n := by unfold pk; rw [if_neg (by omega)]; omega
                  rwa [e] at h)
                have ch : ∀ p : KA (fun _ => False) wr, p.val.cell? ⟨hb, hof + i, none⟩ = some (.string (keyT qi)) := fun p => p.k.cell (HHC2.out _ HKE.out i _ HHK.out) (fun h => h)
                obtain ⟨beq, hbeq⟩ : ∃ b, ((keyT n).toList == (keyT qi).toList) = b := ⟨_, rfl⟩
                have HBE : Hid (beq = decide (n = qi)) := Lib.hid (by
                  rw [← hbeq]
                  by_cases e : n = qi
                  · subst e; simp
                  · rw [decide_eq_false e]
                    have : (keyT n).toList ≠ (keyT qi).toList := fun h => e (keyT_inj hn10 hqi (Sk.toList_inj h))
                    simpa using this)
                generalize keyT n = kn at *
                go_upto_region 28 with (fail)
                refine wp_region_walk [(true, 0), (true, 2), (true, 3), (true, 4), (true, 5), (false, 1), (false, 6)] (inKA (fun _ => False) wr) (by kernel_rfl) (by kernel_rfl) ?_
                iterate 5 (refine walkW_read rfl (fun K hK => ?_); go_simp; refine hK _ ?_; clear hK K)
                clear ch
                have HKD : Hid (Keep (fun _ => False) wr wr.drew) := Lib.hid (Keep.refl _ wr).drew
                refine walkW_do rfl (inKA.of HKD.out) (fun K hK => ?_)
                go_simp
                refine (HKN.out _).mono ?_
                rintro e U1 ⟨rfl, k1⟩
                have HK1 := Lib.hid (HKD.out.trans k1)
                clear k1
                refine hK _ _ ?_; clear hK K
                refine walkW_do rfl (inKA.of HK1.out) (fun K hK => ?_)
                go_simp
                refine hK _ _ ?_; clear hK K
                refine ⟨inKA.of HK1.out, ?_⟩
                have HF1 := Lib.hid (HF.out.keep HK1.out (fun h => h))
                have HKE1 : Hid (Keep (fun j => j = gf) V2 U1) := Lib.hid (HKE.out.trans (HK1.out.mono (fun _ h => h.elim)))
                clear HF HKE HKD HK1
                cases beq with
                | true =>
                  have hnq : n = qi := of_decide_eq_true HBE.out.symm
                  subst hnq
                  have cfn : U1.cell? ⟨gf, n, none⟩ = some (.bool false) := by
                    have := (HF1.out n hn10).1
                    simp only [] at this
                    rw [HNW.out, decide_eq_false (show ¬ n < n by omega), Bool.and_false, Bool.or_false] at this
                    exact this
                  have cff := (HF1.out n hn10).2
                  have cu := HKE1.out.cell (HIA2.out n hn10).1 (fun e => by have h5 : g = gf := e; have := HGF.out; omega)
                  have huq := HUQ.out
                  have hub := HUB.out n
                  have hnn0 := HNN.out n
                  obtain ⟨un, hun⟩ : ∃ x, u n = x := ⟨_, rfl⟩
                  rw [hun] at cu huq hub hnn0
                  clear hun hbeq
                  have wm1 : IntKind.i64.wrap (100 * un) = 100 * un := wrapI (by unfold I64; omega)
                  have hst0 : 0 ≤ sh * tot := Int.mul_nonneg (by omega) hs0
                  have hst1 : sh * tot ≤ 100 * 60000 := Int.mul_le_mul hsh1.2 (by omega) hs0 (by omega)
                  have wm2 : IntKind.i64.wrap (sh * tot) = sh * tot := wrapI (by unfold I64; omega)
                  have hlt2 : ¬ 100 * un < sh * tot := by omega
                  have HF2 : Hid (FA (U1.setCell ⟨gf, n, none⟩ (.bool true)) gf (fun q => fndK hot i q || (decide (q = n) && decide (n < n + 1)))) := Lib.hid ((HF1.out.set hn10).congr (fun q => by
                    rw [decide_eq_false (show ¬ n < n by omega), decide_eq_true (show n < n + 1 by omega), Bool.and_false, Bool.or_false, Bool.and_true]))
                  have HKS : Hid (Keep (fun j => j = gf) U1 (U1.setCell ⟨gf, n, none⟩ (.bool true))) := Lib.hid ((Keep.refl (fun j => j = gf) U1).setCell (p := ⟨gf, n, none⟩) _ (.inl rfl))
                  have HKE2 := Lib.hid (HKE1.out.trans HKS.out)
                  have HDT : Hid (decide (n < n + 1) = true) := Lib.hid (decide_eq_true (by omega))
                  go_wp2_with fail
                  clear cfn cff cu
                  go_roundg (10 - (n + 1))
                  case rel => exact ⟨n + 1, by omega, by go_num, by rw [HDT.out], HF2.out, HKE2.out⟩
                  case measure => omega
                | false =>
                  have hnq : ¬ n = qi := of_decide_eq_false HBE.out.symm
                  have hde : decide (qi < n + 1) = decide (qi < n) := decide_eq_decide.2 ⟨fun h => by omega, fun h => by omega⟩
                  have HDE := Lib.hid hde
                  have HF2 : Hid (FA U1 gf (fun q => fndK hot i q || (decide (q = qi) && decide (qi < n + 1)))) := Lib.hid (HF1.out.congr (fun q => by rw [hde]))
                  clear hbeq hde
                  generalize decide (qi < n) = dq at *
                  go_wp2_with fail
                  go_roundg (10 - (n + 1))
                  case rel => exact ⟨n + 1, by omega, by go_num, by rw [HDE.out], HF2.out, HKE1.out⟩
                  case measure => omega
              · obtain rfl : n = 10 := by omega
                have hnz : ¬ (10 : Int) < 10 := by omega
                have hdq : decide (qi < 10) = true := decide_eq_true hqi
                have HF2 : Hid (FA wr gf (fndK hot (i + 1))) := Lib.hid (fun q hq => by
                  have h := HF.out q hq
                  simp only [hdq, Bool.and_true] at h
                  rw [← HSC.out q hq] at h
                  exact h)
                rw [hdq]
                clear hdq
                go_wp2_with fail
                go_roundg (hl - (i + 1))
                case rel => exact ⟨i + 1, by omega, by go_num, HF2.out, HKE.out⟩
                case measure => omega
          · obtain rfl : i = hl := by omega
            have HIA9 := Lib.hid (HIA2.out.keep HKE.out (fun e => by have h5 : g = gf := e; have := HGF.out; omega))
            have HKF : Hid (Keep (fun _ => False) w wr) := Lib.hid (HKW2.out.trans' HKE.out (fun j e => .inr (by have h5 : j = gf := e; have := HGF.out; omega)))
            have hiz : ¬ (i : Int) < (i : Int) := by omega
            have HALL := Lib.hid (fun q (h : keyT q ∈ hot) => fndK_all (i := i) (by rw [HHL.out]; omega) h)
            have HF9 : Hid (FA wr gf (fndK hot i)) := HF
            generalize hff : fndK hot i = ff at *
            clear hff
            have HFB := Lib.hid HF9.out
            clear HF HF9
            go_upto_region 35 with (fail)
            clear hiz
            go_upto_region 36 with (fail)
            go_loopg [20] 10 (fun gh v20 wr4 => ∃ n : Nat, gh + n = 10 ∧ v20 = .int .i64 n ∧ wr4 = wr)
            case atStart => exact ⟨0, by omega, rfl, rfl⟩
            case round =>
              obtain ⟨n, hn, rfl, rfl⟩ := hrel
              by_cases hn10 : n < 10
              · have hnz : (n : Int) < 10 := by omega
                have hn0 : (0 : Int) ≤ (n : Int) := by omega
                have cu := (HIA9.out n hn10).1
                have cf := (HFB.out n hn10).1
                have hub := HUB.out n
                have hnn0 := HNN.out n
                have HFD := Lib.hid (fun (h1 : du ≤ cap) (h2 : 0 < u n) (h3 : sh * tot ≤ 100 * u n) => HALL.out n (HFA.out.found (by rw [HDU.out]; exact h1) n hn10 h2 h3))
                obtain ⟨un, hun⟩ : ∃ x, u n = x := ⟨_, rfl⟩
                rw [hun] at cu hub hnn0 HFD
                clear hun
                obtain ⟨fb, hfb⟩ : ∃ b, ff n = b := ⟨_, rfl⟩
                rw [hfb] at cf HFD
                clear hfb
                have wm1 : IntKind.i64.wrap (100 * un) = 100 * un := wrapI (by unfold I64; omega)
                have hst0 : 0 ≤ sh * tot := Int.mul_nonneg (by omega) hs0
                have hst1 : sh * tot ≤ 100 * 60000 := Int.mul_le_mul hsh1.2 (by omega) hs0 (by omega)
                have wm2 : IntKind.i64.wrap (sh * tot) = sh * tot := wrapI (by unfold I64; omega)
                go_wp2_with fail
                with_reducible refine (HPK.out _).mono ?_
                rintro e w' ⟨rfl, rfl⟩
                by_cases c1 : du ≤ cap
                · have c1z : (du : Int) ≤ (cap : Int) := by omega
                  by_cases c2 : 0 < un
                  · by_cases c3 : sh * tot ≤ 100 * un
                    · obtain rfl := HFD.out c1 c2 c3
                      go_wp2_with fail
                      clear cu cf
                      go_roundg (10 - (n + 1))
                      case rel => exact ⟨n + 1, by omega, by go_num, rfl⟩
                      case measure => omega
                    · go_wp2_with fail
                      clear cu cf
                      go_roundg (10 - (n + 1))
                      case rel => exact ⟨n + 1, by omega, by go_num, rfl⟩
                      case measure => omega
                  · go_wp2_with fail
                    clear cu cf
                    go_roundg (10 - (n + 1))
                    case rel => exact ⟨n + 1, by omega, by go_num, rfl⟩
                    case measure => omega
                · have c1z : ¬ (du : Int) ≤ (cap : Int) := by omega
                  go_wp2_with fail
                  clear cu cf
                  go_roundg (10 - (n + 1))
                  case rel => exact ⟨n + 1, by omega, by go_num, rfl⟩
                  case measure => omega
              · obtain rfl : n = 10 := by omega
                have hfew := HL100.out
                have hfew0 : 0 ≤ (i : Int) * sh := Int.mul_nonneg (by omega) (by omega)
                have wl : IntKind.i64.wrap ((i : Int) * sh) = (i : Int) * sh := wrapI (by unfold I64; omega)
                have hnz : ¬ (10 : Int) < 10 := by omega
                go_wp2_with fail
                go_ret
                exact ⟨rfl, HKF.out⟩
end Go.Proofs.YtplkmbfeeegaiaaGreatDoor
