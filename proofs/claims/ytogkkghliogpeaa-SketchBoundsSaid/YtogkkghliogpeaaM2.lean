/-
  SketchBounds: the walk.
-/
import Derived.Test.YtogkkghliogpeaaM0
namespace Go.Proofs.Ytogkkghliogpeaa
open Go.RowKit Go.Shelf

set_option maxRecDepth 100000 in
set_option maxHeartbeats 16000000 in
theorem bounds_go (k j : Int) (a : Option Addr) (b off n ca : Nat) (f : Nat → Nat → Int) (ra : Option Addr) (rl rc : Nat) (xs : List Int) (w : World) (hk : -9223372036854775808 ≤ k ∧ k ≤ 9223372036854775807) (hj : -9223372036854775808 ≤ j ∧ j ≤ 9223372036854775807)
    (hn : n ≤ 9223372036854775807) (ha : 0 < n → a = some ⟨b, off, none⟩) (hst : Steps w b off n f) (hr : IsInts w ra rl xs) :
    Calls Try.prog 7 #[.int .i64 k, .int .i64 j, .slice a n ca, .slice ra rl rc] w fun e w' => e = .returned (.bool true) ∧ Keep (fun _ => False) w w' := by
  obtain ⟨kp, hkp, hkl⟩ := pk_int k 12 (by decide)
  obtain ⟨jp, hjp, hjl⟩ := pk_int j 12 (by decide)
  have hnew : ∀ (q : Nat), q < 12 → ∀ w, Calls Try.prog 12 #[.int .i64 (1 + (q : Int))] w (NewPost (1 + q) w) := fun q hq w => by
    have := new_ok (1 + q) (by omega) (by omega) w
    simpa using this
  have HNEW := Lib.hid hnew
  have HPK := Lib.hid (And.intro hkp hjp)
  have HST := Lib.hid hst
  have HAD := Lib.hid ha
  have HRN := Lib.hid hr
  have hrl : rl ≤ 9223372036854775807 := hr.1
  clear hnew hkp hjp hst ha hr
  go_enter Try.func7, Try.ntmps7
  go_wp2_with fail
  with_reducible refine (sane_any _).mono ?_
  rintro e W0 ⟨rfl, k0⟩
  have HF0 := Lib.hid (Fam.nil k0)
  clear k0
  go_wp2_with fail
  with_reducible refine (pick_int k 12 kp _ hk.1 hk.2 (by decide) (by decide) HPK.out.1).mono ?_
  rintro e W0' ⟨rfl, rfl⟩
  go_wp2_with fail
  with_reducible refine (pick_int j 12 jp _ hj.1 hj.2 (by decide) (by decide) HPK.out.2).mono ?_
  rintro e W0' ⟨rfl, rfl⟩
  go_wp2_with fail
  with_reducible refine (HNEW.out kp (by omega) _).mono ?_
  rintro e W1 ⟨sa, ba, rfl, hs, kk, hl1, hl2⟩
  have HF1 := Lib.hid (HF0.out.new hs kk hl1 hl2)
  clear hs kk hl1 hl2 HF0
  go_wp2_with fail
  with_reducible refine (HNEW.out jp (by omega) _).mono ?_
  rintro e W2 ⟨sb, bb, rfl, hs, kk, hl1, hl2⟩
  have HF2 : Hid (Fam w W2 [⟨sa, ba, 1 + kp, []⟩, ⟨sb, bb, 1 + jp, []⟩]) := Lib.hid (HF1.out.new hs kk hl1 hl2)
  clear hs kk hl1 hl2 HF1 HNEW
  go_wp2_with fail
  have HBG : Hid (BG w ((W2.alloc (.cells #[.int .i64 0, .int .i64 0, .int .i64 0, .int .i64 0, .int .i64 0, .int .i64 0, .int .i64 0, .int .i64 0, .int .i64 0, .int .i64 0] 52)).alloc (.cells #[.int .i64 0, .int .i64 0, .int .i64 0, .int .i64 0, .int .i64 0, .int .i64 0, .int .i64 0, .int .i64 0, .int .i64 0, .int .i64 0] 52)) sa ba (1 + kp) [] (fun _ => 0) sb bb (1 + jp) [] (fun _ => 0) W2.heap.size (W2.heap.size + 1) 0) := Lib.hid (by
    have h1 := (HF2.out.at_ (A := []) (B := [_])).at_.lt
    have h2 := (HF2.out.at_ (A := [_]) (B := [])).at_.lt
    have h3 := HF2.out.k.size
    have ka := (Keep.refl (fun _ => False) W2).alloc (.cells #[.int .i64 0, .int .i64 0, .int .i64 0, .int .i64 0, .int .i64 0, .int .i64 0, .int .i64 0, .int .i64 0, .int .i64 0, .int .i64 0] 52)
    have kb := (Keep.refl (fun _ => False) (W2.alloc (.cells #[.int .i64 0, .int .i64 0, .int .i64 0, .int .i64 0, .int .i64 0, .int .i64 0, .int .i64 0, .int .i64 0, .int .i64 0, .int .i64 0] 52))).alloc (.cells #[.int .i64 0, .int .i64 0, .int .i64 0, .int .i64 0, .int .i64 0, .int .i64 0, .int .i64 0, .int .i64 0, .int .i64 0, .int .i64 0] 52)
    have hz := zero_arr (W2.alloc (.cells #[.int .i64 0, .int .i64 0, .int .i64 0, .int .i64 0, .int .i64 0, .int .i64 0, .int .i64 0, .int .i64 0, .int .i64 0, .int .i64 0] 52))
    rw [World.size_alloc] at hz
    simp only [] at h1 h2
    refine ⟨(HF2.out.keep ka).keep kb, (zero_arr W2).keep kb (fun h => h), hz, h3, by omega, by omega, ⟨by omega, by omega, by omega, by omega⟩, ⟨by omega, by omega, by omega, by omega⟩, ⟨by omega, by omega⟩, Bd.nil _ (by omega), Bd.nil _ (by omega), (fun x hx => nomatch hx), (fun x hx => nomatch hx), ?_⟩
    exact ⟨Int.le_refl _, Int.le_refl _, by simp [sumH, pot]⟩)
  generalize (W2.alloc (.cells #[.int .i64 0, .int .i64 0, .int .i64 0, .int .i64 0, .int .i64 0, .int .i64 0, .int .i64 0, .int .i64 0, .int .i64 0, .int .i64 0] 52)).alloc (.cells #[.int .i64 0, .int .i64 0, .int .i64 0, .int .i64 0, .int .i64 0, .int .i64 0, .int .i64 0, .int .i64 0, .int .i64 0, .int .i64 0] 52) = W3 at *
  generalize hxb : W2.heap.size = xb at *
  generalize hyb : xb + 1 = yb at *
  clear HF2 hxb hyb
  go_loopg [0, 1, 10, 12, 16] 60 (fun gh v0 v1 v10 v12 v16 wr => ∃ (i s1 b1 k1 : Nat) (L1 : List C) (c : ByteArray → Int) (s2 b2 k2 : Nat) (L2 : List C) (d : ByteArray → Int), v16 = .int .i64 i ∧ v0 = .int .i64 k1 ∧ v1 = .int .i64 k2 ∧ v10 = ptr s1 ∧ v12 = ptr s2 ∧ i ≤ 60 ∧ 60 ≤ gh + i ∧ BG w wr s1 b1 k1 L1 c s2 b2 k2 L2 d xb yb i)
  case atStart => exact ⟨0, sa, ba, 1 + kp, [], _, sb, bb, 1 + jp, [], _, rfl, by simp, by simp, rfl, rfl, by omega, by omega, HBG.out⟩
  case round =>
    clear HBG
    obtain ⟨i, s1, b1, k1, L1, c, s2, b2, k2, L2, d, rfl, rfl, rfl, rfl, rfl, hi60, hgh, hbg⟩ := hrel
    have HG := Lib.hid hbg
    clear hbg
    by_cases hgo : i < n ∧ i < 60
    · obtain ⟨hin, hi⟩ := hgo
      obtain rfl := HAD.out (by omega)
      have hinz : (i : Int) < (n : Int) := by omega
      have hiz : (i : Int) < 60 := by omega
      have hi0 : (0 : Int) ≤ (i : Int) := by omega
      have hf0 : -9223372036854775808 ≤ f i 0 ∧ f i 0 ≤ 9223372036854775807 := ⟨HST.out.lo i 0, HST.out.hi i 0⟩
      have hf1 : -9223372036854775808 ≤ f i 1 ∧ f i 1 ≤ 9223372036854775807 := ⟨HST.out.lo i 1, HST.out.hi i 1⟩
      have hf2 : -9223372036854775808 ≤ f i 2 ∧ f i 2 ≤ 9223372036854775807 := ⟨HST.out.lo i 2, HST.out.hi i 2⟩
      have q0 := HG.out.fam.k.cell (HST.out.cell i 0 hin (by decide)) (fun h => h)
      rw [Nat.add_zero] at q0
      obtain ⟨n0, hn0', hn0l⟩ := pk_int (f i 0) 12 (by decide)
      have HP0 := Lib.hid hn0'
      clear hn0'
      go_wp2_with fail
      with_reducible refine (pick_int (f i 0) 12 n0 _ hf0.1 hf0.2 (by decide) (by decide) HP0.out).mono ?_
      rintro e wr' ⟨rfl, rfl⟩
      clear q0
      by_cases hz0 : n0 = 0
      · subst hz0
        go_wp2_with fail
        with_reducible refine (halve_sk HG.out.sk1).mono ?_
        rintro e W5 ⟨rfl, hsk, k5⟩
        have HSUM := Lib.hid (halve_sum HG.out.sk1.ok)
        have HBM : Hid (Bd k1 (halveC L1) (hfC c xs)) := Lib.hid (HG.out.bd1.halve HG.out.sk1.ok (fun k _ => ⟨rnd xs (nms.idxOf k), (rnd_bd xs _).1, (rnd_bd xs _).2, rfl⟩))
        have HH5 : Hid (BH w W5 s1 b1 k1 (halveC L1) (fun j => c (nm j)) s2 b2 k2 L2 d xb yb) := Lib.hid (by
          have h := HG.out
          exact ⟨h.fam.upd (A := []) (B := [_]) k5 hsk, h.xa.toF.keep k5 (fun e => by have := h.xs; omega), h.ya.keep k5 (fun e => by have := h.ys; omega), h.x0, h.xy, h.xs⟩)
        clear hsk k5
        go_wp2_with fail
        go_loopg [17] 10 (fun g2 vm wr2 => ∃ m : Nat, vm = .int .i64 m ∧ m ≤ 10 ∧ 10 ≤ g2 + m ∧ BH w wr2 s1 b1 k1 (halveC L1) (fun j => if j < m then (c (nm j) + rnd xs j) / 2 else c (nm j)) s2 b2 k2 L2 d xb yb)
        case atStart => exact ⟨0, rfl, by omega, by omega, HH5.out.congr (fun j _ => by simp)⟩
        case round =>
          clear HH5
          obtain ⟨m, rfl, hm10, hg2, hbh⟩ := hrel
          have HB := Lib.hid hbh
          clear hbh
          by_cases hm : m < 10
          · have hmz : (m : Int) < 10 := by omega
            have hm0 : (0 : Int) ≤ (m : Int) := by omega
            have hc0 := HG.out.bd1.nn HG.out.sk1.ok (nm_mem m hm).2.1
            have hsm := HG.out.small (by omega)
            have hgm : (if m < m then (c (nm m) + rnd xs m) / 2 else c (nm m)) = c (nm m) := by simp
            have HNX : ∀ W6 : World, Hid (BH w W6 s1 b1 k1 (halveC L1) (fun j => if j = m then c (nm m) + rnd xs m else if j < m then (c (nm j) + rnd xs j) / 2 else c (nm j)) s2 b2 k2 L2 d xb yb) → Hid (BH w (W6.setCell ⟨xb, m, none⟩ (.int .i64 ((c (nm m) + rnd xs m) / 2))) s1 b1 k1 (halveC L1) (fun j => if j < m + 1 then (c (nm j) + rnd xs j) / 2 else c (nm j)) s2 b2 k2 L2 d xb yb) := fun W6 hW => Lib.hid (by
              refine (hW.out.set m ((c (nm m) + rnd xs m) / 2)).congr (fun j _ => ?_)
              by_cases e : j = m
              · subst e; simp
              · by_cases e2 : j < m
                · rw [if_pos (by omega), if_neg e, if_neg e, if_pos e2]
                · rw [if_neg (by omega), if_neg e, if_neg e, if_neg e2])
            have HNX' := Lib.hid HNX
            clear HNX
            have x0' : wr.cell? ⟨xb, m, none⟩ = some (.int .i64 (c (nm m))) := by have := (HB.out.xa m hm).1; rwa [hgm] at this
            have x1 := (HB.out.xa m hm).2
            by_cases hml : m < rl
            · have hmlz : (m : Int) < (rl : Int) := by omega
              have hxl := HRN.out.2.1
              obtain ⟨v, hv⟩ : ∃ v, xs[m]? = some v := ⟨_, List.getElem?_eq_getElem (by omega)⟩
              have hrn : rnd xs m = pk v 2 := by unfold rnd; rw [hv]
              obtain ⟨r, hr, hrl2⟩ := pk_int v 2 (by decide)
              have hvb := HRN.out.2.2.2 v (List.mem_of_getElem? hv)
              obtain ⟨rb, roff, rfl, hcell⟩ := HRN.out.2.2.1 m v hv
              rw [hr] at hrn
              rw [hrn] at HNX'
              have HPR := Lib.hid hr
              have q0 : wr.drew.cell? ⟨rb, roff + m, none⟩ = some (.int .i64 v) := HB.out.fam.k.cell hcell (fun h => h)
              have x0 : wr.drew.cell? ⟨xb, m, none⟩ = some (.int .i64 (c (nm m))) := x0'
              clear hr hv hcell hxl hgm
              go_wp2_with fail
              have HB6 : Hid (BH w (wr.setCell ⟨xb, m, none⟩ (.int .i64 (c (nm m) + (r : Int)))).drew s1 b1 k1 (halveC L1) (fun j => if j = m then c (nm m) + (r : Int) else if j < m then (c (nm j) + rnd xs j) / 2 else c (nm j)) s2 b2 k2 L2 d xb yb) := Lib.hid ((HB.out.set m (c (nm m) + (r : Int))).keep (Keep.refl _ _).drew)
              have HN7 := HNX'.out _ HB6
              have x2 : (wr.setCell ⟨xb, m, none⟩ (.int .i64 (c (nm m) + (r : Int)))).drew.cell? ⟨xb, m, none⟩ = some (.int .i64 (c (nm m) + (r : Int))) := by have := (HB6.out.xa m hm).1; rwa [if_pos rfl] at this
              have x3 := (HB6.out.xa m hm).2
              clear HB6 HNX' HB hrn
              generalize c (nm m) = cm at *
              refine wp_region_still_tail 11 (by kernel_rfl) (by kernel_rfl) ?_
              simp only [List.take_succ_cons, List.take_zero, List.drop_succ_cons, List.drop_zero]
              change wpStill _ _ wr.drew _ _ _
              iterate 8 still_step
              still_call (pick_int' v 2 r _ hvb.1 hvb.2 (by decide) (by decide) HPR.out)
              iterate 2 still_step
              refine wpStill_nil ?_
              go_wp2_with fail
              clear x0 x0' x1 x2 x3 q0
              go_roundg (10 - (m + 1))
              case rel => exact ⟨m + 1, by go_num, by omega, by omega, HN7.out⟩
              case measure => omega
            · have hmlz : ¬ (m : Int) < (rl : Int) := by omega
              have hrn : rnd xs m = 0 := by
                have := HRN.out.2.1
                unfold rnd
                rw [List.getElem?_eq_none (by omega)]
              rw [hrn, Int.add_zero] at HNX'
              have HB6 : Hid (BH w wr s1 b1 k1 (halveC L1) (fun j => if j = m then c (nm m) else if j < m then (c (nm j) + rnd xs j) / 2 else c (nm j)) s2 b2 k2 L2 d xb yb) := Lib.hid (HB.out.congr (fun j _ => by
                by_cases e : j = m
                · subst e; simp
                · rw [if_neg e]))
              have HN7 := HNX'.out wr HB6
              clear HB6 HNX' HB hrn
              generalize c (nm m) = cm at *
              go_wp2_with fail
              generalize wr.setCell ⟨xb, m, none⟩ (.int .i64 (cm / 2)) = W8 at *
              clear x0' x1
              go_roundg (10 - (m + 1))
              case rel => exact ⟨m + 1, by go_num, by omega, by omega, HN7.out⟩
              case measure => omega
          · have hmz : ¬ (m : Int) < 10 := by omega
            obtain ⟨cd, hcd⟩ : ∃ cd : ByteArray → Int, cd = hfC c xs := ⟨_, rfl⟩
            have HN : Hid (BG w wr s1 b1 k1 (halveC L1) cd s2 b2 k2 L2 d xb yb (i + 1)) := Lib.hid (by
              have h := HG.out
              subst hcd
              exact ⟨HB.out.fam, HB.out.xa.toIs (fun j hj => by rw [if_pos (by omega), hfC_nm c xs j hj]), HB.out.ya, h.x0, h.y0, h.xy, h.xs, h.ys, h.k12, HBM.out, h.bd2, h.nm1.halve, h.nm2, h.pt.less (by have := (HB.out.fam.at_ (A := []) (B := [_])).ok.hi0 ⟨#[]⟩; simp only [] at this; omega) HSUM.out⟩)
            clear hcd HB HG HBM HSUM
            generalize halveC L1 = M at *
            go_wp2_with (refine wpList_load_arr (.tmp 14) rfl rfl HN.out.xa (by go_simp) ?_)
            have hsm := HN.out.small (by omega)
            with_reducible refine (within_sk HN.out.sk1 HN.out.l1 cd HN.out.bd1 (by omega)).mono ?_
            rintro e V1 ⟨rfl, kv1⟩
            have HV1 := Lib.hid (HN.out.keep kv1)
            clear kv1
            go_wp2_with (refine wpList_load_arr (.tmp 15) rfl rfl HV1.out.ya (by go_simp) ?_)
            with_reducible refine (within_sk HV1.out.sk2 HV1.out.l2 d HV1.out.bd2 (by omega)).mono ?_
            rintro e V2 ⟨rfl, kv2⟩
            have HV2 := Lib.hid (HV1.out.keep kv2)
            clear kv2
            go_wp2_with fail
            go_roundg (60 - (i + 1))
            case rel => exact ⟨i + 1, s1, b1, k1, M, cd, s2, b2, k2, L2, d, by go_num, rfl, rfl, rfl, rfl, by omega, by omega, HV2.out⟩
            case measure => omega
      · have hz0' : ((n0 : Int) == 0) = false := by simp; omega
        by_cases hz1 : n0 = 1
        · subst hz1
          have hne : s1 ≠ s2 ∧ b1 ≠ b2 := by
            have h1 := HG.out.fam.ds
            have h2 := HG.out.fam.db
            simp only [List.map_cons, List.map_nil, List.nodup_cons, List.mem_cons, List.not_mem_nil, or_false, not_false_eq_true, List.nodup_nil, and_true] at h1 h2
            exact ⟨h1, h2⟩
          by_cases hkk : k1 ≤ k2
          · have hkz : (k1 : Int) ≤ (k2 : Int) := by omega
            go_wp2_with fail
            with_reducible refine (merge_sk HG.out.sk1 HG.out.sk2 hne.1 hne.2 (HG.out.mrg (by omega) hkk)).mono ?_
            rintro e W5 ⟨bn, rfl, hsk, k5, hbn⟩
            have HSUM := Lib.hid (merge_sum (HG.out.mrg (by omega) hkk))
            have HBM := Lib.hid (HG.out.bd1.merge (HG.out.mrg (by omega) hkk) HG.out.bd2)
            have HH5 : Hid (BH w W5 s1 bn k1 (mergeC k1 L1 k2 L2) (fun j => c (nm j)) s2 b2 k2 L2 d xb yb) := Lib.hid (by
              have h := HG.out
              have hlt := h.xa.toF.lt
              exact ⟨h.fam.merged (A := []) (B := [_]) k5 hsk hbn, h.xa.toF.keep k5 h.xs.1, h.ya.keep k5 h.ys.1, h.x0, h.xy, ⟨h.xs.1, by omega, h.xs.2.2.1, h.xs.2.2.2⟩⟩)
            have HYB : Hid (yb ≠ s1 ∧ yb ≠ bn ∧ yb ≠ s2 ∧ yb ≠ b2) := Lib.hid (by
              have h := HG.out
              have hlt := h.ya.toF.lt
              exact ⟨h.ys.1, by omega, h.ys.2.2.1, h.ys.2.2.2⟩)
            clear hsk k5 hbn
            go_wp2_with fail
            go_loopg [19] 10 (fun g2 vm wr2 => ∃ m : Nat, vm = .int .i64 m ∧ m ≤ 10 ∧ 10 ≤ g2 + m ∧ BH w wr2 s1 bn k1 (mergeC k1 L1 k2 L2) (fun j => if j < m then c (nm j) + d (nm j) else c (nm j)) s2 b2 k2 L2 d xb yb)
            case atStart => exact ⟨0, rfl, by omega, by omega, HH5.out.congr (fun j _ => by simp)⟩
            case round =>
              clear HH5
              obtain ⟨m, rfl, hm10, hg2, hbh⟩ := hrel
              have HB := Lib.hid hbh
              clear hbh
              by_cases hm : m < 10
              · have hmz : (m : Int) < 10 := by omega
                have hm0 : (0 : Int) ≤ (m : Int) := by omega
                have hc0 := HG.out.bd1.nn HG.out.sk1.ok (nm_mem m hm).2.1
                have hd0 := HG.out.bd2.nn HG.out.sk2.ok (nm_mem m hm).2.1
                have hsm := HG.out.small (by omega)
                have hgm : (if m < m then c (nm m) + d (nm m) else c (nm m)) = c (nm m) := by simp
                go_wp2_with fail
                have x0 : wr.drew.cell? ⟨xb, m, none⟩ = some (.int .i64 (c (nm m))) := by have := (HB.out.xa m hm).1; rwa [hgm] at this
                have x0' : wr.cell? ⟨xb, m, none⟩ = some (.int .i64 (c (nm m))) := x0
                have x1 := (HB.out.xa m hm).2
                have y0 : wr.drew.cell? ⟨yb, m, none⟩ = some (.int .i64 (d (nm m))) := (HB.out.ya.toF m hm).1
                clear hgm
                have HNX : Hid (BH w (wr.setCell ⟨xb, m, none⟩ (.int .i64 (c (nm m) + d (nm m)))).drew s1 bn k1 (mergeC k1 L1 k2 L2) (fun j => if j < m + 1 then c (nm j) + d (nm j) else c (nm j)) s2 b2 k2 L2 d xb yb) := Lib.hid (by
                  refine ((HB.out.set m (c (nm m) + d (nm m))).keep (Keep.refl _ _).drew).congr (fun j _ => ?_)
                  by_cases e : j = m
                  · subst e; simp
                  · by_cases e2 : j < m
                    · rw [if_pos (by omega), if_neg e, if_pos e2]
                    · rw [if_neg (by omega), if_neg e, if_neg e2])
                generalize nm m = key at *
                generalize c key = cm at *
                generalize d key = dm at *
                refine wp_region_still_tail 9 (by kernel_rfl) (by kernel_rfl) ?_
                simp only [List.take_succ_cons, List.take_zero, List.drop_succ_cons, List.drop_zero]
                change wpStill _ _ wr.drew _ _ _
                iterate 9 still_step
                refine wpStill_nil ?_
                go_wp2_with fail
                generalize (wr.setCell ⟨xb, m, none⟩ (.int .i64 (cm + dm))).drew = W7 at *
                clear x0 x0' x1 y0 HB
                go_roundg (10 - (m + 1))
                case rel => exact ⟨m + 1, by go_num, by omega, by omega, HNX.out⟩
                case measure => omega
              · have hmz : ¬ (m : Int) < 10 := by omega
                obtain ⟨cd, hcd⟩ : ∃ cd : ByteArray → Int, cd = fun k => c k + d k := ⟨_, rfl⟩
                have HN : Hid (BG w wr s1 bn k1 (mergeC k1 L1 k2 L2) cd s2 b2 k2 L2 d xb yb (i + 1)) := Lib.hid (by
                  have h := HG.out
                  subst hcd
                  exact ⟨HB.out.fam, HB.out.xa.toIs (fun j hj => by rw [if_pos (by omega)]), HB.out.ya, h.x0, h.y0, h.xy, HB.out.xs, HYB.out, h.k12, HBM.out, h.bd2, h.nm1.merge h.nm2, h.nm2, h.pt.merge (by have := (HB.out.fam.at_ (A := []) (B := [_])).ok.hi0 ⟨#[]⟩; simp only [] at this; omega) HSUM.out⟩)
                clear hcd HB HG HYB HBM HSUM
                generalize mergeC k1 L1 k2 L2 = M at *
                go_wp2_with (refine wpList_load_arr (.tmp 14) rfl rfl HN.out.xa (by go_simp) ?_)
                have hsm := HN.out.small (by omega)
                with_reducible refine (within_sk HN.out.sk1 HN.out.l1 cd HN.out.bd1 (by omega)).mono ?_
                rintro e V1 ⟨rfl, kv1⟩
                have HV1 := Lib.hid (HN.out.keep kv1)
                clear kv1
                go_wp2_with (refine wpList_load_arr (.tmp 15) rfl rfl HV1.out.ya (by go_simp) ?_)
                with_reducible refine (within_sk HV1.out.sk2 HV1.out.l2 d HV1.out.bd2 (by omega)).mono ?_
                rintro e V2 ⟨rfl, kv2⟩
                have HV2 := Lib.hid (HV1.out.keep kv2)
                clear kv2
                go_wp2_with fail
                go_roundg (60 - (i + 1))
                case rel => exact ⟨i + 1, s1, bn, k1, M, cd, s2, b2, k2, L2, d, by go_num, rfl, rfl, rfl, rfl, by omega, by omega, HV2.out⟩
                case measure => omega
          · have hkz : ¬ (k1 : Int) ≤ (k2 : Int) := by omega
            have hmb : mrgBad k1 L1 k2 L2 := Or.inl (by omega)
            go_wp2_with fail
            with_reducible refine (merge_bad HG.out.sk1 HG.out.sk2 hmb).mono ?_
            rintro e W5 ⟨rfl, k5⟩
            have HN : Hid (BG w W5 s1 b1 k1 L1 c s2 b2 k2 L2 d xb yb (i + 1)) := Lib.hid (by
              have h := HG.out.keep k5
              exact ⟨h.fam, h.xa, h.ya, h.x0, h.y0, h.xy, h.xs, h.ys, h.k12, h.bd1, h.bd2, h.nm1, h.nm2, h.pt.less h.pt.1 (Int.le_refl _)⟩)
            clear k5 HG hmb
            go_wp2_with fail
            go_loopg [19] 0 (fun g2 vm wr2 => vm = .int .i64 0 ∧ wr2 = W5)
            case atStart => exact ⟨rfl, rfl⟩
            case round =>
              obtain ⟨rfl, rfl⟩ := hrel
              go_wp2_with (refine wpList_load_arr (.tmp 14) rfl rfl HN.out.xa (by go_simp) ?_)
              have hsm := HN.out.small (by omega)
              with_reducible refine (within_sk HN.out.sk1 HN.out.l1 c HN.out.bd1 (by omega)).mono ?_
              rintro e V1 ⟨rfl, kv1⟩
              have HV1 := Lib.hid (HN.out.keep kv1)
              clear kv1
              go_wp2_with (refine wpList_load_arr (.tmp 15) rfl rfl HV1.out.ya (by go_simp) ?_)
              with_reducible refine (within_sk HV1.out.sk2 HV1.out.l2 d HV1.out.bd2 (by omega)).mono ?_
              rintro e V2 ⟨rfl, kv2⟩
              have HV2 := Lib.hid (HV1.out.keep kv2)
              clear kv2
              go_wp2_with fail
              go_roundg (60 - (i + 1))
              case rel => exact ⟨i + 1, s1, b1, k1, L1, c, s2, b2, k2, L2, d, by go_num, rfl, rfl, rfl, rfl, by omega, by omega, HV2.out⟩
              case measure => omega
        · have hz1' : ((n0 : Int) == 1) = false := by simp; omega
          by_cases hz2 : n0 = 2
          · subst hz2
            have hne := HG.out.xy
            go_wp2_with (first
              | refine wpList_load_arr (.tmp 14) rfl rfl HG.out.xa (by go_simp) ?_
              | refine wpList_load_arr (.tmp 15) rfl rfl HG.out.ya (by go_simp) ?_
              | (refine wpList_store_arr (c := c) (d := d) (.tmp 14) _ rfl rfl rfl HG.out.xa (by go_simp) ?_; intro W5 hxa5 kx5)
              | (refine wpList_store_arr (c := d) (d := c) (.tmp 15) _ rfl rfl rfl (HG.out.ya.keep kx5 (fun e => hne e.symm)) (by go_simp) ?_; intro W6 hya6 ky6)
              | refine wpList_load_arr (.tmp 14) rfl rfl (hxa5.keep ky6 hne) (by go_simp) ?_)
            have HN : Hid (BG w W6 s2 b2 k2 L2 d s1 b1 k1 L1 c xb yb (i + 1)) := Lib.hid (by
              have h := HG.out
              have hk : Keep (fun k => k = xb ∨ k = yb) wr W6 := (kx5.mono (fun _ e => .inl e)).trans (ky6.mono (fun _ e => .inr e))
              have hf := h.fam.keepA hk (fun e he => by
                have h1 := h.xs
                have h2 := h.ys
                simp only [List.mem_cons, List.not_mem_nil, or_false] at he
                rcases he with rfl | rfl
                · exact ⟨fun e => by simp only [] at e; omega, fun e => by simp only [] at e; omega⟩
                · exact ⟨fun e => by simp only [] at e; omega, fun e => by simp only [] at e; omega⟩) (fun i e => by have := h.x0; have := h.y0; omega)
              exact ⟨hf.swap, hxa5.keep ky6 hne, hya6, h.x0, h.y0, h.xy, ⟨h.xs.2.2.1, h.xs.2.2.2, h.xs.1, h.xs.2.1⟩, ⟨h.ys.2.2.1, h.ys.2.2.2, h.ys.1, h.ys.2.1⟩, ⟨h.k12.2, h.k12.1⟩, h.bd2, h.bd1, h.nm2, h.nm1, h.pt.swap⟩)
            have hsm' := HN.out.small (by omega)
            clear hxa5 kx5 hya6 ky6
            have hsm := HN.out.small (by omega)
            with_reducible refine (within_sk HN.out.sk1 HN.out.l1 d HN.out.bd1 (by omega)).mono ?_
            rintro e V1 ⟨rfl, kv1⟩
            have HV1 := Lib.hid (HN.out.keep kv1)
            clear kv1
            go_wp2_with (refine wpList_load_arr (.tmp 15) rfl rfl HV1.out.ya (by go_simp) ?_)
            with_reducible refine (within_sk HV1.out.sk2 HV1.out.l2 c HV1.out.bd2 (by omega)).mono ?_
            rintro e V2 ⟨rfl, kv2⟩
            have HV2 := Lib.hid (HV1.out.keep kv2)
            clear kv2
            go_wp2_with fail
            go_roundg (60 - (i + 1))
            case rel => exact ⟨i + 1, s2, b2, k2, L2, d, s1, b1, k1, L1, c, by go_num, rfl, rfl, rfl, rfl, by omega, by omega, HV2.out⟩
            case measure => omega
          · have hz2' : ((n0 : Int) == 2) = false := by simp; omega
            obtain ⟨n2, hn2, hn2l⟩ := pk_int (f i 2) 20 (by decide)
            obtain ⟨t, ht, htl⟩ := pk_int (f i 1) 10 (by decide)
            obtain ⟨key, hkey, hks, hkn⟩ := nms_key t (by omega)
            have HP2 := Lib.hid hn2
            have HPT := Lib.hid ht
            have HKEY := Lib.hid (And.intro hkey (And.intro hks hkn))
            clear hn2 ht hkey hks hkn
            have ht0 : (0 : Int) ≤ (t : Int) := by omega
            have q1 := HG.out.fam.k.cell (HST.out.cell i 1 hin (by decide)) (fun h => h)
            have q2 := HG.out.fam.k.cell (HST.out.cell i 2 hin (by decide)) (fun h => h)
            go_wp2_with fail
            with_reducible refine (pick_int (f i 1) 10 t _ hf1.1 hf1.2 (by decide) (by decide) HPT.out).mono ?_
            rintro e wr' ⟨rfl, rfl⟩
            go_wp2_with fail
            with_reducible refine (pick_int (f i 2) 20 n2 _ hf2.1 hf2.2 (by decide) (by decide) HP2.out).mono ?_
            rintro e wr' ⟨rfl, rfl⟩
            go_wp2_with fail
            with_reducible refine (names_any _).mono ?_
            rintro e W4 ⟨nb, rfl, hnb, k4, hc4⟩
            have HG4 := Lib.hid (HG.out.keep k4)
            have hcn := hc4 t key HKEY.out.1
            clear hnb k4 hc4 q1 q2
            have hsm := HG4.out.small (by omega)
            go_wp2_with fail
            with_reducible refine (add_ok HG4.out.sk1 key HKEY.out.2.1 (1 + (n2 : Int)) (by omega) (by omega) (by omega)).mono ?_
            rintro e W5 ⟨rfl, hsk, k5⟩
            have hcb := HG4.out.bd1.nn HG4.out.sk1.ok HKEY.out.2.2
            have HF5 := Lib.hid (HG4.out.fam.upd (A := []) (B := [_]) k5 hsk)
            have HX5 := Lib.hid (HG4.out.xa.keep k5 (fun e => by have := HG4.out.xs; omega))
            have HY5 := Lib.hid (HG4.out.ya.keep k5 (fun e => by have := HG4.out.ys; omega))
            have HB5 := Lib.hid (HG4.out.bd1.add HG4.out.sk1.ok HKEY.out.2.2 HKEY.out.2.1 (n := 1 + (n2 : Int)) (by omega) (by omega))
            have HS5 := Lib.hid (addC_sum HG4.out.sk1.ok key (1 + (n2 : Int)))
            clear hsk k5 hcn
            have x0 := (HX5.out t key HKEY.out.1).1
            have x1 := (HX5.out t key HKEY.out.1).2
            go_wp2_with (refine wpList_load_arr (.tmp 14) rfl rfl (HX5.out.set HKEY.out.1 (1 + (n2 : Int))) (by go_simp) ?_)
            have HKX : Hid (Keep (fun k => k = xb) W5 (W5.setCell ⟨xb, t, none⟩ (.int .i64 (c key + (1 + (n2 : Int)))))) := Lib.hid ((Keep.refl (fun k => k = xb) W5).setCell (p := ⟨xb, t, none⟩) _ (.inl rfl))
            have HXS := Lib.hid (HX5.out.set HKEY.out.1 (1 + (n2 : Int)))
            have HN : Hid (BG w (W5.setCell ⟨xb, t, none⟩ (.int .i64 (c key + (1 + (n2 : Int))))) s1 b1 k1 (addC k1 L1 key (1 + (n2 : Int))) (plus c key (1 + (n2 : Int))) s2 b2 k2 L2 d xb yb (i + 1)) := Lib.hid (by
              have h := HG4.out
              refine ⟨HF5.out.keepX HKX.out (fun e he => ?_) h.x0, HXS.out, HY5.out.keep HKX.out (fun e => h.xy e.symm), h.x0, h.y0, h.xy, h.xs, h.ys, h.k12, HB5.out, h.bd2, h.nm1.add HKEY.out.2.2, h.nm2, ?_⟩
              · have := h.xs
                simp only [List.nil_append, List.mem_cons, List.not_mem_nil, or_false] at he
                rcases he with rfl | rfl
                · exact ⟨this.1, this.2.1⟩
                · exact ⟨this.2.2.1, this.2.2.2⟩
              · rw [HS5.out]; exact h.pt.add (by omega) (by omega))
            clear x0 x1 HG4 HF5 HX5 HY5 HB5 HS5 HXS HKX hsm hcb
            generalize W5.setCell ⟨xb, t, none⟩ (.int .i64 (c key + (1 + (n2 : Int)))) = W6 at *
            generalize addC k1 L1 key (1 + (n2 : Int)) = L1' at *
            generalize plus c key (1 + (n2 : Int)) = c' at *
            have hsm := HN.out.small (by omega)
            with_reducible refine (within_sk HN.out.sk1 HN.out.l1 c' HN.out.bd1 (by omega)).mono ?_
            rintro e V1 ⟨rfl, kv1⟩
            have HV1 := Lib.hid (HN.out.keep kv1)
            clear kv1
            go_wp2_with (refine wpList_load_arr (.tmp 15) rfl rfl HV1.out.ya (by go_simp) ?_)
            with_reducible refine (within_sk HV1.out.sk2 HV1.out.l2 d HV1.out.bd2 (by omega)).mono ?_
            rintro e V2 ⟨rfl, kv2⟩
            have HV2 := Lib.hid (HV1.out.keep kv2)
            clear kv2
            go_wp2_with fail
            go_roundg (60 - (i + 1))
            case rel => exact ⟨i + 1, s1, b1, k1, L1', c', s2, b2, k2, L2, d, by go_num, rfl, rfl, rfl, rfl, by omega, by omega, HV2.out⟩
            case measure => omega
    · have hx : (¬ (i : Int) < (n : Int)) ∨ ((i : Int) < (n : Int) ∧ ¬ (i : Int) < 60) := by omega
      have HF := Lib.hid HG.out.fam.k
      clear hgo
      rcases hx with hinz | ⟨hinz, hiz⟩
      all_goals
        go_wp2_with fail
        go_ret
        exact ⟨rfl, HF.out⟩

theorem sketchBounds_walk (k j : Int) (a : Option Addr) (len cap : Nat) (ra : Option Addr) (rl rc : Nat) (xs : List Int) (w : World) (hk : -9223372036854775808 ≤ k ∧ k ≤ 9223372036854775807) (hj : -9223372036854775808 ≤ j ∧ j ≤ 9223372036854775807) (hs : IsSteps w a len) (hr : IsInts w ra rl xs) :
    Calls Try.prog 7 #[.int .i64 k, .int .i64 j, .slice a len cap, .slice ra rl rc] w fun e w' => e = .returned (.bool true) ∧ Below w.heap.size w w' := by
  have h : Calls Try.prog 7 #[.int .i64 k, .int .i64 j, .slice a len cap, .slice ra rl rc] w fun e w' => e = .returned (.bool true) ∧ Keep (fun _ => False) w w' := by
    by_cases h0 : 0 < len
    · obtain ⟨b, off, f, rfl, hst⟩ := hs.2 h0
      exact bounds_go k j _ b off len cap f ra rl rc xs w hk hj hs.1 (fun _ => rfl) hst hr
    · obtain rfl : len = 0 := by omega
      exact bounds_go k j a 0 0 0 cap (fun _ _ => 0) ra rl rc xs w hk hj (by omega) (fun h => by omega) ⟨fun i j h => by omega, fun _ _ => by omega, fun _ _ => by omega⟩ hr
  exact h.mono fun _ _ ⟨h1, h2⟩ => ⟨h1, ⟨h2.os, h2.tape, h2.output, h2.size, fun i hi => h2.block i hi (fun h => h)⟩⟩
end Go.Proofs.Ytogkkghliogpeaa
