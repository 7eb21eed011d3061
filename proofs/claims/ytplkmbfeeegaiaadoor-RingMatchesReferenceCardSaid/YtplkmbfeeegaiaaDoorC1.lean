/-
  RingBounded.
-/
import Derived.Test.YtplkmbfeeegaiaaDoorB9
namespace Go.Proofs.YtplkmbfeeegaiaaDoor
open Go.RowKit Go.Shelf

theorem sumF_append (g : Int → Int) : ∀ (a b : List Int), sumF g (a ++ b) = sumF g a + sumF g b
  | [], b => by simp [sumF]
  | x :: a, b => by simp only [List.cons_append, sumF]; rw [sumF_append g a b]; omega
theorem sumF_ind (a : Int) : ∀ (ns : List Int), ns.Nodup → sumF (fun n => if n = a then 1 else 0) ns = if a ∈ ns then 1 else 0
  | [], _ => by simp [sumF]
  | x :: ns, h => by
    have h2 := List.nodup_cons.1 h
    simp only [sumF]
    rw [sumF_ind a ns h2.2]
    by_cases e : x = a
    · subst e; rw [if_pos rfl, if_neg h2.1, if_pos (List.mem_cons_self ..)]; rfl
    · rw [if_neg e]
      by_cases hm : a ∈ ns
      · rw [if_pos hm, if_pos (List.mem_cons_of_mem _ hm)]; rfl
      · rw [if_neg hm, if_neg (fun h => by
          rcases List.mem_cons.1 h with h | h
          · exact e h.symm
          · exact hm h)]; rfl
theorem sumF_add (g f : Int → Int) : ∀ l, sumF (fun n => g n + f n) l = sumF g l + sumF f l
  | [] => by simp [sumF]
  | x :: l => by simp only [sumF]; rw [sumF_add g f l]; omega
theorem sumF_congr {g f : Int → Int} (h : ∀ n, g n = f n) (l : List Int) : sumF g l = sumF f l := by
  rw [show g = f from funext h]
theorem sumF_cnt_eq {ns : List Int} (hn : ns.Nodup) : ∀ (l : List Int), (∀ x ∈ l, x ∈ ns) → sumF (cnt l) ns = l.length
  | [], _ => by
    rw [sumF_congr (f := fun _ => 0) (fun n => by simp [cnt])]
    clear hn
    induction ns with
    | nil => simp [sumF]
    | cons x l ih => simp only [sumF]; rw [ih (fun x hx => by simp at hx)]; simp
  | a :: l, h => by
    rw [sumF_congr (cnt_cons a l), sumF_add, sumF_cnt_eq hn l (fun x hx => h x (List.mem_cons_of_mem _ hx)), sumF_ind a ns hn, if_pos (h a (List.mem_cons_self ..)), List.length_cons]
    omega
/-- The loads so far. -/
def loadK (ow : List Int) (l : List Mb) (k : Nat) : Int := sumF (cnt ow) ((l.take k).map Mb.node)
theorem loadK_succ (ow : List Int) {l : List Mb} {k : Nat} {m : Mb} (h : l[k]? = some m) : loadK ow l (k + 1) = loadK ow l k + cnt ow m.node := by
  unfold loadK
  rw [List.take_add_one, h, List.map_append, sumF_append]
  simp [sumF]
theorem loadK_all {l : List Mb} (hv : VL l) {k : Nat} (hk : l.length ≤ k) : loadK (ownersL PN QS l) l k = 64 := by
  unfold loadK
  rw [List.take_of_length_le hk, sumF_cnt_eq hv.nodup, (owners_ok PN QS hv).1]; rfl
  intro x hx
  obtain ⟨m, hm, rfl⟩ := (owners_ok PN QS hv).2.2 x hx
  exact List.mem_map_of_mem hm
theorem loadK_bd (ow : List Int) (l : List Mb) (hv : VL l) (k : Nat) (hl : ow.length = 64) : 0 ≤ loadK ow l k ∧ loadK ow l k ≤ 64 := by
  unfold loadK
  constructor
  · generalize (l.take k).map Mb.node = ns
    induction ns with
    | nil => simp [sumF]
    | cons x ns ih => simp only [sumF]; have := cnt_nn ow x; omega
  · have h1 := sumF_cnt ((l.take k).map Mb.node) (by
      have := hv.nodup
      exact this.sublist ((List.take_sublist _ _).map _)) ow
    omega

set_option maxRecDepth 100000 in
set_option maxHeartbeats 8000000 in
theorem bounded_any (v : Value) (xs : List Int) (ep : Int) (w : World) (h : Its w v xs) (hep : I64 ep) (hT : Tab w) : Calls Tryd.prog 5 #[v, .int .i64 ep] w fun e w' => e = .returned (.bool true) ∧ Keep (fun _ => False) w w' := by
  have HT := Lib.hid hT
  have HI := Lib.hid h
  obtain ⟨va, vn, vc, rfl⟩ : ∃ a n c, v = .slice a n c := by
    obtain ⟨-, -, a, c, b, off, rfl, -⟩ := h
    exact ⟨_, _, _, rfl⟩
  clear hT h
  obtain ⟨l, hl⟩ : ∃ l, someL xs = l := ⟨_, rfl⟩
  have hv : VL l := by rw [← hl]; exact someL_ok xs
  have hpk := pk_bd ep 1000000 (by decide)
  go_enter Tryd.func5, Tryd.ntmps5
  go_wp2_with fail
  with_reducible refine (sane_any w HT.out).mono ?_
  rintro e W1 ⟨rfl, k1⟩
  have HK1 := Lib.hid k1
  clear k1
  go_wp2_with fail
  with_reducible refine (some_any _ xs _ (HI.out.kept HK1.out)).mono ?_
  rintro e W2 ⟨vl, rfl, hol⟩
  rw [hl] at hol
  have HM : Hid (Mbs W2 vl l) := Lib.hid (hol.mbs hv)
  have HK2 := Lib.hid (HK1.out.trans hol.1)
  clear hol hl
  obtain ⟨la, ln, lc, lb, lo, rfl, hln, hlc, hla, hlcell⟩ : ∃ a n c b off, vl = .slice a n c ∧ n = l.length ∧ n ≤ c ∧ (0 < n → a = some ⟨b, off, none⟩) ∧ ∀ (j : Nat) (m : Mb), l[j]? = some m → W2.cell? ⟨b, off + j * 3, none⟩ = some (.int .i64 m.node) ∧ W2.cell? ⟨b, off + j * 3 + 1, none⟩ = some (.int .i64 m.region) ∧ W2.cell? ⟨b, off + j * 3 + 2, none⟩ = some (.int .i64 m.weight) := by
    obtain ⟨-, -, a, c, b, off, rfl, hc, ha, hcell⟩ := HM.out
    exact ⟨_, _, _, b, off, rfl, rfl, hc, ha, hcell⟩
  obtain rfl := hla (by rw [hln]; exact List.length_pos_iff.2 hv.ne)
  have HLC := Lib.hid hlcell
  have HLN := Lib.hid hln
  have hln24 : ln ≤ 24 := by rw [hln]; exact hv.len
  clear hla hlcell hln
  go_wp2_with fail
  with_reducible refine (pick_any ep 1000000 _ hep (by decide)).mono ?_
  rintro e w' ⟨rfl, rfl⟩
  generalize pk ep 1000000 = pe at *
  have hwp : IntKind.i64.wrap (1 + pe) = 1 + pe := wrapI (by unfold I64; omega)
  go_wp2_with fail
  with_reducible refine (new_ok (1 + pe) _ l _ HM.out hv (HT.out.kept HK2.out) (by omega)).mono ?_
  rintro e W5 ⟨vm, vo, rfl, hm5, ho5, -, k5⟩
  have HR5 : Hid (Rng W5 (ringV (1 + pe) vm vo) (1 + pe) l (ownersL PN QS l)) := Lib.hid ⟨by unfold I64; omega, _, _, rfl, mbs_owns hm5 (by have := hv.len; omega) hv.bd, its_owns ho5 (by rw [(owners_ok PN QS hv).1]; decide) hv.obd⟩
  have HK5 := Lib.hid k5
  clear hm5 ho5 k5
  have hf : (∃ a n c, vm = .slice a n c) ∧ ∃ a c, vo = .slice a 64 c := by
    obtain ⟨-, vm', vo', e, hm, ho⟩ := HR5.out
    cases e
    constructor
    · obtain ⟨-, -, a, c, b, off, rfl, -⟩ := hm
      exact ⟨_, _, _, rfl⟩
    · obtain ⟨-, -, a, c, b, off, rfl, hc, ha, hcell⟩ := ho
      rw [(owners_ok PN QS hv).1]
      exact ⟨_, _, rfl⟩
  obtain ⟨⟨am, nm, cm, rfl⟩, ar, cr, rfl⟩ := hf
  go_wp2_with fail
  have HB6 : Hid (_ ∧ _ ∧ _ ∧ _) := Lib.hid (three_cell W5 (.int .i64 (1 + pe)) (.slice am nm cm) (.slice ar 64 cr) 31)
  have HK6 : Hid (Keep (fun _ => False) W5 (W5.alloc (.cells #[.int .i64 (1 + pe), .slice am nm cm, .slice ar 64 cr] 31))) := Lib.hid ((Keep.refl _ W5).alloc _)
  generalize W5.alloc (.cells #[.int .i64 (1 + pe), .slice am nm cm, .slice ar 64 cr] 31) = X0 at *
  generalize W5.heap.size = zr at *
  have HF0 := Lib.hid HB6.out.1
  have HF1 := Lib.hid HB6.out.2.1
  have HF2 := Lib.hid HB6.out.2.2.1
  have HRX := Lib.hid (HR5.out.kept HK6.out)
  have HMX := Lib.hid (HM.out.kept (HK5.out.trans HK6.out))
  have HKW := Lib.hid (HK2.out.trans (HK5.out.trans HK6.out))
  have HCX := Lib.hid (fun (j : Nat) (m : Mb) hj => And.intro ((HK5.out.trans HK6.out).cell (HLC.out j m hj).1 (fun h => h)) ((HK5.out.trans HK6.out).cell (HLC.out j m hj).2.2 (fun h => h)))
  clear HB6 HR5 HM HK5 HK6 HLC HK1 HK2 HT HI
  have f0 := HF0.out
  have f1 := HF1.out
  have f2 := HF2.out
  have hvr : validRB (1 + pe) l (ownersL PN QS l) = true := (validRB_iff _ _ _).2 ⟨by omega, by omega, hv, (owners_ok PN QS hv).1, (owners_ok PN QS hv).2.1⟩
  have HVR : Hid (Calls Tryd.prog 25 #[ringV (1 + pe) (.slice am nm cm) (.slice ar 64 cr)] X0 fun e w' => e = .returned (.bool true) ∧ Keep (fun _ => False) X0 w') := Lib.hid (by
    have h := validRing_any _ _ _ _ _ HRX.out
    rwa [hvr] at h)
  clear hvr
  go_wp2_with fail
  clear f0 f1 f2
  with_reducible refine HVR.out.mono ?_
  rintro e X1 ⟨rfl, k1⟩
  have HKX := Lib.hid k1
  clear k1 HVR
  go_wp2_with fail
  have HV := Lib.hid hv
  have hws := hv.wsum
  clear hv
  go_loopg [9, 11] ln (fun gh v9 v wr => ∃ (k : Nat), gh + k = ln ∧ v = .int .i64 k ∧ v9 = .int .i64 (wsum (l.take k)) ∧ Keep (fun _ => False) X0 wr)
  case atStart => exact ⟨0, by omega, rfl, by simp [wsum], HKX.out⟩
  case round =>
    clear HKX
    obtain ⟨k, hk, rfl, rfl, hkeep⟩ := hrel
    have HK := Lib.hid hkeep
    clear hkeep
    have hwt := wsum_take HV.out.ok k
    by_cases hlt : k < ln
    · obtain ⟨m, hm⟩ : ∃ m, l[k]? = some m := ⟨_, List.getElem?_eq_getElem (by have := HLN.out; omega)⟩
      have c2 := HK.out.cell (HCX.out k m hm).2 (fun h => h)
      have HWS := Lib.hid (wsum_succ hm)
      have hok := HV.out.ok m (List.mem_of_getElem? hm)
      unfold okMb at hok
      have hkz : (k : Int) < (ln : Int) := by omega
      have hk0 : (0 : Int) ≤ (k : Int) := by omega
      clear hm
      obtain ⟨mn, mr, mw⟩ := m
      simp only [] at c2 hok
      generalize wsum (l.take k) = s0 at *
      have hws1 : IntKind.i64.wrap (s0 + mw) = s0 + mw := wrapI (by unfold I64; omega)
      go_wp2_with fail
      clear c2
      go_roundg (gk - 1)
      case rel => exact ⟨k + 1, by omega, by go_num, by rw [HWS.out], HK.out⟩
      case measure => omega
    · obtain rfl : k = ln := by omega
      have HALL : Hid (wsum (l.take k) = wsum l) := Lib.hid (by rw [List.take_of_length_le (by have := HLN.out; omega)])
      rw [HALL.out]
      have hlp : ∀ m ∈ l, 1 ≤ limitL l m.node ∧ limitL l m.node ≤ 1280 ∧ limitL l m.node * wsum l ≥ 80 * m.weight ∧ (limitL l m.node - 1) * wsum l < 80 * m.weight := fun m hm => limit_pos HV.out hm
      have HLP := Lib.hid hlp
      clear hlp hwt HALL
      generalize wsum l = s at *
      obtain ⟨ow, how⟩ : ∃ ow, ownersL PN QS l = ow := ⟨_, rfl⟩
      have HOW := Lib.hid how
      have HLD : Hid (∀ W q, Keep (fun _ => False) X0 W → Calls Tryd.prog 29 #[ringV (1 + pe) (.slice am nm cm) (.slice ar 64 cr), .int .i64 q] W fun e w' => e = .returned (.int .i64 (cnt ow q)) ∧ Keep (fun _ => False) W w') := Lib.hid (fun W q k => by
        have h := load_any _ _ _ _ _ (HRX.out.kept k) q
        rwa [how] at h)
      have HLM : Hid (∀ W q, I64 q → Keep (fun _ => False) X0 W → Calls Tryd.prog 21 #[.slice (some ⟨lb, lo, none⟩) k lc, .int .i64 q] W fun e w' => e = .returned (.int .i64 (limitL l q)) ∧ Keep (fun _ => False) W w') := Lib.hid (fun W q hq kk => limit_any _ l _ (HMX.out.kept kk) q hq)
      have HCL : Hid (∀ q, cnt ow q ≤ limitL l q) := Lib.hid (fun q => by rw [← how]; exact (owners_ok PN QS HV.out).2.1 q)
      have HLL : Hid (ow.length = 64) := Lib.hid (by rw [← how]; exact (owners_ok PN QS HV.out).1)
      clear how
      go_wp2_with fail
      have hk24 : k ≤ 24 := hln24
      generalize k = n at *
      clear hln24 hlt hk
      have HWR := HK
      clear HK
      go_loopg [10, 12] n (fun gh v10 v wr => ∃ (k : Nat), gh + k = n ∧ v = .int .i64 k ∧ v10 = .int .i64 (loadK ow l k) ∧ Keep (fun _ => False) X0 wr)
      case atStart => exact ⟨0, by omega, rfl, by simp [loadK, sumF], HWR.out⟩
      case round =>
        clear HWR
        obtain ⟨k, hk, rfl, rfl, hkeep⟩ := hrel
        have HK := Lib.hid hkeep
        clear hkeep
        have hlb := loadK_bd ow l HV.out k HLL.out
        by_cases hlt : k < n
        · obtain ⟨m, hm⟩ : ∃ m, l[k]? = some m := ⟨_, List.getElem?_eq_getElem (by have := HLN.out; omega)⟩
          have c0 := HK.out.cell (HCX.out k m hm).1 (fun h => h)
          have c2 := HK.out.cell (HCX.out k m hm).2 (fun h => h)
          have HLS := Lib.hid (loadK_succ ow hm)
          have hlb2 := loadK_bd ow l HV.out (k + 1) HLL.out
          rw [HLS.out] at hlb2
          have hok := HV.out.ok m (List.mem_of_getElem? hm)
          have hlp := HLP.out m (List.mem_of_getElem? hm)
          unfold okMb at hok
          have hkz : (k : Int) < (n : Int) := by omega
          have hk0 : (0 : Int) ≤ (k : Int) := by omega
          clear hm
          obtain ⟨mn, mr, mw⟩ := m
          simp only [] at c0 c2 hok hlp hlb2 HLS
          have hcl := HCL.out mn
          have hcn := cnt_nn ow mn
          have HLD' : Hid (∀ W, Keep (fun _ => False) X0 W → Calls Tryd.prog 29 #[ringV (1 + pe) (.slice am nm cm) (.slice ar 64 cr), .int .i64 mn] W fun e w' => e = .returned (.int .i64 (cnt ow mn)) ∧ Keep (fun _ => False) W w') := Lib.hid (fun W kk => HLD.out W mn kk)
          have HLM' : Hid (∀ W, Keep (fun _ => False) X0 W → Calls Tryd.prog 21 #[.slice (some ⟨lb, lo, none⟩) n lc, .int .i64 mn] W fun e w' => e = .returned (.int .i64 (limitL l mn)) ∧ Keep (fun _ => False) W w') := Lib.hid (fun W kk => HLM.out W mn (by unfold I64; omega) kk)
          generalize cnt ow mn = cq at *
          generalize limitL l mn = lq at *
          generalize loadK ow l k = s0 at *
          have hm1 : lq * s ≤ 1280 * 384 := Int.mul_le_mul hlp.2.1 hws.2 (by omega) (by decide)
          have hm0 : 0 ≤ lq * s := Int.mul_nonneg (by omega) (by omega)
          have hm2 : 0 ≤ (lq - 1) * s := Int.mul_nonneg (by omega) (by omega)
          have hx1 : IntKind.i64.wrap (lq * s) = lq * s := wrapI (by unfold I64; omega)
          have hx2 : IntKind.i64.wrap ((lq - 1) * s) = (lq - 1) * s := wrapI (by unfold I64; omega)
          have hx3 : IntKind.i64.wrap (lq - 1) = lq - 1 := wrapI (by unfold I64; omega)
          have hx4 : IntKind.i64.wrap (80 * mw) = 80 * mw := wrapI (by unfold I64; omega)
          have hx5 : IntKind.i64.wrap (s0 + cq) = s0 + cq := wrapI (by unfold I64; omega)
          have hx6 : ¬ (lq * s < 80 * mw) := by omega
          have hx7 : ¬ (80 * mw ≤ (lq - 1) * s) := by omega
          have hx8 : ¬ (lq < cq) := by omega
          have cz : ∀ q : KA (fun _ => False) wr, q.val.cell? ⟨zr, 0, none⟩ = some (.int .i64 (1 + pe)) ∧ q.val.cell? ⟨zr, 1, none⟩ = some (.slice am nm cm) ∧ q.val.cell? ⟨zr, 2, none⟩ = some (.slice ar 64 cr) := fun q => ⟨q.k.cell (HK.out.cell HF0.out (fun h => h)) (fun h => h), q.k.cell (HK.out.cell HF1.out (fun h => h)) (fun h => h), q.k.cell (HK.out.cell HF2.out (fun h => h)) (fun h => h)⟩
          have HCZ := Lib.hid cz
          clear cz
          have HC2 := Lib.hid c2
          have HC0 := Lib.hid c0
          clear c2
          go_upto_region 15 with (fail)
          refine wp_region_walk [(true, 0), (true, 1), (false, 2), (false, 3), (false, 4), (false, 5), (false, 6), (false, 7)] (inKA (fun _ => False) wr) (by kernel_rfl) (by kernel_rfl) ?_
          have HKD : Hid (Keep (fun _ => False) wr wr.drew) := Lib.hid (Keep.refl _ wr).drew
          have cz0 := fun q => (HCZ.out q).1
          have cz1 := fun q => (HCZ.out q).2.1
          have cz2 := fun q => (HCZ.out q).2.2
          refine walkW_read rfl (fun K hK => ?_); go_simp; refine hK _ ?_; clear hK K
          clear cz0 cz1 cz2
          refine walkW_read rfl (fun K hK => ?_); go_simp; refine hK _ ?_; clear hK K
          have c0' := HKD.out.cell c0 (fun h => h)
          clear c0
          generalize wr.drew = Y0 at *
          refine walkW_do rfl (inKA.of HKD.out) (fun K hK => ?_); go_simp; refine hK _ _ ?_; clear hK K
          refine walkW_do rfl (inKA.of HKD.out) (fun K hK => ?_); go_simp; refine hK _ _ ?_; clear hK K
          refine walkW_do rfl (inKA.of HKD.out) (fun K hK => ?_); go_simp; refine hK _ _ ?_; clear hK K
          refine walkW_do rfl (inKA.of HKD.out) (fun K hK => ?_); go_simp; refine hK _ _ ?_; clear hK K
          clear c0'
          refine walkW_do rfl (inKA.of HKD.out) (fun K hK => ?_)
          go_simp
          refine (HLD'.out _ (HK.out.trans HKD.out)).mono ?_
          rintro e Y1 ⟨rfl, kx⟩
          refine hK _ _ ?_; clear hK K
          have HKY := Lib.hid (HKD.out.trans kx)
          clear kx HKD
          refine walkW_do rfl (inKA.of HKY.out) (fun K hK => ?_); go_simp; refine hK _ _ ?_; clear hK K
          refine ⟨inKA.of HKY.out, ?_⟩
          have c0 := HKY.out.cell HC0.out (fun h => h)
          go_wp2_with fail
          clear c0
          with_reducible refine (HLM'.out _ (HK.out.trans HKY.out)).mono ?_
          rintro e Y2 ⟨rfl, kx⟩
          have HKZ := Lib.hid (HKY.out.trans kx)
          have c2 := HKZ.out.cell HC2.out (fun h => h)
          clear kx HKY
          go_wp2_with fail
          clear c2
          go_roundg (gk - 1)
          case rel => exact ⟨k + 1, by omega, by go_num, by rw [HLS.out], HK.out.trans HKZ.out⟩
          case measure => omega
        · obtain rfl : k = n := by omega
          have HALL : Hid (loadK ow l k = 64) := Lib.hid (by rw [← HOW.out]; exact loadK_all HV.out (by have := HLN.out; omega))
          rw [HALL.out]
          go_wp2_with fail
          go_ret
          exact ⟨rfl, HKW.out.trans HK.out⟩
end Go.Proofs.YtplkmbfeeegaiaaDoor
