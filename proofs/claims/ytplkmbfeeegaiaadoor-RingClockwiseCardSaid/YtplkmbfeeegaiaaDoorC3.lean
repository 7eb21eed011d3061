/-
  RingClockwise.
-/
import Derived.Test.YtplkmbfeeegaiaaDoorB9
import Derived.Test.YtplkmbfeeegaiaaDoorR7
namespace Go.Proofs.YtplkmbfeeegaiaaDoor
open Go.RowKit Go.Shelf

theorem slotT_ref (s : Nat) : (⟨#[115, 108, 111, 116, 32]⟩ : ByteArray) ++ dig s = slotT s := by
  apply Go.WideShapes.bytes_inj
  simp [slotT, txt, addT]
theorem ords_bd {l : List Mb} (hv : VL l) (p : Int) : ∀ x ∈ ords PN l p, I64 x := by
  intro x hx
  obtain ⟨m, hm, rfl⟩ := (mem_ords PN hv).1 hx
  exact (hv.bd m hm).1
theorem ords_len {l : List Mb} (hv : VL l) (p : Int) : (ords PN l p).length ≤ 1536 := by
  have := circ_len hv
  unfold ords
  rw [List.length_map, rot_len]
  exact this

set_option maxRecDepth 100000 in
set_option maxHeartbeats 8000000 in
theorem clockwiseLaw_any (v : Value) (xs : List Int) (w : World) (h : Its w v xs) (hT : Tab w) : Calls Tryd.prog 7 #[v] w fun e w' => e = .returned (.bool true) ∧ Keep (fun _ => False) w w' := by
  have HT := Lib.hid hT
  have HI := Lib.hid h
  obtain ⟨va, vn, vc, rfl⟩ : ∃ a n c, v = .slice a n c := by
    obtain ⟨-, -, a, c, b, off, rfl, -⟩ := h
    exact ⟨_, _, _, rfl⟩
  clear hT h
  obtain ⟨l, hl⟩ : ∃ l, someL xs = l := ⟨_, rfl⟩
  have hv : VL l := by rw [← hl]; exact someL_ok xs
  go_enter Tryd.func7, Tryd.ntmps7
  go_wp2_with fail
  with_reducible refine (sane_any w HT.out).mono ?_
  rintro e W1 ⟨rfl, k1⟩
  have HK1 := Lib.hid k1
  clear k1
  go_wp2_with fail
  with_reducible refine (some_any _ xs _ (HI.out.kept HK1.out)).mono ?_
  rintro e W2 ⟨vl, rfl, hol⟩
  rw [hl] at hol
  have HM : Hid (Mbs W2 vl l) := Lib.hid (hol.mbs hv)
  have HK2 := Lib.hid (HK1.out.trans hol.1)
  have HT2 := Lib.hid (HT.out.kept HK2.out)
  have HV := Lib.hid hv
  clear hol hl HK1 hv HT HI
  obtain ⟨la, ln, lc, hle⟩ : ∃ a n c, vl = .slice a n c := by
    obtain ⟨a, c, b, off, h1, _⟩ := HM.out.at_
    exact ⟨_, _, _, h1⟩
  subst hle
  go_wp2_with fail
  with_reducible refine (assign_ok _ l _ HM.out HV.out HT2.out).mono ?_
  rintro e W3 ⟨va1, rfl, hown1, kz1⟩
  have HA1 : Hid (Its W3 va1 (ownersL PN QS l)) := Lib.hid (its_owns hown1 (by rw [(owners_ok PN QS HV.out).1]; decide) HV.out.obd)
  have HM3 := Lib.hid (HM.out.kept kz1)
  have HK3 := Lib.hid (HK2.out.trans kz1)
  have HT3 := Lib.hid (HT2.out.kept kz1)
  obtain ⟨aa, ac, hae⟩ : ∃ a c, va1 = .slice a 64 c := by
    obtain ⟨-, -, a, c, b, off, h1, _⟩ := HA1.out
    rw [(owners_ok PN QS HV.out).1] at h1
    exact ⟨_, _, h1⟩
  subst hae
  clear hown1 kz1 HM HK2 HT2
  go_wp2_with fail
  have HB3 := Lib.hid (three_cell W3 (.int .i64 0) (.slice la ln lc) (.slice aa 64 ac) 31)
  have HK4 : Hid (Keep (fun _ => False) W3 (W3.alloc (.cells #[.int .i64 0, .slice la ln lc, .slice aa 64 ac] 31))) := Lib.hid ((Keep.refl _ W3).alloc _)
  generalize W3.alloc (.cells #[.int .i64 0, .slice la ln lc, .slice aa 64 ac] 31) = X0 at *
  generalize W3.heap.size = z at *
  have HA := Lib.hid (HA1.out.kept HK4.out)
  have HM := Lib.hid (HM3.out.kept HK4.out)
  have HT := Lib.hid (HT3.out.kept HK4.out)
  have HKX := Lib.hid (HK3.out.trans HK4.out)
  have HF0 := Lib.hid HB3.out.1
  have HF1 := Lib.hid HB3.out.2.1
  have HF2 := Lib.hid HB3.out.2.2.1
  clear HA1 HM3 HT3 HK3 HK4 HB3
  have HLD : Hid (∀ W q, Keep (fun _ => False) X0 W → Calls Tryd.prog 29 #[.agg #[.int .i64 0, .slice la ln lc, .slice aa 64 ac], .int .i64 q] W fun e w' => e = .returned (.int .i64 (cnt (ownersL PN QS l) q)) ∧ Keep (fun _ => False) W w') := Lib.hid (fun W q k => load_any _ 0 l _ W ⟨by unfold I64; omega, _, _, rfl, HM.out.kept k, HA.out.kept k⟩ q)
  have HLM : Hid (∀ W q, I64 q → Keep (fun _ => False) X0 W → Calls Tryd.prog 21 #[.slice la ln lc, .int .i64 q] W fun e w' => e = .returned (.int .i64 (limitL l q)) ∧ Keep (fun _ => False) W w') := Lib.hid (fun W q hq kk => limit_any _ l _ (HM.out.kept kk) q hq)
  have HCW : Hid (∀ W p, Keep (fun _ => False) X0 W → Calls Tryd.prog 39 #[.slice la ln lc, .int .i64 p] W fun e w' => ∃ vo, e = .returned vo ∧ OwnI W (ords PN l p) vo w') := Lib.hid (fun W p kk => clockwise_any _ l p W (HM.out.kept kk) HV.out)
  have HPT : Hid (∀ W (s : Nat), s < 64 → Keep (fun _ => False) X0 W → Calls Tryd.prog 32 #[.string ((⟨#[115, 108, 111, 116, 32]⟩ : ByteArray) ++ dig s)] W fun e w' => e = .returned (.int .i64 (QS s)) ∧ W = w') := Lib.hid (fun W s hs kk => by
    rw [slotT_ref]
    exact point_any _ (slotT_size (by omega)) W (HT.out.kept kk))
  have HLEN := Lib.hid (owners_ok PN QS HV.out).1
  have HCLK : Hid (∀ (s : Nat) (n : Int), s < 64 → (ownersL PN QS l)[s]? = some n → ∀ (i : Nat) (x : Int), (ords PN l (QS s))[i]? = some x → (∀ k, k ≤ i → (ords PN l (QS s))[k]? ≠ some n) → limitL l x ≤ cnt (ownersL PN QS l) x) := Lib.hid (fun s n hs hn i x hx hb => clockwise PN QS HV.out hs hn hx hb)
  generalize ownersL PN QS l = ow at *
  obtain ⟨-, -, oa, oc, ob, oo, hoe, hoc, hop, hocell⟩ := HA.out
  rw [HLEN.out] at hoe hoc hop
  have hoa : aa = some ⟨ob, oo, none⟩ := by
    have := (Value.slice.inj hoe).1
    rw [this]; exact hop (by decide)
  subst hoa
  have HOC := Lib.hid hocell
  have hac : 64 ≤ ac := by have := (Value.slice.inj hoe).2.2; omega
  clear hoe hoc hop hocell HM HT HA
  go_loopg [8] 64 (fun gh v8 wr => ∃ (s : Nat), gh + s = 64 ∧ v8 = .int .i64 s ∧ Keep (fun _ => False) X0 wr)
  case atStart => exact ⟨0, by omega, rfl, Keep.refl _ _⟩
  case round =>
    obtain ⟨s, hs, rfl, hkeep⟩ := hrel
    have HK := Lib.hid hkeep
    clear hkeep
    by_cases hlt : s < 64
    · have hsz : (s : Int) < 64 := by omega
      have hs0 : (0 : Int) ≤ (s : Int) := by omega
      obtain ⟨n, hn⟩ : ∃ n, ow[s]? = some n := ⟨_, List.getElem?_eq_getElem (by rw [HLEN.out]; exact hlt)⟩
      have HON := Lib.hid hn
      have HSS := Lib.hid (And.intro hs hlt)
      have hd1 : (dig s).size ≤ 2 := dig_size (by omega)
      have HPTs : Hid (∀ W, Keep (fun _ => False) X0 W → Calls Tryd.prog 32 #[.string ((⟨#[115, 108, 111, 116, 32]⟩ : ByteArray) ++ dig s)] W fun e w' => e = .returned (.int .i64 (QS s)) ∧ W = w') := Lib.hid (fun W kk => HPT.out W s hlt kk)
      have HDG : Hid (∀ W, Calls Tryd.prog 40 #[.int .i64 (s : Int)] W fun e w' => e = .returned (.string (dig s)) ∧ Keep (fun _ => False) W w') := Lib.hid (fun W => digits_any s (by omega) W)
      generalize dig s = ds at *
      have hz1 : ¬ (9223372036854775807 < 5 + ds.size) := by omega
      clear hn hs hlt
      go_wp2_with fail
      with_reducible refine (HDG.out _).mono ?_
      rintro e V1 ⟨rfl, kk⟩
      have HK1 := Lib.hid (HK.out.trans kk)
      clear kk
      go_wp2_with fail
      with_reducible refine (HPTs.out _ HK1.out).mono ?_
      rintro e w' ⟨rfl, rfl⟩
      go_wp2_with fail
      with_reducible refine (HCW.out _ (QS s) HK1.out).mono ?_
      rintro e V2 ⟨vo, rfl, hoi⟩
      have HK2 := Lib.hid (HK1.out.trans hoi.1)
      have HI2 : Hid (Its V2 vo (ords PN l (QS s))) := Lib.hid (its_owns hoi.2 (by have := ords_len HV.out (QS s); omega) (ords_bd HV.out _))
      have HOB := Lib.hid (ords_bd HV.out (QS s))
      clear hoi
      obtain ⟨-, -, pa, pc, pb, po, hpe, hpc, hpp, hpcell⟩ := HI2.out
      subst hpe
      have HPA := Lib.hid hpp
      have HPC := Lib.hid hpcell
      clear hpp hpcell HI2
      have HCLs := Lib.hid (HCLK.out s n HSS.out.2 HON.out)
      have hol36 := ords_len HV.out (QS s)
      obtain ⟨os, hos⟩ : ∃ os, ords PN l (QS s) = os := ⟨_, rfl⟩
      rw [hos] at hol36 HPA HPC HCLs HOB hpc ⊢
      clear hos
      obtain ⟨m, hm⟩ : ∃ m, os.length = m := ⟨_, rfl⟩
      have HLM2 := Lib.hid hm
      rw [hm] at hpc HPA hol36 ⊢
      clear hm
      go_wp2_with fail
      go_loopg [10] m (fun gh2 v10 wr2 => ∃ (i : Nat), gh2 + i = m ∧ v10 = .int .i64 i ∧ (∀ k, k < i → os[k]? ≠ some n) ∧ Keep (fun _ => False) V2 wr2)
      case atStart => exact ⟨0, by omega, rfl, fun k hk => absurd hk (by omega), Keep.refl _ _⟩
      case round =>
        obtain ⟨i, hi, rfl, hbef, hkeep2⟩ := hrel
        have HBF := Lib.hid hbef
        have HKI := Lib.hid (HK2.out.trans hkeep2)
        have HKJ := Lib.hid hkeep2
        clear hbef hkeep2
        by_cases him : i < m
        · obtain ⟨x, hx⟩ : ∃ x, os[i]? = some x := ⟨_, List.getElem?_eq_getElem (by have := HLM2.out; omega)⟩
          obtain rfl := HPA.out (by omega)
          have HX := Lib.hid hx
          have xc := HKJ.out.cell (HPC.out i x hx) (fun h => h)
          have nc := HKI.out.cell (HOC.out s n HON.out) (fun h => h)
          have hiz : (i : Int) < (m : Int) := by omega
          have hi0 : (0 : Int) ≤ (i : Int) := by omega
          clear hx
          by_cases hxn : x = n
          · subst hxn
            have hb : (x == x) = true := by simp
            go_wp2_with fail
            go_quiet (fail)
            go_wp2_with fail
            go_roundg (64 - (s + 1))
            case rel => exact ⟨s + 1, by have := HSS.out; omega, by go_num, HKI.out.drewN _⟩
            case measure => have := HSS.out; omega
          · have hb : (x == n) = false := by simpa using hxn
            have HBF2 : Hid (∀ k, k < i + 1 → os[k]? ≠ some n) := Lib.hid (fun k hk => by
              by_cases hki : k < i
              · exact HBF.out k hki
              · obtain rfl : k = i := by omega
                rw [HX.out]
                intro e
                cases e
                exact hxn rfl)
            have HLE := Lib.hid (HCLs.out i x HX.out (fun k hk => HBF2.out k (by omega)))
            have HXB := Lib.hid (HOB.out x (List.mem_of_getElem? HX.out))
            have HLDx : Hid (∀ W, Keep (fun _ => False) X0 W → Calls Tryd.prog 29 #[.agg #[.int .i64 0, .slice la ln lc, .slice (some ⟨ob, oo, none⟩) 64 ac], .int .i64 x] W fun e w' => e = .returned (.int .i64 (cnt ow x)) ∧ Keep (fun _ => False) W w') := Lib.hid (fun W k => HLD.out W x k)
            have HLMx : Hid (∀ W, Keep (fun _ => False) X0 W → Calls Tryd.prog 21 #[.slice la ln lc, .int .i64 x] W fun e w' => e = .returned (.int .i64 (limitL l x)) ∧ Keep (fun _ => False) W w') := Lib.hid (fun W k => HLM.out W x HXB.out k)
            go_wp2_with fail
            go_quiet (fail)
            clear xc nc
            have HKN := Lib.hid (HKI.out.drewN nq)
            have HKJN := Lib.hid (HKJ.out.drewN nq)
            clear HKI HKJ
            generalize wr.drewN nq = Y0 at *
            have z0 : ∀ p : KW Y0, p.val.cell? ⟨z, 0, none⟩ = some (.int .i64 0) := fun p => p.k.cell (HKN.out.cell HF0.out (fun h => h)) (fun h => h)
            have z1 : ∀ p : KW Y0, p.val.cell? ⟨z, 1, none⟩ = some (.slice la ln lc) := fun p => p.k.cell (HKN.out.cell HF1.out (fun h => h)) (fun h => h)
            have z2 : ∀ p : KW Y0, p.val.cell? ⟨z, 2, none⟩ = some (.slice (some ⟨ob, oo, none⟩) 64 ac) := fun p => p.k.cell (HKN.out.cell HF2.out (fun h => h)) (fun h => h)
            have zx : ∀ p : KW Y0, p.val.cell? ⟨pb, po + i, none⟩ = some (.int .i64 x) := fun p => p.k.cell (HKJN.out.cell (HPC.out i x HX.out) (fun h => h)) (fun h => h)
            have hle := HLE.out
            generalize cnt ow x = cx at *
            generalize limitL l x = lx at *
            have hng : ¬ (cx < lx) := by omega
            go_wp2_with fail
            refine wp_region_quiet_kept (by kernel_rfl) (by kernel_rfl) ?_
            repeat (quiet_step (first | (go_at_call 29; refine Calls.kept_of (HLDx.out _ (HKN.out.trans (KW.k _)))) | (go_at_call 21; refine Calls.kept_of (HLMx.out _ (HKN.out.trans (KW.k _))))))
            refine wpQuiet_nil ?_
            rintro _ ⟨p, rfl⟩
            have HP := Lib.hid (HKJN.out.trans p.k)
            clear z0 z1 z2 zx
            generalize p.val = Y1 at *
            go_wp2_with fail
            go_roundg (gk - 1)
            case rel => exact ⟨i + 1, by omega, by go_num, HBF2.out, HP.out⟩
            case measure => omega
        · obtain rfl : i = m := by omega
          go_wp2_with fail
          go_roundg (64 - (s + 1))
          case rel => exact ⟨s + 1, by have := HSS.out; omega, by go_num, HKI.out⟩
          case measure => have := HSS.out; omega
    · obtain rfl : s = 64 := by omega
      go_wp2_with fail
      go_ret
      exact ⟨rfl, HKX.out.trans HK.out⟩
end Go.Proofs.YtplkmbfeeegaiaaDoor
