/-
  parse: the walk.
-/
import Derived.Test.YtmndjicaofciiaaGreatDoorW12b
namespace Go.Proofs.YtmndjicaofciiaaGreatDoor
open Go.RowKit Go.Shelf Go.Extern Go.Stop

set_option maxRecDepth 100000 in
set_option maxHeartbeats 8000000 in
theorem parse_any (p : Addr) (s : ByteArray) (w : World) (hs : s.size ≤ 100000) (hE : Env p w) : Calls Tryz.prog 27 #[.string s] w (ParPost p s w) := by
  have HE := Lib.hid hE
  have HS := Lib.hid hs
  have ka : Keep (fun _ => False) w (w.alloc (.cells #[.int .i64 0, .int .i64 0, .int .i64 0, .int .i64 0, .int .i64 0, .int .i64 0, .int .i64 0] 24)) := (Keep.refl _ w).alloc _
  have HQ0 := Lib.hid (QBox.new w ⟨0, 0, 0, 0, 0, 0, 0⟩ 24)
  have HK0 := Lib.hid ka
  have hmf : ∀ (fn : Fn) (first cap : Array Value) (w : World), (Instr.makeFunc fn first cap).run Tryz.prog w = .ok (.func fn first cap) w := fun _ _ _ _ => rfl
  clear ka hE hs
  go_enter_defers Tryz.func27, Tryz.ntmps27
  go_wp2_with fail
  clear hmf
  have hsz0 : (w.alloc (.cells #[.int .i64 0, .int .i64 0, .int .i64 0, .int .i64 0, .int .i64 0, .int .i64 0, .int .i64 0] 24)).heap.size = w.heap.size + 1 := by simp
  generalize w.alloc (.cells #[.int .i64 0, .int .i64 0, .int .i64 0, .int .i64 0, .int .i64 0, .int .i64 0, .int .i64 0] 24) = V0 at *
  have ka : Keep (fun _ => False) V0 (V0.alloc (.cells #[.nilIface] 77)) := (Keep.refl _ V0).alloc _
  have HQ1 := Lib.hid (HQ0.out.kept ka)
  have H31 : Hid ((V0.alloc (.cells #[.nilIface] 77)).cell? ⟨V0.heap.size, 0, none⟩ = some .nilIface ∧ ∀ o, (V0.alloc (.cells #[.nilIface] 77)).frozen? ⟨V0.heap.size, o, none⟩ = false) := Lib.hid ⟨by simp, fun o => by simp [go_sem]⟩
  have HK1 := Lib.hid (HK0.out.trans ka)
  have HS1 : Hid (V0.heap.size + 1 = (V0.alloc (.cells #[.nilIface] 77)).heap.size) := Lib.hid (by simp)
  clear ka HQ0 HK0
  generalize V0.alloc (.cells #[.nilIface] 77) = V1 at *
  obtain ⟨z2, hz2⟩ : ∃ z, w.heap.size = z := ⟨_, rfl⟩
  obtain ⟨z3, hz3⟩ : ∃ z, w.heap.size + 1 = z := ⟨_, rfl⟩
  rw [hsz0] at H31 HS1
  clear hsz0
  have HZ : Hid (w.heap.size = z2 ∧ z3 = z2 + 1) := Lib.hid (by omega)
  rw [hz3] at H31 HS1 ⊢
  rw [hz2] at HQ1 ⊢
  clear hz2 hz3
  have HE1 := Lib.hid (HE.out.kept HK1.out)
  with_reducible refine (split_any p s V1 HS.out HE1.out).mono ?_
  rintro e V2 ⟨v, rfl, hw, hl1, hob, k2⟩
  obtain ⟨x0, ws0, hws⟩ : ∃ x r, wordsOf s = x :: r := by
    cases e : wordsOf s with
    | nil => rw [e] at hl1; simp at hl1
    | cons x r => exact ⟨x, r, rfl⟩
  have HWS := Lib.hid hws
  have HSZ : Hid (∀ x ∈ x0 :: ws0, x.size ≤ 1000000) := Lib.hid (fun x hx => by
    have h := wordsOf_size s x (by rw [HWS.out]; exact hx)
    have := HS.out
    omega)
  rw [hws] at hw
  obtain ⟨av, nv, cv, rfl⟩ : ∃ a n c, v = .slice a n c := by
    obtain ⟨-, a, c, g, off, rfl, -⟩ := hw
    exact ⟨_, _, _, rfl⟩
  have HW2 := Lib.hid hw
  have HQ2 := Lib.hid (HQ1.out.kept k2)
  have H32 : Hid (V2.cell? ⟨z3, 0, none⟩ = some .nilIface ∧ ∀ o, V2.frozen? ⟨z3, o, none⟩ = false) := Lib.hid ⟨k2.cell H31.out.1 (fun h => h), fun o => by
    rw [World.frozen?_of_block (w := V1) (a := ⟨z3, o, none⟩) (k2.block z3 (World.block_lt_of_cell? _ _ H31.out.1) (fun h => h))]
    exact H31.out.2 o⟩
  have HK2 := Lib.hid (HK1.out.trans k2)
  have HS2 : Hid (z3 < V2.heap.size) := Lib.hid (by have := HS1.out; have := k2.size; omega)
  clear hws hw hl1 hob k2 HQ1 H31 HK1 HS1 HE1
  have ka : Keep (fun _ => False) V2 (V2.alloc (.cells #[.slice av nv cv] 102)) := (Keep.refl _ V2).alloc _
  have HR3 : Hid (Rdr (V2.alloc (.cells #[.slice av nv cv] 102)) V2.heap.size (x0 :: ws0)) := Lib.hid ⟨⟨_, by simp, HW2.out.kept ka⟩, fun o => by simp [go_sem]⟩
  have HQ3 := Lib.hid (HQ2.out.kept ka)
  have H33 : Hid ((V2.alloc (.cells #[.slice av nv cv] 102)).cell? ⟨z3, 0, none⟩ = some .nilIface ∧ ∀ o, (V2.alloc (.cells #[.slice av nv cv] 102)).frozen? ⟨z3, o, none⟩ = false) := Lib.hid ⟨ka.cell H32.out.1 (fun h => h), fun o => by
    rw [World.frozen?_of_block (w := V2) (a := ⟨z3, o, none⟩) (ka.block z3 HS2.out (fun h => h))]
    exact H32.out.2 o⟩
  have HK3 := Lib.hid (HK2.out.trans ka)
  clear ka HQ2 H32 HK2 HW2
  go_upto_region 3 with (fail)
  generalize V2.alloc (.cells #[.slice av nv cv] 102) = V3 at *
  generalize V2.heap.size = r at *
  have HE3 := Lib.hid (HE.out.kept HK3.out)
  go_wp2_with fail
  with_reducible refine (next_any p r _ V3 HR3.out HE3.out).mono ?_
  rintro e V4 (⟨x, rest, e1, rfl, hr4, k4⟩ | ⟨h, -, -⟩)
  case inr => cases h
  obtain ⟨rfl, rfl⟩ := List.cons.inj e1
  clear e1
  have HR4 := Lib.hid hr4
  have HKR4 := Lib.hid k4
  have HRZ : Hid (z3 < r ∧ r < V3.heap.size) := Lib.hid (by
    obtain ⟨⟨v, h1, -⟩, -⟩ := HR3.out
    exact ⟨HS2.out, World.block_lt_of_cell? _ _ h1⟩)
  have HQ4 := Lib.hid (HQ3.out.keep k4 (fun e => by have h5 : z2 = r := e; have := HRZ.out; have := HZ.out; omega))
  have H34 : Hid (V4.cell? ⟨z3, 0, none⟩ = some .nilIface ∧ ∀ o, V4.frozen? ⟨z3, o, none⟩ = false) := Lib.hid ⟨k4.cell H33.out.1 (fun e => by have h5 : z3 = r := e; have := HRZ.out; omega), fun o => by
    rw [World.frozen?_of_block (w := V3) (a := ⟨z3, o, none⟩) (k4.block z3 (World.block_lt_of_cell? _ _ H33.out.1) (fun e => by have h5 : z3 = r := e; have := HRZ.out; omega))]
    exact H33.out.2 o⟩
  have HK4 : Hid (Keep (fun _ => False) w V4) := Lib.hid (HK3.out.trans' k4 (fun j e => .inr (by have h5 : j = r := e; have := HRZ.out; have := HZ.out; omega)))
  have HE4 := Lib.hid (HE.out.kept HK4.out)
  have HS4 : Hid (V3.heap.size ≤ V4.heap.size) := Lib.hid k4.size
  clear hr4 k4 HKR4 HQ3 H33 HR3 HE3
  go_wp2_with fail
  with_reducible refine (find_any p x0 V4 HE4.out).mono ?_
  rintro e V5 (⟨kd, o, hkd, rfl, hgl, k5⟩ | ⟨hkd, rfl, k5⟩)
  case inr =>
    refine par_dies p s w V5 z2 z3 _ _ (raw_none HWS.out hkd) (HQ4.out.kept k5) (k5.cell H34.out.1 (fun h => h)) (fun o => ?_) (by have := HZ.out; omega) (HE4.out.kept k5).line (fun W' kk => (HK4.out.trans k5).trans' kk (fun j e => .inr (by have := HZ.out; rcases e with e | e <;> omega))) _ rfl rfl
    rw [World.frozen?_of_block (w := V4) (a := ⟨z3, o, none⟩) (k5.block z3 (World.block_lt_of_cell? _ _ H34.out.1) (fun h => h))]
    exact H34.out.2 o
  have HKD := Lib.hid ((kind_iff _ _).1 hkd)
  have HRAW := Lib.hid (raw_start HWS.out hkd)
  have HGL := Lib.hid hgl
  have HR5 := Lib.hid (HR4.out.kept k5)
  have HQ5 := Lib.hid (HQ4.out.kept k5)
  have H35 : Hid (V5.cell? ⟨z3, 0, none⟩ = some .nilIface ∧ ∀ o, V5.frozen? ⟨z3, o, none⟩ = false) := Lib.hid ⟨k5.cell H34.out.1 (fun h => h), fun o => by
    rw [World.frozen?_of_block (w := V4) (a := ⟨z3, o, none⟩) (k5.block z3 (World.block_lt_of_cell? _ _ H34.out.1) (fun h => h))]
    exact H34.out.2 o⟩
  have HK5 := Lib.hid (HK4.out.trans k5)
  have HS5 : Hid (V3.heap.size ≤ V5.heap.size) := Lib.hid (Nat.le_trans HS4.out k5.size)
  have HSW : Hid (∀ x ∈ ws0, x.size ≤ 1000000) := Lib.hid (fun x hx => HSZ.out x (List.mem_cons_of_mem _ hx))
  clear hkd hgl k5 HR4 HQ4 H34 HK4 HE4 HS4 HSZ HWS
  generalize hs0 : bs (wordK kd) = s0
  generalize hfk : fnK kd = fk
  have HFK := Lib.hid hfk
  clear hs0 hfk
  have ka : Keep (fun _ => False) V5 (V5.alloc (.cells #[.string s0, .func (.func fk) #[] #[], .map o] 69)) := (Keep.refl _ V5).alloc _
  have HB6 := Lib.hid (Box3.new V5 (.string s0) (.func (.func fk) #[] #[]) (.map o) 69)
  have HG6 := Lib.hid (HGL.out.kept ka)
  have HR6 := Lib.hid (HR5.out.kept ka)
  have HQ6 := Lib.hid (HQ5.out.kept ka)
  have H36 : Hid ((V5.alloc (.cells #[.string s0, .func (.func fk) #[] #[], .map o] 69)).cell? ⟨z3, 0, none⟩ = some .nilIface ∧ ∀ o', (V5.alloc (.cells #[.string s0, .func (.func fk) #[] #[], .map o] 69)).frozen? ⟨z3, o', none⟩ = false) := Lib.hid ⟨ka.cell H35.out.1 (fun h => h), fun o' => by
    rw [World.frozen?_of_block (w := V5) (a := ⟨z3, o', none⟩) (ka.block z3 (World.block_lt_of_cell? _ _ H35.out.1) (fun h => h))]
    exact H35.out.2 o'⟩
  have HK6 := Lib.hid (HK5.out.trans ka)
  have HZ6 : Hid (r < V5.heap.size) := Lib.hid (by have := HRZ.out; have := HS5.out; omega)
  clear ka HGL HR5 HQ5 H35 HK5
  go_upto_region 4 with (fail)
  generalize V5.alloc (.cells #[.string s0, .func (.func fk) #[] #[], .map o] 69) = V6 at *
  generalize V5.heap.size = z6 at *
  obtain ⟨c0, c1, c2, c3, c4, c5, c6⟩ := HQ6.out.cells
  have hfz := HQ6.out.2
  go_upto_region 5 with (fail)
  clear c0 c1 c2 c3 c4 c5 c6 hfz
  have kq : Keep (fun j => j = z2) V6 (V6.setCell ⟨z2, 0, none⟩ (.int .i64 kd)) := (Keep.refl (fun j => j = z2) V6).setCell (p := ⟨z2, 0, none⟩) _ (.inl rfl)
  have HQ7 := Lib.hid (HQ6.out.set 0 (by decide) kd)
  have HR7 := Lib.hid (HR6.out.setI HQ6.out (f := 0) (by decide) kd)
  have HB7 := Lib.hid (HB6.out.keep kq (fun e => by have h5 : z6 = z2 := e; have := HZ6.out; have := HRZ.out; have := HZ.out; omega))
  have HG7 : Hid (GlueAt (V6.setCell ⟨z2, 0, none⟩ (.int .i64 kd)) (.map o) kd) := Lib.hid (by
    rcases HG6.out with h | ⟨m, h1, h2⟩
    · exact .inl h
    · exact .inr ⟨m, h1, h2.of_heap (kq.block m h2.lt (fun e => h2.not_cell (HQ6.out.1 0 (by decide)) e.symm))⟩)
  have H37 : Hid ((V6.setCell ⟨z2, 0, none⟩ (.int .i64 kd)).cell? ⟨z3, 0, none⟩ = some .nilIface ∧ ∀ o', (V6.setCell ⟨z2, 0, none⟩ (.int .i64 kd)).frozen? ⟨z3, o', none⟩ = false) := Lib.hid ⟨kq.cell H36.out.1 (fun e => by have h5 : z3 = z2 := e; have := HZ.out; omega), fun o' => (World.frozen?_setCell _ _ _ _).trans (H36.out.2 o')⟩
  have HK7 : Hid (Keep (fun _ => False) w (V6.setCell ⟨z2, 0, none⟩ (.int .i64 kd))) := Lib.hid (HK6.out.trans' kq (fun j e => .inr (by have h5 : j = z2 := e; have := HZ.out; omega)))
  clear kq HQ6 HR6 HB6 HG6 H36 HK6
  generalize V6.setCell ⟨z2, 0, none⟩ (.int .i64 kd) = V7 at *
  have hen := fnK_enters kd ⟨HKD.out.1, HKD.out.2.1⟩
  rw [HFK.out] at hen
  obtain ⟨y0, y1, y2, -⟩ := HB7.out
  go_wp2_with fail
  clear y0 y1 y2 hen
  rw [← HFK.out]
  with_reducible refine (fields_any kd ⟨HKD.out.1, HKD.out.2.1⟩ z2 V7).mono ?_
  rintro e V8 ⟨ag, cg, rfl, hrow, k8⟩
  obtain ⟨n, hn⟩ : ∃ n, (flds kd).length = n := ⟨_, rfl⟩
  have HN := Lib.hid hn
  have hn26 := flds_len kd
  rw [hn] at hrow hn26 ⊢
  clear hn
  obtain ⟨-, ⟨-, h0⟩ | ⟨g, cap, cur, e, hg, hh, hnc, hcm, hsz, htk⟩⟩ := hrow
  · omega
  obtain ⟨rfl, -, rfl⟩ := Value.slice.inj e
  clear e
  have HROW : Hid (∀ W : World, W.heap[g]? = some (.cells cur 84 (0, 0)) → ∀ (j f : Nat), (flds kd)[j]? = some f → W.cell? ⟨g, j, none⟩ = some (pF z2 f)) := Lib.hid (fun W hW j f hj => by
    rw [Lib.cell_of_heap hW]
    have h1 : (cur.toList.take (n * 1))[j]? = some (pF z2 f) := by rw [htk, List.getElem?_map, hj]; rfl
    rw [List.getElem?_take] at h1
    split at h1
    · simpa using h1
    · cases h1)
  have HQ8 := Lib.hid (HQ7.out.kept k8)
  have HR8 := Lib.hid (HR7.out.kept k8)
  have HB8 := Lib.hid (HB7.out.kept k8)
  have HG8 := Lib.hid (HG7.out.kept k8)
  have H38 : Hid (V8.cell? ⟨z3, 0, none⟩ = some .nilIface ∧ ∀ o', V8.frozen? ⟨z3, o', none⟩ = false) := Lib.hid ⟨k8.cell H37.out.1 (fun h => h), fun o' => by
    rw [World.frozen?_of_block (w := V7) (a := ⟨z3, o', none⟩) (k8.block z3 (World.block_lt_of_cell? _ _ H37.out.1) (fun h => h))]
    exact H37.out.2 o'⟩
  have HK8 := Lib.hid (HK7.out.trans k8)
  have HGG : Hid (z6 < g) := Lib.hid (by have h1 := HB7.out.lt; omega)
  have HH8 := Lib.hid hh
  clear htk hsz hcm hg hh k8 HQ7 HR7 HB7 HG7 H37 HK7
  have HQ8c := Lib.hid (HQ8.out.1 0 (by decide))
  have HR8c : Hid (∃ v, V8.cell? ⟨r, 0, none⟩ = some v) := Lib.hid (by obtain ⟨⟨v, h1, -⟩, -⟩ := HR8.out; exact ⟨v, h1⟩)
  have HFR : Hid (∀ W, Keep (fun j => j = z2 ∨ j = r) V8 W → Keep (fun _ => False) w W) := Lib.hid (fun W k => HK8.out.trans' k (fun j e => .inr (by have := HZ.out; have := HRZ.out; rcases e with e | e <;> omega)))
  have HDIE : Hid (∀ (W : World) (q' : Qy) (tm : Array Value), Keep (fun j => j = z2 ∨ j = r) V8 W → QBox W z2 q' → parseRaw s = none → tm[2]? = some (ptr z2) → tm[3]? = some (ptr z3) → bodyPostD Tryz.prog Tryz.f27 (ParPost p s w) (Exit.panic (errC p)) { tmps := tm, defers := [{ target := .fn (.func 40) #[ptr z2, ptr z3], args := #[] }] } W) := Lib.hid (fun W q' tm k hq hraw h2 h3 => by
    have hz3 : ∀ o', W.frozen? ⟨z3, o', none⟩ = false := fun o' => by
      rw [World.frozen?_of_block (w := V8) (a := ⟨z3, o', none⟩) (k.block z3 (World.block_lt_of_cell? _ _ H38.out.1) (fun e => by have := HZ.out; have := HRZ.out; rcases e with e | e <;> omega))]
      exact H38.out.2 o'
    exact par_dies p s w W z2 z3 q' .nilIface hraw hq (k.cell H38.out.1 (fun e => by have := HZ.out; have := HRZ.out; rcases e with e | e <;> omega)) hz3 (by have := HZ.out; omega) (HE.out.kept (HFR.out W k)).line (fun W' kk => (HFR.out W k).trans' kk (fun j e => .inr (by have := HZ.out; rcases e with e | e <;> omega))) tm h2 h3)
  go_wp2_with fail
  go_loopg [28] n (fun gh v wr => ∃ (k : Nat) (q' : Qy) (ws' : List ByteArray), gh + k = n ∧ v = .int .i64 k ∧ parseRaw s = restF kd k ws' q' ∧ q'.kd = kd ∧ QBox wr z2 q' ∧ Rdr wr r ws' ∧ (∀ x ∈ ws', x.size ≤ 1000000) ∧ Keep (fun j => j = z2 ∨ j = r) V8 wr)
  case atStart => exact ⟨0, _, ws0, by omega, rfl, HRAW.out, rfl, HQ8.out, HR8.out, HSW.out, Keep.refl _ _⟩
  case round =>
    clear HQ8 HR8 HSW
    obtain ⟨k, q', ws', hk, rfl, hraw, hqk, hq, hr, hsw, hkeep⟩ := hrel
    have HQK := Lib.hid hqk
    have HQ := Lib.hid hq
    have HR := Lib.hid hr
    have HSW := Lib.hid hsw
    have HK := Lib.hid hkeep
    have HRW := Lib.hid hraw
    clear hraw hqk hq hr hsw hkeep
    have HGW : Hid (GlueAt wr (.map o) kd) := Lib.hid (by
      rcases HG8.out with h | ⟨m, h1, h2⟩
      · exact .inl h
      · refine .inr ⟨m, h1, h2.of_heap (HK.out.block m h2.lt (fun e => ?_))⟩
        rcases e with e | e
        · exact h2.not_cell (b' := z2) (HQ8c.out) e.symm
        · obtain ⟨v, hv⟩ := HR8c.out
          exact h2.not_cell (b' := r) hv e.symm)
    have HBW := Lib.hid (HB8.out.keep HK.out (fun e => by have := HZ.out; have := HRZ.out; have := HZ6.out; rcases e with e | e <;> omega))
    have HHW := Lib.hid (HK.out.heap HH8.out (fun e => by have := HZ.out; have := HRZ.out; have := HZ6.out; have := HGG.out; rcases e with e | e <;> omega))
    by_cases hlt : k < n
    · obtain ⟨f, hf⟩ : ∃ f, (flds kd)[k]? = some f := ⟨_, List.getElem?_eq_getElem (by rw [HN.out]; exact hlt)⟩
      have hf7 := flds_lt hf
      have HF := Lib.hid hf
      have c0 := HROW.out wr HHW.out k f hf
      have hkz : (k : Int) < (n : Int) := by omega
      have hk0 : (0 : Int) ≤ (k : Int) := by omega
      clear hf
      obtain ⟨y0, y1, y2, -⟩ := HBW.out
      have hl := glue_look HGW.out k (by omega)
      cases eg : glueK kd k with
      | none =>
        rw [eg] at hl
        simp only [Option.isSome_none] at hl
        have HEG := Lib.hid eg
        clear eg
        generalize glS kd k = sg at hl
        go_upto_region 11 with (fail)
        clear y0 y1 y2 hl c0
        have HNU := Lib.hid (number_any p r _ wr HR.out (fun W' kk => HE.out.kept (HFR.out W' (HK.out.trans (kk.mono (fun _ h => .inr h))))) HSW.out)
        go_wp2_with fail
        with_reducible refine HNU.out.mono ?_
        clear HNU
        rintro e W9 (⟨x, rest, v, e1, hv, rfl, hr9, k9⟩ | ⟨hbad, rfl, k9⟩)
        · have HRN : Hid (parseRaw s = restF kd (k + 1) rest (q'.set v f)) := Lib.hid (by rw [HRW.out]; rw [e1]; exact rest_num HF.out HEG.out hv)
          have HQ9 := Lib.hid (HQ.out.keep k9 (fun e => by have h5 : z2 = r := e; have := HRZ.out; have := HZ.out; omega))
          have HR9 := Lib.hid hr9
          have HK9 := Lib.hid (HK.out.trans (k9.mono (fun _ h => .inr h)))
          have HS9 : Hid (∀ y ∈ rest, y.size ≤ 1000000) := Lib.hid (fun y hy => HSW.out y (by rw [e1]; exact List.mem_cons_of_mem _ hy))
          clear e1 hv hr9 k9
          have c9 := HQ9.out.1 f hf7
          have hfz := HQ9.out.2
          go_upto_region 12 with (fail)
          clear c9 hfz
          have HQN := Lib.hid (HQ9.out.set f hf7 v)
          have HRD := Lib.hid (HR9.out.setI HQ9.out hf7 v)
          have HKN := Lib.hid (HK9.out.setCell (p := ⟨z2, f, none⟩) (.int .i64 v) (.inl (.inl rfl)))
          have HKQ : Hid ((q'.set v f).kd = kd) := Lib.hid ((set_kd q' v (flds_pos HF.out)).trans HQK.out)
          generalize W9.setCell ⟨z2, f, none⟩ (.int .i64 v) = W10 at *
          go_wp2_with fail
          go_roundg (n - (k + 1))
          case rel => exact ⟨k + 1, q'.set v f, rest, by omega, by go_num, HRN.out, HKQ.out, HQN.out, HRD.out, HS9.out, HKN.out⟩
          case measure => omega
        · have HRN : Hid (parseRaw s = none) := Lib.hid (by rw [HRW.out]; exact rest_bad HF.out HEG.out hbad)
          have HQ9 := Lib.hid (HQ.out.keep k9 (fun e => by have h5 : z2 = r := e; have := HRZ.out; have := HZ.out; omega))
          have HK9 := Lib.hid (HK.out.trans (k9.mono (fun _ h => .inr h)))
          exact HDIE.out _ _ _ HK9.out HQ9.out HRN.out rfl rfl
      | some gw =>
        have egs : glS kd k = bs gw := by unfold glS; rw [eg]
        rw [eg, egs] at hl
        simp only [Option.isSome_some] at hl
        have HEG := Lib.hid eg
        clear eg egs
        have HLG := Lib.hid (bs_list gw)
        generalize bs gw = sg at *
        have HNX := Lib.hid (next_any p r ws' wr HR.out (HE.out.kept (HFR.out wr HK.out)))
        go_wp2_with fail
        clear y0 y1 y2 hl c0
        with_reducible refine HNX.out.mono ?_
        clear HNX
        rintro e Wa (⟨y, ws2, e2, rfl, hra, ka⟩ | ⟨e2, rfl, ka⟩)
        case inr =>
          have HRN : Hid (parseRaw s = none) := Lib.hid (by rw [HRW.out]; exact rest_gmiss HF.out HEG.out (fun y' r' e3 => by rw [e2] at e3; cases e3))
          have HQ9 := Lib.hid (HQ.out.keep ka (fun e => by have h5 : z2 = r := e; have := HRZ.out; have := HZ.out; omega))
          have HK9 := Lib.hid (HK.out.trans (ka.mono (fun _ h => .inr h)))
          exact HDIE.out _ _ _ HK9.out HQ9.out HRN.out rfl rfl
        subst e2
        have HQa := Lib.hid (HQ.out.keep ka (fun e => by have h5 : z2 = r := e; have := HRZ.out; have := HZ.out; omega))
        have HRa := Lib.hid hra
        have HKa := Lib.hid (HK.out.trans (ka.mono (fun _ h => .inr h)))
        have HSWa : Hid (∀ x ∈ ws2, x.size ≤ 1000000) := Lib.hid (fun x hx => HSW.out x (List.mem_cons_of_mem _ hx))
        clear hra ka
        by_cases hy : y.data.toList = gw
        · have hbe : (y.toList == sg.toList) = true := by rw [str_beq, HLG.out]; simpa using hy
          have hbn : (y.toList != sg.toList) = false := by rw [bne, hbe]; rfl
          have HY := Lib.hid hy
          clear hy
          go_upto_region 11 with (fail)
          clear hbe hbn
          have HNU := Lib.hid (number_any p r _ Wa HRa.out (fun W' kk => HE.out.kept (HFR.out W' (HKa.out.trans (kk.mono (fun _ h => .inr h))))) HSWa.out)
          go_wp2_with fail
          with_reducible refine HNU.out.mono ?_
          clear HNU
          rintro e W9 (⟨x, rest, v, e1, hv, rfl, hr9, k9⟩ | ⟨hbad, rfl, k9⟩)
          · have HRN : Hid (parseRaw s = restF kd (k + 1) rest (q'.set v f)) := Lib.hid (by rw [HRW.out]; rw [e1]; exact rest_gnum HF.out HEG.out HY.out hv)
            have HQ9 := Lib.hid (HQa.out.keep k9 (fun e => by have h5 : z2 = r := e; have := HRZ.out; have := HZ.out; omega))
            have HR9 := Lib.hid hr9
            have HK9 := Lib.hid (HKa.out.trans (k9.mono (fun _ h => .inr h)))
            have HS9 : Hid (∀ y ∈ rest, y.size ≤ 1000000) := Lib.hid (fun y hy => HSWa.out y (by rw [e1]; exact List.mem_cons_of_mem _ hy))
            clear e1 hv hr9 k9
            have c9 := HQ9.out.1 f hf7
            have hfz := HQ9.out.2
            go_upto_region 12 with (fail)
            clear c9 hfz
            have HQN := Lib.hid (HQ9.out.set f hf7 v)
            have HRD := Lib.hid (HR9.out.setI HQ9.out hf7 v)
            have HKN := Lib.hid (HK9.out.setCell (p := ⟨z2, f, none⟩) (.int .i64 v) (.inl (.inl rfl)))
            have HKQ : Hid ((q'.set v f).kd = kd) := Lib.hid ((set_kd q' v (flds_pos HF.out)).trans HQK.out)
            generalize W9.setCell ⟨z2, f, none⟩ (.int .i64 v) = W10 at *
            go_wp2_with fail
            go_roundg (n - (k + 1))
            case rel => exact ⟨k + 1, q'.set v f, rest, by omega, by go_num, HRN.out, HKQ.out, HQN.out, HRD.out, HS9.out, HKN.out⟩
            case measure => omega
          · have HRN : Hid (parseRaw s = none) := Lib.hid (by rw [HRW.out]; exact rest_gbad HF.out HEG.out HY.out hbad)
            have HQ9 := Lib.hid (HQa.out.keep k9 (fun e => by have h5 : z2 = r := e; have := HRZ.out; have := HZ.out; omega))
            have HK9 := Lib.hid (HKa.out.trans (k9.mono (fun _ h => .inr h)))
            exact HDIE.out _ _ _ HK9.out HQ9.out HRN.out rfl rfl
        · have hbe : (y.toList == sg.toList) = false := by rw [str_beq, HLG.out]; simpa using hy
          have hbn : (y.toList != sg.toList) = true := by rw [bne, hbe]; rfl
          have HY := Lib.hid hy
          clear hy
          have hline := (HE.out.kept (HFR.out Wa HKa.out)).line
          go_wp2_with fail
          have HRN : Hid (parseRaw s = none) := Lib.hid (by rw [HRW.out]; exact rest_gmiss HF.out HEG.out (fun y' r' e3 => by cases e3; exact HY.out))
          exact HDIE.out _ _ _ HKa.out HQa.out HRN.out rfl rfl
    · obtain rfl : k = n := by omega
      have HEND : Hid (parseRaw s = some (endQ q')) := Lib.hid (by rw [HRW.out]; exact rest_end (by rw [HN.out]; exact Nat.le_refl _))
      have hkz : ¬ (k : Int) < (k : Int) := by omega
      by_cases hk1 : kd = 1
      · have hb1 : (kd == 1) = true := by simpa using hk1
        have HEQ : Hid (endQ q' = q'.set q'.lo 4) := Lib.hid (by unfold endQ; rw [if_pos (HQK.out.trans hk1)]; rfl)
        clear hk1
        obtain ⟨c0, c1, c2, c3, c4, c5, c6⟩ := HQ.out.cells
        have hfz := HQ.out.2
        go_upto_region 15 with (fail)
        clear c0 c1 c2 c3 c4 c5 c6 hfz hb1
        have HQE := Lib.hid (HQ.out.set 4 (by decide) q'.lo)
        have HKE := Lib.hid (HK.out.setCell (p := ⟨z2, 4, none⟩) (.int .i64 q'.lo) (.inl (.inl rfl)))
        have HENDE := Lib.hid HEND.out
        rw [HEQ.out] at HENDE
        generalize q'.set q'.lo 4 = qe at *
        generalize wr.setCell ⟨z2, 4, none⟩ (.int .i64 q'.lo) = W11 at *
        obtain ⟨c0, c1, c2, c3, c4, c5, c6⟩ := HQE.out.cells
        have hfz := HQE.out.2
        have H3E : Hid (W11.cell? ⟨z3, 0, none⟩ = some .nilIface ∧ ∀ o', W11.frozen? ⟨z3, o', none⟩ = false) := Lib.hid ⟨HKE.out.cell H38.out.1 (fun e => by have := HZ.out; have := HRZ.out; rcases e with e | e <;> omega), fun o' => by
          rw [World.frozen?_of_block (w := V8) (a := ⟨z3, o', none⟩) (HKE.out.block z3 (World.block_lt_of_cell? _ _ H38.out.1) (fun e => by have := HZ.out; have := HRZ.out; rcases e with e | e <;> omega))]
          exact H38.out.2 o'⟩
        have k7 : Keep (fun j => j = z2) W11 (((((((W11.setCell ⟨z2, 0, none⟩ (.int .i64 qe.kd)).setCell ⟨z2, 1, none⟩ (.int .i64 qe.tb)).setCell ⟨z2, 2, none⟩ (.int .i64 qe.cl)).setCell ⟨z2, 3, none⟩ (.int .i64 qe.lo)).setCell ⟨z2, 4, none⟩ (.int .i64 qe.hi)).setCell ⟨z2, 5, none⟩ (.int .i64 qe.bb)).setCell ⟨z2, 6, none⟩ (.int .i64 qe.ot)) := ((((((((Keep.refl (fun j => j = z2) W11).setCell (p := ⟨z2, 0, none⟩) _ (.inl rfl)).setCell (p := ⟨z2, 1, none⟩) _ (.inl rfl)).setCell (p := ⟨z2, 2, none⟩) _ (.inl rfl)).setCell (p := ⟨z2, 3, none⟩) _ (.inl rfl)).setCell (p := ⟨z2, 4, none⟩) _ (.inl rfl)).setCell (p := ⟨z2, 5, none⟩) _ (.inl rfl)).setCell (p := ⟨z2, 6, none⟩) _ (.inl rfl))
        have HQ7 : Hid (QBox (((((((W11.setCell ⟨z2, 0, none⟩ (.int .i64 qe.kd)).setCell ⟨z2, 1, none⟩ (.int .i64 qe.tb)).setCell ⟨z2, 2, none⟩ (.int .i64 qe.cl)).setCell ⟨z2, 3, none⟩ (.int .i64 qe.lo)).setCell ⟨z2, 4, none⟩ (.int .i64 qe.hi)).setCell ⟨z2, 5, none⟩ (.int .i64 qe.bb)).setCell ⟨z2, 6, none⟩ (.int .i64 qe.ot)) z2 qe) := Lib.hid (by
          have h := (((((((HQE.out.set 0 (by decide) qe.kd).set 1 (by decide) qe.tb).set 2 (by decide) qe.cl).set 3 (by decide) qe.lo).set 4 (by decide) qe.hi).set 5 (by decide) qe.bb).set 6 (by decide) qe.ot)
          obtain ⟨kd', tb, cl, lo, hi, bb, ot⟩ := qe
          exact h)
        have c3' := k7.cell H3E.out.1 (fun e => by have h5 : z3 = z2 := e; have := HZ.out; omega)
        have f3' := fun o' : Nat => (show (((((((W11.setCell ⟨z2, 0, none⟩ (.int .i64 qe.kd)).setCell ⟨z2, 1, none⟩ (.int .i64 qe.tb)).setCell ⟨z2, 2, none⟩ (.int .i64 qe.cl)).setCell ⟨z2, 3, none⟩ (.int .i64 qe.lo)).setCell ⟨z2, 4, none⟩ (.int .i64 qe.hi)).setCell ⟨z2, 5, none⟩ (.int .i64 qe.bb)).setCell ⟨z2, 6, none⟩ (.int .i64 qe.ot)).frozen? ⟨z3, o', none⟩ = false by rw [World.frozen?_of_block (w := W11) (a := ⟨z3, o', none⟩) (k7.block z3 (World.block_lt_of_cell? _ _ H3E.out.1) (fun e => by have h5 : z3 = z2 := e; have := HZ.out; omega))]; exact H3E.out.2 o')
        have k8 : Keep (fun j => j = z3) (((((((W11.setCell ⟨z2, 0, none⟩ (.int .i64 qe.kd)).setCell ⟨z2, 1, none⟩ (.int .i64 qe.tb)).setCell ⟨z2, 2, none⟩ (.int .i64 qe.cl)).setCell ⟨z2, 3, none⟩ (.int .i64 qe.lo)).setCell ⟨z2, 4, none⟩ (.int .i64 qe.hi)).setCell ⟨z2, 5, none⟩ (.int .i64 qe.bb)).setCell ⟨z2, 6, none⟩ (.int .i64 qe.ot)) ((((((((W11.setCell ⟨z2, 0, none⟩ (.int .i64 qe.kd)).setCell ⟨z2, 1, none⟩ (.int .i64 qe.tb)).setCell ⟨z2, 2, none⟩ (.int .i64 qe.cl)).setCell ⟨z2, 3, none⟩ (.int .i64 qe.lo)).setCell ⟨z2, 4, none⟩ (.int .i64 qe.hi)).setCell ⟨z2, 5, none⟩ (.int .i64 qe.bb)).setCell ⟨z2, 6, none⟩ (.int .i64 qe.ot)).setCell ⟨z3, 0, none⟩ .nilIface) := (Keep.refl (fun j => j = z3) _).setCell (p := ⟨z3, 0, none⟩) _ (.inl rfl)
        have HQ8 := Lib.hid (HQ7.out.keep k8 (fun e => by have h5 : z2 = z3 := e; have := HZ.out; omega))
        have H3F := Lib.hid (cell_set_same (v := .nilIface) c3')
        have HKF : Hid (Keep (fun _ => False) w ((((((((W11.setCell ⟨z2, 0, none⟩ (.int .i64 qe.kd)).setCell ⟨z2, 1, none⟩ (.int .i64 qe.tb)).setCell ⟨z2, 2, none⟩ (.int .i64 qe.cl)).setCell ⟨z2, 3, none⟩ (.int .i64 qe.lo)).setCell ⟨z2, 4, none⟩ (.int .i64 qe.hi)).setCell ⟨z2, 5, none⟩ (.int .i64 qe.bb)).setCell ⟨z2, 6, none⟩ (.int .i64 qe.ot)).setCell ⟨z3, 0, none⟩ .nilIface)) := Lib.hid (((HFR.out _ HKE.out).trans' k7 (fun j e => .inr (by have h5 : j = z2 := e; have := HZ.out; omega))).trans' k8 (fun j e => .inr (by have h5 : j = z3 := e; have := HZ.out; omega)))
        clear k7 k8 HQ7
        have h3c := H3E.out.1
        have h3f := H3E.out.2
        clear c3' f3'
        have hz23 : ∀ a b : Nat, (⟨z2, a, none⟩ : Addr) ≠ ⟨z3, b, none⟩ := fun a b e => by have := HZ.out; cases e; omega
        go_wp2_with fail
        exact par_ends p s w _ z2 z3 qe HENDE.out HQ8.out H3F.out HKF.out _ rfl rfl
      · have hb1 : (kd == 1) = false := by simpa using hk1
        have HEQ : Hid (endQ q' = q') := Lib.hid (by unfold endQ; rw [HQK.out, if_neg hk1])
        clear hk1
        go_upto_region 15 with (fail)
        have HENDE := Lib.hid HEND.out
        rw [HEQ.out] at HENDE
        have HQE := Lib.hid HQ.out
        have HKE := Lib.hid HK.out
        clear HEQ HEND HRW HQK HQ HK
        generalize q' = qe at *
        obtain ⟨c0, c1, c2, c3, c4, c5, c6⟩ := HQE.out.cells
        have hfz := HQE.out.2
        have H3E : Hid (wr.cell? ⟨z3, 0, none⟩ = some .nilIface ∧ ∀ o', wr.frozen? ⟨z3, o', none⟩ = false) := Lib.hid ⟨HKE.out.cell H38.out.1 (fun e => by have := HZ.out; have := HRZ.out; rcases e with e | e <;> omega), fun o' => by
          rw [World.frozen?_of_block (w := V8) (a := ⟨z3, o', none⟩) (HKE.out.block z3 (World.block_lt_of_cell? _ _ H38.out.1) (fun e => by have := HZ.out; have := HRZ.out; rcases e with e | e <;> omega))]
          exact H38.out.2 o'⟩
        have k7 : Keep (fun j => j = z2) wr (((((((wr.setCell ⟨z2, 0, none⟩ (.int .i64 qe.kd)).setCell ⟨z2, 1, none⟩ (.int .i64 qe.tb)).setCell ⟨z2, 2, none⟩ (.int .i64 qe.cl)).setCell ⟨z2, 3, none⟩ (.int .i64 qe.lo)).setCell ⟨z2, 4, none⟩ (.int .i64 qe.hi)).setCell ⟨z2, 5, none⟩ (.int .i64 qe.bb)).setCell ⟨z2, 6, none⟩ (.int .i64 qe.ot)) := ((((((((Keep.refl (fun j => j = z2) wr).setCell (p := ⟨z2, 0, none⟩) _ (.inl rfl)).setCell (p := ⟨z2, 1, none⟩) _ (.inl rfl)).setCell (p := ⟨z2, 2, none⟩) _ (.inl rfl)).setCell (p := ⟨z2, 3, none⟩) _ (.inl rfl)).setCell (p := ⟨z2, 4, none⟩) _ (.inl rfl)).setCell (p := ⟨z2, 5, none⟩) _ (.inl rfl)).setCell (p := ⟨z2, 6, none⟩) _ (.inl rfl))
        have HQ7 : Hid (QBox (((((((wr.setCell ⟨z2, 0, none⟩ (.int .i64 qe.kd)).setCell ⟨z2, 1, none⟩ (.int .i64 qe.tb)).setCell ⟨z2, 2, none⟩ (.int .i64 qe.cl)).setCell ⟨z2, 3, none⟩ (.int .i64 qe.lo)).setCell ⟨z2, 4, none⟩ (.int .i64 qe.hi)).setCell ⟨z2, 5, none⟩ (.int .i64 qe.bb)).setCell ⟨z2, 6, none⟩ (.int .i64 qe.ot)) z2 qe) := Lib.hid (by
          have h := (((((((HQE.out.set 0 (by decide) qe.kd).set 1 (by decide) qe.tb).set 2 (by decide) qe.cl).set 3 (by decide) qe.lo).set 4 (by decide) qe.hi).set 5 (by decide) qe.bb).set 6 (by decide) qe.ot)
          obtain ⟨kd', tb, cl, lo, hi, bb, ot⟩ := qe
          exact h)
        have c3' := k7.cell H3E.out.1 (fun e => by have h5 : z3 = z2 := e; have := HZ.out; omega)
        have f3' := fun o' : Nat => (show (((((((wr.setCell ⟨z2, 0, none⟩ (.int .i64 qe.kd)).setCell ⟨z2, 1, none⟩ (.int .i64 qe.tb)).setCell ⟨z2, 2, none⟩ (.int .i64 qe.cl)).setCell ⟨z2, 3, none⟩ (.int .i64 qe.lo)).setCell ⟨z2, 4, none⟩ (.int .i64 qe.hi)).setCell ⟨z2, 5, none⟩ (.int .i64 qe.bb)).setCell ⟨z2, 6, none⟩ (.int .i64 qe.ot)).frozen? ⟨z3, o', none⟩ = false by rw [World.frozen?_of_block (w := wr) (a := ⟨z3, o', none⟩) (k7.block z3 (World.block_lt_of_cell? _ _ H3E.out.1) (fun e => by have h5 : z3 = z2 := e; have := HZ.out; omega))]; exact H3E.out.2 o')
        have k8 : Keep (fun j => j = z3) (((((((wr.setCell ⟨z2, 0, none⟩ (.int .i64 qe.kd)).setCell ⟨z2, 1, none⟩ (.int .i64 qe.tb)).setCell ⟨z2, 2, none⟩ (.int .i64 qe.cl)).setCell ⟨z2, 3, none⟩ (.int .i64 qe.lo)).setCell ⟨z2, 4, none⟩ (.int .i64 qe.hi)).setCell ⟨z2, 5, none⟩ (.int .i64 qe.bb)).setCell ⟨z2, 6, none⟩ (.int .i64 qe.ot)) ((((((((wr.setCell ⟨z2, 0, none⟩ (.int .i64 qe.kd)).setCell ⟨z2, 1, none⟩ (.int .i64 qe.tb)).setCell ⟨z2, 2, none⟩ (.int .i64 qe.cl)).setCell ⟨z2, 3, none⟩ (.int .i64 qe.lo)).setCell ⟨z2, 4, none⟩ (.int .i64 qe.hi)).setCell ⟨z2, 5, none⟩ (.int .i64 qe.bb)).setCell ⟨z2, 6, none⟩ (.int .i64 qe.ot)).setCell ⟨z3, 0, none⟩ .nilIface) := (Keep.refl (fun j => j = z3) _).setCell (p := ⟨z3, 0, none⟩) _ (.inl rfl)
        have HQ8 := Lib.hid (HQ7.out.keep k8 (fun e => by have h5 : z2 = z3 := e; have := HZ.out; omega))
        have H3F := Lib.hid (cell_set_same (v := .nilIface) c3')
        have HKF : Hid (Keep (fun _ => False) w ((((((((wr.setCell ⟨z2, 0, none⟩ (.int .i64 qe.kd)).setCell ⟨z2, 1, none⟩ (.int .i64 qe.tb)).setCell ⟨z2, 2, none⟩ (.int .i64 qe.cl)).setCell ⟨z2, 3, none⟩ (.int .i64 qe.lo)).setCell ⟨z2, 4, none⟩ (.int .i64 qe.hi)).setCell ⟨z2, 5, none⟩ (.int .i64 qe.bb)).setCell ⟨z2, 6, none⟩ (.int .i64 qe.ot)).setCell ⟨z3, 0, none⟩ .nilIface)) := Lib.hid (((HFR.out _ HKE.out).trans' k7 (fun j e => .inr (by have h5 : j = z2 := e; have := HZ.out; omega))).trans' k8 (fun j e => .inr (by have h5 : j = z3 := e; have := HZ.out; omega)))
        clear k7 k8 HQ7
        have h3c := H3E.out.1
        have h3f := H3E.out.2
        clear c3' f3'
        have hz23 : ∀ a b : Nat, (⟨z2, a, none⟩ : Addr) ≠ ⟨z3, b, none⟩ := fun a b e => by have := HZ.out; cases e; omega
        go_wp2_with fail
        exact par_ends p s w _ z2 z3 qe HENDE.out HQ8.out H3F.out HKF.out _ rfl rfl
end Go.Proofs.YtmndjicaofciiaaGreatDoor
