/-
  Several texts in one, each under its own heading below (merged by a program of ours): what this law needs beyond the parts.
-/
import Derived.Test.YtplkmbfeeegaiaaGreatDoorZ3
import Derived.Test.YtplkmbfeeegaiaaGreatDoorZ5
import Derived.Test.YtplkmbfeeegaiaaGreatDoorZ4

/-
  The reference's choice of the next holder is that of the plain model.
-/
namespace Go.Proofs.YtplkmbfeeegaiaaGreatDoor

/-- The region of a node. -/
def regL (l : List Mb) (q : Int) : Int := match findN l q with
  | some m => m.region
  | none => -1
/-- Which members may come. -/
def accC (l : List Mb) (out : List Int) (fresh : Bool) (m : Mb) : Bool := freeC out m && (!fresh || awayC l out m)
theorem accC_true (l : List Mb) (out : List Int) : accC l out true = fun m => freeC out m && awayC l out m := by funext m; simp [accC]
theorem accC_false (l : List Mb) (out : List Int) : accC l out false = freeC out := by funext m; simp [accC]
def usedR (l : List Mb) (out : List Int) (r : Int) (k : Nat) : Bool := (out.take k).any (fun c => decide (regL l c = r))
theorem usedR_succ {l : List Mb} {out : List Int} (r : Int) {k : Nat} {c : Int} (h : out[k]? = some c) : usedR l out r (k + 1) = (usedR l out r k || decide (regL l c = r)) := by
  unfold usedR
  rw [List.take_add_one, h, Option.toList_some, List.any_append]
  simp
theorem usedR_all {l : List Mb} {out : List Int} {r : Int} {k : Nat} (ha : l.Pairwise (fun a b => a.node < b.node)) (hm : ∀ x ∈ out, x ∈ l.map Mb.node) (h : out.length ≤ k) : usedR l out r k = usedC l out r := by
  unfold usedR usedC
  rw [List.take_of_length_le h]
  apply Bool.eq_iff_iff.2
  simp only [List.any_eq_true, Bool.and_eq_true, decide_eq_true_eq, List.contains_iff_mem]
  constructor
  · rintro ⟨c, hc, e⟩
    obtain ⟨m, hml, rfl⟩ := List.mem_map.1 (hm c hc)
    unfold regL at e
    rw [findN_mem ha hml] at e
    exact ⟨m, hml, hc, e⟩
  · rintro ⟨m, hml, hc, e⟩
    refine ⟨m.node, hc, ?_⟩
    unfold regL
    rw [findN_mem ha hml]
    exact e
/-- The best of the first k. -/
def BestK (rk : Int → Int) (l : List Mb) (p : Mb → Bool) (k : Nat) (o : Option Mb) : Prop := match o with
  | none => ∀ y ∈ l.take k, p y = false
  | some x => BestC rk (l.take k) p x
theorem BestK.zero (rk : Int → Int) (l : List Mb) (p : Mb → Bool) : BestK rk l p 0 none := by intro y hy; simp at hy
theorem take_mem {l : List Mb} {k : Nat} {m : Mb} (h : l[k]? = some m) (y : Mb) : y ∈ l.take (k + 1) ↔ y ∈ l.take k ∨ y = m := by
  rw [List.take_add_one, h, Option.toList_some, List.mem_append, List.mem_singleton]
theorem BestK.skip {rk : Int → Int} {l : List Mb} {p : Mb → Bool} {k : Nat} {o : Option Mb} {m : Mb} (h : BestK rk l p k o) (hm : l[k]? = some m) (hp : p m = false) : BestK rk l p (k + 1) o := by
  cases o with
  | none =>
    intro y hy
    rcases (take_mem hm y).1 hy with hy | rfl
    · exact h y hy
    · exact hp
  | some x =>
    refine ⟨(take_mem hm x).2 (.inl h.mem), h.ok, fun y hy hpy => ?_⟩
    rcases (take_mem hm y).1 hy with hy | rfl
    · exact h.best y hy hpy
    · rw [hp] at hpy; cases hpy
theorem take_lt {l : List Mb} (ha : l.Pairwise (fun a b => a.node < b.node)) {k : Nat} {m : Mb} (hm : l[k]? = some m) {y : Mb} (hy : y ∈ l.take k) : y.node < m.node := by
  obtain ⟨j, hj⟩ := List.mem_iff_getElem?.1 hy
  have hjl := (List.getElem?_eq_some_iff.1 hj).1
  rw [List.length_take] at hjl
  rw [List.getElem?_take_of_lt (by omega)] at hj
  obtain ⟨h1a, h1b⟩ := List.getElem?_eq_some_iff.1 hj
  obtain ⟨h2a, h2b⟩ := List.getElem?_eq_some_iff.1 hm
  have := (List.pairwise_iff_getElem.1 ha) j k h1a h2a (by omega)
  rw [h1b, h2b] at this
  exact this
theorem BestK.low {rk : Int → Int} {l : List Mb} {p : Mb → Bool} {k : Nat} {x m : Mb} (ha : l.Pairwise (fun a b => a.node < b.node)) (h : BestK rk l p k (some x)) (hm : l[k]? = some m) (hr : rk m.node ≤ rk x.node) : BestK rk l p (k + 1) (some x) := by
  refine ⟨(take_mem hm x).2 (.inl h.mem), h.ok, fun y hy hpy => ?_⟩
  rcases (take_mem hm y).1 hy with hy | rfl
  · exact h.best y hy hpy
  · have := take_lt ha hm h.mem
    right
    unfold befC
    omega
theorem BestK.first {rk : Int → Int} {l : List Mb} {p : Mb → Bool} {k : Nat} {m : Mb} (h : BestK rk l p k none) (hm : l[k]? = some m) (hp : p m = true) : BestK rk l p (k + 1) (some m) := by
  refine ⟨(take_mem hm m).2 (.inr rfl), hp, fun y hy hpy => ?_⟩
  rcases (take_mem hm y).1 hy with hy | rfl
  · rw [h y hy] at hpy; cases hpy
  · exact .inl rfl
theorem BestK.high {rk : Int → Int} {l : List Mb} {p : Mb → Bool} {k : Nat} {x m : Mb} (h : BestK rk l p k (some x)) (hm : l[k]? = some m) (hp : p m = true) (hr : rk x.node < rk m.node) : BestK rk l p (k + 1) (some m) := by
  refine ⟨(take_mem hm m).2 (.inr rfl), hp, fun y hy hpy => ?_⟩
  rcases (take_mem hm y).1 hy with hy | rfl
  · right
    rcases h.best y hy hpy with rfl | hb
    · exact .inl hr
    · exact befC_trans (.inl hr) hb
  · exact .inl rfl
theorem BestK.all {rk : Int → Int} {l : List Mb} {p : Mb → Bool} {k : Nat} {o : Option Mb} (ha : l.Pairwise (fun a b => a.node < b.node)) (h : BestK rk l p k o) (hk : l.length ≤ k) : selC rk l p = o := by
  unfold BestK at h
  rw [List.take_of_length_le hk] at h
  cases o with
  | none =>
    cases hs : selC rk l p with
    | none => rfl
    | some y =>
      have b := selC_some ha hs
      have h9 := h y b.mem
      rw [b.ok] at h9
      cases h9
  | some x =>
    cases hs : selC rk l p with
    | none => have := selC_none hs x h.mem; rw [h.ok] at this; cases this
    | some y => rw [(selC_some ha hs).uniq h]
def nodeO (o : Option Mb) : Int := match o with
  | some x => x.node
  | none => -1
end Go.Proofs.YtplkmbfeeegaiaaGreatDoor

/-
  The reference's has, region, Digits.
-/
namespace Go.Proofs.YtplkmbfeeegaiaaGreatDoor
open Go.RowKit Go.Shelf

set_option maxRecDepth 100000 in
set_option maxHeartbeats 1000000 in
theorem has15_any (v : Value) (xs : List Int) (n : Int) (w : World) (h : Its w v xs) : Calls Tryz.prog 85 #[v, .int .i64 n] w fun e w' => e = .returned (.bool (hasI xs n)) ∧ w = w' := by
  obtain ⟨hn, -, a, c, bb, off, rfl, hc, ha, hcell⟩ := h
  have HC := Lib.hid hcell
  have HA := Lib.hid ha
  obtain ⟨ln, hl⟩ : ∃ n, xs.length = n := ⟨_, rfl⟩
  have HLN := Lib.hid hl
  rw [hl] at hc hn HA ⊢
  clear hcell ha hl
  obtain ⟨ct, hct⟩ : ∃ b, hasI xs n = b := ⟨_, rfl⟩
  have HCT := Lib.hid hct
  rw [hct]
  clear hct
  go_enter Tryz.func85, Tryz.ntmps85
  go_wp2_with fail
  go_loopg [5] ln (fun gh v wr => ∃ k : Nat, gh + k = ln ∧ v = .int .i64 k ∧ Hid (∀ j x, j < k → xs[j]? = some x → x ≠ n) ∧ w = wr)
  case atStart => exact ⟨0, by omega, rfl, Lib.hid (fun j m h => by omega), rfl⟩
  case round =>
    obtain ⟨k, hk, rfl, HN, rfl⟩ := hrel
    by_cases hlt : k < ln
    · obtain ⟨x, hm⟩ : ∃ x, xs[k]? = some x := ⟨_, List.getElem?_eq_getElem (by have := HLN.out; omega)⟩
      obtain rfl := HA.out (by omega)
      have c0 := HC.out k x hm
      have HM := Lib.hid hm
      have hkz : (k : Int) < (ln : Int) := by omega
      have hk0 : (0 : Int) ≤ (k : Int) := by omega
      clear hm
      by_cases hx : x = n
      · have hb : (x == n) = true := by simpa using hx
        have HT : Hid (ct = true) := Lib.hid (by rw [← HCT.out]; exact hasI_true (by rw [← hx]; exact List.mem_of_getElem? HM.out))
        clear hx
        go_wp2_with fail
        go_ret
        exact ⟨by rw [HT.out]; rfl, rfl⟩
      · have hb : (x == n) = false := by simpa using hx
        have HNN : Hid (∀ j m, j < k + 1 → xs[j]? = some m → m ≠ n) := Lib.hid (fun j m hj hm => by
          by_cases e : j = k
          · subst e
            rw [HM.out] at hm
            cases hm
            exact hx
          · exact HN.out j m (by omega) hm)
        clear hx
        go_wp2_with fail
        go_roundg (gk - 1)
        case rel => exact ⟨k + 1, by omega, by go_num, HNN, rfl⟩
        case measure => omega
    · have hkz : ¬ (k : Int) < (ln : Int) := by omega
      have HF : Hid (ct = false) := Lib.hid (by
        rw [← HCT.out]
        refine hasI_false (fun hm => ?_)
        obtain ⟨j, hj⟩ := List.mem_iff_getElem?.1 hm
        exact HN.out j n (by have := (List.getElem?_eq_some_iff.1 hj).1; have := HLN.out; omega) hj rfl)
      go_wp2_with fail
      go_ret
      exact ⟨by rw [HF.out]; rfl, rfl⟩

set_option maxRecDepth 100000 in
set_option maxHeartbeats 1000000 in
theorem region15_any (v : Value) (l : List Mb) (n : Int) (w : World) (h : Mbs w v l) : Calls Tryz.prog 141 #[v, .int .i64 n] w fun e w' => e = .returned (.int .i64 (regL l n)) ∧ w = w' := by
  obtain ⟨hn, -, a, c, bb, off, rfl, hc, ha, hcell⟩ := h
  have HC := Lib.hid hcell
  have HA := Lib.hid ha
  obtain ⟨ln, hl⟩ : ∃ n, l.length = n := ⟨_, rfl⟩
  have HLN := Lib.hid hl
  rw [hl] at hc hn HA ⊢
  clear hcell ha hl
  obtain ⟨ct, hct⟩ : ∃ b, regL l n = b := ⟨_, rfl⟩
  have HCT := Lib.hid hct
  rw [hct]
  clear hct
  go_enter Tryz.func141, Tryz.ntmps141
  go_wp2_with fail
  go_loopg [5] ln (fun gh v wr => ∃ k : Nat, gh + k = ln ∧ v = .int .i64 k ∧ Hid (∀ j x, j < k → l[j]? = some x → x.node ≠ n) ∧ w = wr)
  case atStart => exact ⟨0, by omega, rfl, Lib.hid (fun j m h => by omega), rfl⟩
  case round =>
    obtain ⟨k, hk, rfl, HN, rfl⟩ := hrel
    by_cases hlt : k < ln
    · obtain ⟨m, hm⟩ : ∃ x, l[k]? = some x := ⟨_, List.getElem?_eq_getElem (by have := HLN.out; omega)⟩
      obtain rfl := HA.out (by omega)
      obtain ⟨c0, c1, -⟩ := HC.out k m hm
      have HM := Lib.hid hm
      have hkz : (k : Int) < (ln : Int) := by omega
      have hk0 : (0 : Int) ≤ (k : Int) := by omega
      clear hm
      obtain ⟨x, y, z⟩ := m
      simp only [] at c0 c1
      by_cases hx : x = n
      · have hb : (x == n) = true := by simpa using hx
        have HT : Hid (ct = y) := Lib.hid (by
          rw [← HCT.out]
          unfold regL findN
          have hf : l.find? (fun m => decide (m.node = n)) = some ⟨x, y, z⟩ := by
            rw [List.find?_eq_some_iff_getElem]
            refine ⟨by simpa using hx, k, by have := HLN.out; omega, ?_, fun j hj => ?_⟩
            · have := HM.out; rw [List.getElem?_eq_getElem (by have := HLN.out; omega)] at this; exact Option.some.inj this
            · have := HN.out j _ hj (List.getElem?_eq_getElem (by have := HLN.out; omega))
              simpa using this
          rw [hf])
        clear hx
        go_wp2_with fail
        go_ret
        exact ⟨by rw [HT.out]; rfl, rfl⟩
      · have hb : (x == n) = false := by simpa using hx
        have HNN : Hid (∀ j m, j < k + 1 → l[j]? = some m → m.node ≠ n) := Lib.hid (fun j m hj hm => by
          by_cases e : j = k
          · subst e
            rw [HM.out] at hm
            cases hm
            exact hx
          · exact HN.out j m (by omega) hm)
        clear hx
        go_wp2_with fail
        go_roundg (gk - 1)
        case rel => exact ⟨k + 1, by omega, by go_num, HNN, rfl⟩
        case measure => omega
    · have hkz : ¬ (k : Int) < (ln : Int) := by omega
      have HF : Hid (ct = -1) := Lib.hid (by
        rw [← HCT.out]
        unfold regL
        rw [findN_none (fun m hm => by
          obtain ⟨j, hj⟩ := List.mem_iff_getElem?.1 hm
          exact HN.out j m (by have := (List.getElem?_eq_some_iff.1 hj).1; have := HLN.out; omega) hj)])
      go_wp2_with fail
      go_ret
      exact ⟨by rw [HF.out]; rfl, rfl⟩

set_option maxRecDepth 100000 in
theorem digits15_any (n : Int) (h : -1000000000000000000 ≤ n ∧ n ≤ 1000000000000000000) (w : World) : Calls Tryz.prog 83 #[.int .i64 n] w fun e w' => e = .returned (.string (digZ n)) ∧ Keep (fun _ => False) w w' := by
  by_cases h0 : n < 0
  · obtain ⟨q, rfl⟩ : ∃ q : Nat, n = -(q : Int) := ⟨(-n).toNat, by omega⟩
    have HD := Lib.hid (digits_any q (by omega))
    have HZ : Hid (digZ (-(q : Int)) = (⟨#[45]⟩ : ByteArray) ++ dig q) := Lib.hid (by
      unfold digZ dig
      rw [Lib.itoa_neg q (by omega)]
      rfl)
    have hsz : (digZ (-(q : Int))).size ≤ 21 := digZ_size (by unfold I64; omega)
    rw [HZ.out, ByteArray.size_append] at hsz
    have e1 : (⟨#[45]⟩ : ByteArray).size = 1 := rfl
    have hw : IntKind.i64.wrap (q : Int) = (q : Int) := wrapI (by unfold I64; omega)
    rw [e1] at hsz
    generalize digZ (-(q : Int)) = dz at *
    generalize dig q = d at *
    have hz1 : ¬ (9223372036854775807 < 1 + d.size) := by omega
    go_enter Tryz.func83, Tryz.ntmps83
    go_wp2_with fail
    with_reducible refine (HD.out w).mono ?_
    rintro e W2 ⟨rfl, k⟩
    have HK := Lib.hid k
    clear k
    go_wp2_with fail
    go_ret
    exact ⟨by rw [HZ.out]; rfl, HK.out⟩
  · obtain ⟨q, rfl⟩ : ∃ q : Nat, n = (q : Int) := ⟨n.toNat, by omega⟩
    have HD := Lib.hid (digits_any q (by omega))
    have HZ : Hid (digZ (q : Int) = dig q) := Lib.hid (digZ_nat q)
    generalize digZ (q : Int) = dz at *
    generalize dig q = d at *
    go_enter Tryz.func83, Tryz.ntmps83
    go_wp2_with fail
    with_reducible refine (HD.out w).mono ?_
    rintro e W2 ⟨rfl, k⟩
    have HK := Lib.hid k
    clear k
    go_wp2_with fail
    go_ret
    exact ⟨by rw [HZ.out]; rfl, HK.out⟩
end Go.Proofs.YtplkmbfeeegaiaaGreatDoor

/-
  The reference's next.
-/
namespace Go.Proofs.YtplkmbfeeegaiaaGreatDoor
open Go.RowKit Go.Shelf

theorem not_both {f u : Bool} (h : ¬ (f = true ∧ u = true)) : (!f || !u) = true ∧ (f = false ∨ (f = true ∧ u = false)) := by
  cases f <;> cases u <;> first | exact ⟨rfl, .inl rfl⟩ | exact ⟨rfl, .inr ⟨rfl, rfl⟩⟩ | exact absurd ⟨rfl, rfl⟩ h
def rankO (rk : Int → Int) (o : Option Mb) : Int := match o with
  | some x => rk x.node
  | none => 0

set_option maxRecDepth 100000 in
set_option maxHeartbeats 4000000 in
theorem next15_any (v : Value) (l : List Mb) (vo : Value) (out : List Int) (key : ByteArray) (fresh : Bool) (w : World) (h : Mbs w v l) (hv : VL l) (ho : Its w vo out) (hom : ∀ x ∈ out, x ∈ l.map Mb.node) (hk : key.size ≤ 1000) : Calls Tryz.prog 121 #[v, .string key, vo, .bool fresh] w fun e w' => e = .returned (.int .i64 (nodeO (selC (rkOf key) l (accC l out fresh)))) ∧ Keep (fun _ => False) w w' := by
  have HML := Lib.hid h
  have HIO := Lib.hid ho
  have HV := Lib.hid hv
  have HOM := Lib.hid hom
  obtain ⟨hn, -, a, c, bb, off, rfl, hc, ha, hcell⟩ := h
  obtain ⟨hno, -, a', c', b', off', rfl, hc', ha', hcell'⟩ := ho
  have HC := Lib.hid hcell
  have HA := Lib.hid ha
  have HC' := Lib.hid hcell'
  have HA' := Lib.hid ha'
  obtain ⟨ln, hl⟩ : ∃ n, l.length = n := ⟨_, rfl⟩
  have HLN := Lib.hid hl
  rw [hl] at hc hn HA HML ⊢
  obtain ⟨on, hol⟩ : ∃ n, out.length = n := ⟨_, rfl⟩
  have HON := Lib.hid hol
  rw [hol] at hc' hno HA' HIO ⊢
  clear hcell ha hcell' ha' hl hol hv hom
  obtain ⟨res, hres⟩ : ∃ r, nodeO (selC (rkOf key) l (accC l out fresh)) = r := ⟨_, rfl⟩
  have HRES := Lib.hid hres
  rw [hres]
  clear hres
  go_enter Tryz.func121, Tryz.ntmps121
  go_upto_region 4 with (fail)
  go_loopg [9, 10, 11] ln (fun gh v9 v10 v11 wr => ∃ (k : Nat) (b : Option Mb), gh + k = ln ∧ v11 = .int .i64 k ∧ v9 = .int .i64 (nodeO b) ∧ v10 = .int .i64 (rankO (rkOf key) b) ∧ BestK (rkOf key) l (accC l out fresh) k b ∧ Keep (fun _ => False) w wr)
  case atStart => exact ⟨0, none, by omega, rfl, rfl, rfl, BestK.zero _ _ _, Keep.refl _ _⟩
  case round =>
    obtain ⟨k, b, hkk, rfl, rfl, rfl, hbest, hkeep⟩ := hrel
    have HBE := Lib.hid hbest
    have HK := Lib.hid hkeep
    clear hbest hkeep
    by_cases hlt : k < ln
    · obtain ⟨m, hm⟩ : ∃ x, l[k]? = some x := ⟨_, List.getElem?_eq_getElem (by have := HLN.out; omega)⟩
      obtain rfl := HA.out (by omega)
      obtain ⟨c0, c1, c2⟩ := HC.out k m hm
      replace c0 := HK.out.cell c0 (fun h => h)
      replace c1 := HK.out.cell c1 (fun h => h)
      replace c2 := HK.out.cell c2 (fun h => h)
      have HM := Lib.hid hm
      have hok := HV.out.ok m (List.mem_of_getElem? hm)
      unfold okMb at hok
      have hkz : (k : Int) < (ln : Int) := by omega
      have hk0 : (0 : Int) ≤ (k : Int) := by omega
      clear hm
      obtain ⟨mq, mr, mw⟩ := m
      simp only [] at c0 c1 c2 hok
      obtain ⟨q, rfl⟩ : ∃ q : Nat, mq = q := ⟨mq.toNat, by omega⟩
      have HT3 := Lib.hid (three_cell wr (.int .i64 q) (.int .i64 mr) (.int .i64 mw) 35)
      have HKA : Hid (Keep (fun _ => False) wr (wr.alloc (.cells #[.int .i64 q, .int .i64 mr, .int .i64 mw] 35))) := Lib.hid ((Keep.refl _ wr).alloc _)
      have HK2 := Lib.hid (HK.out.trans HKA.out)
      go_upto_region 7 with (fail)
      clear c0 c1 c2 HKA HK
      generalize wr.alloc (.cells #[.int .i64 q, .int .i64 mr, .int .i64 mw] 35) = V0 at *
      generalize wr.heap.size = zc at *
      have c0 := HT3.out.1
      go_wp2_with fail
      clear c0
      with_reducible refine (has15_any _ out q V0 (HIO.out.kept HK2.out)).mono ?_
      rintro e w' ⟨rfl, rfl⟩
      cases hh : hasI out q with
      | true =>
        have HSK : Hid (BestK (rkOf key) l (accC l out fresh) (k + 1) b) := Lib.hid (HBE.out.skip HM.out (by
          unfold accC freeC
          have : out.contains (⟨(q : Int), mr, mw⟩ : Mb).node = true := hh
          rw [this]; rfl))
        clear hh
        go_wp2_with fail
        go_roundg (gk - 1)
        case rel => exact ⟨k + 1, b, by omega, by go_num, rfl, rfl, HSK.out, HK2.out⟩
        case measure => omega
      | false =>
        have HFR : Hid (freeC out (⟨(q : Int), mr, mw⟩ : Mb) = true) := Lib.hid (by
          unfold freeC
          have : out.contains (⟨(q : Int), mr, mw⟩ : Mb).node = false := hh
          rw [this]; rfl)
        clear hh
        go_upto_region 10 with (fail)
        go_loopg [13, 14] on (fun gh v13 v14 wr2 => ∃ j : Nat, gh + j = on ∧ v14 = .int .i64 j ∧ v13 = .bool (usedR l out mr j) ∧ Keep (fun _ => False) V0 wr2)
        case atStart => exact ⟨0, by omega, rfl, rfl, Keep.refl _ _⟩
        case round =>
          obtain ⟨j, hj, rfl, rfl, hkeep⟩ := hrel
          have HKJ := Lib.hid hkeep
          clear hkeep
          by_cases hjl : j < on
          · obtain ⟨x, hx⟩ : ∃ x, out[j]? = some x := ⟨_, List.getElem?_eq_getElem (by have := HON.out; omega)⟩
            obtain rfl := HA'.out (by omega)
            have HCX : Hid (∀ V, Keep (fun _ => False) wr V → V.cell? ⟨b', off' + j, none⟩ = some (.int .i64 x)) := Lib.hid (fun V kv => (HK2.out.trans (HKJ.out.trans kv)).cell (HC'.out j x hx) (fun h => h))
            have HCB : Hid (∀ V, Keep (fun _ => False) wr V → V.cell? ⟨zc, 1, none⟩ = some (.int .i64 mr)) := Lib.hid (fun V kv => (HKJ.out.trans kv).cell HT3.out.2.1 (fun h => h))
            have HUS := Lib.hid (usedR_succ (l := l) mr hx)
            have hjz : (j : Int) < (on : Int) := by omega
            have hj0 : (0 : Int) ≤ (j : Int) := by omega
            clear hx
            cases hu : usedR l out mr j with
            | true =>
              have HU1 : Hid (usedR l out mr (j + 1) = true) := Lib.hid (by rw [HUS.out, hu]; rfl)
              clear hu
              go_upto_region 12 with (fail)
              go_quiet (fail)
              have HKE2 := Lib.hid (HKJ.out.trans ((Keep.refl (fun _ => False) _).drewN nq))
              go_wp2_with fail
              go_roundg (gk - 1)
              case rel => exact ⟨j + 1, by omega, by go_num, by rw [HU1.out]; try rfl, HKE2.out⟩
              case measure => omega
            | false =>
              obtain ⟨rg, hrg⟩ : ∃ r, regL l x = r := ⟨_, rfl⟩
              have HRC : Hid (∀ V, Keep (fun _ => False) wr V → Calls Tryz.prog 141 #[.slice (some ⟨bb, off, none⟩) ln c, .int .i64 x] V fun e w' => e = .returned (.int .i64 rg) ∧ V = w') := Lib.hid (fun V kv => by rw [← hrg]; exact region15_any _ l x V (HML.out.kept (HK2.out.trans (HKJ.out.trans kv))))
              obtain ⟨be, hbe⟩ : ∃ b, (rg == mr) = b := ⟨_, rfl⟩
              have HU1 : Hid (usedR l out mr (j + 1) = be) := Lib.hid (by
                rw [HUS.out, hu, Bool.false_or, hrg, ← hbe]
                rfl)
              have HBE2 := Lib.hid hbe
              clear hu hrg hbe
              go_upto_region 12 with (fail)
              have cx : ∀ p : KA (fun _ => False) wr, p.val.cell? ⟨b', off' + j, none⟩ = some (.int .i64 x) := fun p => HCX.out _ p.k
              have cb : ∀ p : KA (fun _ => False) wr, p.val.cell? ⟨zc, 1, none⟩ = some (.int .i64 mr) := fun p => HCB.out _ p.k
              refine wp_region_walk [(false, 0), (false, 1), (true, 2), (true, 3), (true, 4), (true, 5), (true, 6), (true, 8), (true, 9), (false, 7), (false, 10), (false, 11), (false, 12)] (inKA (fun _ => False) wr) (by kernel_rfl) (by kernel_rfl) ?_
              have HKD : Hid (Keep (fun _ => False) wr wr.drew) := Lib.hid (Keep.refl _ wr).drew
              iterate 2 (refine walkW_do rfl (inKA.of HKD.out) (fun K hK => ?_); go_simp; refine hK _ _ ?_; clear hK K)
              iterate 7 (refine walkW_read rfl (fun K hK => ?_); go_simp; refine hK _ ?_; clear hK K)
              clear cx cb
              refine walkW_do rfl (inKA.of HKD.out) (fun K hK => ?_)
              go_simp
              refine (HRC.out _ HKD.out).mono ?_
              rintro e w' ⟨rfl, rfl⟩
              refine hK _ _ ?_; clear hK K
              have hbe := HBE2.out
              iterate 3 (refine walkW_do rfl (inKA.of HKD.out) (fun K hK => ?_); go_simp; refine hK _ _ ?_; clear hK K)
              clear hbe
              refine ⟨inKA.of HKD.out, ?_⟩
              have HKE2 := Lib.hid (HKJ.out.trans HKD.out)
              go_wp2_with fail
              go_roundg (gk - 1)
              case rel => exact ⟨j + 1, by omega, by go_num, by rw [HU1.out]; try rfl, HKE2.out⟩
              case measure => omega
          · obtain rfl : j = on := by omega
            have hus := usedR_all (l := l) (out := out) (r := mr) (k := j) HV.out.asc HOM.out (by rw [HON.out]; omega)
            obtain ⟨us, hus2⟩ : ∃ u, usedC l out mr = u := ⟨_, rfl⟩
            rw [hus, hus2]
            have HAW : Hid (awayC l out (⟨(q : Int), mr, mw⟩ : Mb) = !us) := Lib.hid (by unfold awayC; rw [hus2])
            have hjz : ¬ (j : Int) < (j : Int) := by omega
            have HKV := Lib.hid (HK2.out.trans HKJ.out)
            have HDG := Lib.hid (digits15_any (q : Int) (by omega) wr)
            have hq100 : q < 100 := by omega
            have hds := dig_size hq100
            have HPT : Hid (∀ V, Calls Tryz.prog 78 #[.string ((key ++ ⟨#[32]⟩) ++ digZ (q : Int))] V fun e w' => e = .returned (.int .i64 (rkOf key (q : Int))) ∧ V = w') := Lib.hid (fun V => by
              rw [digZ_nat]
              exact refPoint_any (rkT key (q : Int)) (rkT_size hk (by omega)) V)
            have hdz : (digZ (q : Int)).size ≤ 2 := by rw [digZ_nat]; exact hds
            have hrk0 : 0 ≤ rkOf key (q : Int) := by unfold rkOf; omega
            have hrkI : I64 (rkOf key (q : Int)) := by unfold rkOf I64; have := pt_lt (rkT key (q : Int)); omega
            have HLOW : Hid (∀ x, b = some x → rkOf key (q : Int) ≤ rkOf key x.node → BestK (rkOf key) l (accC l out fresh) (k + 1) b) := Lib.hid (fun x e hr => by subst e; exact HBE.out.low HV.out.asc HM.out hr)
            have HNW : Hid (accC l out fresh (⟨(q : Int), mr, mw⟩ : Mb) = true → (∀ x, b = some x → rkOf key x.node < rkOf key (q : Int)) → BestK (rkOf key) l (accC l out fresh) (k + 1) (some ⟨(q : Int), mr, mw⟩)) := Lib.hid (fun ha hr => by
              cases b with
              | none => exact HBE.out.first HM.out ha
              | some x => exact HBE.out.high HM.out ha (hr x rfl))
            have HSKP : Hid (accC l out fresh (⟨(q : Int), mr, mw⟩ : Mb) = false → BestK (rkOf key) l (accC l out fresh) (k + 1) b) := Lib.hid (fun ha => HBE.out.skip HM.out ha)
            have HACC : Hid (accC l out fresh (⟨(q : Int), mr, mw⟩ : Mb) = (!fresh || !us)) := Lib.hid (by unfold accC; rw [HFR.out, HAW.out, Bool.true_and])
            have HNOD : Hid (nodeO (some (⟨(q : Int), mr, mw⟩ : Mb)) = (q : Int) ∧ rankO (rkOf key) (some (⟨(q : Int), mr, mw⟩ : Mb)) = rkOf key (q : Int)) := Lib.hid ⟨rfl, rfl⟩
            obtain ⟨rq, hrq⟩ : ∃ r, rkOf key (q : Int) = r := ⟨_, rfl⟩
            rw [hrq] at HPT hrk0 hrkI HLOW HNW HNOD
            clear hus hus2 hrq
            generalize digZ (q : Int) = dz at *
            have hz1 : ¬ (9223372036854775807 < key.size + 1) := by omega
            have hz2 : ¬ (9223372036854775807 < key.size + 1 + dz.size) := by omega
            have c0 := HKJ.out.cell HT3.out.1 (fun h => h)
            go_upto_region 13 with (fail)
            clear hjz
            go_wp2_with fail
            with_reducible refine HDG.out.mono ?_
            rintro e V1 ⟨rfl, k1⟩
            have HKV1 := Lib.hid (HKV.out.trans k1)
            have HC01 := Lib.hid (k1.cell c0 (fun h => h))
            clear k1 c0
            go_wp2_with fail
            with_reducible refine (HPT.out V1).mono ?_
            rintro e w' ⟨rfl, rfl⟩
            clear hz1 hz2 HDG HPT
            have c0 := HC01.out
            by_cases hfu : fresh = true ∧ us = true
            · obtain ⟨rfl, rfl⟩ := hfu
              have HS2 := Lib.hid (HSKP.out HACC.out)
              go_wp2_with fail
              clear c0
              go_roundg (ln - (k + 1))
              case rel => exact ⟨k + 1, b, by omega, by go_num, rfl, rfl, HS2.out, HKV1.out⟩
              case measure => omega
            · obtain ⟨hnb1, hnb2⟩ := not_both hfu
              have HAT : Hid (accC l out fresh (⟨(q : Int), mr, mw⟩ : Mb) = true) := Lib.hid (by rw [HACC.out]; exact hnb1)
              clear hfu hnb1
              rcases hnb2 with rfl | ⟨rfl, rfl⟩
              · cases b with
                | none =>
                  have HS2 := Lib.hid (HNW.out HAT.out (fun x e => by cases e))
                  have hnb : nodeO none = -1 := rfl
                  have hrb : rankO (rkOf key) none = 0 := rfl
                  rw [hnb, hrb]
                  clear hnb hrb
                  go_wp2_with fail
                  clear c0
                  go_roundg (ln - (k + 1))
                  case rel => exact ⟨k + 1, _, by omega, by go_num, by rw [HNOD.out.1], by rw [HNOD.out.2], HS2.out, HKV1.out⟩
                  case measure => omega
                | some x =>
                  have hx0 := HV.out.ok x (List.mem_of_mem_take HBE.out.mem)
                  unfold okMb at hx0
                  by_cases hle : rq ≤ rkOf key x.node
                  · have HS2 := Lib.hid (HLOW.out x rfl hle)
                    have HNB : Hid (nodeO (some x) = x.node ∧ rankO (rkOf key) (some x) = rkOf key x.node) := Lib.hid ⟨rfl, rfl⟩
                    have hn1 : 0 ≤ nodeO (some x) := by rw [HNB.out.1]; omega
                    have hr1 : rq ≤ rankO (rkOf key) (some x) := by rw [HNB.out.2]; exact hle
                    clear hle hx0
                    generalize hno1 : nodeO (some x) = n1 at *
                    generalize hro1 : rankO (rkOf key) (some x) = r1 at *
                    have HNO1 := Lib.hid hno1
                    have HRO1 := Lib.hid hro1
                    clear hno1 hro1
                    go_wp2_with fail
                    clear c0
                    go_roundg (ln - (k + 1))
                    case rel => exact ⟨k + 1, some x, by omega, by go_num, by rw [HNO1.out], by rw [HRO1.out], HS2.out, HKV1.out⟩
                    case measure => omega
                  · have HS2 := Lib.hid (HNW.out HAT.out (fun y e => by cases e; omega))
                    have HNB : Hid (nodeO (some x) = x.node ∧ rankO (rkOf key) (some x) = rkOf key x.node) := Lib.hid ⟨rfl, rfl⟩
                    have hn1 : 0 ≤ nodeO (some x) := by rw [HNB.out.1]; omega
                    have hr1 : ¬ rq ≤ rankO (rkOf key) (some x) := by rw [HNB.out.2]; exact hle
                    clear hle hx0
                    generalize nodeO (some x) = n1 at *
                    generalize rankO (rkOf key) (some x) = r1 at *
                    go_wp2_with fail
                    clear c0
                    go_roundg (ln - (k + 1))
                    case rel => exact ⟨k + 1, _, by omega, by go_num, by rw [HNOD.out.1], by rw [HNOD.out.2], HS2.out, HKV1.out⟩
                    case measure => omega
              · cases b with
                | none =>
                  have HS2 := Lib.hid (HNW.out HAT.out (fun x e => by cases e))
                  have hnb : nodeO none = -1 := rfl
                  have hrb : rankO (rkOf key) none = 0 := rfl
                  rw [hnb, hrb]
                  clear hnb hrb
                  go_wp2_with fail
                  clear c0
                  go_roundg (ln - (k + 1))
                  case rel => exact ⟨k + 1, _, by omega, by go_num, by rw [HNOD.out.1], by rw [HNOD.out.2], HS2.out, HKV1.out⟩
                  case measure => omega
                | some x =>
                  have hx0 := HV.out.ok x (List.mem_of_mem_take HBE.out.mem)
                  unfold okMb at hx0
                  by_cases hle : rq ≤ rkOf key x.node
                  · have HS2 := Lib.hid (HLOW.out x rfl hle)
                    have HNB : Hid (nodeO (some x) = x.node ∧ rankO (rkOf key) (some x) = rkOf key x.node) := Lib.hid ⟨rfl, rfl⟩
                    have hn1 : 0 ≤ nodeO (some x) := by rw [HNB.out.1]; omega
                    have hr1 : rq ≤ rankO (rkOf key) (some x) := by rw [HNB.out.2]; exact hle
                    clear hle hx0
                    generalize hno1 : nodeO (some x) = n1 at *
                    generalize hro1 : rankO (rkOf key) (some x) = r1 at *
                    have HNO1 := Lib.hid hno1
                    have HRO1 := Lib.hid hro1
                    clear hno1 hro1
                    go_wp2_with fail
                    clear c0
                    go_roundg (ln - (k + 1))
                    case rel => exact ⟨k + 1, some x, by omega, by go_num, by rw [HNO1.out], by rw [HRO1.out], HS2.out, HKV1.out⟩
                    case measure => omega
                  · have HS2 := Lib.hid (HNW.out HAT.out (fun y e => by cases e; omega))
                    have HNB : Hid (nodeO (some x) = x.node ∧ rankO (rkOf key) (some x) = rkOf key x.node) := Lib.hid ⟨rfl, rfl⟩
                    have hn1 : 0 ≤ nodeO (some x) := by rw [HNB.out.1]; omega
                    have hr1 : ¬ rq ≤ rankO (rkOf key) (some x) := by rw [HNB.out.2]; exact hle
                    clear hle hx0
                    generalize nodeO (some x) = n1 at *
                    generalize rankO (rkOf key) (some x) = r1 at *
                    go_wp2_with fail
                    clear c0
                    go_roundg (ln - (k + 1))
                    case rel => exact ⟨k + 1, _, by omega, by go_num, by rw [HNOD.out.1], by rw [HNOD.out.2], HS2.out, HKV1.out⟩
                    case measure => omega
    · obtain rfl : k = ln := by omega
      have hkz : ¬ (k : Int) < (k : Int) := by omega
      have HE : Hid (res = nodeO b) := Lib.hid (by rw [← HRES.out, HBE.out.all HV.out.asc (by rw [HLN.out]; omega)])
      generalize nodeO b = nb at *
      go_wp2_with fail
      go_ret
      exact ⟨by rw [HE.out]; rfl, HK.out⟩
end Go.Proofs.YtplkmbfeeegaiaaGreatDoor

/-
  The reference's Holders, Copies, Choose, Holds.
-/
namespace Go.Proofs.YtplkmbfeeegaiaaGreatDoor
open Go.RowKit Go.Shelf

set_option maxRecDepth 100000 in
set_option maxHeartbeats 4000000 in
theorem refHolders15_any (v : Value) (ep : Int) (l : List Mb) (ow : List Int) (key : ByteArray) (n : Int) (w : World) (h : Rng w v ep l ow) (hk : key.size ≤ 1000) : Calls Tryz.prog 82 #[v, .string key, .int .i64 n] w (HoldPost w (holdV ep l ow key n)) := by
  have HRG := Lib.hid h
  obtain ⟨hb0, vm, vo, rfl, hm0, ho0⟩ := h
  have HM0 := Lib.hid hm0
  obtain ⟨ma, mn, mc, rfl⟩ : ∃ a n c, vm = .slice a n c := by obtain ⟨a, c, b, off, h, _⟩ := hm0.at_; exact ⟨_, _, _, h⟩
  obtain ⟨oa, on, oc, rfl⟩ : ∃ a n c, vo = .slice a n c := by obtain ⟨a, c, b, off, h, _⟩ := ho0.at_; exact ⟨_, _, _, h⟩
  obtain ⟨xs, hxs⟩ : ∃ xs, holdV ep l ow key n = xs := ⟨_, rfl⟩
  rw [hxs]
  have HXS := Lib.hid hxs
  clear hxs hm0 ho0 hb0
  have HX := Lib.hid (Box3.new w (.int .i64 ep) (.slice ma mn mc) (.slice oa on oc) 27)
  have HK0 : Hid (Keep (fun _ => False) w (w.alloc (.cells #[.int .i64 ep, .slice ma mn mc, .slice oa on oc] 27))) := Lib.hid ((Keep.refl _ w).alloc _)
  go_enter Tryz.func82, Tryz.ntmps82
  go_upto_region 1 with (fail)
  generalize w.alloc (.cells #[.int .i64 ep, .slice ma mn mc, .slice oa on oc] 27) = W0 at *
  generalize w.heap.size = z at HX ⊢
  obtain ⟨x0, x1, x2, xf⟩ := HX.out
  go_wp2_with fail
  clear x0 x1 x2 xf
  with_reducible refine (refValidRing_any _ ep l ow W0 (HRG.out.kept HK0.out)).mono ?_
  rintro e W1 ⟨rfl, k1⟩
  have HX1 := Lib.hid (HX.out.kept k1)
  have HK1 := Lib.hid (HK0.out.trans k1)
  clear k1 HX HK0
  cases hval : validRB ep l ow with
  | false =>
    have HE : Hid (xs = []) := Lib.hid (by rw [← HXS.out]; unfold holdV; rw [hval]; rfl)
    clear hval
    go_wp2_with fail
    go_ret
    exact ⟨_, rfl, by rw [HE.out]; exact Its.nil _, HK1.out⟩
  | true =>
    have HOK := Lib.hid ((validRB_iff ep l ow).1 hval)
    have HEX : Hid (xs = (if n < 1 ∨ 3 < n then [ownerOf ow key] else holdC (rkOf key) l (ownerOf ow key) n.toNat)) := Lib.hid (by rw [← HXS.out]; unfold holdV; rw [if_pos hval])
    clear HXS hval
    obtain ⟨x0, x1, x2, xf⟩ := HX1.out
    go_wp2_with fail
    clear x0 x1 x2 xf
    with_reducible refine (refOwner_any _ ep l ow W1 (HRG.out.kept HK1.out) key (by omega)).mono ?_
    rintro e W2 ⟨rfl, k2⟩
    have HX2 := Lib.hid (HX1.out.kept k2)
    have HK2 := Lib.hid (HK1.out.trans k2)
    clear k2 HX1 HK1
    have HV : Hid (VL l) := Lib.hid HOK.out.2.2.1
    have HOM : Hid (ownerOf ow key ∈ l.map Mb.node) := Lib.hid (owner_mem HOK.out key)
    have HOB : Hid (I64 (ownerOf ow key)) := Lib.hid (by have := node_nn HV.out HOM.out; unfold I64; omega)
    generalize ownerOf ow key = o at *
    have HOI0 : Hid (OwnI w [o] (.slice (some ⟨W2.heap.size, 0, none⟩) 1 1) (W2.alloc (.cells #[.int .i64 o] 3))) := Lib.hid ⟨HK2.out.alloc _, World.ownsRow_lit (base := w.heap.size) (e := 3) (size := 1) W2 #[.int .i64 o] 1 HK2.out.size (by decide) rfl⟩
    have HKA : Hid (Keep (fun _ => False) W2 (W2.alloc (.cells #[.int .i64 o] 3))) := Lib.hid ((Keep.refl _ W2).alloc _)
    have HX3 := Lib.hid (HX2.out.kept HKA.out)
    have HZ2 : Hid (W2.heap.size ≠ z) := Lib.hid (by have := HX2.out.lt; omega)
    go_upto_region 4 with (fail)
    generalize W2.alloc (.cells #[.int .i64 o] 3) = W3 at *
    generalize W2.heap.size = z2 at *
    clear HKA HX2 HK2
    go_upto_region 5 with (fail)
    by_cases hout : n < 1 ∨ 3 < n
    · have HE : Hid (xs = [o]) := Lib.hid (by rw [HEX.out, if_pos hout])
      go_loopg [7, 8] 0 (fun _ v7 v8 wr => v8 = .int .i64 0 ∧ OwnI w [o] v7 wr)
      case atStart => exact ⟨rfl, HOI0.out⟩
      case round =>
        obtain ⟨rfl, hoi⟩ := hrel
        have HIT : Hid (Its wr u7 xs) := Lib.hid (by rw [HE.out]; exact its_owns hoi.2 (by simp) (by intro x hx; rw [List.mem_singleton] at hx; subst hx; exact HOB.out))
        have HKF := Lib.hid hoi.1
        clear hoi
        by_cases h1 : n < 1
        · have h0 : ¬ 0 < n := by omega
          go_wp2_with fail
          go_ret
          exact ⟨_, rfl, HIT.out, HKF.out⟩
        · have h0 : 0 < n := by omega
          have h3 : ¬ n ≤ 3 := by omega
          go_wp2_with fail
          go_ret
          exact ⟨_, rfl, HIT.out, HKF.out⟩
    · obtain ⟨nn, rfl⟩ : ∃ q : Nat, n = q := ⟨n.toNat, by omega⟩
      have HE : Hid (xs = holdC (rkOf key) l o nn) := Lib.hid (by rw [HEX.out, if_neg hout, Int.toNat_natCast])
      have hn3 : (nn : Int) ≤ 3 := by omega
      have hnn3 : nn ≤ 3 := by omega
      clear hout HEX
      go_loopg [7, 8] nn (fun gh v7 v8 wr => ∃ i : Nat, gh + i = nn ∧ v8 = .int .i64 i ∧ OwnI w (holdC (rkOf key) l o i) v7 wr ∧ Box3 wr z (.int .i64 ep) (.slice ma mn mc) (.slice oa on oc) ∧ ∀ j, v7.ownBlock = some j → j ≠ z)
      case atStart => exact ⟨0, by omega, rfl, HOI0.out, HX3.out, fun j e => by cases e; exact HZ2.out⟩
      case round =>
        clear HOI0 HX3
        obtain ⟨i, hi, rfl, hoi, hbx, hzn⟩ := hrel
        have HZN := Lib.hid hzn
        clear hzn
        have HOI := Lib.hid hoi
        have HBX := Lib.hid hbx
        clear hoi hbx
        have HHC := Lib.hid (holdC_ok (rk := rkOf key) HV.out.asc HOM.out i)
        by_cases hlt : i < nn
        · have hiz : (i : Int) < (nn : Int) := by omega
          have HST : Hid (holdC (rkOf key) l o (i + 1) = stepC (rkOf key) l (holdC (rkOf key) l o i)) := Lib.hid rfl
          generalize holdC (rkOf key) l o i = out at *
          have HHL : Hid (out.length ≤ 24) := Lib.hid (by have h1 := HHC.out.len; have h2 := HV.out.len; omega)
          have HIO : Hid (Its wr u7 out) := Lib.hid (its_owns HOI.out.2 (by have := HHL.out; omega) (fun x hx => by have := node_nn HV.out (HHC.out.mem x hx); unfold I64; omega))
          have HNT := Lib.hid (fun (fr : Bool) (V : World) (k : Keep (fun _ => False) wr V) => next15_any (.slice ma mn mc) l u7 out key fr V (HM0.out.kept (HOI.out.1.trans k)) HV.out (HIO.out.kept k) HHC.out.mem hk)
          obtain ⟨x0, x1, x2, xf⟩ := HBX.out
          go_upto_region 7 with (fail)
          go_wp2_with fail
          clear x0 x1 x2 xf
          with_reducible refine (HNT.out true wr (Keep.refl _ wr)).mono ?_
          rintro e V1 ⟨rfl, k1⟩
          have HK1 := Lib.hid k1
          clear k1
          rw [accC_true]
          cases hsel : selC (rkOf key) l (fun m => freeC out m && awayC l out m) with
          | some x =>
            have HNX : Hid (nextC (rkOf key) l out = some x) := Lib.hid (by unfold nextC; rw [hsel])
            have hx0 : 0 ≤ x.node := by have := HV.out.ok x (selC_some HV.out.asc hsel).mem; unfold okMb at this; omega
            have hx1 : ¬ x.node < 0 := by omega
            have hno : nodeO (some x) = x.node := rfl
            have HKV := HK1
            have HBN := Lib.hid (HBX.out.kept HK1.out)
            rw [hno]
            clear hsel hno
            have HOUT : Hid (holdC (rkOf key) l o (i + 1) = out ++ [x.node]) := Lib.hid (by rw [HST.out]; unfold stepC; rw [HNX.out])
            obtain ⟨v2, VN, hr2, hoi2, hkn, hob2⟩ := (HOI.out.keep HKV.out).snoc x.node (by have := HHL.out; omega)
            have HR2 := Lib.hid hr2
            have HOI2 : Hid (OwnI w (holdC (rkOf key) l o (i + 1)) v2 VN) := Lib.hid (by rw [HOUT.out]; exact hoi2)
            have HB2 : Hid (Box3 VN z (.int .i64 ep) (.slice ma mn mc) (.slice oa on oc)) := Lib.hid (HBN.out.keep hkn (fun e => HZN.out _ e rfl))
            have HZV : Hid (∀ j, v2.ownBlock = some j → j ≠ z) := Lib.hid (fun j e => by
              rcases hob2 with h | h
              · exact HZN.out j (h.symm.trans e)
              · rw [h] at e
                cases e
                have := HBN.out.lt
                omega)
            clear hr2 hoi2 hkn hob2
            generalize x.node = xn at *
            go_wp2_with (at_builtin; refine wpList_app rfl (.tmp 40) (.tmp 42) 22 rfl rfl rfl HR2.out ?_)
            go_roundg (nn - (i + 1))
            case rel => exact ⟨i + 1, by omega, by go_num, HOI2.out, HB2.out, HZV.out⟩
            case measure => omega
          | none =>
            have HSEL := Lib.hid hsel
            have hno : nodeO none = -1 := rfl
            rw [hno]
            clear hsel hno
            obtain ⟨x0, x1, x2, xf⟩ := HBX.out.kept HK1.out
            go_wp2_with fail
            clear x0 x1 x2 xf
            with_reducible refine (HNT.out false V1 HK1.out).mono ?_
            rintro e V2 ⟨rfl, k2⟩
            have HKV := Lib.hid (HK1.out.trans k2)
            have HBN := Lib.hid (HBX.out.kept HKV.out)
            clear k2
            rw [accC_false]
            cases hs2 : selC (rkOf key) l (freeC out) with
            | some x =>
              have HNX : Hid (nextC (rkOf key) l out = some x) := Lib.hid (by unfold nextC; rw [HSEL.out]; exact hs2)
              have hx0 : 0 ≤ x.node := by have := HV.out.ok x (selC_some HV.out.asc hs2).mem; unfold okMb at this; omega
              have hno : nodeO (some x) = x.node := rfl
              rw [hno]
              clear hs2 hno
              have HOUT : Hid (holdC (rkOf key) l o (i + 1) = out ++ [x.node]) := Lib.hid (by rw [HST.out]; unfold stepC; rw [HNX.out])
              obtain ⟨v2, VN, hr2, hoi2, hkn, hob2⟩ := (HOI.out.keep HKV.out).snoc x.node (by have := HHL.out; omega)
              have HR2 := Lib.hid hr2
              have HOI2 : Hid (OwnI w (holdC (rkOf key) l o (i + 1)) v2 VN) := Lib.hid (by rw [HOUT.out]; exact hoi2)
              have HB2 : Hid (Box3 VN z (.int .i64 ep) (.slice ma mn mc) (.slice oa on oc)) := Lib.hid (HBN.out.keep hkn (fun e => HZN.out _ e rfl))
              have HZV : Hid (∀ j, v2.ownBlock = some j → j ≠ z) := Lib.hid (fun j e => by
                rcases hob2 with h | h
                · exact HZN.out j (h.symm.trans e)
                · rw [h] at e
                  cases e
                  have := HBN.out.lt
                  omega)
              clear hr2 hoi2 hkn hob2
              generalize x.node = xn at *
              go_wp2_with (at_builtin; refine wpList_app rfl (.tmp 40) (.tmp 42) 22 rfl rfl rfl HR2.out ?_)
              go_roundg (nn - (i + 1))
              case rel => exact ⟨i + 1, by omega, by go_num, HOI2.out, HB2.out, HZV.out⟩
              case measure => omega
            | none =>
              have HOUT : Hid (holdC (rkOf key) l o (i + 1) = out) := Lib.hid (by rw [HST.out]; unfold stepC nextC; rw [HSEL.out]; simp only [hs2])
              have hno : nodeO none = -1 := rfl
              rw [hno]
              clear hs2 hno
              have HOI2 : Hid (OwnI w (holdC (rkOf key) l o (i + 1)) u7 V2) := Lib.hid (by rw [HOUT.out]; exact HOI.out.keep HKV.out)
              go_wp2_with fail
              go_roundg (nn - (i + 1))
              case rel => exact ⟨i + 1, by omega, by go_num, HOI2.out, HBN.out, HZN.out⟩
              case measure => omega
        · obtain rfl : i = nn := by omega
          have HIT : Hid (Its wr u7 xs) := Lib.hid (by
            rw [HE.out]
            exact its_owns HOI.out.2 (by have h1 := HHC.out.len; have h2 := HV.out.len; omega) (fun x hx => by have := node_nn HV.out (HHC.out.mem x hx); unfold I64; omega))
          have HKF := Lib.hid HOI.out.1
          have hiz : ¬ (i : Int) < (i : Int) := by omega
          clear HOI
          go_wp2_with fail
          go_ret
          exact ⟨_, rfl, HIT.out, HKF.out⟩

set_option maxRecDepth 100000 in
set_option maxHeartbeats 1000000 in
theorem refCopies15_any (v : Value) (ep : Int) (l : List Mb) (ow : List Int) (key : ByteArray) (n : Int) (w : World) (h : Rng w v ep l ow) (hk : key.size ≤ 1000) : Calls Tryz.prog 36 #[v, .string key, .int .i64 n] w (HoldPost w ((holdV ep l ow key n).drop 1)) := by
  have HRG := Lib.hid h
  obtain ⟨hb0, vm, vo, rfl, hm0, ho0⟩ := h
  obtain ⟨ma, mn, mc, rfl⟩ : ∃ a n c, vm = .slice a n c := by obtain ⟨a, c, b, off, h, _⟩ := hm0.at_; exact ⟨_, _, _, h⟩
  obtain ⟨oa, on, oc, rfl⟩ : ∃ a n c, vo = .slice a n c := by obtain ⟨a, c, b, off, h, _⟩ := ho0.at_; exact ⟨_, _, _, h⟩
  have HX := Lib.hid (Box3.new w (.int .i64 ep) (.slice ma mn mc) (.slice oa on oc) 27)
  have HK0 : Hid (Keep (fun _ => False) w (w.alloc (.cells #[.int .i64 ep, .slice ma mn mc, .slice oa on oc] 27))) := Lib.hid ((Keep.refl _ w).alloc _)
  obtain ⟨xs, hxs⟩ : ∃ xs, holdV ep l ow key n = xs := ⟨_, rfl⟩
  have HH : Hid (∀ W, Keep (fun _ => False) w W → Calls Tryz.prog 82 #[ringV ep (.slice ma mn mc) (.slice oa on oc), .string key, .int .i64 n] W (HoldPost W xs)) := Lib.hid (fun W k => by rw [← hxs]; exact refHolders15_any _ ep l ow key n W (HRG.out.kept k) hk)
  rw [hxs]
  obtain ⟨ys, hys⟩ : ∃ ys, xs.drop 1 = ys := ⟨_, rfl⟩
  have HYS := Lib.hid hys
  rw [hys]
  clear hys hxs hm0 ho0 hb0
  go_enter Tryz.func36, Tryz.ntmps36
  go_upto_region 1 with (fail)
  generalize w.alloc (.cells #[.int .i64 ep, .slice ma mn mc, .slice oa on oc] 27) = W0 at *
  generalize w.heap.size = z at HX ⊢
  obtain ⟨x0, x1, x2, xf⟩ := HX.out
  go_wp2_with fail
  clear x0 x1 x2 xf
  with_reducible refine (HH.out W0 HK0.out).mono ?_
  rintro e W1 ⟨vh, rfl, hit, k1⟩
  have HK1 := Lib.hid (HK0.out.trans k1)
  have HIT := Lib.hid hit
  clear k1
  obtain ⟨hn, hbd, a, c, b, off, rfl, hc, ha, hcell⟩ := hit
  have HA := Lib.hid ha
  clear hbd hcell ha
  generalize hxl : xs.length = xn at *
  have HXL := Lib.hid hxl
  clear hxl
  by_cases h0 : xn = 0
  · subst h0
    have HNIL : Hid (Its W1 (.slice none 0 0) ys) := Lib.hid (by rw [← HYS.out, List.drop_of_length_le (by rw [HXL.out]; omega)]; exact Its.nil _)
    clear HH HRG HIT
    go_wp2_with fail
    go_ret
    exact ⟨_, rfl, HNIL.out, HK1.out⟩
  · obtain rfl := HA.out (by omega)
    have hx0 : ((xn : Int) == 0) = false := by simp; omega
    have h1x : (1 : Int) ≤ (xn : Int) := by omega
    have h1n : 1 ≤ xn := by omega
    have HRS := Lib.hid (HIT.out.rest (q := 1) (by omega))
    have HR1 : Hid (c = 1 → Its W1 (.slice (some ⟨b, off, none⟩) (xn - 1) 0) ys) := Lib.hid (fun e => by
      have h := HRS.out
      rw [if_pos e, HYS.out] at h
      subst e
      exact h)
    have HR2 : Hid (c ≠ 1 → Its W1 (.slice (some ⟨b, off + 1, none⟩) (xn - 1) (c - 1)) ys) := Lib.hid (fun e => by
      have h := HRS.out
      rw [if_neg e, HYS.out] at h
      exact h)
    clear HH HRG HIT HRS
    go_wp2_with fail
    · go_ret
      exact ⟨_, rfl, HR1.out (by omega), HK1.out⟩
    · go_ret
      exact ⟨_, rfl, HR2.out (by omega), HK1.out⟩

set_option maxRecDepth 100000 in
set_option maxHeartbeats 1000000 in
theorem refHolds15_any (v : Value) (ep : Int) (l : List Mb) (ow : List Int) (key : ByteArray) (n q : Int) (w : World) (h : Rng w v ep l ow) (hk : key.size ≤ 1000) : Calls Tryz.prog 40 #[v, .string key, .int .i64 n, .int .i64 q] w fun e w' => e = .returned (.bool (hasI (holdV ep l ow key n) q)) ∧ Keep (fun _ => False) w w' := by
  have HRG := Lib.hid h
  obtain ⟨hb0, vm, vo, rfl, hm0, ho0⟩ := h
  obtain ⟨ma, mn, mc, rfl⟩ : ∃ a n c, vm = .slice a n c := by obtain ⟨a, c, b, off, h, _⟩ := hm0.at_; exact ⟨_, _, _, h⟩
  obtain ⟨oa, on, oc, rfl⟩ : ∃ a n c, vo = .slice a n c := by obtain ⟨a, c, b, off, h, _⟩ := ho0.at_; exact ⟨_, _, _, h⟩
  have HX := Lib.hid (Box3.new w (.int .i64 ep) (.slice ma mn mc) (.slice oa on oc) 27)
  have HK0 : Hid (Keep (fun _ => False) w (w.alloc (.cells #[.int .i64 ep, .slice ma mn mc, .slice oa on oc] 27))) := Lib.hid ((Keep.refl _ w).alloc _)
  obtain ⟨xs, hxs⟩ : ∃ xs, holdV ep l ow key n = xs := ⟨_, rfl⟩
  have HH : Hid (∀ W, Keep (fun _ => False) w W → Calls Tryz.prog 82 #[ringV ep (.slice ma mn mc) (.slice oa on oc), .string key, .int .i64 n] W (HoldPost W xs)) := Lib.hid (fun W k => by rw [← hxs]; exact refHolders15_any _ ep l ow key n W (HRG.out.kept k) hk)
  have HC : Hid (∀ v W, Its W v xs → Calls Tryz.prog 85 #[v, .int .i64 q] W fun e w' => e = .returned (.bool (hasI xs q)) ∧ W = w') := Lib.hid (fun v W hi => has15_any v xs q W hi)
  rw [hxs]
  generalize hasI xs q = ct at *
  clear hxs hm0 ho0 hb0
  go_enter Tryz.func40, Tryz.ntmps40
  go_upto_region 1 with (fail)
  generalize w.alloc (.cells #[.int .i64 ep, .slice ma mn mc, .slice oa on oc] 27) = W0 at *
  generalize w.heap.size = z at HX ⊢
  obtain ⟨x0, x1, x2, xf⟩ := HX.out
  go_wp2_with fail
  clear x0 x1 x2 xf
  with_reducible refine (HH.out W0 HK0.out).mono ?_
  rintro e W1 ⟨vh, rfl, hit, k1⟩
  have HK1 := Lib.hid (HK0.out.trans k1)
  have HIT := Lib.hid hit
  clear k1 hit
  go_wp2_with fail
  with_reducible refine (HC.out vh W1 HIT.out).mono ?_
  rintro e w' ⟨rfl, rfl⟩
  go_wp2_with fail
  go_ret
  exact ⟨rfl, HK1.out⟩

set_option maxRecDepth 100000 in
set_option maxHeartbeats 1000000 in
theorem refChoose15_any (v : Value) (ep : Int) (l : List Mb) (ow : List Int) (key : ByteArray) (n c : Int) (w : World) (h : Rng w v ep l ow) (hk : key.size ≤ 1000) (hc0 : -1000000000000 ≤ c ∧ c ≤ 1000000000000) :
    Calls Tryz.prog 38 #[v, .string key, .int .i64 n, .int .i64 c] w fun e w' => e = .returned (.int .i64 (chooseV (holdV ep l ow key n) key c)) ∧ Keep (fun _ => False) w w' := by
  have HRG := Lib.hid h
  have hc : I64 c := by unfold I64; omega
  obtain ⟨hb0, vm, vo, rfl, hm0, ho0⟩ := h
  obtain ⟨ma, mn, mc, rfl⟩ : ∃ a n c, vm = .slice a n c := by obtain ⟨a, c, b, off, h, _⟩ := hm0.at_; exact ⟨_, _, _, h⟩
  obtain ⟨oa, on, oc, rfl⟩ : ∃ a n c, vo = .slice a n c := by obtain ⟨a, c, b, off, h, _⟩ := ho0.at_; exact ⟨_, _, _, h⟩
  have HX := Lib.hid (Box3.new w (.int .i64 ep) (.slice ma mn mc) (.slice oa on oc) 27)
  have HK0 : Hid (Keep (fun _ => False) w (w.alloc (.cells #[.int .i64 ep, .slice ma mn mc, .slice oa on oc] 27))) := Lib.hid ((Keep.refl _ w).alloc _)
  obtain ⟨xs, hxs⟩ : ∃ xs, holdV ep l ow key n = xs := ⟨_, rfl⟩
  have HLE : Hid (xs.length ≤ 24) := Lib.hid (by rw [← hxs]; exact holdV_len ep l ow key n)
  have HH : Hid (∀ W, Keep (fun _ => False) w W → Calls Tryz.prog 82 #[ringV ep (.slice ma mn mc) (.slice oa on oc), .string key, .int .i64 n] W (HoldPost W xs)) := Lib.hid (fun W k => by rw [← hxs]; exact refHolders15_any _ ep l ow key n W (HRG.out.kept k) hk)
  rw [hxs]
  have HI : Hid (∀ W, Calls Tryz.prog 83 #[.int .i64 c] W fun e w' => e = .returned (.string (digZ c)) ∧ Keep (fun _ => False) W w') := Lib.hid (fun W => digits15_any c (by omega) W)
  have HPT : Hid (∀ W, Keep (fun _ => False) w W → Calls Tryz.prog 78 #[.string ((digZ c ++ ⟨#[32]⟩) ++ key)] W fun e w' => e = .returned (.int .i64 (pt (cliT key c) : Nat)) ∧ W = w') := Lib.hid (fun W _ => refPoint_any (cliT key c) (cliT_size hk hc) W)
  have HCV : Hid (∀ x, xs[pt (cliT key c) % xs.length]? = some x → chooseV xs key c = x) := Lib.hid (fun x hx => by
    unfold chooseV
    rw [if_neg (fun e => by rw [e] at hx; simp at hx), List.getD_eq_getElem?_getD, hx]; rfl)
  have HCN : Hid (xs.length = 0 → chooseV xs key c = -1) := Lib.hid (fun h => by unfold chooseV; rw [if_pos (List.eq_nil_of_length_eq_zero h)])
  have hds := digZ_size hc
  generalize digZ c = dc at *
  generalize chooseV xs key c = cv at *
  generalize pt (cliT key c) = pv at *
  clear hxs hm0 ho0 hb0
  go_enter Tryz.func38, Tryz.ntmps38
  go_upto_region 1 with (fail)
  generalize w.alloc (.cells #[.int .i64 ep, .slice ma mn mc, .slice oa on oc] 27) = W0 at *
  generalize w.heap.size = z at HX ⊢
  obtain ⟨x0, x1, x2, xf⟩ := HX.out
  go_wp2_with fail
  clear x0 x1 x2 xf
  with_reducible refine (HH.out W0 HK0.out).mono ?_
  rintro e W1 ⟨vh, rfl, hit, k1⟩
  have HK1 := Lib.hid (HK0.out.trans k1)
  have HIT := Lib.hid hit
  clear k1
  obtain ⟨hn, hbd, a, cp, b, off, rfl, hcp, ha, hcell⟩ := hit
  have HA := Lib.hid ha
  have HCE := Lib.hid hcell
  clear hbd hcell ha
  generalize hxl : xs.length = xn at *
  have HXL2 := Lib.hid hxl
  clear hxl
  by_cases h0 : xn = 0
  · subst h0
    have HE := Lib.hid (HCN.out rfl)
    clear HH HRG HIT
    go_wp2_with fail
    go_ret
    exact ⟨by rw [HE.out]; rfl, HK1.out⟩
  · have hx0 : ((xn : Int) == 0) = false := by simp; omega
    obtain rfl := HA.out (by omega)
    have HK21 : Hid (∀ {W2 : World}, Keep (fun _ => False) W1 W2 → ∀ j x, xs[j]? = some x → W2.cell? ⟨b, off + j, none⟩ = some (.int .i64 x)) := Lib.hid (fun k j x hj => k.cell (HCE.out j x hj) (fun h => h))
    clear HH HRG HIT
    go_wp2_with fail
    with_reducible refine (HI.out W1).mono ?_
    rintro e W2 ⟨rfl, k2⟩
    have HK2 := Lib.hid (HK1.out.trans k2)
    have hlt : pv % xn < xn := Nat.mod_lt pv (by omega)
    obtain ⟨x, hx⟩ : ∃ x, xs[pv % xn]? = some x := ⟨_, List.getElem?_eq_getElem (by rw [HXL2.out]; exact hlt)⟩
    have HE := Lib.hid (HCV.out x hx)
    have cx := HK21.out k2 (pv % xn) x hx
    have hz1 : ¬ (9223372036854775807 < dc.size + 1) := by omega
    have hz2 : ¬ (9223372036854775807 < dc.size + 1 + key.size) := by omega
    have hmz : ((pv : Int) % (xn : Int)) = ((pv % xn : Nat) : Int) := by omega
    clear hx k2
    generalize pv % xn = r at *
    go_wp2_with fail
    with_reducible refine (HPT.out W2 HK2.out).mono ?_
    rintro e w' ⟨rfl, rfl⟩
    go_wp2_with fail
    go_ret
    exact ⟨by rw [HE.out]; rfl, HK2.out⟩
end Go.Proofs.YtplkmbfeeegaiaaGreatDoor
