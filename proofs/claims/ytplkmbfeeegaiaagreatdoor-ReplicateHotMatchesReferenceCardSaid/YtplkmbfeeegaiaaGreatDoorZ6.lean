/-
  Several texts in one, each under its own heading below (merged by a program of ours): the contracts of the functions that the law reaches, part 6 of 6.
-/
import Derived.Test.YtplkmbfeeegaiaaGreatDoorZ1
import Derived.Test.YtplkmbfeeegaiaaGreatDoorZ2
import Derived.Test.YtplkmbfeeegaiaaGreatDoorZ3
import Derived.Test.YtplkmbfeeegaiaaGreatDoorZ4
import Derived.Test.YtplkmbfeeegaiaaGreatDoorZ5
import Derived.Test.YtplkmbfeeegaiaaGreatDoorRows
import Derived.Test.YtplkmbfeeegaiaaGreatDoorTie
import Derived.Test.YtplkmbfeeegaiaaGreatDoorCards
import Derived.Lib.LaidTab
import Derived.Stop.LaidErr
import Derived.SizedLaws
import Derived.Deep.Slices
import Derived.ChangeSame
import Derived.ProofKit
import Derived.OpenShut
import Derived.LaidMore
import Derived.Stop.Joined
import Derived.SevenTiedAt
import Derived.Deep.Fields
import Derived.Lib.SmallJoins

/-
  Holders: regions; a member that is left out.
-/
namespace Go.Proofs.YtplkmbfeeegaiaaGreatDoor

/-- How many of the four regions. -/
def rc (f : Int → Bool) : Nat := (f 0).toNat + (f 1).toNat + (f 2).toNat + (f 3).toNat
theorem rc_add {f : Int → Bool} {q : Int} (hq : 0 ≤ q ∧ q ≤ 3) (hf : f q = false) : rc (fun r => f r || decide (r = q)) = rc f + 1 := by
  have h : q = 0 ∨ q = 1 ∨ q = 2 ∨ q = 3 := by omega
  unfold rc
  rcases h with rfl | rfl | rfl | rfl
  · simp [hf]; omega
  · simp [hf]; omega
  · simp [hf]; omega
  · simp [hf]
theorem rc_same {f g : Int → Bool} (h : ∀ q, 0 ≤ q → q ≤ 3 → f q = g q) : rc f = rc g := by
  unfold rc
  rw [h 0 (by omega) (by omega), h 1 (by omega) (by omega), h 2 (by omega) (by omega), h 3 (by omega) (by omega)]
theorem toNat_le {a b : Bool} (h : a = true → b = true) : a.toNat ≤ b.toNat := by
  cases a
  · simp
  · rw [h rfl]; exact Nat.le_refl _
theorem rc_le {f g : Int → Bool} (h : ∀ q, f q = true → g q = true) : rc f ≤ rc g := by
  unfold rc
  have h0 := toNat_le (h 0)
  have h1 := toNat_le (h 1)
  have h2 := toNat_le (h 2)
  have h3 := toNat_le (h 3)
  omega
theorem rc_lt {f g : Int → Bool} (h : ∀ q, f q = true → g q = true) (hl : rc f < rc g) : ∃ q, 0 ≤ q ∧ q ≤ 3 ∧ f q = false ∧ g q = true := by
  apply Classical.byContradiction
  intro hn
  have hall : ∀ q, 0 ≤ q → q ≤ 3 → f q = g q := fun q h0 h3 => by
    cases hf : f q with
    | true => exact (h q hf).symm
    | false =>
      cases hg : g q with
      | false => rfl
      | true => exact absurd ⟨q, h0, h3, hf, hg⟩ hn
  have := rc_same hall
  omega
theorem rc_eq {f g : Int → Bool} (h : ∀ q, f q = true → g q = true) (he : rc f = rc g) : ∀ q, 0 ≤ q → q ≤ 3 → g q = true → f q = true := by
  intro q h0 h3 hg
  apply Classical.byContradiction
  intro hf
  have hf : f q = false := by simpa using hf
  have h1 := rc_add (f := f) ⟨h0, h3⟩ hf
  have h2 := rc_le (f := fun r => f r || decide (r = q)) (g := g) (fun r hr => by
    rcases Bool.or_eq_true_iff.1 hr with hr | hr
    · exact h r hr
    · rw [of_decide_eq_true hr]; exact hg)
  omega
/-- The regions of all members. -/
def allC (l : List Mb) (r : Int) : Bool := l.any (fun y => decide (y.region = r))
theorem used_all (l : List Mb) (out : List Int) : ∀ q, usedC l out q = true → allC l q = true := by
  intro q h
  unfold usedC at h
  unfold allC
  rw [List.any_eq_true] at h ⊢
  obtain ⟨y, hy, e⟩ := h
  rw [Bool.and_eq_true] at e
  exact ⟨y, hy, e.2⟩
/-- Holders are in as many regions as can be. -/
theorem hold_regions {rk : Int → Int} {l : List Mb} {o : Int} (hv : VL l) (ho : o ∈ l.map Mb.node) : ∀ n, rc (usedC l (holdC rk l o n)) = min (rc (allC l)) (n + 1)
  | 0 => by
    obtain ⟨m, hm, rfl⟩ := List.mem_map.1 ho
    have hr := hv.ok m hm
    unfold okMb at hr
    have h0 : rc (usedC l []) = 0 := by
      have : usedC l [] = fun _ => false := by funext r; unfold usedC; simp
      rw [this]; rfl
    have h1 : usedC l (holdC rk l m.node 0) = fun r => usedC l [] r || decide (r = m.region) := by
      show usedC l ([] ++ [m.node]) = _
      exact usedC_snoc hv.asc hm
    have hf : usedC l [] m.region = false := by unfold usedC; simp
    have h2 := rc_add (f := usedC l []) (q := m.region) (by omega) hf
    rw [h1, h2, h0]
    have h3 : 1 ≤ rc (allC l) := by
      have := rc_le (f := fun r => usedC l [] r || decide (r = m.region)) (g := allC l) (fun q hq => by
        rcases Bool.or_eq_true_iff.1 hq with hq | hq
        · exact used_all l [] q hq
        · rw [of_decide_eq_true hq]
          unfold allC
          rw [List.any_eq_true]
          exact ⟨m, hm, by simp⟩)
      omega
    omega
  | n + 1 => by
    have ih := hold_regions (rk := rk) hv ho n
    have hh := holdC_ok (rk := rk) hv.asc ho n
    show rc (usedC l (stepC rk l (holdC rk l o n))) = _
    generalize holdC rk l o n = out at *
    have hua := used_all l out
    by_cases hlt : rc (usedC l out) < rc (allC l)
    · obtain ⟨q, h0, h3, hf, hg⟩ := rc_lt hua hlt
      unfold allC at hg
      obtain ⟨y, hy, hyq⟩ := List.any_eq_true.1 hg
      have hyq : y.region = q := by simpa using hyq
      cases hs : selC rk l (fun m => freeC out m && awayC l out m) with
      | none =>
        have := selC_none hs y hy
        have haw : awayC l out y = true := by unfold awayC; rw [hyq, hf]; rfl
        have hfr : freeC out y = true := by
          unfold freeC
          cases hc : out.contains y.node with
          | false => rfl
          | true =>
            have : usedC l out q = true := by
              unfold usedC
              rw [List.any_eq_true]
              exact ⟨y, hy, by rw [hc, hyq]; simp⟩
            rw [hf] at this; cases this
        rw [haw, hfr] at this
        cases this
      | some x =>
        have b := selC_some hv.asc hs
        have hx := hv.ok x b.mem
        unfold okMb at hx
        have hax : usedC l out x.region = false := by
          have h5 := b.ok
          simp only [Bool.and_eq_true] at h5
          have h6 := h5.2
          unfold awayC at h6
          simpa using h6
        have hst : stepC rk l out = out ++ [x.node] := by unfold stepC nextC; rw [hs]
        rw [hst, usedC_snoc hv.asc b.mem, rc_add (by omega) hax]
        omega
    · have heq : rc (usedC l out) = rc (allC l) := by have := rc_le hua; omega
      have hsame := rc_eq hua heq
      unfold stepC
      cases hnx : nextC rk l out with
      | none => show rc (usedC l out) = _; omega
      | some x =>
        obtain ⟨hx, -⟩ := nextC_spec hv.asc hnx
        have hxr := hv.ok x hx
        unfold okMb at hxr
        show rc (usedC l (out ++ [x.node])) = _
        rw [usedC_snoc hv.asc hx]
        have hu : usedC l out x.region = true := hsame x.region (by omega) (by omega) (by unfold allC; rw [List.any_eq_true]; exact ⟨x, hx, by simp⟩)
        have : rc (fun r => usedC l out r || decide (r = x.region)) = rc (usedC l out) := rc_same (fun q _ _ => by
          by_cases e : q = x.region
          · subst e; rw [hu]; rfl
          · simp [e])
        rw [this]
        omega

/-! ### a member is left out -/
theorem sel_less {rk : Int → Int} {l few : List Mb} {p : Mb → Bool} (ha : l.Pairwise (fun a b => a.node < b.node)) (hf : few.Pairwise (fun a b => a.node < b.node)) {x0 : Mb} (hs : ∀ m, m ∈ few ↔ m ∈ l ∧ m ≠ x0) (hne : selC rk l p ≠ some x0) : selC rk few p = selC rk l p := by
  cases h1 : selC rk l p with
  | none =>
    have hn := selC_none h1
    cases h2 : selC rk few p with
    | none => rfl
    | some y =>
      have b := selC_some hf h2
      have := hn y ((hs y).1 b.mem).1
      rw [b.ok] at this; cases this
  | some x =>
    have b := selC_some ha h1
    have hx : x ∈ few := (hs x).2 ⟨b.mem, fun e => hne (by rw [h1, e])⟩
    have b2 : BestC rk few p x := ⟨hx, b.ok, fun y hy hp => b.best y ((hs y).1 hy).1 hp⟩
    cases h2 : selC rk few p with
    | none => have := selC_none h2 x hx; rw [b.ok] at this; cases this
    | some y => rw [(selC_some hf h2).uniq b2]
theorem used_less {l few : List Mb} {out : List Int} {x0 : Mb} (hs : ∀ m, m ∈ few ↔ m ∈ l ∧ m ≠ x0) (hx : x0.node ∉ out) : usedC few out = usedC l out := by
  funext r
  unfold usedC
  apply Bool.eq_iff_iff.2
  simp only [List.any_eq_true, Bool.and_eq_true]
  constructor
  · rintro ⟨m, hm, h⟩
    exact ⟨m, ((hs m).1 hm).1, h⟩
  · rintro ⟨m, hm, h⟩
    refine ⟨m, (hs m).2 ⟨hm, fun e => ?_⟩, h⟩
    subst e
    exact hx (by simpa using h.1)
theorem holdC_mono (rk : Int → Int) (l : List Mb) (o : Int) {x : Int} : ∀ {i n : Nat}, i ≤ n → x ∈ holdC rk l o i → x ∈ holdC rk l o n
  | i, 0, h, hx => by have : i = 0 := by omega
                      subst this; exact hx
  | i, n + 1, h, hx => by
    by_cases e : i = n + 1
    · subst e; exact hx
    · obtain ⟨t, ht⟩ := holdC_pre rk l o n
      rw [ht]
      exact List.mem_append_left _ (holdC_mono rk l o (by omega) hx)
theorem hold_less {rk : Int → Int} {l few : List Mb} {o : Int} (ha : l.Pairwise (fun a b => a.node < b.node)) (hf : few.Pairwise (fun a b => a.node < b.node)) {x0 : Mb} (hs : ∀ m, m ∈ few ↔ m ∈ l ∧ m ≠ x0) (n : Nat) (hx : x0.node ∉ holdC rk l o n) : ∀ i, i ≤ n → holdC rk few o i = holdC rk l o i
  | 0, _ => rfl
  | i + 1, hi => by
    have ih := hold_less ha hf hs n hx i (by omega)
    show stepC rk few (holdC rk few o i) = stepC rk l (holdC rk l o i)
    rw [ih]
    have hxo : x0.node ∉ holdC rk l o i := fun h => hx (holdC_mono rk l o (by omega) h)
    have hxs : x0.node ∉ stepC rk l (holdC rk l o i) := fun h => hx (holdC_mono rk l o (i := i + 1) hi h)
    generalize holdC rk l o i = out at *
    have hu := used_less hs hxo
    have haw : awayC few out = awayC l out := by funext m; unfold awayC; rw [hu]
    have hnx : nextC rk few out = nextC rk l out := by
      have hno : nextC rk l out ≠ some x0 := fun h => hxs (by unfold stepC; rw [h]; simp)
      have h1 : selC rk few (fun m => freeC out m && awayC few out m) = selC rk l (fun m => freeC out m && awayC l out m) := by
        rw [haw]
        exact sel_less ha hf hs (fun h => hno (by unfold nextC; rw [h]))
      unfold nextC
      rw [h1]
      cases h2 : selC rk l (fun m => freeC out m && awayC l out m) with
      | some x => rfl
      | none =>
        simp only []
        exact sel_less ha hf hs (fun h => hno (by unfold nextC; rw [h2]; exact h))
    unfold stepC
    rw [hnx]
end Go.Proofs.YtplkmbfeeegaiaaGreatDoor

/-
  From a row's own condition to the walks: the table, the slices of integers.
-/
namespace Go.Proofs.YtplkmbfeeegaiaaGreatDoor
open Go.ChangeShapes Go.WideShapes Go.ChangeAt Go.RowKit Go.Shelf

/-- What every row lists. -/
abbrev laid4 : List (String × DataW Unit) := [("math/bits.deBruijn32tab", Rows.laid_math_bits_deBruijn32tab), ("math/bits.deBruijn64tab", Rows.laid_math_bits_deBruijn64tab), ("internal/strconv.uint64pow10", Rows.laid_internal_strconv_uint64pow10), ("cachetier/wire.nibbles", Rows.laid_cachetier_wire_nibbles)]
theorem own : ownKnob Tryz.prog.godebug = none := by kernel_rfl
theorem laidOut : laidOutB Tryz.prog = true := by kernel_rfl
theorem gNib : Tryz.prog.globalNamed "cachetier/wire.nibbles" = some 0 := by kernel_rfl
theorem tNib : (Tryz.prog.globals[0]?).map (·.type) = some 175 := by kernel_rfl
theorem cellsI : Tryz.prog.cellsOf 3 = 1 := by kernel_rfl
theorem bytesI : Tryz.prog.bytesOf 3 = 8 := by kernel_rfl
theorem door_met (os : Os) (args : Array Value) : laidMetH Tryz.prog laid4 ((World.doorLaid Tryz.prog 400 os).forCall (fun _ _ => 0) ⟨#[], args, []⟩).memory :=
  laidMetH_of_parts3 (fuel := 8) (laidMet_of_run' 8 (by kernel_rfl) (by kernel_rfl)) (by kernel_rfl) (by kernel_rfl)
theorem tab_of_laid {W : World} (h : laidMetH Tryz.prog laid4 W) : Tab W := by
  rw [MakeChecks.laidMetH_plain _ _ _ (by kernel_rfl)] at h
  have h3 := h.tail.tail.tail
  have ht : Lib.TabIs Tryz.prog W "cachetier/wire.nibbles" .u32 (tabL.map (fun n : Nat => (n : Int))) := Lib.tabIs_of_head gNib tNib Tryz.underlying175 Tryz.underlying174 (by kernel_rfl) (by kernel_rfl) h3
  intro i hi
  have hc := ht.cell gNib i (by rw [List.length_map]; exact hi)
  rw [hc, List.getD_eq_getElem?_getD, List.getElem?_map, List.getD_eq_getElem?_getD]
  cases hx : tabL[i]? with
  | none => rfl
  | some x => rfl
theorem ints_open {H : Type} {enc : TypeId × Value → H} {w : World} {base fuel : Nat} {spare : Nat → Bool} {held : Bool} {a : Option Addr} {len cap : Nat} {x : DataW H × List MemPlace} (h : DataW.trod enc Tryz.prog w base spare held fuel 22 [.slice a len cap] = some x)
    (hs : ∀ el sp, x.1 = .slice el sp → (el.length + sp.length) * Tryz.prog.bytesOf 3 ≤ reachBytes) : ∃ xs, Its w (.slice a len cap) xs := by
  rcases open_ints Tryz.underlying22 Tryz.underlying3 cellsI h with ⟨hcs, _⟩ | ⟨ad, l, c, zs, hcs, _, hl, hm, hz, hx, hcell, hwz⟩
  · cases hcs
    exact ⟨[], Its.nil w⟩
  · cases hcs
    have hlz : len ≤ zs.length := by rw [hz]; split <;> omega
    have h1 := hs _ _ (by rw [hx])
    rw [bytesI] at h1
    simp only [lits, List.length_map, List.length_take, List.length_drop, reachBytes] at h1
    refine ⟨zs.take len, ⟨by rw [List.length_take]; omega, fun x hx => bounds_i64 (hwz x (List.mem_of_mem_take hx)), ?_⟩⟩
    have hll : (zs.take len).length = len := by rw [List.length_take]; omega
    obtain ⟨b, off, spot⟩ := ad
    refine ⟨some ⟨b, off, spot⟩, cap, b, off, by rw [hll], by rw [hll]; exact hl, fun h0 => ?_, fun j x hj => ?_⟩
    · have hspot : spot = none := by simpa [Addr.add] using World.cell?_spot (hcell 0 (by omega))
      rw [hspot]
    · have hj1 : j < len := by have := (List.getElem?_eq_some_iff.1 hj).1; omega
      have hspot : spot = none := by simpa [Addr.add] using World.cell?_spot (hcell 0 (by omega))
      subst hspot
      have hc := hcell j (by omega)
      rw [Addr.add_lit] at hc
      rw [hc]
      rw [List.getElem?_take_of_lt hj1] at hj
      rw [List.getD_eq_getElem?_getD, hj]
      rfl
end Go.Proofs.YtplkmbfeeegaiaaGreatDoor

/-
  A slice of members that came in.
-/
namespace Go.Proofs.YtplkmbfeeegaiaaGreatDoor
open Go.ChangeShapes Go.WideShapes Go.ChangeAt Go.RowKit Go.Shelf

theorem cellsMb : Tryz.prog.cellsOf 35 = 3 := by kernel_rfl
theorem mb_cells {H : Type} {enc : TypeId × Value → H} {w : World} {base n : Nat} {spare : Nat → Bool} {held : Bool} {a : Addr} {cs : List Value} {x : DataW H × List MemPlace} (hc : w.cells? base a (Tryz.prog.cellsOf 35) = some cs)
    (ht : DataW.trod enc Tryz.prog w base spare held n 35 cs = some x) (j : Nat) (hj : j < 3) : ∃ z, w.cell? (a.add j) = some (.int .i64 z) ∧ -9223372036854775808 ≤ z ∧ z ≤ 9223372036854775807 := by
  rw [cellsMb] at hc
  obtain ⟨_, hcl, hat⟩ := World.cells?_some hc
  obtain ⟨ys, n', _, _, _, hyl, hf⟩ := DataW.trod_struct Tryz.underlying35 ht
  have hyl' : ys.length = 3 := hyl
  have key : ∀ (f : Field), (#[({ name := "Node", type := 3, offset := 0, embedded := false, tag := "", pkgPath := "", byteOffset := 0 } : Field), { name := "Region", type := 3, offset := 1, embedded := false, tag := "", pkgPath := "", byteOffset := 8 }, { name := "Weight", type := 3, offset := 2, embedded := false, tag := "", pkgPath := "", byteOffset := 16 }] : Array Field)[j]? = some f → f.type = 3 → f.offset = j → ∃ z, w.cell? (a.add j) = some (.int .i64 z) ∧ -9223372036854775808 ≤ z ∧ z ≤ 9223372036854775807 := by
    intro f hfj h3 ho
    have h1 := hf j f hfj
    rw [h3, ho, cellsI] at h1
    have hys : ys[j]? = some (ys[j]'(by omega)) := List.getElem?_eq_getElem (by omega)
    rw [hys, List.drop_eq_getElem_cons (by omega)] at h1
    obtain ⟨z, hz, _, hwf⟩ := DataW.trod_int Tryz.underlying3 h1
    have hz' : cs[j]'(by omega) = .int .i64 z := by
      rw [List.take_succ_cons, List.take_zero] at hz
      exact (List.cons.inj hz).1
    refine ⟨z, ?_, bounds_i64 hwf⟩
    rw [hat j hj, List.getElem?_eq_getElem (by omega), hz']
  match j, hj with
  | 0, _ => exact key _ rfl rfl rfl
  | 1, _ => exact key _ rfl rfl rfl
  | 2, _ => exact key _ rfl rfl rfl

theorem mbs_open {H : Type} {enc : TypeId × Value → H} {w : World} {base fuel : Nat} {spare : Nat → Bool} {held : Bool} {a : Option Addr} {len cap : Nat} {x : DataW H × List MemPlace} (h : DataW.trod enc Tryz.prog w base spare held fuel 25 [.slice a len cap] = some x) (hlen : len ≤ 1000000000000000) : ∃ l, Mbs w (.slice a len cap) l ∧ l.length = len := by
  rcases Go.Deep.open_slice Tryz.underlying25 h with ⟨h0, _⟩ | ⟨ad, l, c, m, n, D, Pl, hcs, hb, hl, hm, hmm, hx, hi⟩
  · cases h0
    exact ⟨[], ⟨by simp, by simp, none, 0, 0, 0, rfl, by simp, fun h => by simp at h, fun j x hj => by simp at hj⟩, rfl⟩
  · cases hcs
    have hlm : len ≤ m := by rw [hmm]; split <;> omega
    have hc : ∀ i j, i < len → j < 3 → ∃ z, w.cell? (ad.add (i * 3 + j)) = some (.int .i64 z) ∧ -9223372036854775808 ≤ z ∧ z ≤ 9223372036854775807 := fun i j hi' hj => by
      obtain ⟨cs', h1, h2⟩ := hi i (by omega)
      obtain ⟨z, hz, hb⟩ := mb_cells h1 h2 j hj
      rw [cellsMb, Go.Deep.add_add] at hz
      exact ⟨z, hz, hb⟩
    obtain ⟨b, off, spot⟩ := ad
    by_cases hl0 : len = 0
    · subst hl0
      exact ⟨[], ⟨by simp, by simp, some ⟨b, off, spot⟩, cap, b, off, rfl, hl, fun h => by simp at h, fun j x hj => by simp at hj⟩, rfl⟩
    · obtain ⟨z0, hz0, _⟩ := hc 0 0 (by omega) (by omega)
      have hspot : spot = none := by simpa [Addr.add] using World.cell?_spot hz0
      subst hspot
      have hc2 : ∀ i, ∃ mb : Mb, i < len → (w.cell? ⟨b, off + i * 3, none⟩ = some (.int .i64 mb.node) ∧ w.cell? ⟨b, off + i * 3 + 1, none⟩ = some (.int .i64 mb.region) ∧ w.cell? ⟨b, off + i * 3 + 2, none⟩ = some (.int .i64 mb.weight)) ∧ I64 mb.node ∧ I64 mb.region ∧ I64 mb.weight := fun i => by
        by_cases hil : i < len
        · obtain ⟨z0, h0, b0⟩ := hc i 0 hil (by omega)
          obtain ⟨z1, h1, b1⟩ := hc i 1 hil (by omega)
          obtain ⟨z2, h2, b2⟩ := hc i 2 hil (by omega)
          rw [Addr.add_lit, ← Nat.add_assoc] at h0 h1 h2
          exact ⟨⟨z0, z1, z2⟩, fun _ => ⟨⟨h0, h1, h2⟩, b0, b1, b2⟩⟩
        · exact ⟨⟨0, 0, 0⟩, fun h => absurd h hil⟩
      obtain ⟨F, hF⟩ : ∃ F : Nat → Mb, ∀ i, i < len → (w.cell? ⟨b, off + i * 3, none⟩ = some (.int .i64 (F i).node) ∧ w.cell? ⟨b, off + i * 3 + 1, none⟩ = some (.int .i64 (F i).region) ∧ w.cell? ⟨b, off + i * 3 + 2, none⟩ = some (.int .i64 (F i).weight)) ∧ I64 (F i).node ∧ I64 (F i).region ∧ I64 (F i).weight := ⟨fun i => Classical.choose (hc2 i), fun i => Classical.choose_spec (hc2 i)⟩
      refine ⟨(List.range len).map F, ⟨by simpa using hlen, fun mb hmb => ?_, ?_⟩, by simp⟩
      · obtain ⟨i, hi', rfl⟩ := List.mem_map.1 hmb
        exact (hF i (List.mem_range.1 hi')).2
      · refine ⟨some ⟨b, off, none⟩, cap, b, off, by simp, by simpa using hl, fun _ => rfl, fun j mb hj => ?_⟩
        rw [List.getElem?_map] at hj
        cases hr : (List.range len)[j]? with
        | none => rw [hr] at hj; simp at hj
        | some j' =>
          rw [hr] at hj
          simp only [Option.map_some, Option.some.injEq] at hj
          obtain ⟨h1, h2⟩ := List.getElem?_eq_some_iff.1 hr
          have hjj : j' = j := by simpa using h2.symm
          have hjl : j < len := by simpa using h1
          subst hj
          rw [hjj]
          exact (hF j hjl).1
end Go.Proofs.YtplkmbfeeegaiaaGreatDoor

/-
  A ring that came in.
-/
namespace Go.Proofs.YtplkmbfeeegaiaaGreatDoor
open Go.ChangeShapes Go.WideShapes Go.ChangeAt Go.RowKit Go.Shelf

theorem cellsRg : Tryz.prog.cellsOf 27 = 3 := by kernel_rfl
set_option maxRecDepth 100000 in
theorem ring_fields {H : Type} {enc : TypeId × Value → H} {w : World} {base b0 : Nat} {spare : Nat → Bool} {held : Bool} {r : Reach} {v : Value} {d : DataW H} {p : List MemPlace}
    (hv : Value.okWide Tryz.prog w r b0 27 v) (h : DataW.Trod enc Tryz.prog w base spare held 27 v d p) :
    ∃ (ep : Int) (ma : Option Addr) (mn mc : Nat) (oa : Option Addr) (on oc n : Nat) (y0 y1 y2 : DataW H × List MemPlace), v = ringV ep (.slice ma mn mc) (.slice oa on oc) ∧ I64 ep ∧ d = .agg [y0.1, y1.1, y2.1] ∧ p = y0.2 ++ (y1.2 ++ y2.2) ∧
      DataW.trod enc Tryz.prog w base spare held n 3 [.int .i64 ep] = some y0 ∧ DataW.trod enc Tryz.prog w base spare held n 25 [.slice ma mn mc] = some y1 ∧ DataW.trod enc Tryz.prog w base spare held n 22 [.slice oa on oc] = some y2 := by
  obtain ⟨c0, c1, c2, y0, y1, y2, n, rfl, rfl, rfl, h0, h1, h2⟩ := Go.Joins.open_agg3 Tryz.underlying27 (by kernel_rfl) cellsRg hv h
  obtain ⟨ep, e0, _, w0⟩ := DataW.trod_int Tryz.underlying3 h0
  obtain ⟨ma, mn, mc, e1⟩ := Go.Joins.slice_form Tryz.underlying25 h1
  obtain ⟨oa, on, oc, e2⟩ := Go.Joins.slice_form Tryz.underlying22 h2
  obtain rfl := (List.cons.inj e0).1
  obtain rfl := (List.cons.inj e1).1
  obtain rfl := (List.cons.inj e2).1
  exact ⟨ep, ma, mn, mc, oa, on, oc, n, y0, y1, y2, rfl, bounds_i64 w0, rfl, rfl, h0, h1, h2⟩
end Go.Proofs.YtplkmbfeeegaiaaGreatDoor

/-
  A ring that came in, as the walks want it.
-/
namespace Go.Proofs.YtplkmbfeeegaiaaGreatDoor
open Go.ChangeShapes Go.WideShapes Go.ChangeAt Go.RowKit Go.Shelf

theorem bytesMb : Tryz.prog.bytesOf 35 = 24 := by kernel_rfl
theorem mbs_open' {H : Type} {enc : TypeId × Value → H} {w : World} {base fuel : Nat} {spare : Nat → Bool} {held : Bool} {a : Option Addr} {len cap : Nat} {x : DataW H × List MemPlace} (h : DataW.trod enc Tryz.prog w base spare held fuel 25 [.slice a len cap] = some x)
    (hs : ∀ el sp, x.1 = .slice el sp → (el.length + sp.length) * Tryz.prog.bytesOf 35 ≤ reachBytes) : ∃ l, Mbs w (.slice a len cap) l ∧ l.length = len := by
  refine mbs_open h ?_
  have hl := Go.Joins.sliceLen_trod (d := x.1) (ps := x.2) Tryz.underlying25 h
  cases e : x.1 with
  | slice el sp =>
    rw [e] at hl
    have h1 := hs el sp e
    rw [bytesMb] at h1
    simp only [Go.Joins.sliceLen] at hl
    unfold reachBytes at h1
    omega
  | _ =>
    rw [e] at hl
    simp only [Go.Joins.sliceLen] at hl
    omega
set_option maxRecDepth 100000 in
theorem ring_open {H : Type} {enc : TypeId × Value → H} {w : World} {base b0 : Nat} {spare : Nat → Bool} {held : Bool} {r : Reach} {v : Value} {d : DataW H} {p : List MemPlace}
    (hv : Value.okWide Tryz.prog w r b0 27 v) (h : DataW.Trod enc Tryz.prog w base spare held 27 v d p) (hs : ∀ n ∈ DataW.weights Tryz.prog 27 d, n ≤ reachBytes) : ∃ ep l ow, Rng w v ep l ow := by
  obtain ⟨ep, ma, mn, mc, oa, on, oc, n, y0, y1, y2, rfl, hb, rfl, -, h0, h1, h2⟩ := ring_fields hv h
  have hw : DataW.weights Tryz.prog 27 (.agg [y0.1, y1.1, y2.1]) = DataW.weights Tryz.prog 3 y0.1 ++ (DataW.weights Tryz.prog 25 y1.1 ++ (DataW.weights Tryz.prog 22 y2.1 ++ [])) := by
    simp only [DataW.weights, Tryz.underlying27]
    rfl
  rw [hw] at hs
  obtain ⟨l, hl, -⟩ := mbs_open' h1 (fun el sp e => hs _ (by
    simp only [List.mem_append]
    right; left
    rw [e]
    simp only [DataW.weights, Tryz.underlying25]
    exact List.mem_cons_self))
  obtain ⟨ow, how⟩ := ints_open h2 (fun el sp e => hs _ (by
    simp only [List.mem_append]
    right; right; left
    rw [e]
    simp only [DataW.weights, Tryz.underlying22]
    exact List.mem_cons_self))
  exact ⟨ep, l, ow, hb, _, _, rfl, hl, how⟩
/-- What a datum weighs is among what all weigh. -/
theorem weigh_at {H : Type} {P : Program} {ts : List TypeId} {ds : List (DataW H)} (h : (DataW.weightsEach P ts ds).all (· ≤ reachBytes) = true) {j : Nat} {t : TypeId} {d : DataW H} (ht : ts[j]? = some t) (hd : ds[j]? = some d) : ∀ n ∈ DataW.weights P t d, n ≤ reachBytes := fun n hn => by
  have := List.all_eq_true.1 h _ (DataW.weights_mem_each ht hd n hn)
  simpa using this
end Go.Proofs.YtplkmbfeeegaiaaGreatDoor

/-
  From a row's own condition: the library's table of powers of ten.
-/
namespace Go.Proofs.YtplkmbfeeegaiaaGreatDoor
open Go.ChangeShapes Go.WideShapes Go.ChangeAt Go.RowKit Go.Shelf

theorem tPow : (Tryz.prog.globals[1]?).map (·.type) = some 223 := by kernel_rfl
theorem pow_of_laid {W : World} (h : laidMetH Tryz.prog laid4 W) : Pow W := by
  rw [MakeChecks.laidMetH_plain _ _ _ (by kernel_rfl)] at h
  have h3 := h.tail.tail
  exact Lib.tabIs_of_head gPow tPow Tryz.underlying223 Tryz.underlying197 (by kernel_rfl) (by kernel_rfl) h3
end Go.Proofs.YtplkmbfeeegaiaaGreatDoor

/-
  A region that draws its order and holds several operations that lay blocks, in whatever order: what each answers is told by a property that lasts.
-/
namespace Go.Proofs.YtplkmbfeeegaiaaGreatDoor
open Go Go.RowKit

/-- A free operation: its number, the slot of what it answers, the slots of free operations that it reads. -/
structure FO where
  idx : Nat
  slot : Nat
  deps : List Nat

def putL (ds : List Nat) (vs : Nat → Value) (a : Act) : Act := ds.foldl (fun a d => a.put (some d) (vs d)) a
theorem putL_size (vs : Nat → Value) : ∀ (ds : List Nat) (a : Act), (putL ds vs a).tmps.size = a.tmps.size ∧ (putL ds vs a).defers = a.defers
  | [], _ => ⟨rfl, rfl⟩
  | d :: ds, a => by
    obtain ⟨h1, h2⟩ := putL_size vs ds (a.put (some d) (vs d))
    exact ⟨h1.trans (by simp [Act.put]), h2.trans rfl⟩
theorem putL_get (vs : Nat → Value) (t : Nat) : ∀ (ds : List Nat) (a : Act), t < a.tmps.size → (putL ds vs a).tmps[t]? = if t ∈ ds then some (vs t) else a.tmps[t]?
  | [], a, _ => by simp [putL]
  | d :: ds, a, ht => by
    have h := putL_get vs t ds (a.put (some d) (vs d)) (by simpa [Act.put] using ht)
    show (putL ds vs (a.put (some d) (vs d))).tmps[t]? = _
    rw [h]
    by_cases e : t ∈ ds
    · rw [if_pos e, if_pos (List.mem_cons_of_mem _ e)]
    · rw [if_neg e]
      by_cases e2 : t = d
      · subst e2
        rw [if_pos List.mem_cons_self]
        simp [Act.put, ht]
      · rw [if_neg (by simp [e, e2])]
        simp only [Act.put]
        exact Array.getElem?_setIfInBounds_ne (fun e => e2 e.symm)

section
variable {P : Program} {md : Region.Mode} {ops : Array Oper} {C : World → Prop} {S : Nat → Value → World → Prop} {R : World → World → Prop}

def tmpsOf (o : Oper) : List Nat := o.op.operands.toList.filterMap fun | .tmp t => some t | _ => none
def specOk (md : Region.Mode) (ops : Array Oper) (hs : List FO) : Bool := hs.all fun h =>
  (match ops[h.idx]? with
   | some o => o.guard.isNone && (o.dst == some h.slot) && (hs.all fun k => !(tmpsOf o).contains k.slot || h.deps.contains k.slot)
   | none => false) &&
  (h.deps.all fun d => hs.any fun k => (k.slot == d) && Region.waitsFor md ops h.idx k.idx) &&
  (hs.all fun k => (h.idx == k.idx) == (h.slot == k.slot))
def freeOk (md : Region.Mode) (ops : Array Oper) (hs : List FO) (ts : List (Bool × Nat)) : Nat → Array Bool → Bool
  | 0, listed => (hs.all fun h => listed.getD h.idx false) && walkB md ops ts listed
  | f + 1, listed => !(Region.ready md ops listed).isEmpty && (Region.ready md ops listed).all fun i => (hs.any fun h => h.idx == i) && freeOk md ops hs ts f (listed.setIfInBounds i true)

/-- What is to be shown of each free operation. -/
def freeW (P : Program) (ops : Array Oper) (C : World → Prop) (S : Nat → Value → World → Prop) (R : World → World → Prop) (a1 : Act) : List FO → Prop
  | [] => True
  | h :: rest => (∀ o, ops[h.idx]? = some o → ∀ vs w, C w → (∀ d ∈ h.deps, S d (vs d) w) → ∀ K : Value → World → Prop, (∀ v w', S h.slot v w' → R w w' → K v w') → o.wp P (putL h.deps vs a1) w (fun a' w' => a'.defers = a1.defers ∧ K (a'.tmps.getD h.slot undef) w') noQ) ∧ freeW P ops C S R a1 rest
theorem freeW_step {a1 : Act} {h : FO} {rest : List FO} {o : Oper} (ho : ops[h.idx]? = some o)
    (h1 : ∀ vs w, C w → (∀ d ∈ h.deps, S d (vs d) w) → ∀ K : Value → World → Prop, (∀ v w', S h.slot v w' → R w w' → K v w') → o.wp P (putL h.deps vs a1) w (fun a' w' => a'.defers = a1.defers ∧ K (a'.tmps.getD h.slot undef) w') noQ)
    (h2 : freeW P ops C S R a1 rest) : freeW P ops C S R a1 (h :: rest) :=
  ⟨fun o' ho' => by cases ho.symm.trans ho'; exact h1, h2⟩
theorem freeW_mem {a1 : Act} : ∀ {hs : List FO}, freeW P ops C S R a1 hs → ∀ h ∈ hs, ∀ o, ops[h.idx]? = some o → ∀ vs w, C w → (∀ d ∈ h.deps, S d (vs d) w) → ∀ K : Value → World → Prop, (∀ v w', S h.slot v w' → R w w' → K v w') → o.wp P (putL h.deps vs a1) w (fun a' w' => a'.defers = a1.defers ∧ K (a'.tmps.getD h.slot undef) w') noQ
  | [], _, h, hm => by cases hm
  | k :: rest, hw, h, hm => by
    rcases List.mem_cons.1 hm with rfl | hm
    · exact hw.1
    · exact freeW_mem hw.2 h hm

structure FreeInv (hs : List FO) (C : World → Prop) (S : Nat → Value → World → Prop) (a1 : Act) (listed : Array Bool) (a : Act) (w : World) : Prop where
  defers : a.defers = a1.defers
  size : a.tmps.size = a1.tmps.size
  other : ∀ t, (∀ h ∈ hs, h.slot = t → listed.getD h.idx false = false) → a.tmps[t]? = a1.tmps[t]?
  spec : ∀ h ∈ hs, listed.getD h.idx false = true → S h.slot (a.tmps.getD h.slot undef) w
  cls : C w

theorem getD_of_get? {α : Type} {a b : Array α} {t : Nat} {d : α} (h : a[t]? = b[t]?) : a.getD t d = b.getD t d := by
  rw [Array.getD_eq_getD_getElem?, Array.getD_eq_getD_getElem?, h]

theorem wpC_free {Q : Act → World → Prop} {hs : List FO} {ts : List (Bool × Nat)} {a1 : Act} (hsel : Region.noSelect ops = true) (hsp : specOk md ops hs = true) (hsz : ∀ h ∈ hs, h.slot < a1.tmps.size)
    (hS : ∀ t v w w', S t v w → R w w' → S t v w') (hR : ∀ w w', C w → R w w' → C w') (hst : freeW P ops C S R a1 hs)
    (hfin : ∀ vs w, C w → (∀ h ∈ hs, S h.slot (vs h.slot) w) → walkW P ops Q ts C (putL (hs.map FO.slot) vs a1) w) :
    ∀ (f : Nat) (listed : Array Bool) (a : Act) (w : World), freeOk md ops hs ts f listed = true → FreeInv hs C S a1 listed a w → wpC P md ops C Q (f + ts.length) listed a w
  | 0, listed, a, w, hB, inv => by
    rw [Nat.zero_add]
    simp only [freeOk, Bool.and_eq_true, List.all_eq_true] at hB
    have ha : a = putL (hs.map FO.slot) (fun t => a.tmps.getD t undef) a1 := by
      obtain ⟨p1, p2⟩ := putL_size (fun t => a.tmps.getD t undef) (hs.map FO.slot) a1
      have ht : a.tmps = (putL (hs.map FO.slot) (fun t => a.tmps.getD t undef) a1).tmps := by
        apply Array.ext_getElem?
        intro t
        by_cases htl : t < a1.tmps.size
        · rw [putL_get _ t _ _ htl]
          by_cases hm : t ∈ hs.map FO.slot
          · rw [if_pos hm, Array.getElem?_eq_getElem (by rw [inv.size]; exact htl)]
            congr 1
            simp [inv.size, htl]
          · rw [if_neg hm]
            exact inv.other t (fun h hh e => absurd (List.mem_map.2 ⟨h, hh, e⟩) hm)
        · rw [Array.getElem?_eq_none (by rw [inv.size]; omega), Array.getElem?_eq_none (by rw [p1]; omega)]
      have hd : a.defers = (putL (hs.map FO.slot) (fun t => a.tmps.getD t undef) a1).defers := inv.defers.trans p2.symm
      generalize putL (hs.map FO.slot) (fun t => a.tmps.getD t undef) a1 = b at ht hd
      cases a
      cases b
      simp only at ht hd
      rw [ht, hd]
    refine wpC_walk hsel ts C listed a w hB.2 ?_
    have h := hfin (fun t => a.tmps.getD t undef) w inv.cls (fun h hh => inv.spec h hh (hB.1 h hh))
    rwa [← ha] at h
  | f + 1, listed, a, w, hB, inv => by
    simp only [freeOk, Bool.and_eq_true, List.all_eq_true, List.any_eq_true, Bool.not_eq_true', beq_iff_eq] at hB
    obtain ⟨hne, hall⟩ := hB
    rw [show f + 1 + ts.length = (f + ts.length) + 1 by omega]
    refine ⟨inv.cls, fun h0 => (by rw [h0] at hne; simp at hne), fun i hi => ?_⟩
    obtain ⟨⟨h, hh, rfl⟩, hB2⟩ := hall i hi
    have hspec := hsp
    simp only [specOk, List.all_eq_true, Bool.and_eq_true] at hspec
    obtain ⟨⟨q1, q2⟩, q3⟩ := hspec h hh
    cases ho : ops[h.idx]? with
    | none => rw [ho] at q1; cases q1
    | some o =>
      rw [ho] at q1
      simp only [Bool.and_eq_true, List.all_eq_true, Bool.or_eq_true, Bool.not_eq_true', beq_iff_eq, Option.isNone_iff_eq_none] at q1
      obtain ⟨⟨g1, g2⟩, g3⟩ := q1
      obtain ⟨hun, oj, hoj, hwait⟩ := mem_ready.1 hi
      obtain rfl : oj = o := Option.some.inj (hoj.symm.trans ho)
      -- what it reads is listed
      have hdeps : ∀ d ∈ h.deps, ∃ k ∈ hs, k.slot = d ∧ listed.getD k.idx false = true := fun d hd => by
        obtain ⟨k, hk, e⟩ := List.any_eq_true.1 (q2 d hd)
        simp only [Bool.and_eq_true, beq_iff_eq] at e
        obtain ⟨oj', hoj', e', he', hb', hon'⟩ := Region.waitsFor_spec e.2
        obtain rfl : oj' = oj := Option.some.inj (hoj'.symm.trans ho)
        have := hwait e' he' hb'
        rw [hon'] at this
        exact ⟨k, hk, e.1, this⟩
      have hev : execOp a.eval oj = execOp (putL h.deps (fun t => a.tmps.getD t undef) a1).eval oj := by
        refine execOp_congr oj (fun cs b => Region.noSelect_spec hsel h.idx oj cs b ho) (fun x hx => ?_)
        cases x with
        | tmp t =>
          show a.tmps.getD t undef = (putL h.deps (fun t => a.tmps.getD t undef) a1).tmps.getD t undef
          by_cases htl : t < a1.tmps.size
          · have e2 : (putL h.deps (fun t => a.tmps.getD t undef) a1).tmps.getD t undef = if t ∈ h.deps then a.tmps.getD t undef else a1.tmps.getD t undef := by
              rw [Array.getD_eq_getD_getElem?, putL_get _ t _ _ htl]
              by_cases hnd : t ∈ h.deps
              · rw [if_pos hnd, if_pos hnd]; rfl
              · rw [if_neg hnd, if_neg hnd, Array.getD_eq_getD_getElem?]
            rw [e2]
            by_cases hnd : t ∈ h.deps
            · rw [if_pos hnd]
            · rw [if_neg hnd]
              refine getD_of_get? (inv.other t (fun k hk e => ?_))
              rcases g3 k hk with h3 | h3
              · exfalso
                have hmem : t ∈ tmpsOf oj := List.mem_filterMap.2 ⟨.tmp t, by simpa using hx, rfl⟩
                rw [e] at h3
                have : (tmpsOf oj).contains t = true := by simpa using hmem
                rw [this] at h3
                cases h3
              · rw [e] at h3
                exact absurd (by simpa using h3) hnd
          · rw [Array.getD_eq_getD_getElem?, Array.getD_eq_getD_getElem?, Array.getElem?_eq_none (by rw [inv.size]; exact Nat.le_of_not_lt htl), Array.getElem?_eq_none (by rw [(putL_size _ _ _).1]; exact Nat.le_of_not_lt htl)]
        | _ => rfl
      have hwp := freeW_mem hst h hh oj ho (fun t => a.tmps.getD t undef) w inv.cls (fun d hd => by
        obtain ⟨k, hk, e, hl⟩ := hdeps d hd
        have := inv.spec k hk hl
        rwa [e] at this) (fun v w' => S h.slot v w' ∧ R w w') (fun v w' h1 h2 => ⟨h1, h2⟩)
      -- the next state
      have hnext : ∀ u w', (S h.slot (((putL h.deps (fun t => a.tmps.getD t undef) a1).put oj.dst u).tmps.getD h.slot undef) w' ∧ R w w') → wpC P md ops C Q (f + ts.length) (listed.setIfInBounds h.idx true) (a.put oj.dst u) w' := fun u w' ⟨e2, e3⟩ => by
        rw [g2] at e2 ⊢
        have hsl := hsz h hh
        have huv : ((putL h.deps (fun t => a.tmps.getD t undef) a1).put (some h.slot) u).tmps.getD h.slot undef = u := by
          have hb : h.slot < (putL h.deps (fun t => a.tmps.getD t undef) a1).tmps.size := by rw [(putL_size _ _ _).1]; exact hsl
          generalize putL h.deps (fun t => a.tmps.getD t undef) a1 = b at hb
          simp [Act.put, hb]
        rw [huv] at e2
        have hlt : h.idx < listed.size := by
          rcases Nat.lt_or_ge h.idx listed.size with h' | h'
          · exact h'
          · simp [Array.getElem?_eq_none h'] at hun
        have hset : ∀ j, (listed.setIfInBounds h.idx true).getD j false = if j = h.idx then true else listed.getD j false := fun j => by
          by_cases e : j = h.idx
          · subst e; simp [hlt]
          · rw [if_neg e, getD_set_ne false (fun e' => e e'.symm)]
        refine wpC_free hsel hsp hsz hS hR hst hfin f _ _ _ hB2 ⟨inv.defers, by simp [Act.put, inv.size], fun t ht => ?_, fun k hk hl => ?_, hR _ _ inv.cls e3⟩
        · have hne : h.slot ≠ t := fun e => by
            have := ht h hh e
            rw [hset, if_pos rfl] at this
            cases this
          have h1 : (a.put (some h.slot) u).tmps[t]? = a.tmps[t]? := by
            simp only [Act.put]
            exact Array.getElem?_setIfInBounds_ne hne
          rw [h1]
          refine inv.other t (fun k hk e => ?_)
          have := ht k hk e
          rw [hset] at this
          split at this
          · cases this
          · exact this
        · by_cases e : k.idx = h.idx
          · have e' : k.slot = h.slot := by
              have h1 := q3 k hk
              rw [beq_iff_eq] at h1
              have h2 : (h.idx == k.idx) = true := by simp [e]
              rw [h2] at h1
              have := h1.symm
              simp only [beq_iff_eq] at this
              exact this.symm
            rw [e']
            have : (a.put (some h.slot) u).tmps.getD h.slot undef = u := by
              simp [Act.put, inv.size, hsl]
            rw [this]
            exact e2
          · have e' : k.slot ≠ h.slot := fun e' => by
              have h1 := q3 k hk
              rw [beq_iff_eq] at h1
              have h2 : (h.slot == k.slot) = true := by simp [e']
              rw [h2] at h1
              simp only [beq_iff_eq] at h1
              exact e h1.symm
            rw [hset, if_neg e] at hl
            have h1 : (a.put (some h.slot) u).tmps.getD k.slot undef = a.tmps.getD k.slot undef := getD_of_get? (by
              simp only [Act.put]
              exact Array.getElem?_setIfInBounds_ne (fun e => e' e.symm))
            rw [h1]
            exact hS _ _ _ _ (inv.spec k hk hl) e3
      unfold wpOp
      simp only [ho]
      have hw : Region.wanted oj (yielded ops a.tmps) = true := by unfold Region.wanted; rw [g1]
      simp only [hw, if_true]
      refine .inl ?_
      unfold Oper.wp at hwp ⊢
      rw [hev]
      generalize (execOp (putL h.deps (fun t => a.tmps.getD t undef) a1).eval oj).run P w = r at *
      cases r with
      | ok n w' =>
        cases n <;> simp only [Oper.upon] at hwp ⊢
        case value u => exact hnext u w' hwp.2
        case skip => exact hnext _ w' hwp.2
        case defer d =>
          obtain ⟨e1, -⟩ := hwp
          exfalso
          have e2 := (putL_size (fun t => a.tmps.getD t undef) h.deps a1).2
          generalize putL h.deps (fun t => a.tmps.getD t undef) a1 = b at e1 e2
          have := congrArg List.length e1
          rw [g2] at this
          simp [Act.put, e2] at this
        case enter f' args =>
          refine Calls.mono hwp fun e w'' he => ?_
          cases e with
          | returned u => exact hnext u w'' he.2
          | panicked c => exact he
          | outgrown => exact he
        case row row args => exact Rows.mono hwp fun u w'' he => hnext u w'' he.2
      | halt x w' => cases x <;> simp only [Oper.upon] at hwp <;> exact hwp.elim

/-- The reads, the free operations, the rest. -/
def regionFreeOk (ops : Array Oper) (hs : List FO) (ts : List (Bool × Nat)) : List Nat → Array Bool → Bool
  | [], listed => (hs.all fun h => !listed.getD h.idx false) && freeOk .any ops hs ts hs.length listed
  | k :: rest, listed => (Region.ready .any ops listed).contains k && Region.free .any ops listed k && regionFreeOk ops hs ts rest (listed.setIfInBounds k true)
theorem wpC_reads {Q : Act → World → Prop} {hs : List FO} {ts : List (Bool × Nat)} (hsel : Region.noSelect ops = true) (hsp : specOk .any ops hs = true)
    (hS : ∀ t v w w', S t v w → R w w' → S t v w') (hR : ∀ w w', C w → R w w' → C w') (w : World) (hC : C w) : ∀ (rs : List Nat) (listed : Array Bool) (a : Act), regionFreeOk ops hs ts rs listed = true →
    headW P ops C (fun a1 => (∀ h ∈ hs, h.slot < a1.tmps.size) ∧ freeW P ops C S R a1 hs ∧ ∀ vs w, C w → (∀ h ∈ hs, S h.slot (vs h.slot) w) → walkW P ops Q ts C (putL (hs.map FO.slot) vs a1) w) rs a → wpC P .any ops C Q (rs.length + (hs.length + ts.length)) listed a w
  | [], listed, a, hB, h => by
    simp only [regionFreeOk, Bool.and_eq_true, List.all_eq_true, Bool.not_eq_true'] at hB
    obtain ⟨h1, h2, h3⟩ := h
    rw [List.length_nil, Nat.zero_add]
    exact wpC_free hsel hsp h1 hS hR h2 h3 _ _ _ _ hB.2 ⟨rfl, rfl, fun _ _ => rfl, fun k hk hl => (by rw [hB.1 k hk] at hl; cases hl), hC⟩
  | k :: rest, listed, a, hB, h => by
    simp only [regionFreeOk, Bool.and_eq_true] at hB
    obtain ⟨⟨hr, hf⟩, hB'⟩ := hB
    obtain ⟨o, v, ho, hy, h⟩ := h
    rw [List.length_cons, show rest.length + 1 + (hs.length + ts.length) = (rest.length + (hs.length + ts.length)) + 1 by omega]
    exact wpC_first ho (Region.noSelect_spec hsel) _ listed a w (Region.free_spec ho hf) (by simpa using hr) hy (wpC_reads hsel hsp hS hR w hC rest _ _ hB' h)
def regFreeOk (ops : Array Oper) (rs : List Nat) (hs : List FO) (ts : List (Bool × Nat)) : Bool := Region.noSelect ops && decide (rs.length + (hs.length + ts.length) = ops.size) && specOk .any ops hs && regionFreeOk ops hs ts rs (Array.replicate ops.size false)
theorem wp_region_free {id : Nat} {Q : Exit → Act → World → Prop} {a : Act} {w : World} {l : List Oper} (rs : List Nat) (hs : List FO) (ts : List (Bool × Nat)) (C : World → Prop) (S : Nat → Value → World → Prop) (R : World → World → Prop) (hm : P.follows .mixedOrders = true) (hB : regFreeOk l.toArray rs hs ts = true) (hC : C w.drew)
    (hS : ∀ t v w w', S t v w → R w w' → S t v w') (hR : ∀ w w', C w → R w w' → C w')
    (h : headW P l.toArray C (fun a1 => (∀ h ∈ hs, h.slot < a1.tmps.size) ∧ freeW P l.toArray C S R a1 hs ∧ ∀ vs w, C w → (∀ h ∈ hs, S h.slot (vs h.slot) w) → walkW P l.toArray (fun a w => Q .normal a w) ts C (putL (hs.map FO.slot) vs a1) w) rs a) : (Code.region id l.toArray true).wp P Q a w := by
  simp only [regFreeOk, Bool.and_eq_true, decide_eq_true_eq] at hB
  obtain ⟨⟨⟨hsel, hlen⟩, hsp⟩, hB⟩ := hB
  refine wp_region_any hm (wpAny_of_wpC (C := C) (Q := fun a w => Q .normal a w) (fun _ _ h => h) _ _ _ _ ?_)
  rw [← hlen]
  exact wpC_reads hsel hsp hS hR w.drew hC rs _ a (by rw [hlen]; exact hB) h
end
end Go.Proofs.YtplkmbfeeegaiaaGreatDoor
