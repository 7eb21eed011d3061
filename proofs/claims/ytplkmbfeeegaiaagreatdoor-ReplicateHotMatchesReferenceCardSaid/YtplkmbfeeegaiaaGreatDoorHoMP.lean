/-
  Several texts in one, each under its own heading below (merged by a program of ours): what this law needs beyond the parts.
-/
import Derived.Test.YtplkmbfeeegaiaaGreatDoorZ5
import Derived.Laws.OwnMore
import Derived.Laws.PanicsMore
import Derived.Test.YtplkmbfeeegaiaaGreatDoorZ1
import Derived.Test.YtplkmbfeeegaiaaGreatDoorZ6
import Derived.Deep.Fields

/-
  Hot keys: what the uses say of the counters.
-/
namespace Go.Proofs.YtplkmbfeeegaiaaGreatDoor

/-- One of ten keys. -/
def keyT (q : Nat) : ByteArray := (⟨#[114, 111, 119, 32, 49, 32]⟩ : ByteArray) ++ dig q
theorem keyT_inj {q r : Nat} (hq : q < 10) (hr : r < 10) (h : keyT q = keyT r) : q = r := by
  have key : ∀ a, a < 10 → ∀ b, b < 10 → keyT a = keyT b → a = b := by
    intro a ha b hb e
    have e1 := congrArg (fun s : ByteArray => s.data.toList) e
    simp only [keyT, ByteArray.data_append, Array.toList_append] at e1
    have e2 := List.append_cancel_left e1
    have hd : ∀ n, n < 10 → (dig n).data.toList = [UInt8.ofNat (48 + n)] := by
      intro n hn
      show (Lib.decDigits n).toArray.toList = _
      rw [List.toList_toArray, Lib.decDigits, dif_pos hn]
    rw [hd a ha, hd b hb] at e2
    have e3 : UInt8.ofNat (48 + a) = UInt8.ofNat (48 + b) := by injection e2
    have e4 := congrArg UInt8.toNat e3
    simp only [UInt8.toNat_ofNat'] at e4
    omega
  exact key q hq r hr h
theorem keyT_size {q : Nat} (hq : q < 10) : (keyT q).size ≤ 8 := by
  have h1 := dig_size (n := q) (by omega)
  unfold keyT
  rw [ByteArray.size_append]
  have e2 : (⟨#[114, 111, 119, 32, 49, 32]⟩ : ByteArray).size = 6 := rfl
  omega
def updU (u : Nat → Int) (q : Nat) (n : Int) : Nat → Int := fun r => if r = q then u r + n else u r
/-- How many keys were used. -/
def diffU (u : Nat → Int) : Nat := ((List.range 10).filter (fun q => decide (0 < u q))).length
theorem key_uniq : ∀ {L : List Sk.C}, (L.map Sk.C.key).Nodup → ∀ {x y : Sk.C}, x ∈ L → y ∈ L → x.key = y.key → x = y
  | [], _, _, _, h, _, _ => by cases h
  | z :: L, hn, x, y, hx, hy, e => by
    rw [List.map_cons, List.nodup_cons] at hn
    rcases List.mem_cons.1 hx with h1 | h1
    · rcases List.mem_cons.1 hy with h2 | h2
      · rw [h1, h2]
      · exact absurd (show z.key ∈ L.map Sk.C.key from List.mem_map.2 ⟨y, h2, by rw [← h1]; exact e.symm⟩) hn.1
    · rcases List.mem_cons.1 hy with h2 | h2
      · exact absurd (show z.key ∈ L.map Sk.C.key from List.mem_map.2 ⟨x, h1, by rw [← h2]; exact e⟩) hn.1
      · exact key_uniq hn.2 h1 h2 e
theorem sub_len {α : Type} [DecidableEq α] : ∀ {a b : List α}, a.Nodup → (∀ x ∈ a, x ∈ b) → a.length ≤ b.length
  | [], b, _, _ => by simp
  | x :: a, b, h, hs => by
    rw [List.nodup_cons] at h
    have hx := hs x (by simp)
    have := sub_len (b := b.erase x) h.2 (fun y hy => (List.mem_erase_of_ne (fun e => by subst e; exact h.1 hy)).2 (hs y (by simp [hy])))
    rw [List.length_erase_of_mem hx] at this
    have hb : 0 < b.length := List.length_pos_of_mem hx
    simp only [List.length_cons]
    omega

structure HotI (cap : Nat) (u : Nat → Int) (L : List Sk.C) : Prop where
  names : ∀ x ∈ L, ∃ q, q < 10 ∧ x.key = keyT q ∧ 0 < u q ∧ x.lo ≤ u q
  nn : ∀ q, 0 ≤ u q
  full : diffU u ≤ cap → ∀ q, q < 10 → 0 < u q → ∃ x ∈ L, x.key = keyT q ∧ x.lo = u q
theorem HotI.nil (cap : Nat) : HotI cap (fun _ => 0) [] := ⟨by simp, by simp, by simp⟩
theorem HotI.len {cap : Nat} {u : Nat → Int} {L : List Sk.C} (h : HotI cap u L) (hk : (L.map Sk.C.key).Nodup) : L.length ≤ diffU u := by
  have h1 := sub_len (a := L.map Sk.C.key) (b := ((List.range 10).filter (fun q => decide (0 < u q))).map keyT) hk (fun k hk => by
    obtain ⟨x, hx, rfl⟩ := List.mem_map.1 hk
    obtain ⟨q, h1, h2, h3, -⟩ := h.names x hx
    rw [h2]
    exact List.mem_map_of_mem (List.mem_filter.2 ⟨List.mem_range.2 h1, by simpa using h3⟩))
  rw [List.length_map, List.length_map] at h1
  exact h1
theorem diffU_same {u : Nat → Int} {q : Nat} {n : Int} (hn : 1 ≤ n) (h : 0 < u q) : diffU (updU u q n) = diffU u := by
  unfold diffU
  congr 1
  apply List.filter_congr
  intro r _
  unfold updU
  by_cases e : r = q
  · subst e; rw [if_pos rfl, decide_eq_true h, decide_eq_true (by omega)]
  · rw [if_neg e]
theorem filter_one : ∀ {l : List Nat} {f g : Nat → Bool} {q : Nat}, l.Nodup → q ∈ l → f q = false → g q = true → (∀ r, r ≠ q → g r = f r) → (l.filter g).length = (l.filter f).length + 1
  | [], _, _, _, _, h, _, _, _ => by cases h
  | a :: l, f, g, q, hn, hq, hf, hg, hs => by
    rw [List.nodup_cons] at hn
    rcases List.mem_cons.1 hq with rfl | hq
    · have e : l.filter g = l.filter f := List.filter_congr (fun r hr => hs r (fun e => by subst e; exact hn.1 hr))
      rw [List.filter_cons_of_pos hg, List.filter_cons_of_neg (by simp [hf]), e, List.length_cons]
    · have ih := filter_one hn.2 hq hf hg hs
      have ha : g a = f a := hs a (fun e => by subst e; exact hn.1 hq)
      by_cases e : f a = true
      · rw [List.filter_cons_of_pos (by rw [ha]; exact e), List.filter_cons_of_pos e, List.length_cons, List.length_cons, ih]
      · rw [List.filter_cons_of_neg (by rw [ha]; exact e), List.filter_cons_of_neg e, ih]
theorem diffU_new {u : Nat → Int} {q : Nat} {n : Int} (hq : q < 10) (hn : 1 ≤ n) (h : u q = 0) : diffU (updU u q n) = diffU u + 1 := by
  unfold diffU
  refine filter_one (q := q) (List.nodup_range) (List.mem_range.2 hq) (by simp [h]) (by unfold updU; simp; omega) (fun r hr => by unfold updU; rw [if_neg hr])

theorem HotI.add {cap : Nat} {u : Nat → Int} {L : List Sk.C} (h : HotI cap u L) (hk : Sk.OkL cap L) {q : Nat} (hq : q < 10) {n : Int} (hn : 1 ≤ n) : HotI cap (updU u q n) (Sk.addC cap L (keyT q) n) := by
  have hnn : ∀ r, 0 ≤ updU u q n r := fun r => by unfold updU; have := h.nn r; split <;> omega
  have hle : ∀ r, u r ≤ updU u q n r := fun r => by unfold updU; split <;> omega
  have huq : updU u q n q = u q + n := by unfold updU; rw [if_pos rfl]
  have old : ∀ x ∈ L, ∃ r, r < 10 ∧ x.key = keyT r ∧ 0 < updU u q n r ∧ x.lo ≤ updU u q n r := fun x hx => by
    obtain ⟨r, h1, h2, h3, h4⟩ := h.names x hx
    have := hle r
    exact ⟨r, h1, h2, by omega, by omega⟩
  unfold Sk.addC
  cases hat : Sk.atC L (keyT q) with
  | some y =>
    obtain ⟨hy, hyk⟩ := Sk.atC_some hat
    obtain ⟨q', h1, h2, h3, h4⟩ := h.names y hy
    have hqq : q' = q := keyT_inj h1 hq (by rw [← h2, hyk])
    subst hqq
    simp only []
    refine ⟨fun x hx => ?_, hnn, fun hd r hr hu => ?_⟩
    · rcases List.mem_cons.1 ((Sk.insC_perm _ _).mem_iff.1 hx) with rfl | hx
      · exact ⟨q', hq, rfl, by omega, by simp only []; omega⟩
      · exact old x (Sk.mem_delC.1 hx).1
    · rw [diffU_same hn h3] at hd
      by_cases e : r = q'
      · subst e
        obtain ⟨x, hx, hxk, hxl⟩ := h.full hd r hr h3
        have := key_uniq hk.keys hx hy (by rw [hxk, hyk])
        subst this
        exact ⟨_, (Sk.insC_perm _ _).mem_iff.2 (List.mem_cons_self), rfl, by simp only []; omega⟩
      · have hur : updU u q' n r = u r := by unfold updU; rw [if_neg e]
        rw [hur] at hu ⊢
        obtain ⟨x, hx, hxk, hxl⟩ := h.full hd r hr hu
        refine ⟨x, (Sk.insC_perm _ _).mem_iff.2 (List.mem_cons_of_mem _ (Sk.mem_delC.2 ⟨hx, fun e2 => e (keyT_inj hr hq (by rw [← hxk, e2]))⟩)), hxk, hxl⟩
  | none =>
    simp only []
    have hno := Sk.atC_none hat
    have hcond : diffU (updU u q n) ≤ cap → u q = 0 ∧ ¬ L.length = cap ∧ diffU u ≤ cap := fun hd => by
      have hu0 : u q = 0 := by
        apply Classical.byContradiction
        intro hne
        have h0 := h.nn q
        have hp : 0 < u q := by omega
        rw [diffU_same hn hp] at hd
        obtain ⟨x, hx, hxk, -⟩ := h.full hd q hq hp
        exact hno x hx hxk
      have h1 := diffU_new hq hn hu0
      have h2 := h.len hk.keys
      exact ⟨hu0, by omega, by omega⟩
    by_cases hfull : L.length = cap
    · rw [if_pos hfull]
      refine ⟨fun x hx => ?_, hnn, fun hd => absurd hfull (hcond hd).2.1⟩
      rcases List.mem_cons.1 ((Sk.insC_perm _ _).mem_iff.1 hx) with rfl | hx
      · have := h.nn q
        exact ⟨q, hq, rfl, by omega, by simp only []; omega⟩
      · exact old x ((List.dropLast_sublist L).mem hx)
    · rw [if_neg hfull]
      refine ⟨fun x hx => ?_, hnn, fun hd r hr hu => ?_⟩
      · rcases List.mem_cons.1 ((Sk.insC_perm _ _).mem_iff.1 hx) with rfl | hx
        · have := h.nn q
          exact ⟨q, hq, rfl, by omega, by simp only []; omega⟩
        · exact old x hx
      · obtain ⟨hu0, -, hd2⟩ := hcond hd
        by_cases e : r = q
        · subst e
          exact ⟨_, (Sk.insC_perm _ _).mem_iff.2 (List.mem_cons_self), rfl, by simp only []; omega⟩
        · have hur : updU u q n r = u r := by unfold updU; rw [if_neg e]
          rw [hur] at hu ⊢
          obtain ⟨x, hx, hxk, hxl⟩ := h.full hd2 r hr hu
          exact ⟨x, (Sk.insC_perm _ _).mem_iff.2 (List.mem_cons_of_mem _ hx), hxk, hxl⟩

theorem least_iff {share tot x : Int} (_hs : 1 ≤ share) : leastH share tot ≤ x ↔ share * tot ≤ 100 * x := by
  unfold leastH
  have h1 : share * tot = 100 * (share * (tot / 100)) + share * (tot % 100) := by
    have h := Int.mul_ediv_add_emod tot 100
    calc share * tot = share * (100 * (tot / 100) + tot % 100) := by rw [h]
      _ = 100 * (share * (tot / 100)) + share * (tot % 100) := by rw [Int.mul_add, ← Int.mul_assoc, Int.mul_comm share 100, Int.mul_assoc]
  rw [h1]
  generalize share * (tot / 100) = a
  generalize share * (tot % 100) = b
  omega
/-- What the law says of the hot keys. -/
structure HotFacts (cap : Nat) (u : Nat → Int) (share tot : Int) (hot : List ByteArray) : Prop where
  nd : hot.Nodup
  name : ∀ k ∈ hot, ∃ q, q < 10 ∧ k = keyT q ∧ share * tot ≤ 100 * u q
  found : diffU u ≤ cap → ∀ q, q < 10 → 0 < u q → share * tot ≤ 100 * u q → keyT q ∈ hot
  few : (hot.length : Int) * share ≤ 100
theorem sum_lo : ∀ {L : List Sk.C} {t : Int}, (∀ x ∈ L, x.lo ≤ x.hi ∧ 0 ≤ x.hi) → 0 ≤ t → ((L.filter (fun x => decide (t ≤ x.lo))).length : Int) * t ≤ Sk.sumH L
  | [], t, _, _ => by simp [Sk.sumH]
  | x :: L, t, h, ht => by
    have ih := sum_lo (L := L) (fun y hy => h y (by simp [hy])) ht
    have hx := h x (by simp)
    by_cases e : t ≤ x.lo
    · rw [List.filter_cons_of_pos (by simpa using e), List.length_cons]
      have : (((L.filter (fun x => decide (t ≤ x.lo))).length + 1 : Nat) : Int) * t = ((L.filter (fun x => decide (t ≤ x.lo))).length : Int) * t + t := by
        rw [Int.natCast_add, Int.add_mul]; simp
      simp only [Sk.sumH]
      omega
    · rw [List.filter_cons_of_neg (by simpa using e)]
      simp only [Sk.sumH]
      omega
theorem hot_keys {cap : Nat} {L : List Sk.C} (hk : Sk.OkL cap L) {share : Int} (hs : 1 ≤ share ∧ share ≤ 100) (ht : Sk.sumH L ≠ 0) : hotL L share = (L.filter (fun x => decide (leastH share (Sk.sumH L) ≤ x.lo))).map Sk.C.key := by
  unfold hotL
  rw [if_neg (by omega)]
  unfold Sk.topC
  rw [List.take_of_length_le (by have := hk.len; have := hk.cap64; show L.length ≤ 64; omega), List.filter_map, List.map_map]
  congr 1
  apply List.filter_congr
  intro x _
  show decide (leastH share (Sk.sumH L) ≤ x.hi - (x.hi - x.lo)) = _
  rw [show x.hi - (x.hi - x.lo) = x.lo by omega]
theorem hot_facts {cap : Nat} {u : Nat → Int} {L : List Sk.C} (h : HotI cap u L) (hk : Sk.OkL cap L) {share : Int} (hs : 1 ≤ share ∧ share ≤ 100) : HotFacts cap u share (Sk.sumH L) (hotL L share) := by
  have h0 := Sk.sumH_nonneg (L := L) (fun y hy => by have := hk.pos y hy; omega)
  by_cases ht : Sk.sumH L = 0
  · have hnil : hotL L share = [] := by unfold hotL; rw [if_pos (by omega)]
    rw [hnil]
    refine ⟨List.nodup_nil, by simp, fun hd q hq hu hp => ?_, by simp⟩
    obtain ⟨x, hx, -, -⟩ := h.full hd q hq hu
    have h1 := hk.mem hx
    have h2 := hk.pos x hx
    omega
  · rw [hot_keys hk hs ht]
    refine ⟨?_, fun k hkk => ?_, fun hd q hq hu hp => ?_, ?_⟩
    · exact hk.keys.sublist ((List.filter_sublist).map _)
    · obtain ⟨x, hx, rfl⟩ := List.mem_map.1 hkk
      obtain ⟨hxl, hxd⟩ := List.mem_filter.1 hx
      obtain ⟨q, h1, h2, h3, h4⟩ := h.names x hxl
      have h5 := (least_iff hs.1).1 (of_decide_eq_true hxd)
      exact ⟨q, h1, h2, by omega⟩
    · obtain ⟨x, hx, hxk, hxl⟩ := h.full hd q hq hu
      rw [← hxk]
      exact List.mem_map_of_mem (List.mem_filter.2 ⟨hx, decide_eq_true ((least_iff hs.1).2 (by rw [hxl]; exact hp))⟩)
    · rw [List.length_map]
      obtain ⟨t, hte⟩ : ∃ t, leastH share (Sk.sumH L) = t := ⟨_, rfl⟩
      have htl : share * Sk.sumH L ≤ 100 * t := (least_iff hs.1).1 (by omega)
      have htp : 0 ≤ t := by
        have := Int.mul_nonneg (show 0 ≤ share by omega) h0
        omega
      rw [hte]
      have h1 := sum_lo (L := L) (t := t) (fun x hx => by have := hk.pos x hx; omega) htp
      generalize (L.filter (fun x => decide (t ≤ x.lo))).length = n at *
      generalize Sk.sumH L = S at *
      have hS : 0 < S := by omega
      -- n * share * S ≤ n * 100 * t ≤ 100 * S
      have h2 : (n : Int) * (share * S) ≤ (n : Int) * (100 * t) := Int.mul_le_mul_of_nonneg_left htl (by omega)
      have h3 : (n : Int) * (100 * t) = 100 * ((n : Int) * t) := by rw [← Int.mul_assoc, Int.mul_comm (n : Int) 100, Int.mul_assoc]
      have h4 : (n : Int) * (share * S) = ((n : Int) * share) * S := by rw [Int.mul_assoc]
      have h5 : ((n : Int) * share) * S ≤ 100 * S := by omega
      exact Int.le_of_mul_le_mul_right h5 hS
end Go.Proofs.YtplkmbfeeegaiaaGreatDoor

/-
  ReplicateHot.
-/
namespace Go.Proofs.YtplkmbfeeegaiaaGreatDoor
open Go.RowKit Go.Shelf

/-- Uses in a slice. -/
structure Uses (W : World) (v : Value) (ps : List (Int × Int)) : Prop where
  n : ps.length ≤ 1000000000000000
  bd : ∀ p ∈ ps, I64 p.1 ∧ I64 p.2
  at_ : ∃ a c b off, v = .slice a ps.length c ∧ ps.length ≤ c ∧ (0 < ps.length → a = some ⟨b, off, none⟩) ∧ ∀ j p, ps[j]? = some p → W.cell? ⟨b, off + j * 2, none⟩ = some (.int .i64 p.1) ∧ W.cell? ⟨b, off + j * 2 + 1, none⟩ = some (.int .i64 p.2)
/-- Ten numbers, ten truth values. -/
def IA (W : World) (b : Nat) (f : Nat → Int) : Prop := ∀ q : Nat, q < 10 → W.cell? ⟨b, q, none⟩ = some (.int .i64 (f q)) ∧ W.frozen? ⟨b, q, none⟩ = false
theorem IA.lt {W : World} {b : Nat} {f : Nat → Int} (h : IA W b f) : b < W.heap.size := World.block_lt_of_cell? _ _ (h 0 (by omega)).1
theorem IA.keep {W W' : World} {A : Nat → Prop} {b : Nat} {f : Nat → Int} (h : IA W b f) (k : Keep A W W') (hA : ¬ A b) : IA W' b f := fun q hq => ⟨k.cell (h q hq).1 hA, (k.frozen h.lt hA q).trans (h q hq).2⟩
theorem IA.set {W : World} {b : Nat} {f : Nat → Int} (h : IA W b f) {q : Nat} (hq : q < 10) (n : Int) : IA (W.setCell ⟨b, q, none⟩ (.int .i64 (f q + n))) b (updU f q n) := by
  intro p hp
  refine ⟨?_, by rw [World.frozen?_setCell]; exact (h p hp).2⟩
  unfold updU
  by_cases e : p = q
  · subst e
    rw [cell_set_same (h p hp).1, if_pos rfl]
  · rw [cell_set_off (by omega), (h p hp).1, if_neg e]
def FA (W : World) (b : Nat) (f : Nat → Bool) : Prop := ∀ q : Nat, q < 10 → W.cell? ⟨b, q, none⟩ = some (.bool (f q)) ∧ W.frozen? ⟨b, q, none⟩ = false
theorem FA.lt {W : World} {b : Nat} {f : Nat → Bool} (h : FA W b f) : b < W.heap.size := World.block_lt_of_cell? _ _ (h 0 (by omega)).1
theorem FA.keep {W W' : World} {A : Nat → Prop} {b : Nat} {f : Nat → Bool} (h : FA W b f) (k : Keep A W W') (hA : ¬ A b) : FA W' b f := fun q hq => ⟨k.cell (h q hq).1 hA, (k.frozen h.lt hA q).trans (h q hq).2⟩
theorem FA.set {W : World} {b : Nat} {f : Nat → Bool} (h : FA W b f) {q : Nat} (hq : q < 10) : FA (W.setCell ⟨b, q, none⟩ (.bool true)) b (fun r => f r || decide (r = q)) := by
  intro p hp
  refine ⟨?_, by rw [World.frozen?_setCell]; exact (h p hp).2⟩
  by_cases e : p = q
  · subst e
    rw [cell_set_same (h p hp).1]
    simp
  · rw [cell_set_off (by omega), (h p hp).1]
    simp [e]
theorem FA.congr {W : World} {b : Nat} {f g : Nat → Bool} (h : FA W b f) (e : ∀ q, f q = g q) : FA W b g := fun q hq => by rw [← e]; exact h q hq
theorem infoBool : (Tryz.prog.info? 4).map (fun i => (i.zero, i.size, i.bytes)) = some (some (.bool false), 1, 1) := by kernel_rfl
theorem diffU_le (u : Nat → Int) : diffU u ≤ 10 := by
  unfold diffU
  exact Nat.le_trans (List.length_filter_le _ _) (by simp)
/-- Which keys are among the first i. -/
def fndK (hot : List ByteArray) (i : Nat) (q : Nat) : Bool := (hot.take i).any (fun k => decide (k = keyT q))
theorem fndK_succ {hot : List ByteArray} {i qi : Nat} (h : hot[i]? = some (keyT qi)) (hqi : qi < 10) (q : Nat) (hq : q < 10) : fndK hot (i + 1) q = (fndK hot i q || decide (q = qi)) := by
  unfold fndK
  rw [List.take_add_one, h, Option.toList_some, List.any_append]
  congr 1
  simp only [List.any_cons, List.any_nil, Bool.or_false]
  exact decide_eq_decide.2 ⟨fun e => (keyT_inj hqi hq e).symm, fun e => by rw [e]⟩
theorem fndK_new {hot : List ByteArray} (hn : hot.Nodup) {i qi : Nat} (h : hot[i]? = some (keyT qi)) : fndK hot i qi = false := by
  unfold fndK
  rw [List.any_eq_false]
  intro k hk e
  have e := of_decide_eq_true e
  subst e
  obtain ⟨j, hj⟩ := List.mem_iff_getElem?.1 hk
  have hjl := (List.getElem?_eq_some_iff.1 hj).1
  rw [List.length_take] at hjl
  rw [List.getElem?_take_of_lt (by omega)] at hj
  obtain ⟨h1a, h1b⟩ := List.getElem?_eq_some_iff.1 hj
  obtain ⟨h2a, h2b⟩ := List.getElem?_eq_some_iff.1 h
  exact absurd ((List.pairwise_iff_getElem.1 (List.nodup_iff_pairwise_ne.1 hn)) j i h1a h2a (by omega)) (by rw [h1b, h2b]; simp)
theorem fndK_all {hot : List ByteArray} {i q : Nat} (h : hot.length ≤ i) (hm : keyT q ∈ hot) : fndK hot i q = true := by
  unfold fndK
  rw [List.take_of_length_le h, List.any_eq_true]
  exact ⟨_, hm, by simp⟩

set_option maxRecDepth 100000 in
theorem key15_any (n : Int) (hn : I64 n) (w : World) : Calls Tryz.prog 44 #[.int .i64 n] w fun e w' => e = .returned (.string (keyT (pk n 10).toNat)) ∧ Keep (fun _ => False) w w' := by
  have HN := Lib.hid hn
  have hp := pk_bd n 10 (by decide)
  have HPK := Lib.hid (pick15_any n 10 w hn (by decide))
  clear hn
  generalize pk n 10 = p at *
  obtain ⟨q, rfl⟩ : ∃ q : Nat, p = q := ⟨p.toNat, by omega⟩
  have HD := Lib.hid (digits_any q (by omega))
  have hds := dig_size (n := q) (by omega)
  have HK : Hid (keyT (q : Int).toNat = (⟨#[114, 111, 119, 32, 49, 32]⟩ : ByteArray) ++ dig q) := Lib.hid (by rw [Int.toNat_natCast]; rfl)
  generalize dig q = d at *
  have hz : ¬ (9223372036854775807 < 6 + d.size) := by omega
  go_enter Tryz.func44, Tryz.ntmps44
  go_wp2_with fail
  with_reducible refine HPK.out.mono ?_
  rintro e w' ⟨rfl, rfl⟩
  go_wp2_with fail
  with_reducible refine (HD.out w).mono ?_
  rintro e W2 ⟨rfl, k⟩
  have HKK := Lib.hid k
  clear k
  go_wp2_with fail
  go_ret
  exact ⟨by rw [HK.out]; rfl, HKK.out⟩

set_option maxRecDepth 100000 in
set_option maxHeartbeats 8000000 in
theorem repHot_any (kk : Int) (v : Value) (ps : List (Int × Int)) (share : Int) (w : World) (hkk : I64 kk) (h : Uses w v ps) (hsh : I64 share) (hT : Tab w) (_hP : Pow w) : Calls Tryz.prog 10 #[.int .i64 kk, v, .int .i64 share] w fun e w' => e = .returned (.bool true) ∧ Keep (fun _ => False) w w' := by
  have HT := Lib.hid hT
  have HKK := Lib.hid hkk
  have HSH := Lib.hid hsh
  obtain ⟨hpn, hpb, pa, pc, pb, po, rfl, hpc, hpa, hpcell⟩ := h
  have HPB := Lib.hid hpb
  have HPA := Lib.hid hpa
  have HPC := Lib.hid hpcell
  obtain ⟨pn, hpn'⟩ : ∃ n, ps.length = n := ⟨_, rfl⟩
  have HPN := Lib.hid hpn'
  rw [hpn'] at hpn hpc HPA ⊢
  clear hT hkk hsh hpb hpa hpcell hpn'
  have hp1 := pk_bd kk 8 (by decide)
  have hp2 := pk_bd share 100 (by decide)
  have HPK := Lib.hid (fun W => pick15_any kk 8 W HKK.out (by decide))
  go_enter Tryz.func10, Tryz.ntmps10
  go_wp2_with fail
  with_reducible refine (sane15_any w HT.out).mono ?_
  rintro e W1 ⟨rfl, k1⟩
  have HK1 := Lib.hid k1
  clear k1
  generalize pk kk 8 = p at *
  obtain ⟨pq, rfl⟩ : ∃ q : Nat, p = q := ⟨p.toNat, by omega⟩
  obtain ⟨cap, hcap⟩ : ∃ c : Nat, 1 + pq = c := ⟨_, rfl⟩
  have hw1 : IntKind.i64.wrap (1 + (pq : Int)) = (cap : Int) := by rw [show (1 : Int) + (pq : Int) = (cap : Int) by omega]; exact wrapI (by unfold I64; omega)
  have hcap8 : 1 ≤ cap ∧ cap ≤ 8 := by omega
  go_wp2_with fail
  with_reducible refine (HPK.out W1).mono ?_
  rintro e w' ⟨rfl, rfl⟩
  go_wp2_with fail
  have hnew := Sk.new_ok cap hcap8.1 (by omega) W1
  with_reducible refine hnew.mono ?_
  clear hnew
  rintro e W2 ⟨s, bm, rfl, hsk, k2, hs, hbm⟩
  have HS2 := Lib.hid hsk
  have HK2 := Lib.hid (HK1.out.trans k2)
  have HZS : Hid (w.heap.size ≤ s ∧ w.heap.size ≤ bm) := Lib.hid (by have := HK1.out.size; omega)
  clear hsk k2 hs hbm HK1
  go_wp2_with fail
  with_reducible refine (pick15_any share 100 W2 HSH.out (by decide)).mono ?_
  rintro e w' ⟨rfl, rfl⟩
  generalize pk share 100 = ss at *
  obtain ⟨sh, hsh⟩ : ∃ sh : Int, 1 + ss = sh := ⟨_, rfl⟩
  have hw2 : IntKind.i64.wrap (1 + ss) = sh := by rw [hsh]; exact wrapI (by unfold I64; omega)
  have hsh1 : 1 ≤ sh ∧ sh ≤ 100 := by omega
  clear hsh
  obtain ⟨i0, hi, hz0, hz1, hz2⟩ := info_parts infoInt
  obtain ⟨W3, hmk, hown3, hgr3⟩ := run_makeSlice_full (P := Tryz.prog) W2 W2.heap.size 22 3 i0 _ 1 Tryz.underlying22 hi hz0 hz1 .i64 .i64 10 (by decide) (by rw [hz2]; decide) (by decide) (Nat.le_refl _)
  have hmk1 : (Instr.makeSlice 22 (.int .i64 10) (.int .i64 10)).run Tryz.prog W2 = .ok (.slice (some ⟨W2.heap.size, 0, none⟩) 10 10) W3 := hmk
  have HK23 : Hid (Keep (fun _ => False) W2 W3) := Lib.hid ((Keep.of_grown hgr3).mono (fun j e => by cases e))
  have HIA3 : Hid (IA W3 W2.heap.size (fun _ => 0)) := Lib.hid (by
    have h := hown3
    rw [show (madeCells (Value.int .i64 0).cells (10 * 1)).toList = List.replicate 10 (Value.int .i64 0) by exact toList_madeCells_one _ _] at h
    intro q hq
    refine ⟨?_, h.frozenAt q⟩
    rw [h.cellAt q (by omega), List.getElem?_replicate, if_pos (by omega)])
  have HS3 : Hid (Sk.Sk W3 s bm cap []) := Lib.hid (HS2.out.keep HK23.out (fun h => h) (fun h => h))
  have HK3 := Lib.hid (HK2.out.trans HK23.out)
  have HGS : Hid (s < W2.heap.size ∧ bm < W2.heap.size) := Lib.hid ⟨HS2.out.at_.lt.1, HS2.out.at_.lt.2⟩
  have HGW : Hid (w.heap.size ≤ W2.heap.size) := Lib.hid HK2.out.size
  clear hmk hown3 hgr3 hi hz0 hz1 hz2 HS2 HK2 HK23
  go_upto_region 7 with (fail)
  clear hmk1
  generalize W2.heap.size = g at *
  go_upto_region 10 with (fail)
  have hdz : ((0 : Int)) = ((diffU (fun _ => 0) : Nat) : Int) := rfl
  go_loopg [11, 12, 13] 60 (fun gh v11 v12 v13 wr => ∃ (k : Nat) (u : Nat → Int) (L : List Sk.C), gh + k = 60 ∧ v13 = .int .i64 k ∧ v11 = .int .i64 (Sk.sumH L) ∧ v12 = .int .i64 (diffU u : Nat) ∧ HotI cap u L ∧ Sk.Sk wr s bm cap L ∧ IA wr g u ∧ Keep (fun j => j = s ∨ j = bm ∨ j = g) W3 wr ∧ Sk.sumH L ≤ 1000 * k ∧ ∀ q, u q ≤ 1000 * k)
  case atStart => exact ⟨0, fun _ => 0, [], by omega, rfl, rfl, rfl, HotI.nil cap, HS3.out, HIA3.out, Keep.refl _ _, by simp [Sk.sumH], by simp⟩
  case round =>
    clear HS3 HIA3 hdz
    obtain ⟨k, u, L, hk, rfl, rfl, rfl, hhi, hsk, hia, hkeep, hsum, hub⟩ := hrel
    have HHI := Lib.hid hhi
    have HSK := Lib.hid hsk
    have HIA := Lib.hid hia
    have HKE := Lib.hid hkeep
    have HSUM := Lib.hid hsum
    have HUB := Lib.hid hub
    have HKW : Hid (Keep (fun _ => False) w wr) := Lib.hid (HK3.out.trans' hkeep (fun j e => .inr (by have := HZS.out; have := HGW.out; rcases e with e | e | e <;> omega)))
    clear hhi hsk hia hkeep hsum hub
    by_cases hlt : k < pn ∧ k < 60
    · obtain ⟨hltp, hlt6⟩ := hlt
      obtain ⟨pr, hpr⟩ : ∃ x, ps[k]? = some x := ⟨_, List.getElem?_eq_getElem (by rw [HPN.out]; exact hltp)⟩
      obtain rfl := HPA.out (by omega)
      obtain ⟨c0, c1⟩ := HPC.out k pr hpr
      replace c0 := HKW.out.cell c0 (fun h => h)
      replace c1 := HKW.out.cell c1 (fun h => h)
      obtain ⟨hb0, hb1⟩ := HPB.out pr (List.mem_of_getElem? hpr)
      obtain ⟨pk0, pn0⟩ := pr
      simp only [] at c0 c1 hb0 hb1
      have HB0 := Lib.hid hb0
      have HB1 := Lib.hid hb1
      have HC0 := Lib.hid c0
      have hq1 := pk_bd pk0 10 (by decide)
      have hn1 := pk_bd pn0 1000 (by decide)
      have hkz : (k : Int) < (pn : Int) := by omega
      have hk6 : (k : Int) < 60 := by omega
      have hk0 : (0 : Int) ≤ (k : Int) := by omega
      have HPRK := Lib.hid hpr
      have HSKP := Lib.hid HSK.out.ok.pos
      clear hpr hb0 hb1
      go_wp2_with fail
      with_reducible refine (pick15_any pn0 1000 wr HB1.out (by decide)).mono ?_
      rintro e w' ⟨rfl, rfl⟩
      generalize pk pn0 1000 = n1 at *
      obtain ⟨nn, hnn⟩ : ∃ nn : Int, 1 + n1 = nn := ⟨_, rfl⟩
      have hw3 : IntKind.i64.wrap (1 + n1) = nn := by rw [hnn]; exact wrapI (by unfold I64; omega)
      have hnn1 : 1 ≤ nn ∧ nn ≤ 1000 := by omega
      clear hnn
      have HKEY := Lib.hid (key15_any pk0 HB0.out wr)
      have HPQ := Lib.hid (fun W => pick15_any pk0 10 W HB0.out (by decide))
      generalize pk pk0 10 = qq at *
      obtain ⟨q, rfl⟩ : ∃ q : Nat, qq = q := ⟨qq.toNat, by omega⟩
      rw [Int.toNat_natCast] at HKEY
      have hq10 : q < 10 := by omega
      go_wp2_with fail
      with_reducible refine HKEY.out.mono ?_
      rintro e V1 ⟨rfl, k1⟩
      have HSK1 : Hid (Sk.Sk V1 s bm cap L) := Lib.hid (HSK.out.keep k1 (fun h => h) (fun h => h))
      have HIA1 := Lib.hid (HIA.out.keep k1 (fun h => h))
      have HKE1 : Hid (Keep (fun j => j = s ∨ j = bm ∨ j = g) W3 V1) := Lib.hid (HKE.out.trans (k1.mono (fun _ h => h.elim)))
      have HC01 : Hid (V1.cell? ⟨pb, po + k * 2, none⟩ = some (.int .i64 pk0)) := Lib.hid (k1.cell HC0.out (fun h => h))
      have HKW1 := Lib.hid (HKW.out.trans k1)
      clear k1 c0 c1 HSK HIA HKE HKEY hw3
      have HADD := Lib.hid (Sk.add_ok HSK1.out (keyT q) (by have := keyT_size hq10; unfold maxLen; omega) nn (by omega) (by omega) (by have := HSUM.out; omega))
      have HHI2 := Lib.hid (HHI.out.add HSK1.out.ok hq10 hnn1.1)
      have HSUM2 : Hid (Sk.sumH (Sk.addC cap L (keyT q) nn) = Sk.sumH L + nn) := Lib.hid (Sk.addC_sum HSK1.out.ok (keyT q) nn)
      generalize keyT q = ky at *
      go_wp2_with fail
      with_reducible refine HADD.out.mono ?_
      rintro e V2 ⟨rfl, hsk2, k2⟩
      have HSK2 := Lib.hid hsk2
      have HIA2 : Hid (IA V2 g u) := Lib.hid (HIA1.out.keep k2 (fun e => by have := HGS.out; rcases e with e | e <;> omega))
      have HKE2 : Hid (Keep (fun j => j = s ∨ j = bm ∨ j = g) W3 V2) := Lib.hid (HKE1.out.trans (k2.mono (fun j e => by rcases e with e | e; exact .inl e; exact .inr (.inl e))))
      have HKW2 : Hid (Keep (fun _ => False) w V2) := Lib.hid (HK3.out.trans' HKE2.out (fun j e => .inr (by have := HZS.out; have := HGW.out; rcases e with e | e | e <;> omega)))
      have c0 := HKW2.out.cell (HPC.out k (pk0, pn0) HPRK.out).1 (fun h => h)
      simp only [] at c0
      clear hsk2 k2 HSK1 HIA1 HKE1 HC01 HKW1 HADD
      go_wp2_with fail
      with_reducible refine (HPQ.out V2).mono ?_
      rintro e w' ⟨rfl, rfl⟩
      have cu := (HIA2.out q hq10).1
      have cf := (HIA2.out q hq10).2
      have hq0z : (0 : Int) ≤ (q : Int) := by omega
      have hqz : (q : Int) < 10 := by omega
      have hu0 := HHI.out.nn q
      have huq := HUB.out q
      have hdl := diffU_le u
      have HUB2 : Hid (∀ r, updU u q nn r ≤ 1000 * ((k : Int) + 1)) := Lib.hid (fun r => by unfold updU; have := HUB.out r; split <;> omega)
      have HS3 := Lib.hid (HIA2.out.set hq10 nn)
      have HD0 := Lib.hid (fun h => diffU_new (u := u) hq10 hnn1.1 h)
      have HD1 := Lib.hid (fun h => diffU_same (u := u) (q := q) hnn1.1 h)
      obtain ⟨uq, huqe⟩ : ∃ x, u q = x := ⟨_, rfl⟩
      rw [huqe] at cu hu0 huq HS3 HD0 HD1
      clear huqe
      have wu : IntKind.i64.wrap (uq + nn) = uq + nn := wrapI (by unfold I64; omega)
      have hsl := HSUM.out
      have hs0 := Sk.sumH_nonneg (L := L) (fun y hy => by have := HSKP.out y hy; omega)
      have wt : IntKind.i64.wrap (Sk.sumH L + nn) = Sk.sumH L + nn := wrapI (by unfold I64; omega)
      have HKS : Hid (Keep (fun j => j = g) V2 (V2.setCell ⟨g, q, none⟩ (.int .i64 (uq + nn)))) := Lib.hid ((Keep.refl (fun j => j = g) V2).setCell (p := ⟨g, q, none⟩) _ (.inl rfl))
      have HSK3 : Hid (Sk.Sk (V2.setCell ⟨g, q, none⟩ (.int .i64 (uq + nn))) s bm cap (Sk.addC cap L ky nn)) := Lib.hid (HSK2.out.keep HKS.out (fun e => by have h5 : s = g := e; have := HGS.out; omega) (fun e => by have h5 : bm = g := e; have := HGS.out; omega))
      have HKE3 : Hid (Keep (fun j => j = s ∨ j = bm ∨ j = g) W3 (V2.setCell ⟨g, q, none⟩ (.int .i64 (uq + nn)))) := Lib.hid (HKE2.out.trans (HKS.out.mono (fun j e => .inr (.inr e))))
      generalize Sk.addC cap L ky nn = L2 at *
      have HSB : Hid (Sk.sumH L2 ≤ 1000 * ((k : Int) + 1)) := Lib.hid (by rw [HSUM2.out]; omega)
      by_cases h0 : uq = 0
      · have hb : (uq == 0) = true := by simpa using h0
        have HDD := Lib.hid (HD0.out h0)
        clear h0
        generalize diffU u = du at *
        have wd : IntKind.i64.wrap ((du : Int) + 1) = ((du + 1 : Nat) : Int) := by rw [wrapI (by unfold I64; omega)]; omega
        go_wp2_with fail
        clear c0
        have c0 := HKW2.out.cell (HPC.out k (pk0, pn0) HPRK.out).1 (fun h => h)
        simp only [] at c0
        with_reducible refine (HPQ.out V2).mono ?_
        rintro e w' ⟨rfl, rfl⟩
        go_wp2_with fail
        clear c0 cu cf
        go_roundg (60 - (k + 1))
        case rel => exact ⟨k + 1, updU u q nn, L2, by omega, by go_num, by rw [HSUM2.out], by rw [HDD.out]; rfl, HHI2.out, HSK3.out, HS3.out, HKE3.out, HSB.out, HUB2.out⟩
        case measure => omega
      · have hb : (uq == 0) = false := by simpa using h0
        have HDD := Lib.hid (HD1.out (by omega))
        clear h0
        generalize diffU u = du at *
        go_wp2_with fail
        with_reducible refine (HPQ.out V2).mono ?_
        rintro e w' ⟨rfl, rfl⟩
        go_wp2_with fail
        clear c0 cu cf
        go_roundg (60 - (k + 1))
        case rel => exact ⟨k + 1, updU u q nn, L2, by omega, by go_num, by rw [HSUM2.out], by rw [HDD.out], HHI2.out, HSK3.out, HS3.out, HKE3.out, HSB.out, HUB2.out⟩
        case measure => omega
    · have HFA := Lib.hid (hot_facts HHI.out HSK.out.ok hsh1)
      have HLL : Hid (L.length ≤ 12) := Lib.hid (by have := HSK.out.ok.len; omega)
      have HHOT := Lib.hid (hot_sk HSK.out HLL.out sh)
      have hs0 := Sk.sumH_nonneg (L := L) (fun y hy => by have := HSK.out.ok.pos y hy; omega)
      have hs1 := HSUM.out
      have hdl := diffU_le u
      have HNN := Lib.hid HHI.out.nn
      generalize hotL L sh = hot at *
      generalize Sk.sumH L = tot at *
      obtain ⟨du, hdu⟩ : ∃ d, diffU u = d := ⟨_, rfl⟩
      have HDU := Lib.hid hdu
      rw [hdu] at hdl ⊢
      clear hdu
      by_cases hkp : k < pn
      · obtain rfl : k = 60 := by omega
        have hkz : (60 : Int) < (pn : Int) := by omega
        have hkz2 : ((60 : Nat) : Int) < (pn : Int) := by omega
        clear HSK HHI
        go_upto_region 19 with (fail)
        go_wp2_with fail
        with_reducible refine HHOT.out.mono ?_
        rintro e V1 ⟨vh, rfl, hst, k1⟩
        obtain ⟨hhn, ha, hc, hb, hof, rfl, hhc, hha, hhcell⟩ := hst
        have HHC := Lib.hid hhcell
        have HIA1 := Lib.hid (HIA.out.keep k1 (fun h => h))
        have HKW1 := Lib.hid (HKW.out.trans k1)
        obtain ⟨hl, hhl⟩ : ∃ n, hot.length = n := ⟨_, rfl⟩
        have HHL := Lib.hid hhl
        rw [hhl] at hhn hhc hha ⊢
        have HHA := Lib.hid hha
        have HL100 : Hid ((hl : Int) * sh ≤ 100) := Lib.hid (by rw [← hhl]; exact HFA.out.few)
        have hl100 : (hl : Int) ≤ 100 := by
          have h1 := HL100.out
          have h2 : (hl : Int) * 1 ≤ (hl : Int) * sh := Int.mul_le_mul_of_nonneg_left hsh1.1 (by omega)
          omega
        clear hhcell k1 HIA HKE HKW HHOT hha hhl
        obtain ⟨i0, hi, hz0, hz1, hz2⟩ := info_parts infoBool
        obtain ⟨V2, hmk, hown2, hgr2⟩ := run_makeSlice_full (P := Tryz.prog) V1 V1.heap.size 76 4 i0 _ 1 Tryz.underlying76 hi hz0 hz1 .i64 .i64 10 (by decide) (by rw [hz2]; decide) (by decide) (Nat.le_refl _)
        have hmk1 : (Instr.makeSlice 76 (.int .i64 10) (.int .i64 10)).run Tryz.prog V1 = .ok (.slice (some ⟨V1.heap.size, 0, none⟩) 10 10) V2 := hmk
        have HK12 : Hid (Keep (fun _ => False) V1 V2) := Lib.hid ((Keep.of_grown hgr2).mono (fun j e => by cases e))
        have HFB : Hid (FA V2 V1.heap.size (fndK hot 0)) := Lib.hid (by
          have h := hown2
          rw [show (madeCells (Value.bool false).cells (10 * 1)).toList = List.replicate 10 (Value.bool false) by exact toList_madeCells_one _ _] at h
          intro q hq
          refine ⟨?_, h.frozenAt q⟩
          rw [h.cellAt q (by omega), List.getElem?_replicate, if_pos (by omega)]
          rfl)
        have HIA2 := Lib.hid (HIA1.out.keep HK12.out (fun h => h))
        have HKW2 := Lib.hid (HKW1.out.trans HK12.out)
        have HGF : Hid (g < V1.heap.size ∧ w.heap.size ≤ V1.heap.size) := Lib.hid ⟨HIA1.out.lt, HKW1.out.size⟩
        have HHC2 : Hid (∀ V, Keep (fun j => j = V1.heap.size) V2 V → ∀ j x, hot[j]? = some x → V.cell? ⟨hb, hof + j, none⟩ = some (.string x)) := Lib.hid (fun V k j x hj => by
          have h1 := HHC.out j x hj
          have h2 := World.block_lt_of_cell? _ _ h1
          exact k.cell (HK12.out.cell h1 (fun h => h)) (fun e => by have h5 : hb = V1.heap.size := e; have h6 : hb < V1.heap.size := h2; omega))
        clear hmk hown2 hgr2 hi hz0 hz1 hz2 HIA1 HKW1 HHC HK12
        go_upto_region 21 with (fail)
        clear hmk1
        generalize V1.heap.size = gf at *
        go_upto_region 22 with (fail)
        go_loopg [17] hl (fun gh v17 wr2 => ∃ i : Nat, gh + i = hl ∧ v17 = .int .i64 i ∧ FA wr2 gf (fndK hot i) ∧ Keep (fun j => j = gf) V2 wr2)
        case atStart => exact ⟨0, by omega, rfl, HFB.out, Keep.refl _ _⟩
        case round =>
          clear HFB
          obtain ⟨i, hi, rfl, hfa, hkeep⟩ := hrel
          have HF := Lib.hid hfa
          have HKE := Lib.hid hkeep
          clear hfa hkeep
          by_cases hlt : i < hl
          · obtain ⟨hk, hhk⟩ : ∃ x, hot[i]? = some x := ⟨_, List.getElem?_eq_getElem (by rw [HHL.out]; exact hlt)⟩
            obtain ⟨qi, hqi, hqe, hqs⟩ := HFA.out.name hk (List.mem_of_getElem? hhk)
            subst hqe
            have HHK := Lib.hid hhk
            have hiz : (i : Int) < (hl : Int) := by omega
            have hi0 : (0 : Int) ≤ (i : Int) := by omega
            have HNW := Lib.hid (fndK_new HFA.out.nd hhk)
            have HSC := Lib.hid (fndK_succ hhk hqi)
            obtain rfl := HHA.out (by omega)
            have HUQ := Lib.hid hqs
            clear hhk hqs
            go_upto_region 24 with (fail)
            go_upto_region 26 with (fail)
            go_loopg [18, 19] 10 (fun gh v18 v19 wr3 => ∃ n : Nat, gh + n = 10 ∧ v19 = .int .i64 n ∧ v18 = .bool (decide (qi < n)) ∧ FA wr3 gf (fun q => fndK hot i q || (decide (q = qi) && decide (qi < n))) ∧ Keep (fun j => j = gf) V2 wr3)
            case atStart => exact ⟨0, by omega, rfl, by rw [decide_eq_false (by omega)], HF.out.congr (fun q => by rw [decide_eq_false (show ¬ qi < 0 by omega), Bool.and_false, Bool.or_false]), HKE.out⟩
            case round =>
              clear HF HKE
              obtain ⟨n, hn, rfl, rfl, hfa, hkeep⟩ := hrel
              have HF := Lib.hid hfa
              have HKE := Lib.hid hkeep
              clear hfa hkeep
              by_cases hn10 : n < 10
              · have hnz : (n : Int) < 10 := by omega
                have hn0 : (0 : Int) ≤ (n : Int) := by omega
                have HKN : Hid (∀ W, Calls Tryz.prog 44 #[.int .i64 (n : Int)] W fun e w' => e = .returned (.string (keyT n)) ∧ Keep (fun _ => False) W w') := Lib.hid (fun W => by
                  have h := key15_any (n : Int) (by unfold I64; omega) W
                  have e : (pk (n : Int) 10).toNat = n := by unfold pk; rw [if_neg (by omega)]; omega
                  rwa [e] at h)
                have ch : ∀ p : KA (fun _ => False) wr, p.val.cell? ⟨hb, hof + i, none⟩ = some (.string (keyT qi)) := fun p => p.k.cell (HHC2.out _ HKE.out i _ HHK.out) (fun h => h)
                obtain ⟨beq, hbeq⟩ : ∃ b, ((keyT n).toList == (keyT qi).toList) = b := ⟨_, rfl⟩
                have HBE : Hid (beq = decide (n = qi)) := Lib.hid (by
                  rw [← hbeq]
                  by_cases e : n = qi
                  · subst e; simp
                  · rw [decide_eq_false e]
                    have : (keyT n).toList ≠ (keyT qi).toList := fun h => e (keyT_inj hn10 hqi (Sk.toList_inj h))
                    simpa using this)
                generalize keyT n = kn at *
                go_upto_region 28 with (fail)
                refine wp_region_walk [(true, 0), (true, 2), (true, 3), (true, 4), (true, 5), (false, 1), (false, 6)] (inKA (fun _ => False) wr) (by kernel_rfl) (by kernel_rfl) ?_
                iterate 5 (refine walkW_read rfl (fun K hK => ?_); go_simp; refine hK _ ?_; clear hK K)
                clear ch
                have HKD : Hid (Keep (fun _ => False) wr wr.drew) := Lib.hid (Keep.refl _ wr).drew
                refine walkW_do rfl (inKA.of HKD.out) (fun K hK => ?_)
                go_simp
                refine (HKN.out _).mono ?_
                rintro e U1 ⟨rfl, k1⟩
                have HK1 := Lib.hid (HKD.out.trans k1)
                clear k1
                refine hK _ _ ?_; clear hK K
                refine walkW_do rfl (inKA.of HK1.out) (fun K hK => ?_)
                go_simp
                refine hK _ _ ?_; clear hK K
                refine ⟨inKA.of HK1.out, ?_⟩
                have HF1 := Lib.hid (HF.out.keep HK1.out (fun h => h))
                have HKE1 : Hid (Keep (fun j => j = gf) V2 U1) := Lib.hid (HKE.out.trans (HK1.out.mono (fun _ h => h.elim)))
                clear HF HKE HKD HK1
                cases beq with
                | true =>
                  have hnq : n = qi := of_decide_eq_true HBE.out.symm
                  subst hnq
                  have cfn : U1.cell? ⟨gf, n, none⟩ = some (.bool false) := by
                    have := (HF1.out n hn10).1
                    simp only [] at this
                    rw [HNW.out, decide_eq_false (show ¬ n < n by omega), Bool.and_false, Bool.or_false] at this
                    exact this
                  have cff := (HF1.out n hn10).2
                  have cu := HKE1.out.cell (HIA2.out n hn10).1 (fun e => by have h5 : g = gf := e; have := HGF.out; omega)
                  have huq := HUQ.out
                  have hub := HUB.out n
                  have hnn0 := HNN.out n
                  obtain ⟨un, hun⟩ : ∃ x, u n = x := ⟨_, rfl⟩
                  rw [hun] at cu huq hub hnn0
                  clear hun hbeq
                  have wm1 : IntKind.i64.wrap (100 * un) = 100 * un := wrapI (by unfold I64; omega)
                  have hst0 : 0 ≤ sh * tot := Int.mul_nonneg (by omega) hs0
                  have hst1 : sh * tot ≤ 100 * 60000 := Int.mul_le_mul hsh1.2 (by omega) hs0 (by omega)
                  have wm2 : IntKind.i64.wrap (sh * tot) = sh * tot := wrapI (by unfold I64; omega)
                  have hlt2 : ¬ 100 * un < sh * tot := by omega
                  have HF2 : Hid (FA (U1.setCell ⟨gf, n, none⟩ (.bool true)) gf (fun q => fndK hot i q || (decide (q = n) && decide (n < n + 1)))) := Lib.hid ((HF1.out.set hn10).congr (fun q => by
                    rw [decide_eq_false (show ¬ n < n by omega), decide_eq_true (show n < n + 1 by omega), Bool.and_false, Bool.or_false, Bool.and_true]))
                  have HKS : Hid (Keep (fun j => j = gf) U1 (U1.setCell ⟨gf, n, none⟩ (.bool true))) := Lib.hid ((Keep.refl (fun j => j = gf) U1).setCell (p := ⟨gf, n, none⟩) _ (.inl rfl))
                  have HKE2 := Lib.hid (HKE1.out.trans HKS.out)
                  have HDT : Hid (decide (n < n + 1) = true) := Lib.hid (decide_eq_true (by omega))
                  go_wp2_with fail
                  clear cfn cff cu
                  go_roundg (10 - (n + 1))
                  case rel => exact ⟨n + 1, by omega, by go_num, by rw [HDT.out], HF2.out, HKE2.out⟩
                  case measure => omega
                | false =>
                  have hnq : ¬ n = qi := of_decide_eq_false HBE.out.symm
                  have hde : decide (qi < n + 1) = decide (qi < n) := decide_eq_decide.2 ⟨fun h => by omega, fun h => by omega⟩
                  have HDE := Lib.hid hde
                  have HF2 : Hid (FA U1 gf (fun q => fndK hot i q || (decide (q = qi) && decide (qi < n + 1)))) := Lib.hid (HF1.out.congr (fun q => by rw [hde]))
                  clear hbeq hde
                  generalize decide (qi < n) = dq at *
                  go_wp2_with fail
                  go_roundg (10 - (n + 1))
                  case rel => exact ⟨n + 1, by omega, by go_num, by rw [HDE.out], HF2.out, HKE1.out⟩
                  case measure => omega
              · obtain rfl : n = 10 := by omega
                have hnz : ¬ (10 : Int) < 10 := by omega
                have hdq : decide (qi < 10) = true := decide_eq_true hqi
                have HF2 : Hid (FA wr gf (fndK hot (i + 1))) := Lib.hid (fun q hq => by
                  have h := HF.out q hq
                  simp only [hdq, Bool.and_true] at h
                  rw [← HSC.out q hq] at h
                  exact h)
                rw [hdq]
                clear hdq
                go_wp2_with fail
                go_roundg (hl - (i + 1))
                case rel => exact ⟨i + 1, by omega, by go_num, HF2.out, HKE.out⟩
                case measure => omega
          · obtain rfl : i = hl := by omega
            have HIA9 := Lib.hid (HIA2.out.keep HKE.out (fun e => by have h5 : g = gf := e; have := HGF.out; omega))
            have HKF : Hid (Keep (fun _ => False) w wr) := Lib.hid (HKW2.out.trans' HKE.out (fun j e => .inr (by have h5 : j = gf := e; have := HGF.out; omega)))
            have hiz : ¬ (i : Int) < (i : Int) := by omega
            have HALL := Lib.hid (fun q (h : keyT q ∈ hot) => fndK_all (i := i) (by rw [HHL.out]; omega) h)
            have HF9 : Hid (FA wr gf (fndK hot i)) := HF
            generalize hff : fndK hot i = ff at *
            clear hff
            have HFB := Lib.hid HF9.out
            clear HF HF9
            go_upto_region 35 with (fail)
            clear hiz
            go_upto_region 36 with (fail)
            go_loopg [20] 10 (fun gh v20 wr4 => ∃ n : Nat, gh + n = 10 ∧ v20 = .int .i64 n ∧ wr4 = wr)
            case atStart => exact ⟨0, by omega, rfl, rfl⟩
            case round =>
              obtain ⟨n, hn, rfl, rfl⟩ := hrel
              by_cases hn10 : n < 10
              · have hnz : (n : Int) < 10 := by omega
                have hn0 : (0 : Int) ≤ (n : Int) := by omega
                have cu := (HIA9.out n hn10).1
                have cf := (HFB.out n hn10).1
                have hub := HUB.out n
                have hnn0 := HNN.out n
                have HFD := Lib.hid (fun (h1 : du ≤ cap) (h2 : 0 < u n) (h3 : sh * tot ≤ 100 * u n) => HALL.out n (HFA.out.found (by rw [HDU.out]; exact h1) n hn10 h2 h3))
                obtain ⟨un, hun⟩ : ∃ x, u n = x := ⟨_, rfl⟩
                rw [hun] at cu hub hnn0 HFD
                clear hun
                obtain ⟨fb, hfb⟩ : ∃ b, ff n = b := ⟨_, rfl⟩
                rw [hfb] at cf HFD
                clear hfb
                have wm1 : IntKind.i64.wrap (100 * un) = 100 * un := wrapI (by unfold I64; omega)
                have hst0 : 0 ≤ sh * tot := Int.mul_nonneg (by omega) hs0
                have hst1 : sh * tot ≤ 100 * 60000 := Int.mul_le_mul hsh1.2 (by omega) hs0 (by omega)
                have wm2 : IntKind.i64.wrap (sh * tot) = sh * tot := wrapI (by unfold I64; omega)
                go_wp2_with fail
                with_reducible refine (HPK.out _).mono ?_
                rintro e w' ⟨rfl, rfl⟩
                by_cases c1 : du ≤ cap
                · have c1z : (du : Int) ≤ (cap : Int) := by omega
                  by_cases c2 : 0 < un
                  · by_cases c3 : sh * tot ≤ 100 * un
                    · obtain rfl := HFD.out c1 c2 c3
                      go_wp2_with fail
                      clear cu cf
                      go_roundg (10 - (n + 1))
                      case rel => exact ⟨n + 1, by omega, by go_num, rfl⟩
                      case measure => omega
                    · go_wp2_with fail
                      clear cu cf
                      go_roundg (10 - (n + 1))
                      case rel => exact ⟨n + 1, by omega, by go_num, rfl⟩
                      case measure => omega
                  · go_wp2_with fail
                    clear cu cf
                    go_roundg (10 - (n + 1))
                    case rel => exact ⟨n + 1, by omega, by go_num, rfl⟩
                    case measure => omega
                · have c1z : ¬ (du : Int) ≤ (cap : Int) := by omega
                  go_wp2_with fail
                  clear cu cf
                  go_roundg (10 - (n + 1))
                  case rel => exact ⟨n + 1, by omega, by go_num, rfl⟩
                  case measure => omega
              · obtain rfl : n = 10 := by omega
                have hfew := HL100.out
                have hfew0 : 0 ≤ (i : Int) * sh := Int.mul_nonneg (by omega) (by omega)
                have wl : IntKind.i64.wrap ((i : Int) * sh) = (i : Int) * sh := wrapI (by unfold I64; omega)
                have hnz : ¬ (10 : Int) < 10 := by omega
                go_wp2_with fail
                go_ret
                exact ⟨rfl, HKF.out⟩
      · have hkz : ¬ (k : Int) < (pn : Int) := by omega
        clear HSK HHI
        go_upto_region 19 with (fail)
        go_wp2_with fail
        with_reducible refine HHOT.out.mono ?_
        rintro e V1 ⟨vh, rfl, hst, k1⟩
        obtain ⟨hhn, ha, hc, hb, hof, rfl, hhc, hha, hhcell⟩ := hst
        have HHC := Lib.hid hhcell
        have HIA1 := Lib.hid (HIA.out.keep k1 (fun h => h))
        have HKW1 := Lib.hid (HKW.out.trans k1)
        obtain ⟨hl, hhl⟩ : ∃ n, hot.length = n := ⟨_, rfl⟩
        have HHL := Lib.hid hhl
        rw [hhl] at hhn hhc hha ⊢
        have HHA := Lib.hid hha
        have HL100 : Hid ((hl : Int) * sh ≤ 100) := Lib.hid (by rw [← hhl]; exact HFA.out.few)
        have hl100 : (hl : Int) ≤ 100 := by
          have h1 := HL100.out
          have h2 : (hl : Int) * 1 ≤ (hl : Int) * sh := Int.mul_le_mul_of_nonneg_left hsh1.1 (by omega)
          omega
        clear hhcell k1 HIA HKE HKW HHOT hha hhl
        obtain ⟨i0, hi, hz0, hz1, hz2⟩ := info_parts infoBool
        obtain ⟨V2, hmk, hown2, hgr2⟩ := run_makeSlice_full (P := Tryz.prog) V1 V1.heap.size 76 4 i0 _ 1 Tryz.underlying76 hi hz0 hz1 .i64 .i64 10 (by decide) (by rw [hz2]; decide) (by decide) (Nat.le_refl _)
        have hmk1 : (Instr.makeSlice 76 (.int .i64 10) (.int .i64 10)).run Tryz.prog V1 = .ok (.slice (some ⟨V1.heap.size, 0, none⟩) 10 10) V2 := hmk
        have HK12 : Hid (Keep (fun _ => False) V1 V2) := Lib.hid ((Keep.of_grown hgr2).mono (fun j e => by cases e))
        have HFB : Hid (FA V2 V1.heap.size (fndK hot 0)) := Lib.hid (by
          have h := hown2
          rw [show (madeCells (Value.bool false).cells (10 * 1)).toList = List.replicate 10 (Value.bool false) by exact toList_madeCells_one _ _] at h
          intro q hq
          refine ⟨?_, h.frozenAt q⟩
          rw [h.cellAt q (by omega), List.getElem?_replicate, if_pos (by omega)]
          rfl)
        have HIA2 := Lib.hid (HIA1.out.keep HK12.out (fun h => h))
        have HKW2 := Lib.hid (HKW1.out.trans HK12.out)
        have HGF : Hid (g < V1.heap.size ∧ w.heap.size ≤ V1.heap.size) := Lib.hid ⟨HIA1.out.lt, HKW1.out.size⟩
        have HHC2 : Hid (∀ V, Keep (fun j => j = V1.heap.size) V2 V → ∀ j x, hot[j]? = some x → V.cell? ⟨hb, hof + j, none⟩ = some (.string x)) := Lib.hid (fun V k j x hj => by
          have h1 := HHC.out j x hj
          have h2 := World.block_lt_of_cell? _ _ h1
          exact k.cell (HK12.out.cell h1 (fun h => h)) (fun e => by have h5 : hb = V1.heap.size := e; have h6 : hb < V1.heap.size := h2; omega))
        clear hmk hown2 hgr2 hi hz0 hz1 hz2 HIA1 HKW1 HHC HK12
        go_upto_region 21 with (fail)
        clear hmk1
        generalize V1.heap.size = gf at *
        go_upto_region 22 with (fail)
        go_loopg [17] hl (fun gh v17 wr2 => ∃ i : Nat, gh + i = hl ∧ v17 = .int .i64 i ∧ FA wr2 gf (fndK hot i) ∧ Keep (fun j => j = gf) V2 wr2)
        case atStart => exact ⟨0, by omega, rfl, HFB.out, Keep.refl _ _⟩
        case round =>
          clear HFB
          obtain ⟨i, hi, rfl, hfa, hkeep⟩ := hrel
          have HF := Lib.hid hfa
          have HKE := Lib.hid hkeep
          clear hfa hkeep
          by_cases hlt : i < hl
          · obtain ⟨hk, hhk⟩ : ∃ x, hot[i]? = some x := ⟨_, List.getElem?_eq_getElem (by rw [HHL.out]; exact hlt)⟩
            obtain ⟨qi, hqi, hqe, hqs⟩ := HFA.out.name hk (List.mem_of_getElem? hhk)
            subst hqe
            have HHK := Lib.hid hhk
            have hiz : (i : Int) < (hl : Int) := by omega
            have hi0 : (0 : Int) ≤ (i : Int) := by omega
            have HNW := Lib.hid (fndK_new HFA.out.nd hhk)
            have HSC := Lib.hid (fndK_succ hhk hqi)
            obtain rfl := HHA.out (by omega)
            have HUQ := Lib.hid hqs
            clear hhk hqs
            go_upto_region 24 with (fail)
            go_upto_region 26 with (fail)
            go_loopg [18, 19] 10 (fun gh v18 v19 wr3 => ∃ n : Nat, gh + n = 10 ∧ v19 = .int .i64 n ∧ v18 = .bool (decide (qi < n)) ∧ FA wr3 gf (fun q => fndK hot i q || (decide (q = qi) && decide (qi < n))) ∧ Keep (fun j => j = gf) V2 wr3)
            case atStart => exact ⟨0, by omega, rfl, by rw [decide_eq_false (by omega)], HF.out.congr (fun q => by rw [decide_eq_false (show ¬ qi < 0 by omega), Bool.and_false, Bool.or_false]), HKE.out⟩
            case round =>
              clear HF HKE
              obtain ⟨n, hn, rfl, rfl, hfa, hkeep⟩ := hrel
              have HF := Lib.hid hfa
              have HKE := Lib.hid hkeep
              clear hfa hkeep
              by_cases hn10 : n < 10
              · have hnz : (n : Int) < 10 := by omega
                have hn0 : (0 : Int) ≤ (n : Int) := by omega
                have HKN : Hid (∀ W, Calls Tryz.prog 44 #[.int .i64 (n : Int)] W fun e w' => e = .returned (.string (keyT n)) ∧ Keep (fun _ => False) W w') := Lib.hid (fun W => by
                  have h := key15_any (n : Int) (by unfold I64; omega) W
                  have e : (pk (n : Int) 10).toNat = n := by unfold pk; rw [if_neg (by omega)]; omega
                  rwa [e] at h)
                have ch : ∀ p : KA (fun _ => False) wr, p.val.cell? ⟨hb, hof + i, none⟩ = some (.string (keyT qi)) := fun p => p.k.cell (HHC2.out _ HKE.out i _ HHK.out) (fun h => h)
                obtain ⟨beq, hbeq⟩ : ∃ b, ((keyT n).toList == (keyT qi).toList) = b := ⟨_, rfl⟩
                have HBE : Hid (beq = decide (n = qi)) := Lib.hid (by
                  rw [← hbeq]
                  by_cases e : n = qi
                  · subst e; simp
                  · rw [decide_eq_false e]
                    have : (keyT n).toList ≠ (keyT qi).toList := fun h => e (keyT_inj hn10 hqi (Sk.toList_inj h))
                    simpa using this)
                generalize keyT n = kn at *
                go_upto_region 28 with (fail)
                refine wp_region_walk [(true, 0), (true, 2), (true, 3), (true, 4), (true, 5), (false, 1), (false, 6)] (inKA (fun _ => False) wr) (by kernel_rfl) (by kernel_rfl) ?_
                iterate 5 (refine walkW_read rfl (fun K hK => ?_); go_simp; refine hK _ ?_; clear hK K)
                clear ch
                have HKD : Hid (Keep (fun _ => False) wr wr.drew) := Lib.hid (Keep.refl _ wr).drew
                refine walkW_do rfl (inKA.of HKD.out) (fun K hK => ?_)
                go_simp
                refine (HKN.out _).mono ?_
                rintro e U1 ⟨rfl, k1⟩
                have HK1 := Lib.hid (HKD.out.trans k1)
                clear k1
                refine hK _ _ ?_; clear hK K
                refine walkW_do rfl (inKA.of HK1.out) (fun K hK => ?_)
                go_simp
                refine hK _ _ ?_; clear hK K
                refine ⟨inKA.of HK1.out, ?_⟩
                have HF1 := Lib.hid (HF.out.keep HK1.out (fun h => h))
                have HKE1 : Hid (Keep (fun j => j = gf) V2 U1) := Lib.hid (HKE.out.trans (HK1.out.mono (fun _ h => h.elim)))
                clear HF HKE HKD HK1
                cases beq with
                | true =>
                  have hnq : n = qi := of_decide_eq_true HBE.out.symm
                  subst hnq
                  have cfn : U1.cell? ⟨gf, n, none⟩ = some (.bool false) := by
                    have := (HF1.out n hn10).1
                    simp only [] at this
                    rw [HNW.out, decide_eq_false (show ¬ n < n by omega), Bool.and_false, Bool.or_false] at this
                    exact this
                  have cff := (HF1.out n hn10).2
                  have cu := HKE1.out.cell (HIA2.out n hn10).1 (fun e => by have h5 : g = gf := e; have := HGF.out; omega)
                  have huq := HUQ.out
                  have hub := HUB.out n
                  have hnn0 := HNN.out n
                  obtain ⟨un, hun⟩ : ∃ x, u n = x := ⟨_, rfl⟩
                  rw [hun] at cu huq hub hnn0
                  clear hun hbeq
                  have wm1 : IntKind.i64.wrap (100 * un) = 100 * un := wrapI (by unfold I64; omega)
                  have hst0 : 0 ≤ sh * tot := Int.mul_nonneg (by omega) hs0
                  have hst1 : sh * tot ≤ 100 * 60000 := Int.mul_le_mul hsh1.2 (by omega) hs0 (by omega)
                  have wm2 : IntKind.i64.wrap (sh * tot) = sh * tot := wrapI (by unfold I64; omega)
                  have hlt2 : ¬ 100 * un < sh * tot := by omega
                  have HF2 : Hid (FA (U1.setCell ⟨gf, n, none⟩ (.bool true)) gf (fun q => fndK hot i q || (decide (q = n) && decide (n < n + 1)))) := Lib.hid ((HF1.out.set hn10).congr (fun q => by
                    rw [decide_eq_false (show ¬ n < n by omega), decide_eq_true (show n < n + 1 by omega), Bool.and_false, Bool.or_false, Bool.and_true]))
                  have HKS : Hid (Keep (fun j => j = gf) U1 (U1.setCell ⟨gf, n, none⟩ (.bool true))) := Lib.hid ((Keep.refl (fun j => j = gf) U1).setCell (p := ⟨gf, n, none⟩) _ (.inl rfl))
                  have HKE2 := Lib.hid (HKE1.out.trans HKS.out)
                  have HDT : Hid (decide (n < n + 1) = true) := Lib.hid (decide_eq_true (by omega))
                  go_wp2_with fail
                  clear cfn cff cu
                  go_roundg (10 - (n + 1))
                  case rel => exact ⟨n + 1, by omega, by go_num, by rw [HDT.out], HF2.out, HKE2.out⟩
                  case measure => omega
                | false =>
                  have hnq : ¬ n = qi := of_decide_eq_false HBE.out.symm
                  have hde : decide (qi < n + 1) = decide (qi < n) := decide_eq_decide.2 ⟨fun h => by omega, fun h => by omega⟩
                  have HDE := Lib.hid hde
                  have HF2 : Hid (FA U1 gf (fun q => fndK hot i q || (decide (q = qi) && decide (qi < n + 1)))) := Lib.hid (HF1.out.congr (fun q => by rw [hde]))
                  clear hbeq hde
                  generalize decide (qi < n) = dq at *
                  go_wp2_with fail
                  go_roundg (10 - (n + 1))
                  case rel => exact ⟨n + 1, by omega, by go_num, by rw [HDE.out], HF2.out, HKE1.out⟩
                  case measure => omega
              · obtain rfl : n = 10 := by omega
                have hnz : ¬ (10 : Int) < 10 := by omega
                have hdq : decide (qi < 10) = true := decide_eq_true hqi
                have HF2 : Hid (FA wr gf (fndK hot (i + 1))) := Lib.hid (fun q hq => by
                  have h := HF.out q hq
                  simp only [hdq, Bool.and_true] at h
                  rw [← HSC.out q hq] at h
                  exact h)
                rw [hdq]
                clear hdq
                go_wp2_with fail
                go_roundg (hl - (i + 1))
                case rel => exact ⟨i + 1, by omega, by go_num, HF2.out, HKE.out⟩
                case measure => omega
          · obtain rfl : i = hl := by omega
            have HIA9 := Lib.hid (HIA2.out.keep HKE.out (fun e => by have h5 : g = gf := e; have := HGF.out; omega))
            have HKF : Hid (Keep (fun _ => False) w wr) := Lib.hid (HKW2.out.trans' HKE.out (fun j e => .inr (by have h5 : j = gf := e; have := HGF.out; omega)))
            have hiz : ¬ (i : Int) < (i : Int) := by omega
            have HALL := Lib.hid (fun q (h : keyT q ∈ hot) => fndK_all (i := i) (by rw [HHL.out]; omega) h)
            have HF9 : Hid (FA wr gf (fndK hot i)) := HF
            generalize hff : fndK hot i = ff at *
            clear hff
            have HFB := Lib.hid HF9.out
            clear HF HF9
            go_upto_region 35 with (fail)
            clear hiz
            go_upto_region 36 with (fail)
            go_loopg [20] 10 (fun gh v20 wr4 => ∃ n : Nat, gh + n = 10 ∧ v20 = .int .i64 n ∧ wr4 = wr)
            case atStart => exact ⟨0, by omega, rfl, rfl⟩
            case round =>
              obtain ⟨n, hn, rfl, rfl⟩ := hrel
              by_cases hn10 : n < 10
              · have hnz : (n : Int) < 10 := by omega
                have hn0 : (0 : Int) ≤ (n : Int) := by omega
                have cu := (HIA9.out n hn10).1
                have cf := (HFB.out n hn10).1
                have hub := HUB.out n
                have hnn0 := HNN.out n
                have HFD := Lib.hid (fun (h1 : du ≤ cap) (h2 : 0 < u n) (h3 : sh * tot ≤ 100 * u n) => HALL.out n (HFA.out.found (by rw [HDU.out]; exact h1) n hn10 h2 h3))
                obtain ⟨un, hun⟩ : ∃ x, u n = x := ⟨_, rfl⟩
                rw [hun] at cu hub hnn0 HFD
                clear hun
                obtain ⟨fb, hfb⟩ : ∃ b, ff n = b := ⟨_, rfl⟩
                rw [hfb] at cf HFD
                clear hfb
                have wm1 : IntKind.i64.wrap (100 * un) = 100 * un := wrapI (by unfold I64; omega)
                have hst0 : 0 ≤ sh * tot := Int.mul_nonneg (by omega) hs0
                have hst1 : sh * tot ≤ 100 * 60000 := Int.mul_le_mul hsh1.2 (by omega) hs0 (by omega)
                have wm2 : IntKind.i64.wrap (sh * tot) = sh * tot := wrapI (by unfold I64; omega)
                go_wp2_with fail
                with_reducible refine (HPK.out _).mono ?_
                rintro e w' ⟨rfl, rfl⟩
                by_cases c1 : du ≤ cap
                · have c1z : (du : Int) ≤ (cap : Int) := by omega
                  by_cases c2 : 0 < un
                  · by_cases c3 : sh * tot ≤ 100 * un
                    · obtain rfl := HFD.out c1 c2 c3
                      go_wp2_with fail
                      clear cu cf
                      go_roundg (10 - (n + 1))
                      case rel => exact ⟨n + 1, by omega, by go_num, rfl⟩
                      case measure => omega
                    · go_wp2_with fail
                      clear cu cf
                      go_roundg (10 - (n + 1))
                      case rel => exact ⟨n + 1, by omega, by go_num, rfl⟩
                      case measure => omega
                  · go_wp2_with fail
                    clear cu cf
                    go_roundg (10 - (n + 1))
                    case rel => exact ⟨n + 1, by omega, by go_num, rfl⟩
                    case measure => omega
                · have c1z : ¬ (du : Int) ≤ (cap : Int) := by omega
                  go_wp2_with fail
                  clear cu cf
                  go_roundg (10 - (n + 1))
                  case rel => exact ⟨n + 1, by omega, by go_num, rfl⟩
                  case measure => omega
              · obtain rfl : n = 10 := by omega
                have hfew := HL100.out
                have hfew0 : 0 ≤ (i : Int) * sh := Int.mul_nonneg (by omega) (by omega)
                have wl : IntKind.i64.wrap ((i : Int) * sh) = (i : Int) * sh := wrapI (by unfold I64; omega)
                have hnz : ¬ (10 : Int) < 10 := by omega
                go_wp2_with fail
                go_ret
                exact ⟨rfl, HKF.out⟩
end Go.Proofs.YtplkmbfeeegaiaaGreatDoor

/-
  The reference: slices of counters; New, Total, Least, Get, before.
-/
namespace Go.Proofs.YtplkmbfeeegaiaaGreatDoor.Sk
open Go.RowKit Go.Shelf

/-- The cells of counters. -/
def Cells3 (W : World) (b off : Nat) (l : List K3) : Prop := ∀ (j : Nat) (x : K3), l[j]? = some x → W.cell? ⟨b, off + j * 3, none⟩ = some (.string x.key) ∧ W.cell? ⟨b, off + j * 3 + 1, none⟩ = some (.int .i64 x.n) ∧ W.cell? ⟨b, off + j * 3 + 2, none⟩ = some (.int .i64 x.e)
/-- A slice of counters. -/
def Cs (W : World) (v : Value) (l : List K3) : Prop := (v = .slice none 0 0 ∧ l = []) ∨ ∃ b off c, v = .slice (some ⟨b, off, none⟩) l.length c ∧ l.length ≤ c ∧ Cells3 W b off l

theorem Cells3.keep {W W' : World} {b off : Nat} {l : List K3} {A : Nat → Prop} (h : Cells3 W b off l) (k : Keep A W W') (hA : ¬ A b) : Cells3 W' b off l := fun j x hj =>
  ⟨k.cell (h j x hj).1 hA, k.cell (h j x hj).2.1 hA, k.cell (h j x hj).2.2 hA⟩
theorem Cs.keep {W W' : World} {v : Value} {l : List K3} {A : Nat → Prop} (h : Cs W v l) (k : Keep A W W') (hA : ∀ b, v.ownBlock = some b → ¬ A b) : Cs W' v l := by
  rcases h with h | ⟨b, off, c, rfl, hc, h⟩
  · exact .inl h
  · exact .inr ⟨b, off, c, rfl, hc, h.keep k (hA b rfl)⟩
theorem Cs.ctrs {W : World} {v : Value} {l : List K3} (h : Cs W v l) : CtrsAt W v l := by
  rcases h with ⟨rfl, rfl⟩ | ⟨b, off, c, rfl, hc, h⟩
  · exact ⟨none, 0, rfl, fun j x hj => by simp at hj⟩
  · exact ⟨_, c, rfl, fun j x hj => ⟨b, off, rfl, h j x hj⟩⟩
theorem Cs.of_owns {W : World} {lo : Nat} {v : Value} {l : List K3} (h : W.ownsRow lo 124 3 v l.length (flat l)) : Cs W v l := by
  rcases h.2 with ⟨rfl, hx⟩ | ⟨g, cap, cur, rfl, _, _, hc, r⟩
  · exact .inl ⟨rfl, List.eq_nil_of_length_eq_zero hx⟩
  · refine .inr ⟨g, 0, cap, rfl, hc, fun j x hj => ⟨?_, ?_, ?_⟩⟩
    · have := h.cells (g := g) rfl _ _ (flat_get l j x hj).1
      rwa [Addr.add_lit] at this
    · have := h.cells (g := g) rfl _ _ (flat_get l j x hj).2.1
      rwa [Addr.add_lit, ← Nat.add_assoc] at this
    · have := h.cells (g := g) rfl _ _ (flat_get l j x hj).2.2
      rwa [Addr.add_lit, ← Nat.add_assoc] at this
/-- As the walk wants it. -/
theorem Cs.open_ {W : World} {v : Value} {l : List K3} (h : Cs W v l) : ∃ a c b off, v = .slice a l.length c ∧ l.length ≤ c ∧ (0 < l.length → a = some ⟨b, off, none⟩) ∧ Cells3 W b off l := by
  rcases h with ⟨rfl, rfl⟩ | ⟨b, off, c, rfl, hc, h⟩
  · exact ⟨none, 0, 0, 0, rfl, Nat.le_refl _, fun h => absurd h (Nat.lt_irrefl _), fun j x hj => by simp at hj⟩
  · exact ⟨_, c, b, off, rfl, hc, fun _ => rfl, h⟩
theorem Cs.block_lt {W : World} {v : Value} {l : List K3} (h : Cs W v l) (hl : l ≠ []) {b : Nat} (hb : v.ownBlock = some b) : b < W.heap.size := by
  rcases h with ⟨rfl, rfl⟩ | ⟨b', off, c, rfl, hc, h⟩
  · exact absurd rfl hl
  · obtain ⟨x, r, rfl⟩ := List.exists_cons_of_ne_nil hl
    cases hb
    exact World.block_lt_of_cell? _ _ (h 0 x rfl).1

theorem flat_cells {W : World} {b off : Nat} : ∀ {l : List K3}, Cells3 W b off l → ∀ j u, (flat l)[j]? = some u → W.cell? ⟨b, off + j, none⟩ = some u := by
  intro l h j u hj
  have hl : j < l.length * 3 := by rw [← flat_length]; exact (List.getElem?_eq_some_iff.1 hj).1
  have hq : j / 3 < l.length := by omega
  obtain ⟨c0, c1, c2⟩ := h (j / 3) l[j / 3] (List.getElem?_eq_getElem hq)
  obtain ⟨f0, f1, f2⟩ := flat_get l (j / 3) l[j / 3] (List.getElem?_eq_getElem hq)
  have hr : j % 3 = 0 ∨ j % 3 = 1 ∨ j % 3 = 2 := by omega
  rcases hr with hr | hr | hr
  · have e : j / 3 * 3 = j := by omega
    rw [e] at c0 f0
    rw [f0] at hj; cases hj; exact c0
  · have e : j / 3 * 3 + 1 = j := by omega
    rw [Nat.add_assoc, e] at c1
    rw [e] at f1
    rw [f1] at hj; cases hj; exact c1
  · have e : j / 3 * 3 + 2 = j := by omega
    rw [Nat.add_assoc, e] at c2
    rw [e] at f2
    rw [f2] at hj; cases hj; exact c2
theorem flat_one : ∀ (l : List K3) (u : Value), u ∈ flat l → u.oneCell' = true
  | [], u, h => by cases h
  | x :: r, u, h => by
    simp only [flat, List.mem_cons] at h
    rcases h with rfl | rfl | rfl | h
    · rfl
    · rfl
    · rfl
    · exact flat_one r u h

/-- More counters. -/
theorem app_ctrs (W : World) (ty lo : Nat) (v src : Value) (l ys : List K3) (hown : W.ownsRow lo 124 3 v l.length (flat l)) (hs : Cs W src ys) (hn : l.length + ys.length ≤ 100000) (hlo : lo ≤ W.heap.size) :
    ∃ v' w', (Builtin.append_ #[112, 112] ty #[v, src]).run Tryz.prog W = .ok v' w' ∧ w'.ownsRow lo 124 3 v' (l ++ ys).length (flat (l ++ ys)) ∧ Keep (fun k => v.ownBlock = some k) W w' ∧ (v'.ownBlock = v.ownBlock ∨ v'.ownBlock = some W.heap.size) := by
  obtain ⟨i0, hi, hz0, hz1, hz2⟩ := info_parts info37
  rcases hs with ⟨rfl, rfl⟩ | ⟨b, off, c, rfl, hc, h⟩
  · refine ⟨v, W, run_append_owned_none W lo 112 ty 124 i0 3 Tryz.underlying112 hi v l.length (flat l) hown, by simpa using hown, Keep.refl _ W, .inl rfl⟩
  · obtain ⟨v', w', h1, h2, h3, h4, h5⟩ := run_append_own_at (P := Tryz.prog) W lo 112 ty 124 i0 (ctrV ⟨#[]⟩ 0 0) 3 32 Tryz.underlying112 hi hz0 hz1 hz2 rfl (by decide) v l.length (flat l) hown ⟨b, off, none⟩ ys.length c (flat ys) (flat_length ys)
      (fun j u hj => by rw [Addr.add_lit]; exact flat_cells h j u hj) (flat_one ys) (by unfold maxLen; omega) (by omega) hlo
    exact ⟨v', w', h1, by rw [List.length_append, flat_append]; exact h2, Keep.of_grown h3, h5⟩

/-- The first ones. -/
theorem slice_hi {W : World} {v : Value} {l : List K3} (h : Cs W v l) (k : Nat) (hk : k ≤ l.length) :
    ∃ v', (Instr.sliceAt 112 v none (some (.int .i64 k)) none).run Tryz.prog W = .ok v' W ∧ Cs W v' (l.take k) ∧ (v'.ownBlock = v.ownBlock) := by
  have hlt : (l.take k).length = k := by rw [List.length_take]; omega
  rcases h with ⟨rfl, rfl⟩ | ⟨b, off, c, rfl, hc, h⟩
  · obtain rfl : k = 0 := by simpa using hk
    refine ⟨.slice none 0 0, ?_, .inl ⟨rfl, by simp⟩, rfl⟩
    simp [Instr.sliceAt, Instr.slice, run_underlying Tryz.underlying112, Instr.sliceBounds, go_sem]
  · have hkz : (k : Int) ≤ (c : Int) := by omega
    have hk0 : (0 : Int) ≤ (k : Int) := by omega
    refine ⟨.slice (some ⟨b, off, none⟩) k c, ?_, .inr ⟨b, off, c, by rw [hlt], by omega, fun j x hj => h j x ?_⟩, rfl⟩
    · by_cases h0 : c = 0
      · subst h0
        obtain rfl : k = 0 := by omega
        simp [Instr.sliceAt, Instr.slice, run_underlying Tryz.underlying112, Instr.sliceBounds, go_sem]
      · simp [Instr.sliceAt, Instr.slice, run_underlying Tryz.underlying112, Instr.sliceBounds, go_sem, hkz, hk0]
    · rw [List.getElem?_take] at hj
      split at hj
      · exact hj
      · cases hj
/-- The others. -/
theorem slice_lo {W : World} {v : Value} {l : List K3} (h : Cs W v l) (k : Nat) (hk : k ≤ l.length) :
    ∃ v', (Instr.sliceAt 112 v (some (.int .i64 k)) none none).run Tryz.prog W = .ok v' W ∧ Cs W v' (l.drop k) ∧ (v'.ownBlock = v.ownBlock) := by
  have hlt : (l.drop k).length = l.length - k := List.length_drop
  rcases h with ⟨rfl, rfl⟩ | ⟨b, off, c, rfl, hc, h⟩
  · obtain rfl : k = 0 := by simpa using hk
    refine ⟨.slice none 0 0, ?_, .inl ⟨rfl, by simp⟩, rfl⟩
    simp [Instr.sliceAt, Instr.slice, run_underlying Tryz.underlying112, Instr.sliceBounds, go_sem]
  · have hkz : (k : Int) ≤ (l.length : Int) := by omega
    have hk0 : (0 : Int) ≤ (k : Int) := by omega
    by_cases h0 : c = k
    · refine ⟨.slice (some ⟨b, off, none⟩) (l.length - k) (c - k), ?_, .inr ⟨b, off, c - k, by rw [hlt], by omega, fun j x hj => ?_⟩, rfl⟩
      · simp [Instr.sliceAt, Instr.slice, run_underlying Tryz.underlying112, Instr.sliceBounds, go_sem, hkz, hk0, h0]
      · have := (List.getElem?_eq_some_iff.1 hj).1
        omega
    · refine ⟨.slice (some ⟨b, off + k * 3, none⟩) (l.length - k) (c - k), ?_, .inr ⟨b, off + k * 3, c - k, by rw [hlt], by omega, fun j x hj => ?_⟩, rfl⟩
      · simp [Instr.sliceAt, Instr.slice, run_underlying Tryz.underlying112, Instr.sliceBounds, go_sem, hkz, hk0, h0]
      · rw [List.getElem?_drop] at hj
        have := h (k + j) x hj
        rw [Nat.add_mul, ← Nat.add_assoc] at this
        exact this

/-- At a region's list. -/
theorem wpList_slice {P : Program} {ops : Array Oper} {rest : List Oper} {o : Oper} {a : Act} {w : World} {Q : Exit → Act → World → Prop} {v' : Value}
    (hg : o.guard = none) (t : TypeId) (s : Operand) (lo hi : Option Operand) (hop : o.op = Op.slice t s lo hi none)
    (hrun : (Instr.sliceAt t (a.eval s) (lo.map a.eval) (hi.map a.eval) none).run P w = .ok v' w) (hK : wpList P ops Q rest (a.put o.dst v') w) : wpList P ops Q (o :: rest) a w := by
  refine wpList_plain hg fun K hK' => ?_
  unfold Oper.wp
  simp [execOp, hop, hrun, Result.andThen]
  exact hK' _ _ hK

/-- A sketch of the reference. -/
structure Rf (W : World) (r : Nat) (v : Value) (cap : Nat) (l : List K3) : Prop where
  c0 : W.cell? ⟨r, 0, none⟩ = some (.int .i64 cap)
  c1 : W.cell? ⟨r, 1, none⟩ = some v
  fr : W.frozen? ⟨r, 1, none⟩ = false
  cs : Cs W v l
  ne : ∀ b, v.ownBlock = some b → b ≠ r ∧ b < W.heap.size
theorem Rf.keep {W W' : World} {r : Nat} {v : Value} {cap : Nat} {l : List K3} {A : Nat → Prop} (h : Rf W r v cap l) (k : Keep A W W') (h1 : ¬ A r) (h2 : ∀ b, v.ownBlock = some b → ¬ A b) : Rf W' r v cap l :=
  ⟨k.cell h.c0 h1, k.cell h.c1 h1, (k.frozen (World.block_lt_of_cell? _ _ h.c1) h1 1).trans h.fr, h.cs.keep k h2, fun b hb => ⟨(h.ne b hb).1, Nat.lt_of_lt_of_le (h.ne b hb).2 k.size⟩⟩
theorem Rf.kept {W W' : World} {r : Nat} {v : Value} {cap : Nat} {l : List K3} (h : Rf W r v cap l) (k : Keep (fun _ => False) W W') : Rf W' r v cap l := h.keep k (fun h => h) (fun _ _ h => h)

set_option maxRecDepth 100000 in
set_option maxHeartbeats 400000 in
theorem rnew_bad (k : Int) (hk : k < 1 ∨ 64 < k) (w : World) : Calls Tryz.prog 42 #[.int .i64 k] w fun e w' => e = .returned (.tuple #[.pointer none, .int .i64 140]) ∧ w = w' := by
  by_cases h1 : k < 1
  · clear hk
    go_enter Tryz.func42, Tryz.ntmps42
    go_wp2_with fail
    go_ret2
    exact ⟨rfl, rfl⟩
  · have h2 : 64 < k := by omega
    clear hk
    go_enter Tryz.func42, Tryz.ntmps42
    go_wp2_with fail
    go_ret2
    exact ⟨rfl, rfl⟩
def RNewPost (k : Nat) (w : World) (e : Ending) (w' : World) : Prop := ∃ r, e = .returned (.tuple #[ptr r, .int .i64 0]) ∧ Rf w' r (.slice none 0 0) k [] ∧ Keep (fun _ => False) w w' ∧ w.heap.size ≤ r
set_option maxRecDepth 100000 in
set_option maxHeartbeats 400000 in
theorem rnew_ok (k : Nat) (h1 : 1 ≤ k) (h2 : k ≤ 64) (w : World) : Calls Tryz.prog 42 #[.int .i64 k] w (RNewPost k w) := by
  have h3 : ¬ (k : Int) < 1 := by omega
  have h4 : ¬ 64 < (k : Int) := by omega
  go_enter Tryz.func42, Tryz.ntmps42
  go_wp2_with fail
  go_ret2
  have hh : (w.alloc (.cells #[.int .i64 k, .slice none 0 0] 114)).heap[w.heap.size]? = some (.cells #[.int .i64 k, .slice none 0 0] 114) := World.alloc_heap_new _ _
  refine ⟨w.heap.size, rfl, ⟨?_, ?_, ?_, .inl ⟨rfl, rfl⟩, fun b hb => by cases hb⟩, (Keep.refl _ w).alloc _, Nat.le_refl _⟩
  · unfold World.cell?; simp only [hh]; rfl
  · unfold World.cell?; simp only [hh]; rfl
  · unfold World.frozen?; simp only [hh]; rfl

theorem sumH_take_le {L : List C} (h : ∀ x ∈ L, 0 ≤ x.hi) (i : Nat) : 0 ≤ sumH (L.take i) ∧ sumH (L.take i) ≤ sumH L := by
  have h1 : 0 ≤ sumH (L.take i) := sumH_nonneg (fun x hx => h x (List.mem_of_mem_take hx))
  have h2 : 0 ≤ sumH (L.drop i) := sumH_nonneg (fun x hx => h x (List.mem_of_mem_drop hx))
  have h3 := sumH_append (L.take i) (L.drop i)
  rw [List.take_append_drop] at h3
  omega
theorem sumH_take_succ {L : List C} {i : Nat} {x : C} (h : L[i]? = some x) : sumH (L.take (i + 1)) = sumH (L.take i) + x.hi := by
  rw [List.take_add_one, h, sumH_append]
  simp [sumH]

set_option maxRecDepth 100000 in
set_option maxHeartbeats 1000000 in
theorem rtotal_sk {w : World} {r : Nat} {v : Value} {cap : Nat} {L : List C} (h : Rf w r v cap (L.map ctrOf)) (ok : OkL cap L) : Calls Tryz.prog 91 #[ptr r] w fun e w' => e = .returned (.int .i64 (sumH L)) ∧ w = w' := by
  obtain ⟨a, c, b, off, rfl, hc, ha, hcell⟩ := h.cs.open_
  have c1 := h.c1
  rw [List.length_map] at c1 ha hc
  have hl64 : L.length ≤ 64 := Nat.le_trans ok.len ok.cap64
  have hpos : ∀ x ∈ L, 0 ≤ x.hi := fun x hx => by have := ok.pos x hx; omega
  have hsum := (ok.hi0 ⟨#[]⟩)
  have hmax := ok.sum
  obtain ⟨n, hn⟩ : ∃ n, n = L.length := ⟨_, rfl⟩
  rw [← hn] at c1 ha hc hl64
  have HN := Lib.hid hn
  have HA := Lib.hid ha
  have HC := Lib.hid hcell
  have HP := Lib.hid hpos
  clear h hn ha hcell ok hpos hc
  go_enter Tryz.func91, Tryz.ntmps91
  go_wp2_with fail
  go_loopg [3, 4] n (fun gh vn vi wr => ∃ i : Nat, vn = .int .i64 (sumH (L.take i)) ∧ vi = .int .i64 i ∧ i ≤ n ∧ n ≤ gh + i ∧ wr = w)
  case atStart => exact ⟨0, by simp [sumH], rfl, Nat.zero_le _, by omega, rfl⟩
  case round =>
    obtain ⟨i, rfl, rfl, hi, hgh, rfl⟩ := hrel
    by_cases hlt : i < n
    · have hltz : (i : Int) < (n : Int) := by omega
      have hi0 : (0 : Int) ≤ (i : Int) := by omega
      obtain rfl := HA.out (by omega)
      obtain ⟨x, hx⟩ : ∃ x, L[i]? = some x := ⟨_, List.getElem?_eq_getElem (by rw [← HN.out]; exact hlt)⟩
      have q := (HC.out i (ctrOf x) (by rw [List.getElem?_map, hx]; rfl)).2.1
      have q' : wr.cell? ⟨b, off + i * 3 + 1, none⟩ = some (.int .i64 x.hi) := q
      have hb1 := sumH_take_le HP.out i
      have hb2 := sumH_take_le HP.out (i + 1)
      have hsu := sumH_take_succ hx
      have HSU := Lib.hid hsu
      rw [hsu] at hb2
      clear q hx hsu
      generalize sumH (L.take i) = T at *
      go_wp2_with fail
      go_roundg (n - (i + 1))
      case rel => exact ⟨i + 1, by rw [HSU.out], by go_num, by omega, by omega, rfl⟩
      case measure => omega
    · have hltz : ¬ (i : Int) < (n : Int) := by omega
      have HE : Hid (sumH (L.take i) = sumH L) := Lib.hid (by rw [List.take_of_length_le (by have := HN.out; omega)])
      rw [HE.out]
      go_wp2_with fail
      go_ret
      exact ⟨rfl, rfl⟩

set_option maxRecDepth 100000 in
set_option maxHeartbeats 1000000 in
theorem rleast_sk {w : World} {r : Nat} {v : Value} {cap : Nat} {L : List C} (h : Rf w r v cap (L.map ctrOf)) (ok : OkL cap L) : Calls Tryz.prog 93 #[ptr r] w fun e w' => e = .returned (.int .i64 (leastC cap L)) ∧ Keep (fun _ => False) w w' := by
  obtain ⟨a, c, b, off, rfl, hc, ha, hcell⟩ := h.cs.open_
  have c1 := h.c1
  have c0 := h.c0
  rw [List.length_map] at c1 ha hc
  have hl := ok.len
  have hl1 := ok.cap1
  have hl64 := ok.cap64
  have HLE : Hid (leastC cap L = if L.length < cap then 0 else match L.getLast? with | none => 0 | some x => x.hi) := Lib.hid rfl
  have HC := Lib.hid hcell
  clear h hcell ok hc
  obtain ⟨n, hn⟩ : ∃ n, n = L.length := ⟨_, rfl⟩
  rw [← hn] at c1 ha hl
  have HN := Lib.hid hn
  by_cases hlt : n < cap
  · have hltz : (n : Int) < (cap : Int) := by omega
    have e0 : leastC cap L = 0 := by rw [HLE.out, if_pos (by omega)]
    rw [e0]
    clear ha hn HLE e0
    go_enter Tryz.func93, Tryz.ntmps93
    go_wp2_with fail
    go_quiet (fail)
    go_wp2_with fail
    go_ret
    exact ⟨rfl, (Keep.refl _ w).drewN _⟩
  · have hltz : ¬ (n : Int) < (cap : Int) := by omega
    obtain rfl := ha (by omega)
    obtain ⟨m, rfl⟩ : ∃ m, n = m + 1 := ⟨n - 1, by omega⟩
    obtain ⟨x, hx⟩ : ∃ x, L[m]? = some x := ⟨_, List.getElem?_eq_getElem (by omega)⟩
    have q : w.cell? ⟨b, off + m * 3 + 1, none⟩ = some (.int .i64 x.hi) := (HC.out m (ctrOf x) (by rw [List.getElem?_map, hx]; rfl)).2.1
    have e0 : leastC cap L = x.hi := by
      rw [HLE.out, if_neg (by omega), List.getLast?_eq_getElem?, ← hn, Nat.add_sub_cancel, hx]
    rw [e0]
    have hm1 : IntKind.i64.wrap ((m : Int) + 1 - 1) = (m : Int) := by rw [IntKind.wrap_i64]; omega
    have hm2 : (m : Int) + 1 - 1 = (m : Int) := by omega
    have hmz : (m : Int) < (m : Int) + 1 := by omega
    have hm0 : (0 : Int) ≤ (m : Int) := by omega
    clear ha hn HLE e0 hx HC HN
    go_enter Tryz.func93, Tryz.ntmps93
    go_wp2_with fail
    go_quiet (fail)
    go_wp2_with fail
    go_quiet (fail)
    go_wp2_with fail
    go_ret
    exact ⟨rfl, ((Keep.refl _ w).drewN _).drewN _⟩

/-- Three cells are stored. -/
theorem set3 {W : World} {z : Nat} {u0 u1 u2 : Value} (h0 : W.cell? ⟨z, 0, none⟩ = some u0) (h1 : W.cell? ⟨z, 1, none⟩ = some u1) (h2 : W.cell? ⟨z, 2, none⟩ = some u2) (v0 v1 v2 : Value) :
    (((W.setCell ⟨z, 0, none⟩ v0).setCell ⟨z, 1, none⟩ v1).setCell ⟨z, 2, none⟩ v2).cell? ⟨z, 0, none⟩ = some v0 ∧ (((W.setCell ⟨z, 0, none⟩ v0).setCell ⟨z, 1, none⟩ v1).setCell ⟨z, 2, none⟩ v2).cell? ⟨z, 1, none⟩ = some v1 ∧ (((W.setCell ⟨z, 0, none⟩ v0).setCell ⟨z, 1, none⟩ v1).setCell ⟨z, 2, none⟩ v2).cell? ⟨z, 2, none⟩ = some v2 :=
  ⟨(cell_set_off (by decide)).trans ((cell_set_off (by decide)).trans (cell_set_same h0)), (cell_set_off (by decide)).trans (cell_set_same ((cell_set_off (by decide)).trans h1)), cell_set_same ((cell_set_off (by decide)).trans ((cell_set_off (by decide)).trans h2))⟩

/-- before, as a test. -/
def befB (x y : C) : Bool := decide (y.hi < x.hi) || (decide (x.hi = y.hi) && Op.bytesLess x.key.toList y.key.toList)
set_option maxRecDepth 100000 in
set_option maxHeartbeats 1000000 in
theorem before_any (x y : C) (ex ey : Int) (w : World) : Calls Tryz.prog 125 #[ctrV x.key x.hi ex, ctrV y.key y.hi ey] w fun e w' => e = .returned (.bool (befB x y)) ∧ Keep (fun _ => False) w w' := by
  have HK : Hid (Keep (fun _ => False) w ((w.alloc (.cells #[.string x.key, .int .i64 x.hi, .int .i64 ex] 124)).alloc (.cells #[.string y.key, .int .i64 y.hi, .int .i64 ey] 124))) := Lib.hid (((Keep.refl _ w).alloc _).alloc _)
  by_cases h1 : y.hi < x.hi
  · have HB : Hid (befB x y = true) := Lib.hid (by unfold befB; simp [h1])
    rw [HB.out]
    go_enter Tryz.func125, Tryz.ntmps125
    go_wp2_with fail
    go_ret
    exact ⟨rfl, HK.out⟩
  · by_cases h2 : x.hi = y.hi
    · have h3 : (x.hi == y.hi) = true := by simpa using h2
      cases h4 : Op.bytesLess x.key.toList y.key.toList with
      | true =>
        have HB : Hid (befB x y = true) := Lib.hid (by unfold befB; simp [h2, h4])
        rw [HB.out]
        clear h2
        go_enter Tryz.func125, Tryz.ntmps125
        go_wp2_with fail
        go_ret
        exact ⟨rfl, HK.out⟩
      | false =>
        have HB : Hid (befB x y = false) := Lib.hid (by unfold befB; simp [h2, h4])
        rw [HB.out]
        clear h2
        go_enter Tryz.func125, Tryz.ntmps125
        go_wp2_with fail
        go_ret
        exact ⟨rfl, HK.out⟩
    · have h3 : (x.hi == y.hi) = false := by simpa using h2
      have HB : Hid (befB x y = false) := Lib.hid (by unfold befB; simp [h1, h2])
      rw [HB.out]
      go_enter Tryz.func125, Tryz.ntmps125
      go_wp2_with fail
      go_ret
      exact ⟨rfl, HK.out⟩

theorem atC_take {L : List C} {key : ByteArray} {i : Nat} {x : C} (h : ∀ y ∈ L.take i, y.key ≠ key) (hx : L[i]? = some x) (hk : x.key = key) : atC L key = some x := by
  have e : L = L.take i ++ x :: L.drop (i + 1) := by
    have hl := (List.getElem?_eq_some_iff.1 hx)
    obtain ⟨h1, h2⟩ := hl
    rw [← h2, List.getElem_cons_drop, List.take_append_drop]
  unfold atC
  rw [e, List.find?_append, List.find?_eq_none.2 (fun y hy => by simpa using h y hy)]
  simp [hk]
theorem atC_all {L : List C} {key : ByteArray} (h : ∀ y ∈ L, y.key ≠ key) : atC L key = none := by
  unfold atC
  exact List.find?_eq_none.2 (fun y hy => by simpa using h y hy)
end Go.Proofs.YtplkmbfeeegaiaaGreatDoor.Sk

/-
  The reference's Ordered.
-/
namespace Go.Proofs.YtplkmbfeeegaiaaGreatDoor.Sk
open Go.RowKit Go.Shelf

theorem befB_iff (x y : C) : befB x y = true ↔ BefC x y := by
  unfold befB BefC
  simp only [Bool.or_eq_true, Bool.and_eq_true, decide_eq_true_eq, less_iff, ByteArray.toList_eq]
  exact ⟨fun h => h.imp id (fun ⟨a, b⟩ => ⟨a.symm, b⟩), fun h => h.imp id (fun ⟨a, b⟩ => ⟨a.symm, b⟩)⟩

/-- x goes before all of D, and behind all of A. -/
theorem ins_sorted {A D : List C} {x : C} (hs : (A ++ D).Pairwise BefC) (hA : ∀ y ∈ A, BefC y x) (hD : ∀ y ∈ D, BefC x y) : (A ++ x :: D).Pairwise BefC := by
  rw [List.pairwise_append] at hs ⊢
  refine ⟨hs.1, List.pairwise_cons.2 ⟨hD, hs.2.1⟩, fun a ha b hb => ?_⟩
  rcases List.mem_cons.1 hb with rfl | hb
  · exact hA a ha
  · exact hs.2.2 a ha b hb

theorem keys_apart {X : List C} (h : (X.map C.key).Nodup) {i : Nat} {x y : C} (hx : X[i]? = some x) (hy : y ∈ X.take i) : x.key ≠ y.key := by
  have e : X = X.take i ++ x :: X.drop (i + 1) := by
    obtain ⟨h1, h2⟩ := List.getElem?_eq_some_iff.1 hx
    rw [← h2, List.getElem_cons_drop, List.take_append_drop]
  rw [e, List.map_append, List.map_cons, List.nodup_append] at h
  intro e'
  exact h.2.2 y.key (List.mem_map_of_mem hy) x.key List.mem_cons_self e'.symm

/-- The list so far. -/
structure OrdR (w : World) (X : List C) (i : Nat) (vo : Value) (S : List C) (W : World) : Prop where
  k : Keep (fun _ => False) w W
  own : W.ownsRow w.heap.size 124 3 vo S.length (flat (S.map ctrOf))
  pm : S.Perm (X.take i)
  so : S.Pairwise BefC

theorem OrdR.keep {w W W' : World} {X S : List C} {i : Nat} {vo : Value} (h : OrdR w X i vo S W) (k : Keep (fun _ => False) W W') : OrdR w X i vo S W' :=
  ⟨h.k.trans k, ownsRow_keep h.own k (fun _ _ h => h), h.pm, h.so⟩
theorem OrdR.cs {w W : World} {X S : List C} {i : Nat} {vo : Value} (h : OrdR w X i vo S W) : Cs W vo (S.map ctrOf) := Cs.of_owns (by rw [List.length_map]; exact h.own)

def OrdPost (w : World) (X : List C) (e : Ending) (w' : World) : Prop := ∃ v, e = .returned v ∧ w'.ownsRow w.heap.size 124 3 v X.length (flat (X.map ctrOf)) ∧ Keep (fun _ => False) w w'

set_option maxRecDepth 100000 in
set_option maxHeartbeats 4000000 in
theorem rord_sk {w : World} {v : Value} {X : List C} (h : Cs w v (X.map ctrOf)) (hn : (X.map C.key).Nodup) (hl : X.length ≤ 64) : Calls Tryz.prog 92 #[v] w (OrdPost w (ordC X)) := by
  obtain ⟨a, c, b, off, rfl, hc, ha, hcell⟩ := h.open_
  rw [List.length_map] at ha hc
  rw [List.length_map]
  obtain ⟨n, hn'⟩ : ∃ n, n = X.length := ⟨_, rfl⟩
  rw [← hn'] at ha hl ⊢
  have HN := Lib.hid hn'
  have HA := Lib.hid ha
  have HC := Lib.hid hcell
  have HK := Lib.hid hn
  clear h hn' ha hcell hc hn
  go_enter Tryz.func92, Tryz.ntmps92
  go_wp2_with fail
  go_loopg [3, 4] n (fun gh vo vi wr => ∃ (i : Nat) (S : List C), vi = .int .i64 i ∧ i ≤ n ∧ n ≤ gh + i ∧ OrdR w X i vo S wr)
  case atStart => exact ⟨0, [], rfl, Nat.zero_le _, by omega, Keep.refl _ _, by simpa [flat] using World.ownsRow_nil w w.heap.size 124 3, by simp, List.Pairwise.nil⟩
  case round =>
    obtain ⟨i, S, rfl, hi, hgh, hor⟩ := hrel
    have hSl : S.length = i := by
      have := hor.pm.length_eq
      rw [List.length_take] at this
      have := HN.out
      omega
    obtain ⟨a3, c3, b3, off3, rfl, _, ha3, hcell3⟩ := hor.cs.open_
    rw [List.length_map, hSl] at ha3 hor
    rw [List.length_map, hSl]
    have HO := Lib.hid hor
    have HA3 := Lib.hid ha3
    have HC3 := Lib.hid hcell3
    have HSL := Lib.hid hSl
    clear hor ha3 hcell3 hSl
    by_cases hlt : i < n
    · have hltz : (i : Int) < (n : Int) := by omega
      have hi0 : (0 : Int) ≤ (i : Int) := by omega
      obtain rfl := HA.out (by omega)
      obtain ⟨x, hx⟩ : ∃ x, X[i]? = some x := ⟨_, List.getElem?_eq_getElem (by rw [← HN.out]; exact hlt)⟩
      have HX := Lib.hid hx
      have HQ := Lib.hid (HC.out i (ctrOf x) (by rw [List.getElem?_map, hx]; rfl))
      clear hx
      obtain ⟨Wo, hWo⟩ : ∃ Wo, Wo = wr := ⟨_, rfl⟩
      subst hWo
      go_wp2_with fail
      go_loopg [5] i (fun g2 vk wr2 => ∃ (k : Nat), vk = .int .i64 k ∧ k ≤ i ∧ k ≤ g2 ∧ Keep (fun _ => False) Wo wr2 ∧ Hid (∀ y ∈ S.drop k, BefC x y))
      case atStart => exact ⟨i, rfl, Nat.le_refl _, Nat.le_refl _, Keep.refl _ _, Lib.hid (by rw [List.drop_of_length_le (by rw [HSL.out]; exact Nat.le_refl _)]; simp)⟩
      case round =>
        obtain ⟨k, rfl, hk, hkg, hkp, HD⟩ := hrel
        have HKP := Lib.hid hkp
        clear hkp
        have HBX : Hid (∀ p : KW wr, p.val.cell? ⟨b, off + i * 3, none⟩ = some (.string x.key) ∧ p.val.cell? ⟨b, off + i * 3 + 1, none⟩ = some (.int .i64 x.hi) ∧ p.val.cell? ⟨b, off + i * 3 + 2, none⟩ = some (.int .i64 (x.hi - x.lo))) := Lib.hid (fun p => by
          have hk := (HO.out.k.trans HKP.out).trans p.k
          exact ⟨hk.cell HQ.out.1 (fun h => h), hk.cell HQ.out.2.1 (fun h => h), hk.cell HQ.out.2.2 (fun h => h)⟩)
        -- whether the search goes on
        by_cases hgo : ∃ kp y, k = kp + 1 ∧ S[kp]? = some y ∧ befB x y = true
        · obtain ⟨kp, y, hkk, hy, hby⟩ := hgo
          have HY : Hid (∀ p : KW wr, p.val.cell? ⟨b3, off3 + kp * 3, none⟩ = some (.string y.key) ∧ p.val.cell? ⟨b3, off3 + kp * 3 + 1, none⟩ = some (.int .i64 y.hi) ∧ p.val.cell? ⟨b3, off3 + kp * 3 + 2, none⟩ = some (.int .i64 (y.hi - y.lo))) := Lib.hid (fun p => by
            have hk := HKP.out.trans p.k
            have := HC3.out kp (ctrOf y) (by rw [List.getElem?_map, hy]; rfl)
            exact ⟨hk.cell this.1 (fun h => h), hk.cell this.2.1 (fun h => h), hk.cell this.2.2 (fun h => h)⟩)
          have HDN : Hid (∀ z ∈ S.drop kp, BefC x z) := Lib.hid (fun z hz => by
            have hl := (List.getElem?_eq_some_iff.1 hy)
            obtain ⟨h1, h2⟩ := hl
            rw [List.drop_eq_getElem_cons h1, h2, List.mem_cons] at hz
            rcases hz with rfl | hz
            · exact (befB_iff _ _).1 hby
            · exact HD.out z (by rw [hkk]; exact hz))
          have HB := Lib.hid hby
          obtain rfl := HA3.out (by omega)
          have hk0 : 0 < (k : Int) := by omega
          have hk1 : (k : Int) - 1 = (kp : Int) := by omega
          have hk2 : IntKind.i64.wrap ((k : Int) - 1) = (kp : Int) := by rw [IntKind.wrap_i64]; omega
          have hk3 : IntKind.i64.wrap (kp : Int) = (kp : Int) := by rw [IntKind.wrap_i64]; omega
          have hk4 : (kp : Int) < (i : Int) := by omega
          have hk5 : (0 : Int) ≤ (kp : Int) := by omega
          have x0 := fun p => (HBX.out p).1
          have x1 := fun p => (HBX.out p).2.1
          have x2 := fun p => (HBX.out p).2.2
          have y0 := fun p => (HY.out p).1
          have y1 := fun p => (HY.out p).2.1
          have y2 := fun p => (HY.out p).2.2
          clear hy hby
          go_wp2_with fail
          refine wp_region_quiet_kept (by kernel_rfl) (by kernel_rfl) ?_
          repeat (quiet_step ((go_at_call 125; refine Calls.kept_of (before_any x y _ _ _))))
          refine wpQuiet_nil ?_
          rintro _ ⟨p, rfl⟩
          have HP := Lib.hid (HKP.out.trans p.k)
          clear x0 x1 x2 y0 y1 y2 HBX HY
          generalize p.val = W2 at *
          rw [HB.out]
          go_wp2_with fail
          go_roundg kp
          case rel => exact ⟨kp, by go_num, by omega, by omega, HP.out, HDN⟩
          case measure => omega
        · have HIN : Hid (∀ z ∈ S.take k, BefC z x) := Lib.hid (fun z hz => by
            obtain ⟨kp, hkk⟩ : ∃ kp, k = kp + 1 := by
              cases k with
              | zero => simp at hz
              | succ kp => exact ⟨kp, rfl⟩
            have hkl : kp < S.length := by rw [HSL.out]; omega
            have hb : ¬ befB x S[kp] = true := fun hb => hgo ⟨kp, _, hkk, List.getElem?_eq_getElem hkl, hb⟩
            rw [befB_iff] at hb
            have hxm : ∀ y ∈ S, x.key ≠ y.key := fun y hy => keys_apart HK.out HX.out (HO.out.pm.mem_iff.1 hy)
            have hyx : BefC S[kp] x := (BefC.total (hxm _ (List.getElem_mem hkl))).resolve_left hb
            rw [hkk, List.take_add_one, List.getElem?_eq_getElem hkl, List.mem_append] at hz
            rcases hz with hz | hz
            · have hs := HO.out.so
              rw [← List.take_append_drop kp S, List.pairwise_append] at hs
              exact (hs.2.2 z hz _ (by rw [List.drop_eq_getElem_cons hkl]; exact List.mem_cons_self)).trans hyx
            · simp at hz; rw [hz]; exact hyx)
          have HS' : Hid ((S.take k ++ x :: S.drop k).Pairwise BefC ∧ (S.take k ++ x :: S.drop k).Perm (X.take (i + 1))) := Lib.hid (by
            refine ⟨ins_sorted (by rw [List.take_append_drop]; exact HO.out.so) HIN.out HD.out, ?_⟩
            rw [List.take_add_one, HX.out]
            refine List.perm_middle.trans ?_
            rw [List.take_append_drop]
            exact (HO.out.pm.cons x).trans (by simpa using (List.perm_append_singleton x (X.take i)).symm))
          have hcase : (¬ 0 < (k : Int)) ∨ ∃ kp y, k = kp + 1 ∧ S[kp]? = some y ∧ befB x y = false := by
            by_cases h0 : k = 0
            · exact .inl (by omega)
            · obtain ⟨kp, hkk⟩ : ∃ kp, k = kp + 1 := ⟨k - 1, by omega⟩
              have hkl : kp < S.length := by rw [HSL.out]; omega
              exact .inr ⟨kp, S[kp], hkk, List.getElem?_eq_getElem hkl, by
                cases hb : befB x S[kp] with
                | false => rfl
                | true => exact absurd ⟨kp, _, hkk, List.getElem?_eq_getElem hkl, hb⟩ hgo⟩
          clear hgo HIN
          have hk0' : (0 : Int) ≤ (k : Int) := by omega
          rcases hcase with hk0 | ⟨kp, y, hkk, hy, hby⟩
          · have hkd : decide (0 < k) = false := by rw [decide_eq_false_iff_not]; omega
            go_wp2_with fail
            go_quiet (fail)
            have HP := Lib.hid (HKP.out.trans ((Keep.refl (fun _ => False) wr).drewN nq))
            generalize wr.drewN nq = W2 at *
            clear HBX
            have HO2 := Lib.hid (HO.out.keep HP.out)
            have hSl := HSL.out
            obtain ⟨v1, hr1, hcs1, hob1⟩ := slice_hi HO2.out.cs k (by rw [List.length_map, HSL.out]; exact hk)
            obtain ⟨v2, W3, hr2, hown2, hkp2, hob2⟩ := app_ctrs W2 112 w.heap.size (.slice none 0 0) v1 [] _ (by simpa [flat] using World.ownsRow_nil W2 w.heap.size 124 3) hcs1 (by rw [List.length_take, List.length_map]; simp; omega) HO2.out.k.size
            have HK3 : Hid (Keep (fun _ => False) W2 W3) := Lib.hid (hkp2.mono (fun j e => by cases e))
            rw [List.nil_append] at hown2
            obtain ⟨v3, W4, hr3, hown3, hkp3, hob3, g3, cc3, hv3⟩ := app_ctr W3 112 w.heap.size v2 _ (ctrOf x) hown2 (by rw [List.length_take, List.length_map]; omega) (Nat.le_trans HO2.out.k.size HK3.out.size)
            have HV2 : Hid (∀ j, v2.ownBlock = some j → W2.heap.size ≤ j) := Lib.hid (fun j e => by
              rcases hob2 with h | h
              · rw [h] at e; cases e
              · rw [h] at e; cases e; exact Nat.le_refl _)
            have HO4 := Lib.hid (((HO2.out.cs.keep HK3.out (fun _ _ h => h)).keep hkp3 (fun j e h => by
              have h1 := (HO2.out.own.lt j e).2
              have h2 := HV2.out j h
              omega)))
            obtain ⟨v4, hr4, hcs4, hob4⟩ := slice_lo HO4.out k (by rw [List.length_map, HSL.out]; exact hk)
            obtain ⟨v5, W5, hr5, hown5, hkp5, hob5⟩ := app_ctrs W4 112 w.heap.size v3 v4 _ _ hown3 hcs4 (by rw [List.length_append, List.length_take, List.length_drop, List.length_map]; simp; omega) (Nat.le_trans (Nat.le_trans HO2.out.k.size HK3.out.size) hkp3.size)
            have HN5 : Hid (OrdR w X (i + 1) v5 (S.take k ++ x :: S.drop k) W5) := Lib.hid (by
              refine ⟨((HO2.out.k.trans HK3.out).trans' hkp3 (fun j e => .inr (hown2.lt j e).1)).trans' hkp5 (fun j e => .inr (hown3.lt j e).1), ?_, HS'.out.2, HS'.out.1⟩
              have e : (S.take k ++ x :: S.drop k).map ctrOf = ((S.map ctrOf).take k ++ [ctrOf x]) ++ (S.map ctrOf).drop k := by simp
              rw [e, ← List.length_map (f := ctrOf), e]
              exact hown5)
            have hxc : ∀ o u, w.cell? ⟨b, o, none⟩ = some u → W3.cell? ⟨b, o, none⟩ = some u := fun o u h => HK3.out.cell (HO2.out.k.cell h (fun h => h)) (fun h => h)
            have z0 : W3.cell? ⟨b, off + i * 3, none⟩ = some (.string x.key) := hxc _ _ HQ.out.1
            have z1 : W3.cell? ⟨b, off + i * 3 + 1, none⟩ = some (.int .i64 x.hi) := hxc _ _ HQ.out.2.1
            have z2 : W3.cell? ⟨b, off + i * 3 + 2, none⟩ = some (.int .i64 (x.hi - x.lo)) := hxc _ _ HQ.out.2.2
            have hr3' : (Builtin.append_ #[112, 112] 112 #[v2, .slice (some ⟨W3.heap.size, 0, none⟩) 1 1]).run Tryz.prog (W3.alloc (.cells #[.string x.key, .int .i64 x.hi, .int .i64 (x.hi - x.lo)] 124)) = .ok v3 W4 := hr3
            clear hSl hxc hcs1 hob1 hown2 hkp2 hob2 hr3 hown3 hkp3 hob3 hv3 hcs4 hob4 hown5 hkp5 hob5
            go_wp2_with (first
              | refine wpList_slice rfl 112 (.tmp 32) none (some (.tmp 33)) rfl hr1 ?_
              | (at_builtin; refine wpList_app rfl (.tmp 31) (.tmp 34) 112 rfl rfl rfl hr2 ?_)
              | (at_builtin; refine wpList_app rfl (.tmp 36) (.tmp 41) 112 rfl rfl rfl hr3' ?_)
              | refine wpList_slice rfl 112 (.tmp 44) (some (.tmp 45)) none rfl hr4 ?_
              | (at_builtin; refine wpList_app rfl (.tmp 43) (.tmp 46) 112 rfl rfl rfl hr5 ?_))
            clear z0 z1 z2 hr1 hr2 hr3' hr4 hr5
            go_roundg (n - (i + 1))
            case rel => exact ⟨i + 1, _, by go_num, by omega, by omega, HN5.out⟩
            case measure => omega
          · have HY : Hid (∀ p : KW wr, p.val.cell? ⟨b3, off3 + kp * 3, none⟩ = some (.string y.key) ∧ p.val.cell? ⟨b3, off3 + kp * 3 + 1, none⟩ = some (.int .i64 y.hi) ∧ p.val.cell? ⟨b3, off3 + kp * 3 + 2, none⟩ = some (.int .i64 (y.hi - y.lo))) := Lib.hid (fun p => by
              have hk := HKP.out.trans p.k
              have := HC3.out kp (ctrOf y) (by rw [List.getElem?_map, hy]; rfl)
              exact ⟨hk.cell this.1 (fun h => h), hk.cell this.2.1 (fun h => h), hk.cell this.2.2 (fun h => h)⟩)
            have HB := Lib.hid hby
            obtain rfl := HA3.out (by omega)
            have hk0 : 0 < (k : Int) := by omega
            have hk0n : 0 < k := by omega
            have hk1 : (k : Int) - 1 = (kp : Int) := by omega
            have hk2 : IntKind.i64.wrap ((k : Int) - 1) = (kp : Int) := by rw [IntKind.wrap_i64]; omega
            have hk3 : IntKind.i64.wrap (kp : Int) = (kp : Int) := by rw [IntKind.wrap_i64]; omega
            have hk4 : (kp : Int) < (i : Int) := by omega
            have hk5 : (0 : Int) ≤ (kp : Int) := by omega
            have x0 := fun p => (HBX.out p).1
            have x1 := fun p => (HBX.out p).2.1
            have x2 := fun p => (HBX.out p).2.2
            have y0 := fun p => (HY.out p).1
            have y1 := fun p => (HY.out p).2.1
            have y2 := fun p => (HY.out p).2.2
            clear hy hby hkk
            go_wp2_with fail
            refine wp_region_quiet_kept (by kernel_rfl) (by kernel_rfl) ?_
            repeat (quiet_step ((go_at_call 125; refine Calls.kept_of (before_any x y _ _ _))))
            refine wpQuiet_nil ?_
            rintro _ ⟨p, rfl⟩
            have HP := Lib.hid (HKP.out.trans p.k)
            clear x0 x1 x2 y0 y1 y2 HBX HY hk1 hk2 hk3 hk4 hk5
            generalize p.val = W2 at *
            rw [HB.out]
            have HO2 := Lib.hid (HO.out.keep HP.out)
            have hSl := HSL.out
            obtain ⟨v1, hr1, hcs1, hob1⟩ := slice_hi HO2.out.cs k (by rw [List.length_map, HSL.out]; exact hk)
            obtain ⟨v2, W3, hr2, hown2, hkp2, hob2⟩ := app_ctrs W2 112 w.heap.size (.slice none 0 0) v1 [] _ (by simpa [flat] using World.ownsRow_nil W2 w.heap.size 124 3) hcs1 (by rw [List.length_take, List.length_map]; simp; omega) HO2.out.k.size
            have HK3 : Hid (Keep (fun _ => False) W2 W3) := Lib.hid (hkp2.mono (fun j e => by cases e))
            rw [List.nil_append] at hown2
            obtain ⟨v3, W4, hr3, hown3, hkp3, hob3, g3, cc3, hv3⟩ := app_ctr W3 112 w.heap.size v2 _ (ctrOf x) hown2 (by rw [List.length_take, List.length_map]; omega) (Nat.le_trans HO2.out.k.size HK3.out.size)
            have HV2 : Hid (∀ j, v2.ownBlock = some j → W2.heap.size ≤ j) := Lib.hid (fun j e => by
              rcases hob2 with h | h
              · rw [h] at e; cases e
              · rw [h] at e; cases e; exact Nat.le_refl _)
            have HO4 := Lib.hid (((HO2.out.cs.keep HK3.out (fun _ _ h => h)).keep hkp3 (fun j e h => by
              have h1 := (HO2.out.own.lt j e).2
              have h2 := HV2.out j h
              omega)))
            obtain ⟨v4, hr4, hcs4, hob4⟩ := slice_lo HO4.out k (by rw [List.length_map, HSL.out]; exact hk)
            obtain ⟨v5, W5, hr5, hown5, hkp5, hob5⟩ := app_ctrs W4 112 w.heap.size v3 v4 _ _ hown3 hcs4 (by rw [List.length_append, List.length_take, List.length_drop, List.length_map]; simp; omega) (Nat.le_trans (Nat.le_trans HO2.out.k.size HK3.out.size) hkp3.size)
            have HN5 : Hid (OrdR w X (i + 1) v5 (S.take k ++ x :: S.drop k) W5) := Lib.hid (by
              refine ⟨((HO2.out.k.trans HK3.out).trans' hkp3 (fun j e => .inr (hown2.lt j e).1)).trans' hkp5 (fun j e => .inr (hown3.lt j e).1), ?_, HS'.out.2, HS'.out.1⟩
              have e : (S.take k ++ x :: S.drop k).map ctrOf = ((S.map ctrOf).take k ++ [ctrOf x]) ++ (S.map ctrOf).drop k := by simp
              rw [e, ← List.length_map (f := ctrOf), e]
              exact hown5)
            have hxc : ∀ o u, w.cell? ⟨b, o, none⟩ = some u → W3.cell? ⟨b, o, none⟩ = some u := fun o u h => HK3.out.cell (HO2.out.k.cell h (fun h => h)) (fun h => h)
            have z0 : W3.cell? ⟨b, off + i * 3, none⟩ = some (.string x.key) := hxc _ _ HQ.out.1
            have z1 : W3.cell? ⟨b, off + i * 3 + 1, none⟩ = some (.int .i64 x.hi) := hxc _ _ HQ.out.2.1
            have z2 : W3.cell? ⟨b, off + i * 3 + 2, none⟩ = some (.int .i64 (x.hi - x.lo)) := hxc _ _ HQ.out.2.2
            have hr3' : (Builtin.append_ #[112, 112] 112 #[v2, .slice (some ⟨W3.heap.size, 0, none⟩) 1 1]).run Tryz.prog (W3.alloc (.cells #[.string x.key, .int .i64 x.hi, .int .i64 (x.hi - x.lo)] 124)) = .ok v3 W4 := hr3
            clear hSl hxc hcs1 hob1 hown2 hkp2 hob2 hr3 hown3 hkp3 hob3 hv3 hcs4 hob4 hown5 hkp5 hob5
            go_wp2_with (first
              | refine wpList_slice rfl 112 (.tmp 32) none (some (.tmp 33)) rfl hr1 ?_
              | (at_builtin; refine wpList_app rfl (.tmp 31) (.tmp 34) 112 rfl rfl rfl hr2 ?_)
              | (at_builtin; refine wpList_app rfl (.tmp 36) (.tmp 41) 112 rfl rfl rfl hr3' ?_)
              | refine wpList_slice rfl 112 (.tmp 44) (some (.tmp 45)) none rfl hr4 ?_
              | (at_builtin; refine wpList_app rfl (.tmp 43) (.tmp 46) 112 rfl rfl rfl hr5 ?_))
            clear z0 z1 z2 hr1 hr2 hr3' hr4 hr5
            go_roundg (n - (i + 1))
            case rel => exact ⟨i + 1, _, by go_num, by omega, by omega, HN5.out⟩
            case measure => omega
    · have hltz : ¬ (i : Int) < (n : Int) := by omega
      go_wp2_with fail
      go_ret
      refine ⟨_, rfl, ?_, HO.out.k⟩
      have e : S = ordC X := by
        have hp := HO.out.pm
        rw [List.take_of_length_le (by have := HN.out; omega)] at hp
        exact ordC_of_sorted hp HO.out.so ((hp.map C.key).nodup_iff.2 HK.out)
      rw [← e]
      exact HO.out.own
end Go.Proofs.YtplkmbfeeegaiaaGreatDoor.Sk

/-
  The reference's Top and Add.
-/
namespace Go.Proofs.YtplkmbfeeegaiaaGreatDoor.Sk
open Go.RowKit Go.Shelf

theorem wp_app {P : Program} {o : Oper} {a : Act} {w w' : World} {K : Act → World → Prop} {Q : Exit → Act → World → Prop} {v v2 v' : Value}
    (s x : Operand) (t : TypeId) (hop : o.op = Op.call { callee := Callee.builtin Builtin.append, args := #[s, x], argTypes := #[t, t] })
    (hs : a.eval s = v) (hx : a.eval x = v2) (hrun : (Builtin.append_ #[t, t] o.type #[v, v2]).run P w = .ok v' w') (hK : K (a.put o.dst v') w') : o.wp P a w K Q := by
  unfold Oper.wp
  simp [execOp, hop, resolve, invoke, builtin, hs, hx, hrun, Result.andThen]
  exact hK

theorem Cells3.take {W : World} {b off c : Nat} {l : List K3} (h : Cells3 W b off l) {k : Nat} (hk : k ≤ l.length) (hc : l.length ≤ c) : Cs W (.slice (some ⟨b, off, none⟩) k c) (l.take k) := by
  have hlt : (l.take k).length = k := by rw [List.length_take]; omega
  refine .inr ⟨b, off, c, by rw [hlt], by omega, fun j x hj => h j x ?_⟩
  rw [List.getElem?_take] at hj
  split at hj
  · exact hj
  · cases hj

theorem topC_eq (L : List C) (n : Int) {K : Nat} (h : max 0 (min n (L.length : Int)) = (K : Int)) : (L.map ctrOf).take K = topC L n := by
  unfold topC
  rw [← List.map_take]
  congr 1
  by_cases h1 : n ≤ (L.length : Int)
  · have : K = n.toNat := by omega
    rw [this]
  · have : K = L.length := by omega
    rw [this, List.take_length, List.take_of_length_le (by omega)]

set_option maxRecDepth 100000 in
set_option maxHeartbeats 2000000 in
theorem rtop_sk {w : World} {r : Nat} {v : Value} {cap : Nat} {L : List C} (h : Rf w r v cap (L.map ctrOf)) (hl : L.length ≤ 64) (n : Int) : Calls Tryz.prog 96 #[ptr r, .int .i64 n] w (TopPost w (topC L n)) := by
  obtain ⟨K, hK⟩ : ∃ K : Nat, max 0 (min n (L.length : Int)) = (K : Int) := ⟨(max 0 (min n (L.length : Int))).toNat, by omega⟩
  have HT := Lib.hid (topC_eq L n hK)
  have hKl : K ≤ L.length := by omega
  obtain ⟨m, hm⟩ : ∃ m, min n (L.length : Int) = m := ⟨_, rfl⟩
  rw [hm] at hK
  have hK0 : (0 : Int) ≤ (K : Int) := by omega
  have HTP : Hid (∀ (src : Value), Cs w src (topC L n) → ∃ v' w', (Builtin.append_ #[112, 112] 112 #[.slice (some ⟨w.heap.size, 0, none⟩) 0 0, src]).run Tryz.prog (w.drew.alloc (.cells #[] 124)) = .ok v' w' ∧ TopPost w (topC L n) (.returned v') w') := Lib.hid (fun src hs => by
    have k1 : Keep (fun _ => False) w (w.drew.alloc (.cells #[] 124)) := (Keep.refl _ w).drew.alloc _
    obtain ⟨v', w', h1, h2, h3, h4⟩ := app_ctrs (w.drew.alloc (.cells #[] 124)) 112 w.heap.size (.slice (some ⟨w.heap.size, 0, none⟩) 0 0) src [] _ (World.ownsRow_lit w.drew #[] 0 (Nat.le_refl _) (by decide) rfl) (hs.keep k1 (fun _ _ h => h)) (by
      rw [← HT.out, List.length_take, List.length_map]; simp; omega) (by simp)
    exact ⟨v', w', h1, v', rfl, by simpa using h2, k1.trans' h3 (fun j e => by cases e; exact .inr (Nat.le_refl _))⟩)
  rcases h.cs with ⟨rfl, hnil⟩ | ⟨b, off, c, rfl, hc, hcell⟩
  · have hN0 : L.length = 0 := by simpa using hnil
    obtain rfl : K = 0 := by omega
    rw [hN0] at hm
    have c1 : ∀ p : KA (fun _ => False) w, p.val.cell? ⟨r, 1, none⟩ = some (.slice none 0 0) := fun p => p.k.cell h.c1 (fun h => h)
    obtain ⟨v', w', hr, hpost⟩ := HTP.out (.slice none 0 0) (.inl ⟨rfl, by rw [← HT.out]; simp⟩)
    have HPO := Lib.hid hpost
    simp at hm hK
    clear h HTP hpost HT hN0 hnil hKl hK0
    go_enter Tryz.func96, Tryz.ntmps96
    go_wp2_with fail
    refine wp_region_walk [(true, 1), (true, 2), (true, 3), (true, 4), (true, 5), (true, 6), (true, 7), (true, 8), (true, 9), (true, 10), (true, 11), (true, 12), (true, 13), (false, 0), (false, 14), (false, 15)] (inKA (fun _ => False) w) (by kernel_rfl) (by kernel_rfl) ?_
    iterate 13 (refine walkW_read rfl (fun K hK => ?_); go_simp; refine hK _ ?_; clear hK K)
    clear c1
    refine walkW_do rfl (inKA.of (Keep.refl _ w).drew) (fun K hK => ?_)
    go_simp
    refine hK _ _ ?_; clear hK K
    refine walkW_do rfl (inKA.of ((Keep.refl _ w).drew.alloc _)) (fun K hK => ?_)
    rw [if_pos (by simp [Region.wanted])]
    refine wp_app (.tmp 5) (.tmp 18) 112 rfl rfl rfl hr (hK _ _ ?_); clear hK K
    obtain ⟨vv, hvv, hown, hkp⟩ := HPO.out
    refine walkW_do rfl (inKA.of hkp) (fun K hK => ?_)
    go_simp
    refine hK _ _ ?_; clear hK K
    refine ⟨inKA.of hkp, ?_⟩
    go_wp2_with fail
    go_ret
    exact HPO.out
  · rw [List.length_map] at hc
    have c1 : ∀ p : KA (fun _ => False) w, p.val.cell? ⟨r, 1, none⟩ = some (.slice (some ⟨b, off, none⟩) L.length c) := fun p => by
      have := p.k.cell h.c1 (fun h => h)
      rwa [List.length_map] at this
    have hKc : (K : Int) ≤ (c : Int) := by omega
    obtain ⟨v', w', hr, hpost⟩ := HTP.out (.slice (some ⟨b, off, none⟩) K c) (by rw [← HT.out]; exact hcell.take (by rw [List.length_map]; exact hKl) (by rw [List.length_map]; exact hc))
    have HPO := Lib.hid hpost
    clear h hcell HTP hpost HT
    generalize L.length = N at *
    go_enter Tryz.func96, Tryz.ntmps96
    go_wp2_with fail
    refine wp_region_walk [(true, 1), (true, 2), (true, 3), (true, 4), (true, 5), (true, 6), (true, 7), (true, 8), (true, 9), (true, 10), (true, 11), (true, 12), (true, 13), (false, 0), (false, 14), (false, 15)] (inKA (fun _ => False) w) (by kernel_rfl) (by kernel_rfl) ?_
    iterate 13 (refine walkW_read rfl (fun K hK => ?_); go_simp; refine hK _ ?_; clear hK K)
    clear c1
    refine walkW_do rfl (inKA.of (Keep.refl _ w).drew) (fun K hK => ?_)
    go_simp
    refine hK _ _ ?_; clear hK K
    refine walkW_do rfl (inKA.of ((Keep.refl _ w).drew.alloc _)) (fun K hK => ?_)
    rw [if_pos (by simp [Region.wanted])]
    refine wp_app (.tmp 5) (.tmp 18) 112 rfl rfl rfl hr (hK _ _ ?_); clear hK K
    obtain ⟨vv, hvv, hown, hkp⟩ := HPO.out
    refine walkW_do rfl (inKA.of hkp) (fun K hK => ?_)
    go_simp
    refine hK _ _ ?_; clear hK K
    refine ⟨inKA.of hkp, ?_⟩
    go_wp2_with fail
    go_ret
    exact HPO.out
end Go.Proofs.YtplkmbfeeegaiaaGreatDoor.Sk

/-
  The reference's Add.
-/
namespace Go.Proofs.YtplkmbfeeegaiaaGreatDoor.Sk
open Go.RowKit Go.Shelf

theorem ord_snoc {A : List C} {x : C} (hs : A.Pairwise BefC) (hk : ((A ++ [x]).map C.key).Nodup) : ordC (A ++ [x]) = insC x A := by
  have hp : (insC x A).Perm (A ++ [x]) := (insC_perm x A).trans (List.perm_append_singleton x A).symm
  have hne : ∀ y ∈ A, y.key ≠ x.key := fun y hy e => by
    rw [List.map_append, List.nodup_append] at hk
    exact hk.2.2 y.key (List.mem_map_of_mem hy) x.key (by simp) e
  exact (ordC_of_sorted hp (insC_sorted hs hne) ((hp.map C.key).nodup_iff.2 hk)).symm

theorem set_perm {L : List C} (hn : (L.map C.key).Nodup) {i : Nat} {x x' : C} (hx : L[i]? = some x) : (L.set i x').Perm (x' :: delC L x.key) := by
  have e : L = L.take i ++ x :: L.drop (i + 1) := by
    obtain ⟨h1, h2⟩ := List.getElem?_eq_some_iff.1 hx
    rw [← h2, List.getElem_cons_drop, List.take_append_drop]
  have hl : (L.take i).length = i := by have := (List.getElem?_eq_some_iff.1 hx).1; rw [List.length_take]; omega
  generalize L.take i = A at *
  generalize L.drop (i + 1) = B at *
  subst e
  have hA : delC (A ++ x :: B) x.key = A ++ B := by
    rw [List.map_append, List.map_cons, List.nodup_append, List.nodup_cons] at hn
    unfold delC
    rw [List.filter_append, List.filter_cons]
    simp only [ne_eq, not_true_eq_false, decide_false, Bool.false_eq_true, if_false]
    rw [List.filter_eq_self.2 (fun y hy => by
      rw [decide_eq_true_eq]; intro e
      exact hn.2.2 y.key (List.mem_map_of_mem hy) x.key (by simp) e), List.filter_eq_self.2 (fun y hy => by
      rw [decide_eq_true_eq]; intro e
      exact hn.2.1.1 (by rw [← e]; exact List.mem_map_of_mem hy))]
  rw [hA, List.set_append_right (h := by omega), hl, Nat.sub_self, List.set_cons_zero]
  exact List.perm_middle
theorem ord_set {L : List C} (hn : (L.map C.key).Nodup) (hs : L.Pairwise BefC) {i : Nat} {x x' : C} (hx : L[i]? = some x) (hk : x'.key = x.key) : ordC (L.set i x') = insC x' (delC L x.key) ∧ ((L.set i x').map C.key).Nodup := by
  have hp := set_perm hn hx (x' := x')
  have hd := delC_keys hn x.key
  have hnd : ((x' :: delC L x.key).map C.key).Nodup := by
    rw [List.map_cons, List.nodup_cons]
    exact ⟨fun hm => by obtain ⟨y, hy, e⟩ := List.mem_map.1 hm; exact (mem_delC.1 hy).2 (e.trans hk), hd⟩
  have hnd' := (hp.map C.key).nodup_iff.2 hnd
  refine ⟨(ordC_of_sorted ((insC_perm x' _).trans hp.symm) (insC_sorted (hs.sublist List.filter_sublist) (fun y hy e => (mem_delC.1 hy).2 (e.trans hk))) (((insC_perm x' _).map C.key).nodup_iff.2 hnd)).symm, hnd'⟩

theorem flat_set : ∀ (l : List K3) (i : Nat) (y : K3) (m : Int), l[i]? = some y → (flat l).set (i * 3 + 1) (.int .i64 m) = flat (l.set i ⟨y.key, m, y.e⟩)
  | [], i, y, m, h => by simp at h
  | z :: r, 0, y, m, h => by
    simp at h
    subst h
    simp [flat]
  | z :: r, i + 1, y, m, h => by
    have h' : r[i]? = some y := by simpa using h
    have e : (i + 1) * 3 + 1 = (i * 3 + 1) + 1 + 1 + 1 := by omega
    rw [e]
    simp only [flat, List.set_cons_succ]
    rw [flat_set r i y m h']

theorem owns_trunc {W : World} {lo : Nat} {g n cap m : Nat} {l : List K3} (h : W.ownsRow lo 124 3 (.slice (some ⟨g, 0, none⟩) n cap) n (flat l)) (hm : m ≤ n) (hl : l.length = n) : W.ownsRow lo 124 3 (.slice (some ⟨g, 0, none⟩) m cap) m (flat (l.take m)) := by
  rcases h.2 with ⟨h', _⟩ | ⟨g', cap', cur, h', hb, hg, hnc, hcm, hcs, htake⟩
  · simp at h'
  · simp only [Value.slice.injEq, Option.some.injEq, Addr.mk.injEq, and_true, true_and] at h'
    obtain ⟨rfl, rfl⟩ := h'
    refine ⟨by rw [flat_length, List.length_take]; omega, .inr ⟨g, cap, cur, rfl, hb, hg, by omega, hcm, hcs, ?_⟩⟩
    have e : flat l = flat (l.take m) ++ flat (l.drop m) := by rw [← flat_append, List.take_append_drop]
    have hlen : (flat (l.take m)).length = m * 3 := by rw [flat_length, List.length_take]; omega
    have e2 : (cur.toList.take (n * 3)).take (m * 3) = cur.toList.take (m * 3) := by rw [List.take_take]; congr 1; omega
    rw [← e2, htake, e, List.take_append_of_le_length (by omega), List.take_of_length_le (by omega)]

theorem owns_slice {W : World} {lo : Nat} {e : TypeId} {z : Nat} {v : Value} {n : Nat} {xs : List Value} (h : W.ownsRow lo e z v n xs) : ∃ a m c, v = .slice a m c := by
  rcases h.2 with ⟨rfl, _⟩ | ⟨g, cap, cur, rfl, _⟩
  · exact ⟨_, _, _, rfl⟩
  · exact ⟨_, _, _, rfl⟩

/-- The sketch is given its new counters. -/
theorem rf_store {W W' : World} {r : Nat} {v0 v' : Value} {cap lo : Nat} {l0 : List K3} {Y : List C} (h : Rf W r v0 cap l0) (k : Keep (fun _ => False) W W') (hlo : W.heap.size ≤ lo) (hown : W'.ownsRow lo 124 3 v' Y.length (flat (Y.map ctrOf))) :
    Rf (W'.setCell ⟨r, 1, none⟩ v') r v' cap (Y.map ctrOf) ∧ ∀ b, v'.ownBlock = some b → lo ≤ b := by
  have h' := h.kept k
  have hr : r < W.heap.size := World.block_lt_of_cell? _ _ h.c1
  have hb : ∀ b, v'.ownBlock = some b → lo ≤ b := fun b hb => (hown.lt b hb).1
  have ks : Keep (fun k => k = r) W' (W'.setCell ⟨r, 1, none⟩ v') := (Keep.refl _ W').setCell (p := ⟨r, 1, none⟩) _ (.inl rfl)
  refine ⟨⟨(cell_set_off (by decide)).trans h'.c0, cell_set_same h'.c1, by rw [World.frozen?_setCell]; exact h'.fr, (Cs.of_owns (by rw [List.length_map]; exact hown)).keep ks (fun b e => ?_), fun b e => ⟨?_, ?_⟩⟩, hb⟩
  · have := hb b e; omega
  · have := hb b e; omega
  · have := (hown.lt b e).2; simpa using this

def RPost (w : World) (r cap : Nat) (Y : List C) (e : Ending) (w' : World) : Prop := ∃ v', e = .returned (.int .i64 0) ∧ Rf w' r v' cap (Y.map ctrOf) ∧ Keep (fun k => k = r) w w' ∧ ∀ b, v'.ownBlock = some b → w.heap.size ≤ b

theorem rpost {w W W' : World} {r : Nat} {v0 v' : Value} {cap lo : Nat} {l0 : List K3} {Y : List C} (h : Rf W r v0 cap l0) (k0 : Keep (fun _ => False) w W) (k : Keep (fun _ => False) W W') (hlo : W.heap.size ≤ lo) (hown : W'.ownsRow lo 124 3 v' Y.length (flat (Y.map ctrOf))) :
    RPost w r cap Y (.returned (.int .i64 0)) (W'.setCell ⟨r, 1, none⟩ v') := by
  obtain ⟨h1, h2⟩ := rf_store h k hlo hown
  exact ⟨v', rfl, h1, ((k0.trans k).mono (fun _ h => h.elim)).setCell (p := ⟨r, 1, none⟩) _ (.inl rfl), fun b e => Nat.le_trans (Nat.le_trans k0.size hlo) (h2 b e)⟩

set_option maxRecDepth 100000 in
set_option maxHeartbeats 1000000 in
theorem radd_bad {w : World} {r : Nat} {v : Value} {cap : Nat} {L : List C} (h : Rf w r v cap (L.map ctrOf)) (ok : OkL cap L) (key : ByteArray) (n : Int) (hn : n < 1 ∨ 1000000000 < n ∨ 4611686018427387903 - n < sumH L) : Calls Tryz.prog 45 #[ptr r, .string key, .int .i64 n] w fun e w' => e = .returned (.int .i64 140) ∧ w = w' := by
  have HT := Lib.hid (rtotal_sk h ok)
  clear h ok
  by_cases h1 : n < 1
  · clear hn
    go_enter Tryz.func45, Tryz.ntmps45
    go_wp2_with fail
    go_ret
    exact ⟨rfl, rfl⟩
  · by_cases h2 : 1000000000 < n
    · clear hn
      go_enter Tryz.func45, Tryz.ntmps45
      go_wp2_with fail
      go_ret
      exact ⟨rfl, rfl⟩
    · have h3 : 4611686018427387903 - n < sumH L := by omega
      clear hn
      go_enter Tryz.func45, Tryz.ntmps45
      go_wp2_with fail
      with_reducible refine HT.out.mono ?_
      rintro e W ⟨rfl, rfl⟩
      go_wp2_with fail
      go_ret
      exact ⟨rfl, rfl⟩
end Go.Proofs.YtplkmbfeeegaiaaGreatDoor.Sk

/-
  The reference's Add.
-/
namespace Go.Proofs.YtplkmbfeeegaiaaGreatDoor.Sk
open Go.RowKit Go.Shelf

set_option maxRecDepth 100000 in
set_option maxHeartbeats 4000000 in
theorem radd_ok {w : World} {r : Nat} {v : Value} {cap : Nat} {L : List C} (h : Rf w r v cap (L.map ctrOf)) (ok : OkL cap L) (key : ByteArray) (n : Int) (h1 : ¬ n < 1) (h2 : ¬ 1000000000 < n) (h3 : ¬ 4611686018427387903 - n < sumH L) :
    Calls Tryz.prog 45 #[ptr r, .string key, .int .i64 n] w (RPost w r cap (addC cap L key n)) := by
  have HT := Lib.hid (rtotal_sk h ok)
  have H := Lib.hid h
  have HOK := Lib.hid ok
  have hl64 : L.length ≤ 64 := Nat.le_trans ok.len ok.cap64
  have hlc := ok.len
  have hc64 := ok.cap64
  have hc1 := ok.cap1
  have k1 : Keep (fun _ => False) w (w.alloc (.cells #[] 124)) := (Keep.refl _ w).alloc _
  obtain ⟨v2, W2, hr2, hown2, hkp2, hob2⟩ := app_ctrs (w.alloc (.cells #[] 124)) 112 w.heap.size (.slice (some ⟨w.heap.size, 0, none⟩) 0 0) v [] _ (World.ownsRow_lit w #[] 0 (Nat.le_refl _) (by decide) rfl) (h.cs.keep k1 (fun _ _ h => h)) (by
      rw [List.length_map]; simp; omega) (by simp)
  rw [List.nil_append] at hown2
  have HK2 : Hid (Keep (fun _ => False) w W2) := Lib.hid (k1.trans' hkp2 (fun j e => by cases e; exact .inr (Nat.le_refl _)))
  have c1 := k1.cell h.c1 (fun h => h)
  have hv2 : ∃ a c g, v2 = .slice a L.length c ∧ (0 < L.length → a = some ⟨g, 0, none⟩) ∧ L.length ≤ c := by
    rcases hown2.2 with ⟨rfl, hx⟩ | ⟨g, cp, cur, rfl, _, _, hc, _⟩
    · rw [List.length_map] at hx
      exact ⟨none, 0, 0, by rw [hx], fun h => by omega, by omega⟩
    · rw [List.length_map] at hc ⊢
      exact ⟨some ⟨g, 0, none⟩, cp, g, rfl, fun _ => rfl, hc⟩
  obtain ⟨a2, cc2, g, rfl, ha2, hcc⟩ := hv2
  rw [List.length_map] at hown2
  have HOWN := Lib.hid hown2
  have HA := Lib.hid ha2
  obtain ⟨N, hN⟩ : ∃ N, N = L.length := ⟨_, rfl⟩
  rw [← hN] at hl64 hlc hr2 hcc
  have HN := Lib.hid hN
  clear h ok k1 hkp2 hob2 hown2 ha2 hN
  go_enter Tryz.func45, Tryz.ntmps45
  go_wp2_with fail
  with_reducible refine HT.out.mono ?_
  rintro e W ⟨rfl, rfl⟩
  clear HT
  go_wp2_with (at_builtin; refine wpList_app rfl (.tmp 23) (.tmp 27) 112 rfl rfl rfl hr2 ?_)
  clear hr2 c1
  go_loopg [8] N (fun gh vi wr => ∃ i : Nat, vi = .int .i64 i ∧ i ≤ N ∧ N ≤ gh + i ∧ wr = W2 ∧ Hid (∀ y ∈ L.take i, y.key ≠ key))
  case atStart => exact ⟨0, rfl, Nat.zero_le _, by omega, rfl, Lib.hid (by simp)⟩
  case round =>
    obtain ⟨i, rfl, hi, hgh, rfl, HNO⟩ := hrel
    by_cases hlt : i < N
    · have hltz : (i : Int) < (N : Int) := by omega
      have hi0 : (0 : Int) ≤ (i : Int) := by omega
      obtain rfl := HA.out (by rw [← HN.out]; omega)
      obtain ⟨x, hx⟩ : ∃ x, L[i]? = some x := ⟨_, List.getElem?_eq_getElem (by rw [← HN.out]; exact hlt)⟩
      have hgx := flat_get (L.map ctrOf) i (ctrOf x) (by rw [List.getElem?_map, hx]; rfl)
      have q0 : wr.cell? ⟨g, i * 3, none⟩ = some (.string x.key) := by rw [HOWN.out.cellAt (i * 3) (by rw [← HN.out]; omega)]; exact hgx.1
      have q1 : wr.cell? ⟨g, i * 3 + 1, none⟩ = some (.int .i64 x.hi) := by rw [HOWN.out.cellAt (i * 3 + 1) (by rw [← HN.out]; omega)]; exact hgx.2.1
      have qf := HOWN.out.frozenAt (i * 3 + 1)
      clear hgx
      by_cases hk : x.key = key
      · have hkb : (x.key.toList == key.toList) = true := by rw [hk]; simp
        have hpx := HOK.out.pos x (List.mem_of_getElem? hx)
        have hmx := HOK.out.mem (List.mem_of_getElem? hx)
        obtain ⟨hst1, hst2⟩ := HOWN.out.stored (i * 3 + 1) (.int .i64 (x.hi + n))
        rw [flat_set (L.map ctrOf) i (ctrOf x) (x.hi + n) (by rw [List.getElem?_map, hx]; rfl)] at hst1
        have hset : (L.map ctrOf).set i ⟨(ctrOf x).key, x.hi + n, (ctrOf x).e⟩ = (L.set i ⟨key, x.lo + n, x.hi + n⟩).map ctrOf := by
          rw [List.map_set]
          congr 1
          unfold ctrOf
          simp only [K3.mk.injEq]
          exact ⟨hk, trivial, by omega⟩
        rw [hset] at hst1
        have HX := Lib.hid (ord_set HOK.out.keys HOK.out.sorted hx (x' := ⟨key, x.lo + n, x.hi + n⟩) hk.symm)
        have HAD : Hid (addC cap L key n = ordC (L.set i ⟨key, x.lo + n, x.hi + n⟩)) := Lib.hid (by
          unfold addC
          rw [atC_take HNO.out hx hk, HX.out.1, hk])
        have HK3 : Hid (Keep (fun _ => False) w (wr.setCell ⟨g, i * 3 + 1, none⟩ (.int .i64 (x.hi + n)))) := Lib.hid (HK2.out.setCell (p := ⟨g, i * 3 + 1, none⟩) _ (.inr (HOWN.out.lt g rfl).1))
        have HCS : Hid (Cs (wr.setCell ⟨g, i * 3 + 1, none⟩ (.int .i64 (x.hi + n))) (.slice (some ⟨g, 0, none⟩) N cc2) ((L.set i ⟨key, x.lo + n, x.hi + n⟩).map ctrOf)) := Lib.hid (by
          have e : (L.set i ⟨key, x.lo + n, x.hi + n⟩ |>.map ctrOf).length = L.length := by simp
          have := Cs.of_owns (v := .slice (some ⟨g, 0, none⟩) L.length cc2) (l := (L.set i ⟨key, x.lo + n, x.hi + n⟩).map ctrOf) (by rw [e]; exact hst1)
          rwa [← HN.out] at this)
        rw [HAD.out]
        clear hst1 hst2 hset hx HAD
        go_wp2_with fail
        generalize wr.setCell ⟨g, i * 3 + 1, none⟩ (.int .i64 (x.hi + n)) = W3 at *
        clear q0 q1 qf
        with_reducible refine (rord_sk HCS.out HX.out.2 (by rw [List.length_set, ← HN.out]; exact hl64)).mono ?_
        rintro e W4 ⟨v5, rfl, ho5, hk5⟩
        have HR := Lib.hid (rpost (H.out.kept HK3.out) HK3.out hk5 (Nat.le_refl _) ho5)
        have hR4 := (H.out.kept HK3.out).kept hk5
        have c1 := hR4.c1
        have fr := hR4.fr
        obtain ⟨a5, m5, c5, rfl⟩ := owns_slice ho5
        clear ho5 hk5 hR4
        go_wp2_with fail
        go_ret
        exact HR.out
      · have hkb : (x.key.toList == key.toList) = false := by
          cases e : (x.key.toList == key.toList) with
          | false => rfl
          | true => exact absurd (toList_inj (by simpa using e)) hk
        have HNX : Hid (∀ y ∈ L.take (i + 1), y.key ≠ key) := Lib.hid (fun y hy => by
          rw [List.take_add_one, hx, List.mem_append] at hy
          rcases hy with hy | hy
          · exact HNO.out y hy
          · simp at hy; rw [hy]; exact hk)
        clear hx
        go_wp2_with fail
        go_roundg (N - (i + 1))
        case rel => exact ⟨i + 1, by go_num, by omega, by omega, rfl, HNX⟩
        case measure => omega
    · have hltz : ¬ (i : Int) < (N : Int) := by omega
      have HNK : Hid (∀ y ∈ L, y.key ≠ key) := Lib.hid (by
        have := HNO.out
        rwa [List.take_of_length_le (by have := HN.out; omega)] at this)
      clear HNO
      go_wp2_with fail
      with_reducible refine (rleast_sk (H.out.kept HK2.out) HOK.out).mono ?_
      rintro e W3 ⟨rfl, k3⟩
      have HK3 := Lib.hid (HK2.out.trans k3)
      have HO3 := Lib.hid (ownsRow_keep HOWN.out k3 (fun _ _ h => h))
      have c0 := (H.out.kept HK3.out).c0
      clear k3 HOWN HK2
      have hle := HOK.out.least
      have hsm := HOK.out.sum
      by_cases hfull : N = cap
      · obtain rfl := HA.out (by rw [← HN.out]; omega)
        obtain ⟨M, hM⟩ : ∃ M, N = M + 1 := ⟨N - 1, by omega⟩
        have hM1 : (N : Int) - 1 = (M : Int) := by omega
        have hM2 : IntKind.i64.wrap ((N : Int) - 1) = (M : Int) := by rw [IntKind.wrap_i64]; omega
        have hM3 : IntKind.i64.wrap (M : Int) = (M : Int) := by rw [IntKind.wrap_i64]; omega
        have hM0 : (0 : Int) ≤ (M : Int) := by omega
        have hMc : (M : Int) ≤ (cc2 : Int) := by omega
        have hfz : ((N : Int) == (cap : Int)) = true := by simp; omega
        have HLL : Hid (L.dropLast.length = M) := Lib.hid (by rw [List.length_dropLast, ← HN.out, hM]; rfl)
        have HOT : Hid (W3.ownsRow w.heap.size 124 3 (.slice (some ⟨g, 0, none⟩) M cc2) (L.dropLast.map ctrOf).length (flat (L.dropLast.map ctrOf))) := Lib.hid (by
          have h1 := owns_trunc (m := M) HO3.out (by rw [← HN.out]; omega) (by simp)
          have e1 : (L.map ctrOf).take M = L.dropLast.map ctrOf := by rw [List.dropLast_eq_take, List.map_take]; congr 1; have := HN.out; omega
          rw [e1] at h1
          rw [List.length_map, HLL.out]
          exact h1)
        have hLM : L.dropLast.length = M := HLL.out
        have HFL : Hid (L.length = cap) := Lib.hid (by rw [← HN.out]; exact hfull)
        have HLEV : Hid (leastC cap L = leastC cap L) := Lib.hid rfl
        have hle1 := hle.1
        have hle2 := hle.2
        clear hle
        obtain ⟨v9, W4, hr9, hown9, hkp9, hob9, g9, cc9, hv9⟩ := app_ctr W3 112 w.heap.size (.slice (some ⟨g, 0, none⟩) M cc2) (L.dropLast.map ctrOf) ⟨key, leastC cap L + n, (leastC cap L)⟩ HOT.out (by rw [List.length_map, HLL.out]; omega) HK3.out.size
        have hr9' : (Builtin.append_ #[112, 112] 112 #[(.slice (some ⟨g, 0, none⟩) M cc2), .slice (some ⟨W3.heap.size, 0, none⟩) 1 1]).run Tryz.prog (W3.alloc (.cells #[.string key, .int .i64 (leastC cap L + n), .int .i64 (leastC cap L)] 124)) = .ok v9 W4 := hr9
        have HK4 : Hid (Keep (fun _ => False) w W4) := Lib.hid (HK3.out.trans' hkp9 (fun j e => .inr ((HOT.out).lt j e).1))
        have HKN : Hid ((L.dropLast ++ [(⟨key, n, leastC cap L + n⟩ : C)]).map C.key).Nodup := Lib.hid (by
          rw [List.map_append, List.nodup_append]
          refine ⟨HOK.out.keys.sublist ((List.dropLast_sublist L).map _), by simp, fun a ha b hb e => ?_⟩
          obtain ⟨y, hy, rfl⟩ := List.mem_map.1 ha
          simp at hb
          subst hb
          exact HNK.out y ((List.dropLast_sublist L).subset hy) e)
        have HAD : Hid (addC cap L key n = ordC (L.dropLast ++ [(⟨key, n, leastC cap L + n⟩ : C)])) := Lib.hid (by
          rw [ord_snoc (HOK.out.sorted.sublist (List.dropLast_sublist L)) HKN.out]
          unfold addC
          rw [atC_all HNK.out]
          simp only []
          rw [if_pos HFL.out])
        have HCS : Hid (Cs W4 v9 ((L.dropLast ++ [(⟨key, n, leastC cap L + n⟩ : C)]).map ctrOf)) := Lib.hid (by
          have h9 := Cs.of_owns hown9
          have e9 : ctrOf ⟨key, n, leastC cap L + n⟩ = ⟨key, leastC cap L + n, (leastC cap L)⟩ := by unfold ctrOf; simp only [K3.mk.injEq]; exact ⟨trivial, trivial, by omega⟩
          rw [List.map_append, List.map_singleton, e9]
          exact h9)
        have hl9 : (L.dropLast ++ [(⟨key, n, leastC cap L + n⟩ : C)]).length ≤ 64 := by rw [List.length_append, HLL.out]; simp; omega
        clear hr9 hown9 hkp9 hob9 hv9
        clear hLM hM hfull
        generalize leastC cap L = LE at *
        go_wp2_with (at_builtin; refine wpList_app rfl (.tmp 73) (.tmp 80) 112 rfl rfl rfl hr9' ?_)
        clear hr9'
        with_reducible refine (rord_sk HCS.out HKN.out hl9).mono ?_
        rintro e W5 ⟨v5, rfl, ho5, hk5⟩
        have HR := Lib.hid (rpost (H.out.kept HK4.out) HK4.out hk5 (Nat.le_refl _) ho5)
        have hR4 := (H.out.kept HK4.out).kept hk5
        have c1 := hR4.c1
        have fr := hR4.fr
        obtain ⟨a5, m5, c5, rfl⟩ := owns_slice ho5
        clear ho5 hk5 hR4 c0
        go_wp2_with fail
        go_ret
        rw [HAD.out]
        exact HR.out
      · have hfz : ((N : Int) == (cap : Int)) = false := by simp; omega
        have HLL : Hid (L.length = N) := Lib.hid HN.out.symm
        have HZ : Hid (leastC cap L = 0) := Lib.hid (by unfold leastC; rw [if_pos (by rw [← HN.out]; omega)])
        have HFL : Hid (¬ L.length = cap) := Lib.hid (by rw [← HN.out]; exact hfull)
        have HOT : Hid (W3.ownsRow w.heap.size 124 3 (.slice a2 N cc2) (L.map ctrOf).length (flat (L.map ctrOf))) := Lib.hid (by
          have h1 := HO3.out
          rw [← HN.out] at h1
          rw [List.length_map, ← HN.out]
          exact h1)
        have hLN : L.length = N := HN.out.symm
        rw [HZ.out]
        clear hle
        obtain ⟨v9, W4, hr9, hown9, hkp9, hob9, g9, cc9, hv9⟩ := app_ctr W3 112 w.heap.size (.slice a2 N cc2) (L.map ctrOf) ⟨key, n, 0⟩ HOT.out (by rw [List.length_map, HLL.out]; omega) HK3.out.size
        have hr9' : (Builtin.append_ #[112, 112] 112 #[(.slice a2 N cc2), .slice (some ⟨W3.heap.size, 0, none⟩) 1 1]).run Tryz.prog (W3.alloc (.cells #[.string key, .int .i64 (n), .int .i64 0] 124)) = .ok v9 W4 := hr9
        have HK4 : Hid (Keep (fun _ => False) w W4) := Lib.hid (HK3.out.trans' hkp9 (fun j e => .inr ((HOT.out).lt j e).1))
        have HKN : Hid ((L ++ [(⟨key, n, n⟩ : C)]).map C.key).Nodup := Lib.hid (by
          rw [List.map_append, List.nodup_append]
          refine ⟨HOK.out.keys.sublist ((List.Sublist.refl L).map _), by simp, fun a ha b hb e => ?_⟩
          obtain ⟨y, hy, rfl⟩ := List.mem_map.1 ha
          simp at hb
          subst hb
          exact HNK.out y ((List.Sublist.refl L).subset hy) e)
        have HAD : Hid (addC cap L key n = ordC (L ++ [(⟨key, n, n⟩ : C)])) := Lib.hid (by
          rw [ord_snoc (HOK.out.sorted.sublist (List.Sublist.refl L)) HKN.out]
          unfold addC
          rw [atC_all HNK.out]
          simp only []
          rw [if_neg HFL.out])
        have HCS : Hid (Cs W4 v9 ((L ++ [(⟨key, n, n⟩ : C)]).map ctrOf)) := Lib.hid (by
          have h9 := Cs.of_owns hown9
          have e9 : ctrOf ⟨key, n, n⟩ = ⟨key, n, 0⟩ := by unfold ctrOf; simp only [K3.mk.injEq]; exact ⟨trivial, trivial, by omega⟩
          rw [List.map_append, List.map_singleton, e9]
          exact h9)
        have hl9 : (L ++ [(⟨key, n, n⟩ : C)]).length ≤ 64 := by rw [List.length_append, HLL.out]; simp; omega
        clear hr9 hown9 hkp9 hob9 hv9
        clear hLN hfull
        go_wp2_with (at_builtin; refine wpList_app rfl (.tmp 73) (.tmp 80) 112 rfl rfl rfl hr9' ?_)
        clear hr9'
        with_reducible refine (rord_sk HCS.out HKN.out hl9).mono ?_
        rintro e W5 ⟨v5, rfl, ho5, hk5⟩
        have HR := Lib.hid (rpost (H.out.kept HK4.out) HK4.out hk5 (Nat.le_refl _) ho5)
        have hR4 := (H.out.kept HK4.out).kept hk5
        have c1 := hR4.c1
        have fr := hR4.fr
        obtain ⟨a5, m5, c5, rfl⟩ := owns_slice ho5
        clear ho5 hk5 hR4 c0
        go_wp2_with fail
        go_ret
        rw [HAD.out]
        exact HR.out
end Go.Proofs.YtplkmbfeeegaiaaGreatDoor.Sk

/-
  The reference's Hot.
-/
namespace Go.Proofs.YtplkmbfeeegaiaaGreatDoor
open Go.RowKit Go.Shelf

set_option maxRecDepth 100000 in
set_option maxHeartbeats 2000000 in
theorem refHot_sk {w : World} {r : Nat} {v : Value} {cap : Nat} {L : List Sk.C} (h : Sk.Rf w r v cap (L.map Sk.ctrOf)) (ok : Sk.OkL cap L) (share : Int) : Calls Tryz.prog 48 #[ptr r, .int .i64 share] w (HotPost w (hotL L share)) := by
  have hl : L.length ≤ 64 := Nat.le_trans ok.len ok.cap64
  have HTT := Lib.hid (Sk.rtotal_sk h ok)
  have HTP : Hid (∀ W, Keep (fun _ => False) w W → Calls Tryz.prog 96 #[ptr r, .int .i64 64] W (Sk.TopPost W (Sk.topC L 64))) := Lib.hid (fun W k => Sk.rtop_sk (h.kept k) hl 64)
  have htot : 0 ≤ Sk.sumH L ∧ Sk.sumH L ≤ 4611686018427387903 := ⟨Sk.sumH_nonneg (L := L) (fun y hy => by have := ok.pos y hy; omega), ok.sum⟩
  obtain ⟨tp, htp⟩ : ∃ tp, Sk.topC L 64 = tp := ⟨_, rfl⟩
  have HTL : Hid (tp.length ≤ 64) := Lib.hid (by rw [← htp]; unfold Sk.topC; rw [List.length_map, List.length_take]; omega)
  have HTB : Hid (∀ x ∈ tp, I64 x.n ∧ I64 x.e ∧ I64 (x.n - x.e)) := Lib.hid (fun x hx => by
    rw [← htp] at hx
    unfold Sk.topC at hx
    obtain ⟨c, hc, rfl⟩ := List.mem_map.1 hx
    have hc2 := List.mem_of_mem_take hc
    have h1 := ok.pos c hc2
    have h2 := ok.mem hc2
    have h3 := ok.sum
    unfold I64 Sk.ctrOf
    simp only []
    omega)
  obtain ⟨xs, hxs⟩ : ∃ xs, hotL L share = xs := ⟨_, rfl⟩
  have HXS : Hid (xs = if share < 1 ∨ 100 < share ∨ Sk.sumH L = 0 then [] else hotK tp (leastH share (Sk.sumH L)) tp.length) := Lib.hid (by
    rw [← hxs]
    unfold hotL hotK
    rw [htp, List.take_length])
  rw [htp] at HTP
  rw [hxs]
  clear htp hxs h hl ok
  generalize Sk.sumH L = tot at *
  go_enter Tryz.func48, Tryz.ntmps48
  go_wp2_with fail
  with_reducible refine HTT.out.mono ?_
  rintro e w' ⟨rfl, rfl⟩
  have HNIL : Hid (share < 1 ∨ 100 < share ∨ tot = 0 → xs = []) := Lib.hid (fun h => by rw [HXS.out, if_pos h])
  by_cases h1 : share < 1
  · have HN := Lib.hid (HNIL.out (.inl h1))
    go_wp2_with fail
    go_ret
    exact ⟨_, rfl, by rw [HN.out]; exact Strs.nil _, Keep.refl _ _⟩
  · by_cases h2 : 100 < share
    · have HN := Lib.hid (HNIL.out (.inr (.inl h2)))
      go_wp2_with fail
      go_ret
      exact ⟨_, rfl, by rw [HN.out]; exact Strs.nil _, Keep.refl _ _⟩
    · by_cases h3 : tot = 0
      · have HN := Lib.hid (HNIL.out (.inr (.inr h3)))
        subst h3
        go_wp2_with fail
        go_ret
        exact ⟨_, rfl, by rw [HN.out]; exact Strs.nil _, Keep.refl _ _⟩
      · have h3b : (tot == 0) = false := by simpa using h3
        have HXK : Hid (xs = hotK tp (leastH share tot) tp.length) := Lib.hid (by rw [HXS.out, if_neg (by omega)])
        have e1 : IntKind.i64.wrap (tot.tdiv 100) = tot / 100 := by rw [Int.tdiv_eq_ediv_of_nonneg (by omega)]; exact wrapI (by unfold I64; omega)
        have e2 : tot.tmod 100 = tot % 100 := by rw [Int.tmod_eq_emod_of_nonneg (by omega)]
        obtain ⟨q, hq⟩ : ∃ q, tot / 100 = q := ⟨_, rfl⟩
        obtain ⟨r, hr⟩ : ∃ r, tot % 100 = r := ⟨_, rfl⟩
        have hqb : 0 ≤ q ∧ q ≤ 46116860184273879 := by omega
        have hrb : 0 ≤ r ∧ r < 100 := by omega
        have hsq1 : share * q ≤ 100 * 46116860184273879 := Int.mul_le_mul (by omega) hqb.2 hqb.1 (by omega)
        have hsq0 : 0 ≤ share * q := Int.mul_nonneg (by omega) hqb.1
        have hsr1 : share * r ≤ 100 * 99 := Int.mul_le_mul (by omega) (by omega) hrb.1 (by omega)
        have hsr0 : 0 ≤ share * r := Int.mul_nonneg (by omega) hrb.1
        have hlz : leastH share tot = share * q + (share * r + 99) / 100 := by unfold leastH; rw [hq, hr]
        rw [hq] at e1
        rw [hr] at e2
        rw [hlz] at HXK
        have w1 : IntKind.i64.wrap (share * q) = share * q := wrapI (by unfold I64; omega)
        have w2 : IntKind.i64.wrap (share * r) = share * r := wrapI (by unfold I64; omega)
        have w3 : IntKind.i64.wrap (share * r + 99) = share * r + 99 := wrapI (by unfold I64; omega)
        have w4 : IntKind.i64.wrap ((share * r + 99).tdiv 100) = (share * r + 99) / 100 := by rw [Int.tdiv_eq_ediv_of_nonneg (by omega)]; exact wrapI (by unfold I64; omega)
        have w5 : IntKind.i64.wrap (share * q + (share * r + 99) / 100) = share * q + (share * r + 99) / 100 := wrapI (by unfold I64; omega)
        clear hlz hq hr HNIL HXS htot
        go_upto_region 5 with (fail)
        clear w1 w2 w3 w4 w5 e1 e2
        generalize share * q + (share * r + 99) / 100 = lst at *
        go_wp2_with fail
        with_reducible refine (HTP.out w (Keep.refl _ w)).mono ?_
        rintro e W1 ⟨vt, rfl, hown, k1⟩
        have hct := Sk.CtrsAt.of_owns hown
        obtain ⟨ta, tc, rfl⟩ := own_form hown
        have HOWN := Lib.hid hown
        have HK1 := Lib.hid k1
        have htl := HTL.out
        obtain ⟨tn, htn⟩ : ∃ n, tp.length = n := ⟨_, rfl⟩
        have HTN := Lib.hid htn
        have HCELL : Hid (∀ j x, tp[j]? = some x → ∃ g, ta = some ⟨g, 0, none⟩ ∧ W1.cell? ⟨g, j * 3, none⟩ = some (.string x.key) ∧ W1.cell? ⟨g, j * 3 + 1, none⟩ = some (.int .i64 x.n) ∧ W1.cell? ⟨g, j * 3 + 2, none⟩ = some (.int .i64 x.e)) := Lib.hid (fun j x hj => by
          have hpos : 0 < tp.length := by have := (List.getElem?_eq_some_iff.1 hj).1; omega
          obtain ⟨g, e⟩ := own_some2 hown hpos
          cases e
          obtain ⟨f1, f2, f3⟩ := Sk.flat_get tp j x hj
          have g1 := hown.cells (g := g) rfl _ _ f1
          have g2 := hown.cells (g := g) rfl _ _ f2
          have g3 := hown.cells (g := g) rfl _ _ f3
          rw [Addr.add_lit, Nat.zero_add] at g1 g2 g3
          exact ⟨g, rfl, g1, g2, g3⟩)
        have HCAP : Hid (tp.length ≤ tc) := Lib.hid (by
          rcases hown.2 with ⟨h1, h2⟩ | ⟨g, cap, cur, h1, h2, h3, h4, h5⟩
          · injection h1 with _ h12 _; omega
          · injection h1 with _ h12 h13; rw [h12, h13]; exact h4)
        rw [htn] at HXK htl HCAP ⊢
        have hcap := HCAP.out
        clear hct hown k1 htn
        go_wp2_with fail
        go_loopg [8, 9] tn (fun gh v8 v9 wr => ∃ k : Nat, gh + k = tn ∧ v9 = .int .i64 k ∧ OwnT w (hotK tp lst k) v8 wr ∧ Keep (fun _ => False) W1 wr ∧ ∀ j, v8.ownBlock = some j → W1.heap.size ≤ j)
        case atStart => exact ⟨0, by omega, rfl, OwnT.nil HK1.out, Keep.refl _ _, fun j e => by cases e⟩
        case round =>
          obtain ⟨k, hk, rfl, how, hkeep, hov⟩ := hrel
          have HOW := Lib.hid how
          have HKE := Lib.hid hkeep
          have HOV := Lib.hid hov
          clear hov
          clear how hkeep
          by_cases hlt : k < tn
          · obtain ⟨x, hx⟩ : ∃ x, tp[k]? = some x := ⟨_, List.getElem?_eq_getElem (by rw [HTN.out]; exact hlt)⟩
            obtain ⟨g, rfl, c0, c1, c2⟩ := HCELL.out k x hx
            replace c0 := HKE.out.cell c0 (fun h => h)
            replace c1 := HKE.out.cell c1 (fun h => h)
            replace c2 := HKE.out.cell c2 (fun h => h)
            have HC0 := Lib.hid c0
            obtain ⟨xb1, xb2, xb3⟩ := HTB.out x (List.mem_of_getElem? hx)
            have HSU := Lib.hid (hotK_succ (least := lst) hx)
            have hwx := wrapI xb3
            have hkz : (k : Int) < (tn : Int) := by omega
            have hk0 : (0 : Int) ≤ (k : Int) := by omega
            clear hx xb1 xb2 xb3
            obtain ⟨xk, xn, xe⟩ := x
            simp only [] at c0 c1 c2 hwx HC0
            by_cases hge : lst ≤ xn - xe
            · have HS1 : Hid (hotK tp lst (k + 1) = hotK tp lst k ++ [xk]) := Lib.hid (by rw [HSU.out]; simp only []; rw [if_pos hge])
              go_wp2_with fail
              go_quiet (fail)
              have HKA : Hid (Keep (fun _ => False) wr (wr.drewN nq)) := Lib.hid ((Keep.refl _ wr).drewN nq)
              have HOW2 := Lib.hid (HOW.out.keep HKA.out)
              have HKE2 := Lib.hid (HKE.out.trans HKA.out)
              clear c0 c1 c2
              have c0 := HKA.out.cell HC0.out (fun h => h)
              generalize wr.drewN nq = W3 at *
              obtain ⟨v', W4, hr, how4, hk4, hob4⟩ := HOW2.out.snoc xk (by have := hotK_len tp lst k; have := HTL.out; omega)
              rw [← HS1.out] at how4
              have HOW4 := Lib.hid how4
              have HK4 : Hid (Keep (fun _ => False) W1 W4) := Lib.hid (HKE2.out.trans' hk4 (fun j e => .inr (HOV.out j e)))
              have HOV4 : Hid (∀ j, v'.ownBlock = some j → W1.heap.size ≤ j) := Lib.hid (fun j e => by
                rcases hob4 with h | h
                · exact HOV.out j (h.symm.trans e)
                · rw [h] at e
                  cases e
                  have := HKE2.out.size
                  omega)
              have HR := Lib.hid hr
              clear hr how4 hk4 hob4
              go_wp2_with (at_builtin; refine wpList_app rfl (.tmp 54) (.tmp 60) 67 rfl rfl rfl HR.out ?_)
              clear c0
              go_roundg (gk - 1)
              case rel => exact ⟨k + 1, by omega, by go_num, HOW4.out, HK4.out, HOV4.out⟩
              case measure => omega
            · have HS1 : Hid (hotK tp lst (k + 1) = hotK tp lst k) := Lib.hid (by rw [HSU.out]; simp only []; rw [if_neg hge, List.append_nil])
              go_wp2_with fail
              go_quiet (fail)
              have HKA : Hid (Keep (fun _ => False) wr (wr.drewN nq)) := Lib.hid ((Keep.refl _ wr).drewN nq)
              have HOW2 := Lib.hid (HOW.out.keep HKA.out)
              have HKE2 := Lib.hid (HKE.out.trans HKA.out)
              clear c0 c1 c2
              have c0 := HKA.out.cell HC0.out (fun h => h)
              generalize wr.drewN nq = W3 at *
              have HOW4 : Hid (OwnT w (hotK tp lst (k + 1)) u8 W3) := Lib.hid (by rw [HS1.out]; exact HOW2.out)
              clear c0
              go_wp2_with fail
              go_roundg (gk - 1)
              case rel => exact ⟨k + 1, by omega, by go_num, HOW4.out, HKE2.out, HOV.out⟩
              case measure => omega
          · obtain rfl : k = tn := by omega
            have hkz : ¬ (k : Int) < (k : Int) := by omega
            have HF : Hid (Strs wr u8 xs) := Lib.hid (by
              rw [HXK.out]
              exact strs_owns HOW.out.2 (by have := hotK_len tp lst k; have := HTL.out; omega))
            have HKF := Lib.hid HOW.out.1
            go_wp2_with fail
            go_ret
            exact ⟨_, rfl, HF.out, HKF.out⟩
end Go.Proofs.YtplkmbfeeegaiaaGreatDoor

/-
  A slice of uses that came in.
-/
namespace Go.Proofs.YtplkmbfeeegaiaaGreatDoor
open Go.ChangeShapes Go.WideShapes Go.ChangeAt Go.RowKit Go.Shelf

theorem cellsUp : Tryz.prog.cellsOf 63 = 2 := by kernel_rfl
theorem up_cells {H : Type} {enc : TypeId × Value → H} {w : World} {base n : Nat} {spare : Nat → Bool} {held : Bool} {a : Addr} {cs : List Value} {x : DataW H × List MemPlace} (hc : w.cells? base a (Tryz.prog.cellsOf 63) = some cs)
    (ht : DataW.trod enc Tryz.prog w base spare held n 63 cs = some x) (j : Nat) (hj : j < 2) : ∃ z, w.cell? (a.add j) = some (.int .i64 z) ∧ -9223372036854775808 ≤ z ∧ z ≤ 9223372036854775807 := by
  rw [cellsUp] at hc
  obtain ⟨_, hcl, hat⟩ := World.cells?_some hc
  obtain ⟨ys, n', _, _, _, hyl, hf⟩ := DataW.trod_struct Tryz.underlying63 ht
  have hyl' : ys.length = 2 := hyl
  have key : ∀ (f : Field), (#[({ name := "Key", type := 3, offset := 0, embedded := false, tag := "", pkgPath := "", byteOffset := 0 } : Field), { name := "N", type := 3, offset := 1, embedded := false, tag := "", pkgPath := "", byteOffset := 8 }] : Array Field)[j]? = some f → f.type = 3 → f.offset = j → ∃ z, w.cell? (a.add j) = some (.int .i64 z) ∧ -9223372036854775808 ≤ z ∧ z ≤ 9223372036854775807 := by
    intro f hfj h3 ho
    have h1 := hf j f hfj
    rw [h3, ho, cellsI] at h1
    have hys : ys[j]? = some (ys[j]'(by omega)) := List.getElem?_eq_getElem (by omega)
    rw [hys, List.drop_eq_getElem_cons (by omega)] at h1
    obtain ⟨z, hz, _, hwf⟩ := DataW.trod_int Tryz.underlying3 h1
    have hz' : cs[j]'(by omega) = .int .i64 z := by
      rw [List.take_succ_cons, List.take_zero] at hz
      exact (List.cons.inj hz).1
    refine ⟨z, ?_, bounds_i64 hwf⟩
    rw [hat j hj, List.getElem?_eq_getElem (by omega), hz']
  match j, hj with
  | 0, _ => exact key _ rfl rfl rfl
  | 1, _ => exact key _ rfl rfl rfl

theorem uses_open {H : Type} {enc : TypeId × Value → H} {w : World} {base fuel : Nat} {spare : Nat → Bool} {held : Bool} {a : Option Addr} {len cap : Nat} {x : DataW H × List MemPlace} (h : DataW.trod enc Tryz.prog w base spare held fuel 55 [.slice a len cap] = some x) (hlen : len ≤ 1000000000000000) : ∃ l, Uses w (.slice a len cap) l ∧ l.length = len := by
  rcases Go.Deep.open_slice Tryz.underlying55 h with ⟨h0, _⟩ | ⟨ad, l, c, m, n, D, Pl, hcs, hb, hl, hm, hmm, hx, hi⟩
  · cases h0
    exact ⟨[], ⟨by simp, by simp, none, 0, 0, 0, rfl, by simp, fun h => by simp at h, fun j x hj => by simp at hj⟩, rfl⟩
  · cases hcs
    have hlm : len ≤ m := by rw [hmm]; split <;> omega
    have hc : ∀ i j, i < len → j < 2 → ∃ z, w.cell? (ad.add (i * 2 + j)) = some (.int .i64 z) ∧ -9223372036854775808 ≤ z ∧ z ≤ 9223372036854775807 := fun i j hi' hj => by
      obtain ⟨cs', h1, h2⟩ := hi i (by omega)
      obtain ⟨z, hz, hb⟩ := up_cells h1 h2 j hj
      rw [cellsUp, Go.Deep.add_add] at hz
      exact ⟨z, hz, hb⟩
    obtain ⟨b, off, spot⟩ := ad
    by_cases hl0 : len = 0
    · subst hl0
      exact ⟨[], ⟨by simp, by simp, some ⟨b, off, spot⟩, cap, b, off, rfl, hl, fun h => by simp at h, fun j x hj => by simp at hj⟩, rfl⟩
    · obtain ⟨z0, hz0, _⟩ := hc 0 0 (by omega) (by omega)
      have hspot : spot = none := by simpa [Addr.add] using World.cell?_spot hz0
      subst hspot
      have hc2 : ∀ i, ∃ mb : Int × Int, i < len → (w.cell? ⟨b, off + i * 2, none⟩ = some (.int .i64 mb.1) ∧ w.cell? ⟨b, off + i * 2 + 1, none⟩ = some (.int .i64 mb.2)) ∧ I64 mb.1 ∧ I64 mb.2 := fun i => by
        by_cases hil : i < len
        · obtain ⟨z0, h0, b0⟩ := hc i 0 hil (by omega)
          obtain ⟨z1, h1, b1⟩ := hc i 1 hil (by omega)
          rw [Addr.add_lit, ← Nat.add_assoc] at h0 h1
          exact ⟨⟨z0, z1⟩, fun _ => ⟨⟨h0, h1⟩, b0, b1⟩⟩
        · exact ⟨⟨0, 0⟩, fun h => absurd h hil⟩
      obtain ⟨F, hF⟩ : ∃ F : Nat → Int × Int, ∀ i, i < len → (w.cell? ⟨b, off + i * 2, none⟩ = some (.int .i64 (F i).1) ∧ w.cell? ⟨b, off + i * 2 + 1, none⟩ = some (.int .i64 (F i).2)) ∧ I64 (F i).1 ∧ I64 (F i).2 := ⟨fun i => Classical.choose (hc2 i), fun i => Classical.choose_spec (hc2 i)⟩
      refine ⟨(List.range len).map F, ⟨by simpa using hlen, fun mb hmb => ?_, ?_⟩, by simp⟩
      · obtain ⟨i, hi', rfl⟩ := List.mem_map.1 hmb
        exact (hF i (List.mem_range.1 hi')).2
      · refine ⟨some ⟨b, off, none⟩, cap, b, off, by simp, by simpa using hl, fun _ => rfl, fun j mb hj => ?_⟩
        rw [List.getElem?_map] at hj
        cases hr : (List.range len)[j]? with
        | none => rw [hr] at hj; simp at hj
        | some j' =>
          rw [hr] at hj
          simp only [Option.map_some, Option.some.injEq] at hj
          obtain ⟨h1, h2⟩ := List.getElem?_eq_some_iff.1 hr
          have hjj : j' = j := by simpa using h2.symm
          have hjl : j < len := by simpa using h1
          subst hj
          rw [hjj]
          exact (hF j hjl).1

theorem bytesUp : Tryz.prog.bytesOf 63 = 16 := by kernel_rfl
theorem uses_open' {H : Type} {enc : TypeId × Value → H} {w : World} {base fuel : Nat} {spare : Nat → Bool} {held : Bool} {a : Option Addr} {len cap : Nat} {x : DataW H × List MemPlace} (h : DataW.trod enc Tryz.prog w base spare held fuel 55 [.slice a len cap] = some x)
    (hs : ∀ el sp, x.1 = .slice el sp → (el.length + sp.length) * Tryz.prog.bytesOf 63 ≤ reachBytes) : ∃ l, Uses w (.slice a len cap) l ∧ l.length = len := by
  refine uses_open h ?_
  have hl := Go.Joins.sliceLen_trod (d := x.1) (ps := x.2) Tryz.underlying55 h
  cases e : x.1 with
  | slice el sp =>
    rw [e] at hl
    have h1 := hs el sp e
    rw [bytesUp] at h1
    simp only [Go.Joins.sliceLen] at hl
    unfold reachBytes at h1
    omega
  | _ =>
    rw [e] at hl
    simp only [Go.Joins.sliceLen] at hl
    omega
end Go.Proofs.YtplkmbfeeegaiaaGreatDoor
