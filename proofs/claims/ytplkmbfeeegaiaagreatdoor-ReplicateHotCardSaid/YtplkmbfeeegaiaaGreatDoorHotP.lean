/-
  Hot keys: what the uses say of the counters.
-/
import Derived.Test.YtplkmbfeeegaiaaGreatDoorZ5
namespace Go.Proofs.YtplkmbfeeegaiaaGreatDoor

/-- One of ten keys. -/
def keyT (q : Nat) : ByteArray := (⟨#[114, 111, 119, 32, 49, 32]⟩ : ByteArray) ++ dig q
theorem keyT_inj {q r : Nat} (hq : q < 10) (hr : r < 10) (h : keyT q = keyT r) : q = r := by
  have key : ∀ a, a < 10 → ∀ b, b < 10 → keyT a = keyT b → a = b := by
    intro a ha b hb e
    have e1 := congrArg (fun s : ByteArray => s.data.toList) e
    simp only [keyT, ByteArray.data_append, Array.toList_append] at e1
    have e2 := List.append_cancel_left e1
    have hd : ∀ n, n < 10 → (dig n).data.toList = [UInt8.ofNat (48 + n)] := by
      intro n hn
      show (Lib.decDigits n).toArray.toList = _
      rw [List.toList_toArray, Lib.decDigits, dif_pos hn]
    rw [hd a ha, hd b hb] at e2
    have e3 : UInt8.ofNat (48 + a) = UInt8.ofNat (48 + b) := by injection e2
    have e4 := congrArg UInt8.toNat e3
    simp only [UInt8.toNat_ofNat'] at e4
    omega
  exact key q hq r hr h
theorem keyT_size {q : Nat} (hq : q < 10) : (keyT q).size ≤ 8 := by
  have h1 := dig_size (n := q) (by omega)
  unfold keyT
  rw [ByteArray.size_append]
  have e2 : (⟨#[114, 111, 119, 32, 49, 32]⟩ : ByteArray).size = 6 := rfl
  omega
def updU (u : Nat → Int) (q : Nat) (n : Int) : Nat → Int := fun r => if r = q then u r + n else u r
/-- How many keys were used. -/
def diffU (u : Nat → Int) : Nat := ((List.range 10).filter (fun q => decide (0 < u q))).length
theorem key_uniq : ∀ {L : List Sk.C}, (L.map Sk.C.key).Nodup → ∀ {x y : Sk.C}, x ∈ L → y ∈ L → x.key = y.key → x = y
  | [], _, _, _, h, _, _ => by cases h
  | z :: L, hn, x, y, hx, hy, e => by
    rw [List.map_cons, List.nodup_cons] at hn
    rcases List.mem_cons.1 hx with h1 | h1
    · rcases List.mem_cons.1 hy with h2 | h2
      · rw [h1, h2]
      · exact absurd (show z.key ∈ L.map Sk.C.key from List.mem_map.2 ⟨y, h2, by rw [← h1]; exact e.symm⟩) hn.1
    · rcases List.mem_cons.1 hy with h2 | h2
      · exact absurd (show z.key ∈ L.map Sk.C.key from List.mem_map.2 ⟨x, h1, by rw [← h2]; exact e⟩) hn.1
      · exact key_uniq hn.2 h1 h2 e
theorem sub_len {α : Type} [DecidableEq α] : ∀ {a b : List α}, a.Nodup → (∀ x ∈ a, x ∈ b) → a.length ≤ b.length
  | [], b, _, _ => by simp
  | x :: a, b, h, hs => by
    rw [List.nodup_cons] at h
    have hx := hs x (by simp)
    have := sub_len (b := b.erase x) h.2 (fun y hy => (List.mem_erase_of_ne (fun e => by subst e; exact h.1 hy)).2 (hs y (by simp [hy])))
    rw [List.length_erase_of_mem hx] at this
    have hb : 0 < b.length := List.length_pos_of_mem hx
    simp only [List.length_cons]
    omega

structure HotI (cap : Nat) (u : Nat → Int) (L : List Sk.C) : Prop where
  names : ∀ x ∈ L, ∃ q, q < 10 ∧ x.key = keyT q ∧ 0 < u q ∧ x.lo ≤ u q
  nn : ∀ q, 0 ≤ u q
  full : diffU u ≤ cap → ∀ q, q < 10 → 0 < u q → ∃ x ∈ L, x.key = keyT q ∧ x.lo = u q
theorem HotI.nil (cap : Nat) : HotI cap (fun _ => 0) [] := ⟨by simp, by simp, by simp⟩
theorem HotI.len {cap : Nat} {u : Nat → Int} {L : List Sk.C} (h : HotI cap u L) (hk : (L.map Sk.C.key).Nodup) : L.length ≤ diffU u := by
  have h1 := sub_len (a := L.map Sk.C.key) (b := ((List.range 10).filter (fun q => decide (0 < u q))).map keyT) hk (fun k hk => by
    obtain ⟨x, hx, rfl⟩ := List.mem_map.1 hk
    obtain ⟨q, h1, h2, h3, -⟩ := h.names x hx
    rw [h2]
    exact List.mem_map_of_mem (List.mem_filter.2 ⟨List.mem_range.2 h1, by simpa using h3⟩))
  rw [List.length_map, List.length_map] at h1
  exact h1
theorem diffU_same {u : Nat → Int} {q : Nat} {n : Int} (hn : 1 ≤ n) (h : 0 < u q) : diffU (updU u q n) = diffU u := by
  unfold diffU
  congr 1
  apply List.filter_congr
  intro r _
  unfold updU
  by_cases e : r = q
  · subst e; rw [if_pos rfl, decide_eq_true h, decide_eq_true (by omega)]
  · rw [if_neg e]
theorem filter_one : ∀ {l : List Nat} {f g : Nat → Bool} {q : Nat}, l.Nodup → q ∈ l → f q = false → g q = true → (∀ r, r ≠ q → g r = f r) → (l.filter g).length = (l.filter f).length + 1
  | [], _, _, _, _, h, _, _, _ => by cases h
  | a :: l, f, g, q, hn, hq, hf, hg, hs => by
    rw [List.nodup_cons] at hn
    rcases List.mem_cons.1 hq with rfl | hq
    · have e : l.filter g = l.filter f := List.filter_congr (fun r hr => hs r (fun e => by subst e; exact hn.1 hr))
      rw [List.filter_cons_of_pos hg, List.filter_cons_of_neg (by simp [hf]), e, List.length_cons]
    · have ih := filter_one hn.2 hq hf hg hs
      have ha : g a = f a := hs a (fun e => by subst e; exact hn.1 hq)
      by_cases e : f a = true
      · rw [List.filter_cons_of_pos (by rw [ha]; exact e), List.filter_cons_of_pos e, List.length_cons, List.length_cons, ih]
      · rw [List.filter_cons_of_neg (by rw [ha]; exact e), List.filter_cons_of_neg e, ih]
theorem diffU_new {u : Nat → Int} {q : Nat} {n : Int} (hq : q < 10) (hn : 1 ≤ n) (h : u q = 0) : diffU (updU u q n) = diffU u + 1 := by
  unfold diffU
  refine filter_one (q := q) (List.nodup_range) (List.mem_range.2 hq) (by simp [h]) (by unfold updU; simp; omega) (fun r hr => by unfold updU; rw [if_neg hr])

theorem HotI.add {cap : Nat} {u : Nat → Int} {L : List Sk.C} (h : HotI cap u L) (hk : Sk.OkL cap L) {q : Nat} (hq : q < 10) {n : Int} (hn : 1 ≤ n) : HotI cap (updU u q n) (Sk.addC cap L (keyT q) n) := by
  have hnn : ∀ r, 0 ≤ updU u q n r := fun r => by unfold updU; have := h.nn r; split <;> omega
  have hle : ∀ r, u r ≤ updU u q n r := fun r => by unfold updU; split <;> omega
  have huq : updU u q n q = u q + n := by unfold updU; rw [if_pos rfl]
  have old : ∀ x ∈ L, ∃ r, r < 10 ∧ x.key = keyT r ∧ 0 < updU u q n r ∧ x.lo ≤ updU u q n r := fun x hx => by
    obtain ⟨r, h1, h2, h3, h4⟩ := h.names x hx
    have := hle r
    exact ⟨r, h1, h2, by omega, by omega⟩
  unfold Sk.addC
  cases hat : Sk.atC L (keyT q) with
  | some y =>
    obtain ⟨hy, hyk⟩ := Sk.atC_some hat
    obtain ⟨q', h1, h2, h3, h4⟩ := h.names y hy
    have hqq : q' = q := keyT_inj h1 hq (by rw [← h2, hyk])
    subst hqq
    simp only []
    refine ⟨fun x hx => ?_, hnn, fun hd r hr hu => ?_⟩
    · rcases List.mem_cons.1 ((Sk.insC_perm _ _).mem_iff.1 hx) with rfl | hx
      · exact ⟨q', hq, rfl, by omega, by simp only []; omega⟩
      · exact old x (Sk.mem_delC.1 hx).1
    · rw [diffU_same hn h3] at hd
      by_cases e : r = q'
      · subst e
        obtain ⟨x, hx, hxk, hxl⟩ := h.full hd r hr h3
        have := key_uniq hk.keys hx hy (by rw [hxk, hyk])
        subst this
        exact ⟨_, (Sk.insC_perm _ _).mem_iff.2 (List.mem_cons_self), rfl, by simp only []; omega⟩
      · have hur : updU u q' n r = u r := by unfold updU; rw [if_neg e]
        rw [hur] at hu ⊢
        obtain ⟨x, hx, hxk, hxl⟩ := h.full hd r hr hu
        refine ⟨x, (Sk.insC_perm _ _).mem_iff.2 (List.mem_cons_of_mem _ (Sk.mem_delC.2 ⟨hx, fun e2 => e (keyT_inj hr hq (by rw [← hxk, e2]))⟩)), hxk, hxl⟩
  | none =>
    simp only []
    have hno := Sk.atC_none hat
    have hcond : diffU (updU u q n) ≤ cap → u q = 0 ∧ ¬ L.length = cap ∧ diffU u ≤ cap := fun hd => by
      have hu0 : u q = 0 := by
        apply Classical.byContradiction
        intro hne
        have h0 := h.nn q
        have hp : 0 < u q := by omega
        rw [diffU_same hn hp] at hd
        obtain ⟨x, hx, hxk, -⟩ := h.full hd q hq hp
        exact hno x hx hxk
      have h1 := diffU_new hq hn hu0
      have h2 := h.len hk.keys
      exact ⟨hu0, by omega, by omega⟩
    by_cases hfull : L.length = cap
    · rw [if_pos hfull]
      refine ⟨fun x hx => ?_, hnn, fun hd => absurd hfull (hcond hd).2.1⟩
      rcases List.mem_cons.1 ((Sk.insC_perm _ _).mem_iff.1 hx) with rfl | hx
      · have := h.nn q
        exact ⟨q, hq, rfl, by omega, by simp only []; omega⟩
      · exact old x ((List.dropLast_sublist L).mem hx)
    · rw [if_neg hfull]
      refine ⟨fun x hx => ?_, hnn, fun hd r hr hu => ?_⟩
      · rcases List.mem_cons.1 ((Sk.insC_perm _ _).mem_iff.1 hx) with rfl | hx
        · have := h.nn q
          exact ⟨q, hq, rfl, by omega, by simp only []; omega⟩
        · exact old x hx
      · obtain ⟨hu0, -, hd2⟩ := hcond hd
        by_cases e : r = q
        · subst e
          exact ⟨_, (Sk.insC_perm _ _).mem_iff.2 (List.mem_cons_self), rfl, by simp only []; omega⟩
        · have hur : updU u q n r = u r := by unfold updU; rw [if_neg e]
          rw [hur] at hu ⊢
          obtain ⟨x, hx, hxk, hxl⟩ := h.full hd2 r hr hu
          exact ⟨x, (Sk.insC_perm _ _).mem_iff.2 (List.mem_cons_of_mem _ hx), hxk, hxl⟩

theorem least_iff {share tot x : Int} (hs : 1 ≤ share) : leastH share tot ≤ x ↔ share * tot ≤ 100 * x := by
  unfold leastH
  have h1 : share * tot = 100 * (share * (tot / 100)) + share * (tot % 100) := by
    have h := Int.mul_ediv_add_emod tot 100
    calc share * tot = share * (100 * (tot / 100) + tot % 100) := by rw [h]
      _ = 100 * (share * (tot / 100)) + share * (tot % 100) := by rw [Int.mul_add, ← Int.mul_assoc, Int.mul_comm share 100, Int.mul_assoc]
  rw [h1]
  generalize share * (tot / 100) = a
  generalize share * (tot % 100) = b
  omega
/-- What the law says of the hot keys. -/
structure HotFacts (cap : Nat) (u : Nat → Int) (share tot : Int) (hot : List ByteArray) : Prop where
  nd : hot.Nodup
  name : ∀ k ∈ hot, ∃ q, q < 10 ∧ k = keyT q ∧ share * tot ≤ 100 * u q
  found : diffU u ≤ cap → ∀ q, q < 10 → 0 < u q → share * tot ≤ 100 * u q → keyT q ∈ hot
  few : (hot.length : Int) * share ≤ 100
theorem sum_lo : ∀ {L : List Sk.C} {t : Int}, (∀ x ∈ L, x.lo ≤ x.hi ∧ 0 ≤ x.hi) → 0 ≤ t → ((L.filter (fun x => decide (t ≤ x.lo))).length : Int) * t ≤ Sk.sumH L
  | [], t, _, _ => by simp [Sk.sumH]
  | x :: L, t, h, ht => by
    have ih := sum_lo (L := L) (fun y hy => h y (by simp [hy])) ht
    have hx := h x (by simp)
    by_cases e : t ≤ x.lo
    · rw [List.filter_cons_of_pos (by simpa using e), List.length_cons]
      have : (((L.filter (fun x => decide (t ≤ x.lo))).length + 1 : Nat) : Int) * t = ((L.filter (fun x => decide (t ≤ x.lo))).length : Int) * t + t := by
        rw [Int.natCast_add, Int.add_mul]; simp
      simp only [Sk.sumH]
      omega
    · rw [List.filter_cons_of_neg (by simpa using e)]
      simp only [Sk.sumH]
      omega
theorem hot_keys {cap : Nat} {L : List Sk.C} (hk : Sk.OkL cap L) {share : Int} (hs : 1 ≤ share ∧ share ≤ 100) (ht : Sk.sumH L ≠ 0) : hotL L share = (L.filter (fun x => decide (leastH share (Sk.sumH L) ≤ x.lo))).map Sk.C.key := by
  unfold hotL
  rw [if_neg (by omega)]
  unfold Sk.topC
  rw [List.take_of_length_le (by have := hk.len; have := hk.cap64; show L.length ≤ 64; omega), List.filter_map, List.map_map]
  congr 1
  apply List.filter_congr
  intro x _
  show decide (leastH share (Sk.sumH L) ≤ x.hi - (x.hi - x.lo)) = _
  rw [show x.hi - (x.hi - x.lo) = x.lo by omega]
theorem hot_facts {cap : Nat} {u : Nat → Int} {L : List Sk.C} (h : HotI cap u L) (hk : Sk.OkL cap L) {share : Int} (hs : 1 ≤ share ∧ share ≤ 100) : HotFacts cap u share (Sk.sumH L) (hotL L share) := by
  have h0 := Sk.sumH_nonneg (L := L) (fun y hy => by have := hk.pos y hy; omega)
  by_cases ht : Sk.sumH L = 0
  · have hnil : hotL L share = [] := by unfold hotL; rw [if_pos (by omega)]
    rw [hnil]
    refine ⟨List.nodup_nil, by simp, fun hd q hq hu hp => ?_, by simp⟩
    obtain ⟨x, hx, -, -⟩ := h.full hd q hq hu
    have h1 := hk.mem hx
    have h2 := hk.pos x hx
    omega
  · rw [hot_keys hk hs ht]
    refine ⟨?_, fun k hkk => ?_, fun hd q hq hu hp => ?_, ?_⟩
    · exact hk.keys.sublist ((List.filter_sublist).map _)
    · obtain ⟨x, hx, rfl⟩ := List.mem_map.1 hkk
      obtain ⟨hxl, hxd⟩ := List.mem_filter.1 hx
      obtain ⟨q, h1, h2, h3, h4⟩ := h.names x hxl
      have h5 := (least_iff hs.1).1 (of_decide_eq_true hxd)
      exact ⟨q, h1, h2, by omega⟩
    · obtain ⟨x, hx, hxk, hxl⟩ := h.full hd q hq hu
      rw [← hxk]
      exact List.mem_map_of_mem (List.mem_filter.2 ⟨hx, decide_eq_true ((least_iff hs.1).2 (by rw [hxl]; exact hp))⟩)
    · rw [List.length_map]
      obtain ⟨t, hte⟩ : ∃ t, leastH share (Sk.sumH L) = t := ⟨_, rfl⟩
      have htl : share * Sk.sumH L ≤ 100 * t := (least_iff hs.1).1 (by omega)
      have htp : 0 ≤ t := by
        have := Int.mul_nonneg (show 0 ≤ share by omega) h0
        omega
      rw [hte]
      have h1 := sum_lo (L := L) (t := t) (fun x hx => by have := hk.pos x hx; omega) htp
      generalize (L.filter (fun x => decide (t ≤ x.lo))).length = n at *
      generalize Sk.sumH L = S at *
      have hS : 0 < S := by omega
      -- n * share * S ≤ n * 100 * t ≤ 100 * S
      have h2 : (n : Int) * (share * S) ≤ (n : Int) * (100 * t) := Int.mul_le_mul_of_nonneg_left htl (by omega)
      have h3 : (n : Int) * (100 * t) = 100 * ((n : Int) * t) := by rw [← Int.mul_assoc, Int.mul_comm (n : Int) 100, Int.mul_assoc]
      have h4 : (n : Int) * (share * S) = ((n : Int) * share) * S := by rw [Int.mul_assoc]
      have h5 : ((n : Int) * share) * S ≤ 100 * S := by omega
      exact Int.le_of_mul_le_mul_right h5 hS
end Go.Proofs.YtplkmbfeeegaiaaGreatDoor
