/-
  Plain laws: the list without a key; a Put with entries of size 1.
-/
import Derived.Test.YtigkhglgoabjaaaN3
namespace Go.Proofs.Ytigkhglgoabjaaa
open Go.RowKit Go.Shelf

theorem woE_none {L : List E} {key : ByteArray} (h : atKey L key = none) : woE L key = L := by
  unfold woE
  rw [List.filter_eq_self]
  intro x hx
  have := List.find?_eq_none.1 h x hx
  simpa using this
theorem woE_some : ∀ {L : List E} {key : ByteArray} {x : E}, (L.map E.key).Nodup → atKey L key = some x → ∃ X Y, L = X ++ x :: Y ∧ woE L key = X ++ Y ∧ x.key = key
  | [], key, x, _, h => by cases h
  | a :: r, key, x, hn, h => by
    rw [List.map_cons, List.nodup_cons] at hn
    by_cases ha : a.key = key
    · have e : atKey (a :: r) key = some a := by simp [atKey, ha]
      rw [e] at h
      cases h
      refine ⟨[], r, rfl, ?_, ha⟩
      show List.filter _ (a :: r) = r
      rw [List.filter_cons_of_neg (by simp [ha]), List.filter_eq_self]
      intro y hy
      simp only [decide_eq_true_eq]
      intro e
      exact hn.1 (by rw [ha, ← e]; exact List.mem_map_of_mem hy)
    · have e : atKey (a :: r) key = atKey r key := by simp [atKey, ha]
      rw [e] at h
      obtain ⟨X, Y, h1, h2, h3⟩ := woE_some hn.2 h
      refine ⟨a :: X, Y, by rw [h1]; rfl, ?_, h3⟩
      show List.filter _ (a :: r) = _
      rw [List.filter_cons_of_pos (by simpa using ha)]
      show a :: woE r key = _
      rw [h2]; rfl
theorem atKey_none_of {L : List E} {key : ByteArray} (h : ∀ x ∈ L, x.key ≠ key) : atKey L key = none := by
  unfold atKey
  rw [List.find?_eq_none]
  intro x hx
  simpa using h x hx
theorem atKey_snoc {M : List E} {key : ByteArray} (h : ∀ x ∈ M, x.key ≠ key) (t : Nat) (z : Int) : atKey (M ++ [⟨key, t, z⟩]) key = some ⟨key, t, z⟩ := by
  have h1 := atKey_none_of h
  unfold atKey at *
  rw [List.find?_append, h1]
  simp
theorem tot_sub : ∀ {A B : List E}, A.Sublist B → (∀ x ∈ B, 1 ≤ x.z) → tot A ≤ tot B := by
  intro A B hAB
  induction hAB with
  | slnil => intro _; exact Int.le_refl _
  | cons a _ ih => intro hB; rw [tot_cons]; have := ih (fun x hx => hB x (by simp [hx])); have := hB a (by simp); omega
  | cons_cons a _ ih => intro hB; rw [tot_cons, tot_cons]; have := ih (fun x hx => hB x (by simp [hx])); omega

/-- A round of MemoryGuarantees. -/
theorem guar_step {cap : Int} {sh : List Int} {L : List E} (hs : Sane cap sh L) (h1 : ∀ x ∈ L, x.z = 1) (hsum : sh.sum ≤ cap) {t : Nat} (key : ByteArray) (ht : t < sh.length) :
    (usedOf L t - (if tenI L key = t then 1 else 0) + 1 ≤ sh.getD t 0 → (putI cap sh L t key 1).1 = true) ∧ (putI cap sh L t key 1).1 = decide (tenI (putI cap sh L t key 1).2.2 key = t) ∧ ∀ x ∈ (putI cap sh L t key 1).2.2, x.z = 1 := by
  have hu : usedOf (woE L key) t = usedOf L t - (if tenI L key = t then 1 else 0) := by
    unfold tenI
    cases ha : atKey L key with
    | none =>
      rw [woE_none ha]
      simp only
      rw [if_neg (by omega)]; omega
    | some x =>
      obtain ⟨X, Y, e1, e2, e3⟩ := woE_some hs.keys ha
      have hz := h1 x (by rw [e1]; simp)
      simp only
      rw [e2, usedOf_append]
      rw [e1, usedOf_append, usedOf_cons, hz]
      by_cases hx : x.t = t
      · rw [if_pos hx, if_pos (by omega)]; omega
      · rw [if_neg hx, if_neg (by omega)]; omega
  refine ⟨fun h => put_guar hs h1 hsum key ht (by omega), ?_, ?_⟩
  · rcases putI_spec hs key ht (Int.le_refl 1) with ⟨T, M, e, hev, _⟩ | ⟨e, he⟩
    · rw [e]
      have : tenI (M ++ [⟨key, t, 1⟩]) key = t := by
        unfold tenI
        rw [atKey_snoc (fun x hx => (woE_mem (hev.sub.subset hx)).2)]
      simp [this]
    · rw [e]
      have hr : cap - tot (woE L key) < 1 := by
        apply Classical.byContradiction
        intro hh
        rw [evM, if_neg hh] at he
        cases he
      have hat : atKey L key = none := by
        cases ha : atKey L key with
        | none => rfl
        | some x =>
          obtain ⟨X, Y, e1, e2, e3⟩ := woE_some hs.keys ha
          have hz := h1 x (by rw [e1]; simp)
          have hle := hs.le
          rw [e1, tot_append, tot_cons, hz] at hle
          rw [e2, tot_append] at hr
          omega
      have : tenI L key = -1 := by unfold tenI; rw [hat]
      simp only
      rw [this]
      symm
      rw [decide_eq_false_iff_not]
      omega
  · rcases putI_spec hs key ht (Int.le_refl 1) with ⟨T, M, e, hev, _⟩ | ⟨e, he⟩
    · rw [e]
      intro x hx
      rcases List.mem_append.1 hx with hx | hx
      · exact h1 x (woE_mem (hev.sub.subset hx)).1
      · rw [List.mem_singleton] at hx; rw [hx]
    · rw [e]
      exact h1

/-- The base of the law's pool may be an older world. -/
theorem LW.base {w w0 : World} {p : Nat} {cap : Int} {sh : List Int} {L : List E} {S : Side} {W : World} (h : LW w p cap sh L S W) (k : Keep (fun _ => False) w0 w) : LW w0 p cap sh L S W := by
  obtain ⟨P, h, r⟩ := h
  exact ⟨P, ⟨h.at_, k.trans h.k, fun i hi => Nat.le_trans k.size (h.new i hi)⟩, r⟩
theorem RowIn.keep {w W : World} {a : Option Addr} {xs : List Int} (h : RowIn w a xs) (k : Keep (fun _ => False) w W) : RowIn W a xs := fun j x hj => by
  obtain ⟨b, off, e, hc⟩ := h j x hj
  exact ⟨b, off, e, k.cell hc (fun h => h)⟩
theorem quiet_same {P : Program} {f : FuncId} {args : Array Value} {w : World} {n : Nat} {v : Value}
    (h : Calls P f args (w.drewN n) fun e w' => e = .returned v ∧ w.drewN n = w') : Calls P f args (w.drewN n) fun e w'' => e = .returned v ∧ ∃ m, w'' = w.drewN m :=
  h.mono fun _ _ ⟨he, hm⟩ => ⟨he, n, hm.symm⟩

/-- The calls that came in: n of them, four numbers each. -/
structure Steps (w : World) (b off n : Nat) (f : Nat → Nat → Int) : Prop where
  cell : ∀ i j, i < n → j < 4 → w.cell? ⟨b, off + i * 4 + j, none⟩ = some (.int .i64 (f i j))
  lo : ∀ i j, -9223372036854775808 ≤ f i j
  hi : ∀ i j, f i j ≤ 9223372036854775807

theorem pick_nat (c : Int) (n t : Nat) (w : World) (h1 : -9223372036854775808 ≤ c) (h2 : c ≤ 9223372036854775807) (hn : 1 ≤ n) (hn2 : n ≤ 1000) (ht : pk c n = t) :
    Calls Try.prog 14 #[.int .i64 c, .int .i64 n] w fun e w' => e = .returned (.int .i64 (t : Int)) ∧ w = w' := by
  rw [← ht]
  exact pick_any c n w h1 h2 (by omega) (by omega)
theorem pk_nat (c : Int) (n : Nat) (hn : 1 ≤ n) : ∃ t : Nat, pk c n = t ∧ t < n := by
  have := pk_bd c n (by omega)
  exact ⟨(pk c n).toNat, by omega, by omega⟩
end Go.Proofs.Ytigkhglgoabjaaa
