/-
  Plain laws of the removals: what evM takes away, and of whom.
-/
import Derived.Test.YtigkhglgoabjaaaN2
namespace Go.Proofs.Ytigkhglgoabjaaa
open Go.RowKit Go.Shelf

theorem takeFit_spec (f : E → Bool) : ∀ {L M : List E} {x : E}, takeFit f L = some (x, M) → ∃ X Y, L = X ++ x :: Y ∧ M = X ++ Y ∧ f x = true ∧ ∀ a ∈ X, f a = false
  | [], M, x, h => by cases h
  | a :: r, M, x, h => by
    rw [takeFit] at h
    by_cases ha : f a = true
    · rw [if_pos ha] at h
      cases h
      exact ⟨[], r, rfl, rfl, ha, fun _ h => by cases h⟩
    · rw [if_neg ha] at h
      cases hr : takeFit f r with
      | none => rw [hr] at h; cases h
      | some q =>
        obtain ⟨y, r'⟩ := q
        rw [hr] at h
        cases h
        obtain ⟨X, Y, e1, e2, h1, h2⟩ := takeFit_spec f hr
        refine ⟨a :: X, Y, by rw [e1]; rfl, by rw [e2]; rfl, h1, fun b hb => ?_⟩
        rcases List.mem_cons.1 hb with rfl | hb
        · simpa using ha
        · exact h2 b hb
theorem takeFit_isSome (f : E → Bool) {L : List E} {x : E} (hx : x ∈ L) (hf : f x = true) : ∃ y M, takeFit f L = some (y, M) := by
  induction L with
  | nil => cases hx
  | cons a r ih =>
    rw [takeFit]
    by_cases ha : f a = true
    · exact ⟨a, r, by rw [if_pos ha]⟩
    · rw [if_neg ha]
      rcases List.mem_cons.1 hx with rfl | hx
      · exact absurd hf ha
      · obtain ⟨y, M, e⟩ := ih hx
        rw [e]
        exact ⟨_, _, rfl⟩

theorem usedOf_perm {A B : List E} (h : A.Perm B) (t : Nat) : usedOf A t = usedOf B t := by
  induction h with
  | nil => rfl
  | cons x _ ih => rw [usedOf_cons, usedOf_cons, ih]
  | swap x y l => simp only [usedOf_cons]; omega
  | trans _ _ ih1 ih2 => exact ih1.trans ih2
theorem usedOf_mem {L : List E} (h : ∀ x ∈ L, 1 ≤ x.z) {x : E} (hx : x ∈ L) : 1 ≤ usedOf L x.t := by
  obtain ⟨X, Y, rfl⟩ := List.append_of_mem hx
  rw [usedOf_append, usedOf_cons, if_pos rfl]
  have h1 := usedOf_nonneg X x.t (fun y hy => by have := h y (by simp [hy]); omega)
  have h2 := usedOf_nonneg Y x.t (fun y hy => by have := h y (by simp [hy]); omega)
  have := h x hx
  omega
theorem usedOf_zero {L : List E} {t : Nat} (h : ∀ x ∈ L, x.t ≠ t) : usedOf L t = 0 := by
  induction L with
  | nil => rfl
  | cons a r ih => rw [usedOf_cons, if_neg (h a (by simp)), ih (fun x hx => h x (by simp [hx]))]; rfl

/-- One removal's choice. -/
theorem fits_own {S : List Int} {L : List E} {t : Nat} {z : Int} {x : E} (h : fitsB S L t z x = true) (ho : overB S L t z = true) : x.t = t := by
  unfold fitsB at h
  rw [ho] at h
  simp at h
  omega
theorem fits_other {S : List Int} {L : List E} {t : Nat} {z : Int} {x : E} (h : fitsB S L t z x = true) (ho : overB S L t z = false) : x.t ≠ t ∧ S.getD x.t 0 ≤ usedOf L x.t - x.z := by
  unfold fitsB at h
  rw [ho] at h
  simp at h
  exact ⟨by omega, by simpa using h.2⟩
theorem over_true {S : List Int} {L : List E} {t : Nat} {z : Int} : overB S L t z = true ↔ S.getD t 0 < usedOf L t + z := by
  unfold overB; simp; omega
theorem over_false {S : List Int} {L : List E} {t : Nat} {z : Int} : overB S L t z = false ↔ usedOf L t + z ≤ S.getD t 0 := by
  unfold overB; simp; omega

/-- What the removals T leave of L. -/
structure EvS (S : List Int) (cap : Int) (t : Nat) (z : Int) (L : List E) (b : Bool) (T M : List E) : Prop where
  perm : L.Perm (T ++ M)
  sub : M.Sublist L
  room : b = true → z ≤ cap - tot M
  last : ∀ T' x, T = T' ++ [x] → cap - tot M - x.z < z
  share : ∀ k, k ≠ t → usedOf M k = usedOf L k ∨ S.getD k 0 ≤ usedOf M k
  own : usedOf L t + z ≤ S.getD t 0 → ∀ x ∈ T, x.t ≠ t
  over : S.getD t 0 < usedOf M t + z → ∀ x ∈ T, x.t = t

theorem evM_spec {S : List Int} {cap : Int} {t : Nat} {z : Int} : ∀ (n : Nat) (L : List E), (∀ x ∈ L, 1 ≤ x.z) → EvS S cap t z L (evM S cap t z n L).1 (evM S cap t z n L).2.1 (evM S cap t z n L).2.2
  | 0, L, _ => by
    rw [evM]
    exact ⟨List.Perm.refl _, List.Sublist.refl _, fun h => (by cases h), fun T' x h => (by simp at h), fun k _ => .inl rfl, fun _ x hx => (by cases hx), fun _ x hx => (by cases hx)⟩
  | n + 1, L, hL => by
    rw [evM]
    by_cases hz : cap - tot L < z
    · rw [if_pos hz]
      cases ht : takeFit (fitsB S L t z) L with
      | none => exact ⟨List.Perm.refl _, List.Sublist.refl _, fun h => (by cases h), fun T' x h => (by simp at h), fun k _ => .inl rfl, fun _ x hx => (by cases hx), fun _ x hx => (by cases hx)⟩
      | some q =>
        obtain ⟨x, M⟩ := q
        obtain ⟨X, Y, e1, e2, hf, _⟩ := takeFit_spec _ ht
        have hM : ∀ y ∈ M, 1 ≤ y.z := fun y hy => hL y (by rw [e1]; rw [e2] at hy; simp at hy ⊢; exact hy.elim .inl (fun h => .inr (.inr h)))
        have ih := evM_spec (S := S) (cap := cap) (t := t) (z := z) n M hM
        have hp : L.Perm (x :: M) := by rw [e1, e2]; exact List.perm_middle
        have hu : ∀ k, usedOf L k = (if x.t = k then x.z else 0) + usedOf M k := fun k => by rw [e1, e2, usedOf_append, usedOf_append, usedOf_cons]; omega
        have hxz := hL x (by rw [e1]; simp)
        have hT : usedOf M t = usedOf (evM S cap t z n M).2.1 t + usedOf (evM S cap t z n M).2.2 t := by
          rw [← usedOf_append]
          exact usedOf_perm ih.perm t
        have hTn : 0 ≤ usedOf (evM S cap t z n M).2.1 t := usedOf_nonneg _ t (fun y hy => by have := hM y (ih.perm.mem_iff.2 (List.mem_append_left _ hy)); omega)
        show EvS S cap t z L (evM S cap t z n M).1 (x :: (evM S cap t z n M).2.1) (evM S cap t z n M).2.2
        refine ⟨?_, ?_, ih.room, ?_, ?_, ?_, ?_⟩
        · exact hp.trans (List.Perm.cons x ih.perm)
        · exact ih.sub.trans (by rw [e1, e2]; exact List.Sublist.append (List.Sublist.refl _) (List.sublist_cons_self _ _))
        · intro T' y hy
          cases hTT : (evM S cap t z n M).2.1 with
          | nil =>
            rw [hTT] at hy
            have e : T' = [] ∧ y = x := by
              cases T' with
              | nil => simp at hy; exact ⟨rfl, hy.symm⟩
              | cons a r => simp at hy
            have hMM : tot (evM S cap t z n M).2.2 = tot M := by
              have h1 := tot_perm ih.perm
              rw [hTT] at h1
              simpa using h1.symm
            have h2 := tot_perm hp
            rw [tot_cons] at h2
            rw [e.2]
            omega
          | cons a r =>
            rw [hTT] at hy
            cases T' with
            | nil => simp at hy
            | cons b T'' =>
              simp at hy
              exact ih.last T'' y (by rw [hTT]; simp [hy.2])
        · intro k hk
          rcases ih.share k hk with h | h
          · by_cases hxk : x.t = k
            · cases ho : overB S L t z with
              | true => exact absurd ((fits_own hf ho).symm.trans hxk) (Ne.symm hk)
              | false =>
                have h3 := (fits_other hf ho).2
                rw [hxk] at h3
                right
                rw [h]
                have := hu k
                rw [if_pos hxk] at this
                omega
            · left
              rw [h, hu k, if_neg hxk]; omega
          · exact .inr h
        · intro h y hy
          have ho : overB S L t z = false := over_false.2 h
          have hxt := (fits_other hf ho).1
          have hut := hu t
          rw [if_neg hxt] at hut
          rcases List.mem_cons.1 hy with rfl | hy
          · exact hxt
          · exact ih.own (by omega) y hy
        · intro h y hy
          have hut := hu t
          have h0 : 0 ≤ (if x.t = t then x.z else 0) := by split <;> omega
          have ho : overB S L t z = true := over_true.2 (by omega)
          rcases List.mem_cons.1 hy with rfl | hy
          · exact fits_own hf ho
          · exact ih.over h y hy
    · rw [if_neg hz]
      exact ⟨List.Perm.refl _, List.Sublist.refl _, fun _ => (by simp only; omega), fun T' x h => (by simp at h), fun k _ => .inl rfl, fun _ x hx => (by cases hx), fun _ x hx => (by cases hx)⟩

/-! ### Put -/
theorem woE_sub (L : List E) (key : ByteArray) : (woE L key).Sublist L := List.filter_sublist
theorem woE_mem {L : List E} {key : ByteArray} {x : E} (h : x ∈ woE L key) : x ∈ L ∧ x.key ≠ key := by
  unfold woE at h
  rw [List.mem_filter] at h
  exact ⟨h.1, by simpa using h.2⟩

/-- A Put within bounds, done or not. -/
theorem putI_spec {cap : Int} {sh : List Int} {L : List E} (hs : Sane cap sh L) {t : Nat} (key : ByteArray) {z : Int} (ht : t < sh.length) (hz : 1 ≤ z) :
    (∃ T M, putI cap sh L t key z = (true, T, M ++ [⟨key, t, z⟩]) ∧ EvS sh cap t z (woE L key) true T M ∧ evM sh cap t z (L.length + 1) (woE L key) = (true, T, M)) ∨
    (putI cap sh L t key z = (false, [], L) ∧ (evM sh cap t z (L.length + 1) (woE L key)).1 = false) := by
  rw [putI, if_pos (by omega), Int.toNat_natCast, putM]
  have h := evM_spec (S := sh) (cap := cap) (t := t) (z := z) (L.length + 1) (woE L key) (fun x hx => (hs.rng x (woE_mem hx).1).2)
  cases he : evM sh cap t z (L.length + 1) (woE L key) with
  | mk b q =>
    obtain ⟨T, M⟩ := q
    rw [he] at h
    cases b with
    | true => exact .inl ⟨T, M, rfl, h, rfl⟩
    | false => exact .inr ⟨rfl, rfl⟩

theorem sharesOk_sum : ∀ (l : List Int) (left : Int), sharesOk left l = true → 0 ≤ left → l.sum ≤ left
  | [], _, _, h => h
  | a :: r, left, h, h0 => by
    simp [sharesOk] at h
    have := sharesOk_sum r (left - a) h.2 (by omega)
    simp; omega

/-- The uses of all tenants are the whole. -/
theorem sum_range_add (n : Nat) (f g : Nat → Int) : ((List.range n).map fun k => f k + g k).sum = ((List.range n).map f).sum + ((List.range n).map g).sum := by
  induction n with
  | zero => rfl
  | succ n ih => simp only [List.range_succ, List.map_append, List.sum_append, List.map_cons, List.map_nil, List.sum_cons, List.sum_nil]; omega
theorem sum_range_one (n t : Nat) (z : Int) (h : t < n) : ((List.range n).map fun k => if t = k then z else 0).sum = z := by
  induction n with
  | zero => omega
  | succ n ih =>
    simp only [List.range_succ, List.map_append, List.sum_append, List.map_cons, List.map_nil, List.sum_cons, List.sum_nil]
    by_cases e : t = n
    · subst e
      have : ((List.range t).map fun k => if t = k then z else 0).sum = 0 := by
        have hh : ∀ m, m ≤ t → ((List.range m).map fun k => if t = k then z else 0).sum = 0 := by
          intro m
          induction m with
          | zero => intro _; rfl
          | succ m ihm =>
            intro hm
            simp only [List.range_succ, List.map_append, List.sum_append, List.map_cons, List.map_nil, List.sum_cons, List.sum_nil]
            rw [ihm (by omega), if_neg (by omega)]; rfl
        exact hh t (Nat.le_refl _)
      rw [this, if_pos rfl]; omega
    · rw [ih (by omega), if_neg e]; omega
theorem uses_sum (sh : List Int) : ∀ (L : List E), (∀ x ∈ L, x.t < sh.length) → (usesOf sh L).sum = tot L
  | [], _ => by
    unfold usesOf
    have : ∀ n : Nat, ((List.range n).map (usedOf [])).sum = 0 := by
      intro n
      induction n with
      | zero => rfl
      | succ n ih => simp only [List.range_succ, List.map_append, List.sum_append, List.map_cons, List.map_nil, List.sum_cons, List.sum_nil, ih]; rfl
    rw [this]; rfl
  | x :: r, h => by
    have ih := uses_sum sh r (fun y hy => h y (by simp [hy]))
    unfold usesOf at *
    have e : (fun k => usedOf (x :: r) k) = fun k => (if x.t = k then x.z else 0) + usedOf r k := by funext k; rw [usedOf_cons]
    have e2 : (List.range sh.length).map (usedOf (x :: r)) = (List.range sh.length).map fun k => (if x.t = k then x.z else 0) + usedOf r k := by rw [← e]
    rw [e2, sum_range_add, sum_range_one _ _ _ (h x (by simp)), ih, tot_cons]

theorem sum_lt : ∀ (a b : List Int), a.length = b.length → (∀ k, k < a.length → a.getD k 0 ≤ b.getD k 0) → a.sum ≤ b.sum
  | [], [], _, _ => Int.le_refl _
  | [], _ :: _, h, _ => by simp at h
  | _ :: _, [], h, _ => by simp at h
  | x :: a, y :: b, h, hk => by
    have h1 := hk 0 (by simp)
    have h2 := sum_lt a b (by simpa using h) (fun k hk' => by simpa using hk (k + 1) (by simp; omega))
    simp at h1 ⊢
    omega
theorem sum_lt' : ∀ (a b : List Int) (t : Nat), a.length = b.length → (∀ k, k < a.length → a.getD k 0 ≤ b.getD k 0) → t < a.length → a.getD t 0 < b.getD t 0 → a.sum < b.sum
  | [], _, _, _, _, h, _ => by simp at h
  | _ :: _, [], _, h, _, _, _ => by simp at h
  | x :: a, y :: b, 0, h, hk, _, ht => by
    have h2 := sum_lt a b (by simpa using h) (fun k hk' => by simpa using hk (k + 1) (by simp; omega))
    simp at ht ⊢
    omega
  | x :: a, y :: b, t + 1, h, hk, h3, ht => by
    have h1 := hk 0 (by simp)
    have h2 := sum_lt' a b t (by simpa using h) (fun k hk' => by simpa using hk (k + 1) (by simp; omega)) (by simpa using h3) (by simpa using ht)
    simp at h1 ⊢
    omega

theorem uses_getD (sh : List Int) (L : List E) (k : Nat) (h : k < sh.length) : (usesOf sh L).getD k 0 = usedOf L k := by
  rw [List.getD_eq_getElem?_getD, usesOf_get sh L k h]; rfl

/-- With entries of size 1, a Put within the tenant's share is done. -/
theorem put_guar {cap : Int} {sh : List Int} {L : List E} (hs : Sane cap sh L) (h1 : ∀ x ∈ L, x.z = 1) (hsum : sh.sum ≤ cap) {t : Nat} (key : ByteArray) (ht : t < sh.length) (hu : usedOf (woE L key) t + 1 ≤ sh.getD t 0) :
    (putI cap sh L t key 1).1 = true := by
  rcases putI_spec hs key ht (Int.le_refl 1) with ⟨T, M, e, _⟩ | ⟨_, e⟩
  · rw [e]
  · exfalso
    have hL1 : ∀ x ∈ woE L key, x.t < sh.length ∧ x.z = 1 := fun x hx => ⟨(hs.rng x (woE_mem hx).1).1, h1 x (woE_mem hx).1⟩
    rw [evM] at e
    by_cases hr : cap - tot (woE L key) < 1
    · rw [if_pos hr] at e
      obtain ⟨k, hk, hlt⟩ : ∃ k, k < sh.length ∧ sh.getD k 0 < usedOf (woE L key) k := by
        apply Classical.byContradiction
        intro hno
        have h2 : (usesOf sh (woE L key)).sum < sh.sum := sum_lt' _ _ t (by rw [usesOf_length]) (fun k hk => by
          rw [usesOf_length] at hk
          rw [uses_getD _ _ _ hk]
          apply Classical.byContradiction
          intro hh
          exact hno ⟨k, hk, by omega⟩) (by rw [usesOf_length]; exact ht) (by rw [uses_getD _ _ _ ht]; omega)
        rw [uses_sum sh _ (fun x hx => (hL1 x hx).1)] at h2
        omega
      have hkt : k ≠ t := fun e => by subst e; omega
      have hsh : 0 ≤ sh.getD k 0 := by
        have := hs.shr (sh.getD k 0) (by rw [List.getD_eq_getElem?_getD, List.getElem?_eq_getElem hk]; exact List.getElem_mem _)
        omega
      obtain ⟨x, hx, hxk⟩ : ∃ x ∈ woE L key, x.t = k := by
        apply Classical.byContradiction
        intro hno
        have := usedOf_zero (L := woE L key) (t := k) (fun x hx e => hno ⟨x, hx, e⟩)
        omega
      have ho : overB sh (woE L key) t 1 = false := over_false.2 hu
      have hf : fitsB sh (woE L key) t 1 x = true := by
        unfold fitsB
        rw [ho]
        have hxz := (hL1 x hx).2
        rw [hxk, hxz]
        simp only [Bool.false_eq_true, if_false, Bool.and_eq_true, decide_eq_true_eq]
        exact ⟨by simp; omega, by omega⟩
      obtain ⟨y, M, hy⟩ := takeFit_isSome _ hx hf
      rw [hy] at e
      obtain ⟨X, Y, e1, e2, _, _⟩ := takeFit_spec _ hy
      have hy1 := (hL1 y (by rw [e1]; simp)).2
      have hM : tot (woE L key) = 1 + tot M := by rw [e1, e2, tot_append, tot_append, tot_cons, hy1]; omega
      have hle : tot (woE L key) ≤ cap := by
        have hp := hs.le
        have : tot (woE L key) ≤ tot L := by
          have hh : ∀ (A B : List E), A.Sublist B → (∀ x ∈ B, 1 ≤ x.z) → tot A ≤ tot B := by
            intro A B hAB
            induction hAB with
            | slnil => intro _; exact Int.le_refl _
            | cons a _ ih => intro hB; rw [tot_cons]; have := ih (fun x hx => hB x (by simp [hx])); have := hB a (by simp); omega
            | cons_cons a _ ih => intro hB; rw [tot_cons, tot_cons]; have := ih (fun x hx => hB x (by simp [hx])); omega
          exact hh _ _ (woE_sub L key) (fun x hx => (hs.rng x hx).2)
        omega
      have hlen : ∃ m, L.length = m + 1 := by
        have : 0 < L.length := List.length_pos_of_mem (woE_mem hx).1
        exact ⟨L.length - 1, by omega⟩
      obtain ⟨m, hm⟩ := hlen
      rw [hm] at e
      simp only at e
      rw [evM, if_neg (by omega)] at e
      cases e
    · rw [if_neg hr] at e
      cases e
end Go.Proofs.Ytigkhglgoabjaaa
