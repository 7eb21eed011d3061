/-
  A further member in its place; other regions and weights; owners that are changed.
-/
import Derived.Test.YtplkmbfeeegaiaaDoorP2
namespace Go.Proofs.YtplkmbfeeegaiaaDoor

/-! ### a further member -/
def loM (l : List Mb) (n : Int) : List Mb := l.filter (fun x => decide (x.node < n))
def hiM (l : List Mb) (n : Int) : List Mb := l.filter (fun x => decide (n < x.node))
/-- What is built so far: the further member is there if one behind it is. -/
def withM (l : List Mb) (m : Mb) : List Mb := loM l m.node ++ (if (hiM l m.node).length = 0 then [] else m :: hiM l m.node)
def moreM (l : List Mb) (m : Mb) : List Mb := loM l m.node ++ m :: hiM l m.node
theorem withM_nil (m : Mb) : withM [] m = [] := by simp [withM, loM, hiM]
theorem hiM_nil (n : Int) : (hiM [] n).length = 0 := by simp [hiM]
theorem loM_snoc (l : List Mb) (x : Mb) (n : Int) : loM (l ++ [x]) n = loM l n ++ (if x.node < n then [x] else []) := by
  unfold loM
  rw [List.filter_append]
  by_cases h : x.node < n <;> simp [h]
theorem hiM_snoc (l : List Mb) (x : Mb) (n : Int) : hiM (l ++ [x]) n = hiM l n ++ (if n < x.node then [x] else []) := by
  unfold hiM
  rw [List.filter_append]
  by_cases h : n < x.node <;> simp [h]
theorem withM_lt {l : List Mb} {x m : Mb} (hx : x.node < m.node) (ha : ∀ y ∈ l, y.node < x.node) : (hiM (l ++ [x]) m.node).length = 0 ∧ withM (l ++ [x]) m = withM l m ++ [x] := by
  have h0 : hiM l m.node = [] := by
    unfold hiM
    rw [List.filter_eq_nil_iff]
    intro y hy
    have := ha y hy
    simp; omega
  have h1 : hiM (l ++ [x]) m.node = [] := by rw [hiM_snoc, h0, if_neg (by omega)]; rfl
  refine ⟨by rw [h1]; rfl, ?_⟩
  unfold withM
  rw [h1, h0, loM_snoc, if_pos hx]
  simp
theorem withM_first {l : List Mb} {x m : Mb} (hx : m.node < x.node) (h0 : (hiM l m.node).length = 0) : (hiM (l ++ [x]) m.node).length ≠ 0 ∧ withM (l ++ [x]) m = withM l m ++ [m] ++ [x] := by
  have h0' : hiM l m.node = [] := List.eq_nil_of_length_eq_zero h0
  have h1 : hiM (l ++ [x]) m.node = [x] := by rw [hiM_snoc, h0', if_pos hx]; rfl
  refine ⟨by rw [h1]; simp, ?_⟩
  unfold withM
  rw [h1, h0', loM_snoc, if_neg (by omega)]
  simp
theorem withM_next {l : List Mb} {x m : Mb} (hx : m.node < x.node) (h0 : (hiM l m.node).length ≠ 0) : (hiM (l ++ [x]) m.node).length ≠ 0 ∧ withM (l ++ [x]) m = withM l m ++ [x] := by
  have h1 : hiM (l ++ [x]) m.node = hiM l m.node ++ [x] := by rw [hiM_snoc, if_pos hx]
  have h2 : (hiM (l ++ [x]) m.node).length ≠ 0 := by rw [h1]; simp
  refine ⟨h2, ?_⟩
  unfold withM
  rw [if_neg h2, if_neg h0, h1, loM_snoc, if_neg (by omega)]
  simp
theorem withM_end0 {l : List Mb} {m : Mb} (h0 : (hiM l m.node).length = 0) : withM l m ++ [m] = moreM l m := by
  unfold withM moreM
  rw [if_pos h0, List.eq_nil_of_length_eq_zero h0]
  simp
theorem withM_end1 {l : List Mb} {m : Mb} (h0 : (hiM l m.node).length ≠ 0) : withM l m = moreM l m := by
  unfold withM moreM
  rw [if_neg h0]
theorem withM_len (l : List Mb) (m : Mb) : (withM l m).length ≤ 2 * l.length := by
  have h1 : (loM l m.node).length ≤ l.length := List.length_filter_le _ _
  have h2 : (hiM l m.node).length ≤ l.length := List.length_filter_le _ _
  have h3 : (loM l m.node).length + (hiM l m.node).length ≤ l.length := by
    clear h1 h2
    induction l with
    | nil => simp [loM, hiM]
    | cons a l ih =>
      unfold loM hiM at ih ⊢
      rw [List.filter_cons, List.filter_cons]
      by_cases ha : a.node < m.node
      · have hb : ¬ m.node < a.node := by omega
        simp [ha, hb]; omega
      · by_cases hb : m.node < a.node <;> simp [ha, hb] <;> omega
  unfold withM
  rw [List.length_append]
  split
  · simp; omega
  · simp only [List.length_cons]; omega
theorem split_lo_hi : ∀ {l : List Mb}, l.Pairwise (fun a b => a.node < b.node) → ∀ (n : Int), (∀ x ∈ l, x.node ≠ n) → l = loM l n ++ hiM l n
  | [], _, _, _ => by simp [loM, hiM]
  | a :: l, h, n, hn => by
    rw [List.pairwise_cons] at h
    have hne := hn a (by simp)
    have ih := split_lo_hi h.2 n (fun x hx => hn x (by simp [hx]))
    by_cases ha : a.node < n
    · have e1 : loM (a :: l) n = a :: loM l n := by unfold loM; rw [List.filter_cons_of_pos (by simpa using ha)]
      have e2 : hiM (a :: l) n = hiM l n := by unfold hiM; rw [List.filter_cons_of_neg (by simp; omega)]
      rw [e1, e2, List.cons_append, ← ih]
    · have e1 : loM (a :: l) n = [] := by
        unfold loM
        rw [List.filter_eq_nil_iff]
        intro y hy
        rcases List.mem_cons.1 hy with rfl | hy
        · simpa using ha
        · have := h.1 y hy; simp; omega
      have e2 : hiM (a :: l) n = a :: l := by
        unfold hiM
        rw [List.filter_eq_self]
        intro y hy
        rcases List.mem_cons.1 hy with rfl | hy
        · simp; omega
        · have := h.1 y hy; simp; omega
      rw [e1, e2, List.nil_append]
theorem moreM_ok {l : List Mb} {m : Mb} (h : VL l) (hm : okMb m) : VL (moreM l m) := by
  refine ⟨fun x hx => ?_, ?_, by unfold moreM; simp⟩
  · unfold moreM loM hiM at hx
    rcases List.mem_append.1 hx with hx | hx
    · exact h.ok x (List.mem_filter.1 hx).1
    · rcases List.mem_cons.1 hx with rfl | hx
      · exact hm
      · exact h.ok x (List.mem_filter.1 hx).1
  · unfold moreM loM hiM
    rw [List.pairwise_append, List.pairwise_cons]
    refine ⟨h.asc.sublist List.filter_sublist, ⟨fun x hx => ?_, h.asc.sublist List.filter_sublist⟩, fun x hx y hy => ?_⟩
    · simpa using (List.mem_filter.1 hx).2
    · have h1 : x.node < m.node := by simpa using (List.mem_filter.1 hx).2
      rcases List.mem_cons.1 hy with rfl | hy
      · exact h1
      · have h2 : m.node < y.node := by simpa using (List.mem_filter.1 hy).2
        omega
theorem consistentM (P : Int → Nat → Int) (Q : Nat → Int) {l : List Mb} {m : Mb} (h : VL l) (hm : VL (moreM l m)) (hn : ∀ x ∈ l, x.node ≠ m.node)
    (hf : ∀ x ∈ l, cnt (ownersL P Q l) x.node < limitL l x.node) (hf' : ∀ x ∈ moreM l m, cnt (ownersL P Q (moreM l m)) x.node < limitL (moreM l m) x.node)
    {s : Nat} (hs : s < 64) : ∃ x y, (ownersL P Q l)[s]? = some x ∧ (ownersL P Q (moreM l m))[s]? = some y ∧ (y = x ∨ y = m.node) := by
  have e := split_lo_hi h.asc m.node hn
  unfold moreM at hm hf' ⊢
  revert hm hf' e
  generalize loM l m.node = a
  generalize hiM l m.node = b
  intro hm hf' e
  subst e
  exact consistent P Q h hm hn hf hf' hs
def freeB (l : List Mb) (ow : List Int) : Bool := l.all (fun m => decide (cnt ow m.node < limitL l m.node))
theorem freeB_iff (l : List Mb) (ow : List Int) : freeB l ow = true ↔ ∀ m ∈ l, cnt ow m.node < limitL l m.node := by
  unfold freeB
  rw [List.all_eq_true]
  exact ⟨fun h m hm => by simpa using h m hm, fun h m hm => by simpa using h m hm⟩

/-! ### other regions and weights -/
/-- Behind k members: lo has other regions, the first k of lh have t times the weight. -/
structure RegSt (l lo lh : List Mb) (t : Int) (k : Nat) : Prop where
  lenO : lo.length = l.length
  lenH : lh.length = l.length
  o : ∀ (i : Nat) (m : Mb), l[i]? = some m → ∃ r, lo[i]? = some ⟨m.node, r, m.weight⟩ ∧ 0 ≤ r ∧ r ≤ 3
  h : ∀ (i : Nat) (m : Mb), l[i]? = some m → lh[i]? = some (if i < k then ⟨m.node, m.region, t * m.weight⟩ else m)
  w : ∀ (i : Nat) (m : Mb), i < k → l[i]? = some m → t * m.weight ≤ 16
theorem RegSt.start {l : List Mb} (hv : VL l) (t : Int) : RegSt l l l t 0 :=
  ⟨rfl, rfl, fun i m hm => ⟨m.region, hm, by have := hv.ok m (List.mem_of_getElem? hm); unfold okMb at this; omega⟩, fun i m hm => by rw [if_neg (by omega)]; exact hm, fun i m h => absurd h (by omega)⟩
theorem RegSt.region {l lo lh : List Mb} {t : Int} {k i : Nat} {m : Mb} (h : RegSt l lo lh t k) (hm : l[i]? = some m) {r : Int} (hr : 0 ≤ r ∧ r ≤ 3) : RegSt l (lo.set i ⟨m.node, r, m.weight⟩) lh t k := by
  refine ⟨by rw [List.length_set]; exact h.lenO, h.lenH, fun j x hx => ?_, h.h, h.w⟩
  by_cases e : i = j
  · subst e
    rw [hm] at hx
    cases hx
    have : i < lo.length := by rw [h.lenO]; exact (List.getElem?_eq_some_iff.1 hm).1
    exact ⟨r, by rw [List.getElem?_set_self this], hr⟩
  · rw [List.getElem?_set_ne e]
    exact h.o j x hx
theorem RegSt.heavy {l lo lh : List Mb} {t : Int} {k : Nat} {m : Mb} (h : RegSt l lo lh t k) (hm : l[k]? = some m) (hw : t * m.weight ≤ 16) : RegSt l lo (lh.set k ⟨m.node, m.region, t * m.weight⟩) t (k + 1) := by
  refine ⟨h.lenO, by rw [List.length_set]; exact h.lenH, h.o, fun j x hx => ?_, fun j x hj hx => ?_⟩
  · by_cases e : k = j
    · subst e
      rw [hm] at hx
      cases hx
      have : k < lh.length := by rw [h.lenH]; exact (List.getElem?_eq_some_iff.1 hm).1
      rw [List.getElem?_set_self this, if_pos (by omega)]
    · rw [List.getElem?_set_ne e, h.h j x hx]
      by_cases hj : j < k
      · rw [if_pos hj, if_pos (by omega)]
      · rw [if_neg hj, if_neg (by omega)]
  · by_cases e : j = k
    · subst e
      rw [hm] at hx
      cases hx
      exact hw
    · exact h.w j x (by omega) hx
theorem RegSt.mapO {l lo lh : List Mb} {t : Int} {k : Nat} (h : RegSt l lo lh t k) : l.map (fun m => (m.node, m.weight)) = lo.map (fun m => (m.node, m.weight)) := by
  apply List.ext_getElem?
  intro i
  rw [List.getElem?_map, List.getElem?_map]
  cases hm : l[i]? with
  | none =>
    have : lo[i]? = none := by rw [List.getElem?_eq_none_iff] at hm ⊢; rw [h.lenO]; exact hm
    rw [this]
  | some m =>
    obtain ⟨r, hr, _⟩ := h.o i m hm
    rw [hr]; rfl
theorem pairwise_map_node {l l' : List Mb} (h : l.Pairwise (fun a b => a.node < b.node)) (e : l.map Mb.node = l'.map Mb.node) : l'.Pairwise (fun a b => a.node < b.node) := by
  have h1 : (l.map Mb.node).Pairwise (fun a b => a < b) := by rw [List.pairwise_map]; exact h
  rw [e, List.pairwise_map] at h1
  exact h1
theorem RegSt.okO {l lo lh : List Mb} {t : Int} {k : Nat} (h : RegSt l lo lh t k) (hv : VL l) : VL lo := by
  have hmap := h.mapO
  refine ⟨fun x hx => ?_, pairwise_map_node hv.asc ?_, fun e => ?_⟩
  · obtain ⟨i, hi⟩ := List.mem_iff_getElem?.1 hx
    have hl : i < l.length := by rw [← h.lenO]; exact (List.getElem?_eq_some_iff.1 hi).1
    obtain ⟨r, hr, h0, h3⟩ := h.o i _ (List.getElem?_eq_getElem hl)
    rw [hi] at hr
    cases hr
    have := hv.ok _ (List.getElem_mem hl)
    unfold okMb at this ⊢
    exact ⟨this.1, this.2.1, h0, h3, this.2.2.2.2⟩
  · have := congrArg (List.map Prod.fst) hmap
    simpa [List.map_map, Function.comp_def] using this
  · have h1 := h.lenO
    rw [e] at h1
    exact hv.ne (List.eq_nil_of_length_eq_zero h1.symm)
def scaled (l : List Mb) (t : Int) : List Mb := l.map (fun m => ⟨m.node, m.region, t * m.weight⟩)
theorem RegSt.all {l lo lh : List Mb} {t : Int} {k : Nat} (h : RegSt l lo lh t k) (hk : l.length ≤ k) : lh = scaled l t := by
  apply List.ext_getElem?
  intro i
  unfold scaled
  rw [List.getElem?_map]
  cases hm : l[i]? with
  | none =>
    have : lh[i]? = none := by rw [List.getElem?_eq_none_iff] at hm ⊢; rw [h.lenH]; exact hm
    rw [this]; rfl
  | some m =>
    have hi : i < l.length := (List.getElem?_eq_some_iff.1 hm).1
    rw [h.h i m hm, if_pos (by omega)]; rfl
theorem wsum_scaled (t : Int) : ∀ l, wsum (scaled l t) = t * wsum l
  | [] => by simp [scaled, wsum]
  | m :: l => by
    have := wsum_scaled t l
    unfold scaled at this ⊢
    simp only [List.map_cons, wsum]
    rw [this, Int.mul_add]
theorem scaled_ok {l : List Mb} {t : Int} (hv : VL l) (ht : 1 ≤ t) (hw : ∀ m ∈ l, t * m.weight ≤ 16) : VL (scaled l t) := by
  refine ⟨fun x hx => ?_, pairwise_map_node hv.asc (by unfold scaled; rw [List.map_map]; rfl), fun e => ?_⟩
  · unfold scaled at hx
    obtain ⟨m, hm, rfl⟩ := List.mem_map.1 hx
    have h1 := hv.ok m hm
    have h2 := hw m hm
    unfold okMb at h1 ⊢
    have h3 : 1 * 1 ≤ t * m.weight := Int.mul_le_mul ht (by omega) (by omega) (by omega)
    exact ⟨h1.1, h1.2.1, h1.2.2.1, h1.2.2.2.1, by simp only []; omega, h2⟩
  · unfold scaled at e
    exact hv.ne (List.map_eq_nil_iff.1 e)
theorem limitL_scaled {l : List Mb} {t : Int} (hv : VL l) (hs : VL (scaled l t)) (ht : 1 ≤ t) (n : Int) : limitL (scaled l t) n = limitL l n := by
  by_cases hn : ∃ m ∈ l, m.node = n
  · obtain ⟨m, hm, rfl⟩ := hn
    have h1 : (⟨m.node, m.region, t * m.weight⟩ : Mb) ∈ scaled l t := List.mem_map.2 ⟨m, hm, rfl⟩
    have h2 := limitL_mem hs h1
    simp only [] at h2
    rw [h2, limitL_mem hv hm, wsum_scaled]
    exact limit_scaled ht hv.wsum.1
  · rw [limitL_none (fun m hm e => hn ⟨m, hm, e⟩), limitL_none]
    intro x hx e
    obtain ⟨m, hm, rfl⟩ := List.mem_map.1 hx
    exact hn ⟨m, hm, e⟩

/-! ### owners that are changed -/
theorem cnt_set {ow : List Int} {s : Nat} {was : Int} (h : ow[s]? = some was) (n q : Int) : cnt (ow.set s n) q = cnt ow q - (if q = was then 1 else 0) + (if q = n then 1 else 0) := by
  induction ow generalizing s with
  | nil => simp at h
  | cons a ow ih =>
    cases s with
    | zero =>
      simp only [List.getElem?_cons_zero, Option.some.injEq] at h
      subst h
      rw [List.set_cons_zero]
      have e1 := cnt_append [n] ow q
      have e2 := cnt_append [a] ow q
      have e3 := cnt_snoc [] n q
      have e4 := cnt_snoc [] a q
      simp only [List.singleton_append, List.nil_append] at e1 e2 e3 e4
      have e5 : cnt [] q = 0 := by simp [cnt]
      omega
    | succ s =>
      simp only [List.getElem?_cons_succ] at h
      rw [List.set_cons_succ]
      have e1 := cnt_append [a] (ow.set s n) q
      have e2 := cnt_append [a] ow q
      simp only [List.singleton_append] at e1 e2
      have := ih h
      omega
theorem okRing_set {ep : Int} {l : List Mb} {ow : List Int} {s : Nat} {was n : Int} (h : okRing ep l ow) (hs : ow[s]? = some was) : okRing ep l (ow.set s n) ↔ cnt (ow.set s n) n ≤ limitL l n := by
  unfold okRing at h ⊢
  obtain ⟨h1, h2, h3, h4, h5⟩ := h
  constructor
  · intro h; exact h.2.2.2.2 n
  · intro hn
    refine ⟨h1, h2, h3, by rw [List.length_set]; exact h4, fun q => ?_⟩
    by_cases e : q = n
    · subst e; exact hn
    · have := cnt_set hs n q
      rw [if_neg e] at this
      have := h5 q
      split at * <;> omega
theorem cnt_replicate (k : Nat) (n q : Int) : cnt (List.replicate k n) q = if q = n then (k : Int) else 0 := by
  unfold cnt
  rw [List.count_replicate]
  by_cases e : q = n
  · subst e; simp
  · have : ¬ (n = q) := fun h => e h.symm
    simp [e, this]
theorem okRing_all {ep : Int} {l : List Mb} {n : Int} (h1 : 1 ≤ ep) (h2 : ep ≤ 1000000) (h3 : VL l) : okRing ep l (List.replicate 64 n) ↔ 64 ≤ limitL l n := by
  unfold okRing
  constructor
  · rintro ⟨-, -, -, -, h⟩
    have := h n
    rw [cnt_replicate, if_pos rfl] at this
    exact this
  · intro h
    refine ⟨h1, h2, h3, by simp, fun q => ?_⟩
    rw [cnt_replicate]
    by_cases e : q = n
    · rw [if_pos e, e]; exact h
    · rw [if_neg e]; exact (limitL_nn l q).1
end Go.Proofs.YtplkmbfeeegaiaaDoor
