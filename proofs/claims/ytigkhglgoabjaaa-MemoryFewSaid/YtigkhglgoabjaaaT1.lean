/-
  MemoryOrder: the plain law; rows of the law's own.
-/
import Derived.Test.YtigkhglgoabjaaaR2
import Derived.ArgAppend
namespace Go.Proofs.Ytigkhglgoabjaaa
open Go.RowKit Go.Shelf

theorem usedOf_all {L : List E} (h : ∀ x ∈ L, x.t = 0) : usedOf L 0 = tot L := by
  induction L with
  | nil => rfl
  | cons a r ih => rw [usedOf_cons, tot_cons, if_pos (h a (by simp)), ih (fun x hx => h x (by simp [hx]))]

/-- With one tenant that has all, the first ones go. -/
theorem evM_single {n z : Int} : ∀ (m : Nat) (L : List E), (∀ x ∈ L, x.t = 0) → (evM [n] n 0 z m L).2.1 ++ (evM [n] n 0 z m L).2.2 = L
  | 0, L, _ => rfl
  | m + 1, L, h => by
    rw [evM]
    by_cases hz : n - tot L < z
    · rw [if_pos hz]
      have ho : overB [n] L 0 z = true := over_true.2 (by rw [usedOf_all h]; simp; omega)
      cases L with
      | nil => rfl
      | cons a r =>
        have hf : fitsB [n] (a :: r) 0 z a = true := by
          unfold fitsB
          rw [ho, if_pos rfl, h a (by simp)]
          rfl
        have e : takeFit (fitsB [n] (a :: r) 0 z) (a :: r) = some (a, r) := by rw [takeFit, if_pos hf]
        rw [e]
        show a :: (evM [n] n 0 z m r).2.1 ++ (evM [n] n 0 z m r).2.2 = a :: r
        rw [List.cons_append, evM_single m r (fun x hx => h x (by simp [hx]))]
    · rw [if_neg hz]; rfl

theorem order_put {n : Int} {L : List E} (hs : Sane n [n] L) (h0 : ∀ x ∈ L, x.t = 0) (key : ByteArray) {z : Int} (hz : 1 ≤ z) :
    ((putI n [n] L 0 key z).1 = true → ∃ M, woE L key = (putI n [n] L 0 key z).2.1 ++ M ∧ (putI n [n] L 0 key z).2.2 = M ++ [⟨key, 0, z⟩]) ∧
    ((putI n [n] L 0 key z).1 = false → (putI n [n] L 0 key z).2.1 = [] ∧ (putI n [n] L 0 key z).2.2 = L) := by
  have h := putI_spec hs (t := 0) key (by simp) hz
  rw [show (((0 : Nat) : Int)) = 0 from rfl] at h
  rcases h with ⟨T, M, e, hev, hem⟩ | ⟨e, _⟩
  · rw [e]
    have h1 := evM_single (n := n) (z := z) (L.length + 1) (woE L key) (fun x hx => h0 x (woE_mem hx).1)
    rw [hem] at h1
    exact ⟨fun _ => ⟨M, h1.symm, rfl⟩, fun h => by cases h⟩
  · rw [e]
    exact ⟨fun h => (by cases h), fun _ => ⟨rfl, rfl⟩⟩

theorem keysOf_all {L : List E} (h : ∀ x ∈ L, x.t = 0) : keysOf L 0 = L.map E.key := by
  unfold keysOf
  rw [List.filter_eq_self.2 (fun x hx => by simp [h x hx])]
/-- The keys without one. -/
def woK (ks : List ByteArray) (key : ByteArray) : List ByteArray := ks.filter (fun x => decide (x ≠ key))
theorem woK_keys (L : List E) (key : ByteArray) : woK (L.map E.key) key = (woE L key).map E.key := by
  unfold woK woE
  rw [List.filter_map]
  rfl
theorem woK_take (ks : List ByteArray) (key : ByteArray) {j : Nat} {y : ByteArray} (h : ks[j]? = some y) : woK (ks.take (j + 1)) key = woK (ks.take j) key ++ if y = key then [] else [y] := by
  unfold woK
  rw [take_succ_get h, List.filter_append]
  by_cases e : y = key
  · rw [if_pos e, List.filter_cons_of_neg (by simpa using e)]; rfl
  · rw [if_neg e, List.filter_cons_of_pos (by simpa using e)]; rfl
theorem woK_le (ks : List ByteArray) (key : ByteArray) (j : Nat) : (woK (ks.take j) key).length ≤ j := by
  have := List.length_filter_le (fun x => decide (x ≠ key)) (ks.take j)
  rw [List.length_take] at this
  unfold woK
  omega

theorem woE_len {L : List E} (hn : (L.map E.key).Nodup) (key : ByteArray) : (atKey L key).isSome = decide ((woE L key).length < L.length) := by
  cases ha : atKey L key with
  | none => rw [woE_none ha]; simp
  | some x =>
    obtain ⟨X, Y, e1, e2, e3⟩ := woE_some hn ha
    rw [e2]
    symm
    simp only [Option.isSome_some, decide_eq_true_eq]
    rw [e1]
    simp
theorem tou_keys {L : List E} (hn : (L.map E.key).Nodup) (key : ByteArray) (h : (atKey L key).isSome = true) : (touI L key).map E.key = (woE L key).map E.key ++ [key] ∧ ((∀ x ∈ L, x.t = 0) → ∀ x ∈ touI L key, x.t = 0) := by
  cases ha : atKey L key with
  | none => rw [ha] at h; cases h
  | some x =>
    obtain ⟨X, Y, e1, e2, e3⟩ := woE_some hn ha
    unfold touI
    rw [ha]
    simp only
    refine ⟨by rw [List.map_append, List.map_cons, e3]; rfl, fun h0 y hy => ?_⟩
    rcases List.mem_append.1 hy with hy | hy
    · exact h0 y (woE_mem hy).1
    · rw [List.mem_singleton] at hy; rw [hy]; exact h0 x (by rw [e1]; simp)
theorem tou_none {L : List E} {key : ByteArray} (h : (atKey L key).isSome = false) : touI L key = L ∧ woE L key = L := by
  cases ha : atKey L key with
  | none => exact ⟨by unfold touI; rw [ha], woE_none ha⟩
  | some x => rw [ha] at h; cases h

/-! ### a row of the law's own -/
theorem ownsRow_loc {W W' : World} {lo : Nat} {e : TypeId} {v : Value} {n : Nat} {xs : List Value} (h : W.ownsRow lo e 1 v n xs) (k : ∀ b, v.ownBlock = some b → W'.heap[b]? = W.heap[b]?) : W'.ownsRow lo e 1 v n xs := by
  obtain ⟨h1, h2⟩ := h
  refine ⟨h1, ?_⟩
  rcases h2 with h2 | ⟨g, cap, cur, rfl, hb, hh, r⟩
  · exact .inl h2
  · exact .inr ⟨g, cap, cur, rfl, hb, (k g rfl).trans hh, r⟩
theorem ownsRow_lower {W : World} {lo lo' : Nat} {e : TypeId} {v : Value} {n : Nat} {xs : List Value} (h : W.ownsRow lo e 1 v n xs) (hl : lo' ≤ lo) : W.ownsRow lo' e 1 v n xs := by
  obtain ⟨h1, h2⟩ := h
  refine ⟨h1, ?_⟩
  rcases h2 with h2 | ⟨g, cap, cur, rfl, hb, r⟩
  · exact .inl h2
  · exact .inr ⟨g, cap, cur, rfl, Nat.le_trans hl hb, r⟩
theorem ownsRow_cap {W : World} {lo : Nat} {e : TypeId} {a : Option Addr} {n c : Nat} {xs : List Value} (h : W.ownsRow lo e 1 (.slice a n c) n xs) : (a = none ∧ n = 0 ∧ c = 0) ∨ (∃ g, a = some ⟨g, 0, none⟩ ∧ n ≤ c ∧ c ≤ 9223372036854775807) := by
  rcases h.2 with ⟨h2, _⟩ | ⟨g, cap, cur, e, hb, hh, hnc, hcm, r⟩
  · cases h2
    exact .inl ⟨rfl, rfl, rfl⟩
  · cases e
    exact .inr ⟨g, rfl, hnc, hcm⟩
/-- The first ones of a row. -/
theorem StrsAt.take {W : World} {a : Option Addr} {n c : Nat} {xs : List ByteArray} (h : StrsAt W (.slice a n c) xs) (m c' : Nat) (hm : m ≤ xs.length) : StrsAt W (.slice a m c') (xs.take m) := by
  obtain ⟨a', c2, e, h⟩ := h
  cases e
  refine ⟨a, c', by rw [List.length_take, Nat.min_eq_left hm], fun j s hj => ?_⟩
  have hj1 : j < m := by have := (List.getElem?_eq_some_iff.1 hj).1; rw [List.length_take] at this; omega
  rw [List.getElem?_take_of_lt hj1] at hj
  exact h j s hj
def Side.owns (lo : Nat) (v : Value) (n : Nat) (xs : List ByteArray) : Side := ⟨fun b => v.ownBlock = some b, fun W => W.ownsRow lo 9 1 v n (xs.map Value.string), fun _ _ _ h2 h => ownsRow_loc h h2⟩

theorem LW.right {w : World} {p : Nat} {cap : Int} {sh : List Int} {L : List E} {S T : Side} {W : World} (h : LW w p cap sh L (S.and T) W) : LW w p cap sh L T W := by
  obtain ⟨P, h, e1, e2, e3, e4, hq, hd⟩ := h
  exact ⟨P, h, e1, e2, e3, e4, hq.2, fun b hb => hd b (.inr hb)⟩
theorem LW.imp {w : World} {p : Nat} {cap : Int} {sh : List Int} {L : List E} {S T : Side} {W : World} (h : LW w p cap sh L S W) (hq : S.Q W → T.Q W) (hd : ∀ b, T.D b → S.D b) : LW w p cap sh L T W := by
  obtain ⟨P, h, e1, e2, e3, e4, hq', hd'⟩ := h
  exact ⟨P, h, e1, e2, e3, e4, hq hq', fun b hb => hd' b (hd b hb)⟩
/-- One string more on an own row. -/
theorem LW.app {w : World} {p : Nat} {cap : Int} {sh : List Int} {L : List E} {lo n : Nat} {v v' : Value} {xs : List ByteArray} {s : ByteArray} {W W' : World} (h : LW w p cap sh L (.owns lo v n xs) W)
    (hw : w.heap.size ≤ lo) (ho : W'.ownsRow lo 9 1 v' (n + 1) (xs.map Value.string ++ [.string s])) (k : Keep (fun k => v.ownBlock = some k) W W') (hb : v'.ownBlock = v.ownBlock ∨ v'.ownBlock = some (W.heap.size + 1)) :
    LW w p cap sh L (.owns lo v' (n + 1) (xs ++ [s])) W' := by
  obtain ⟨P, h, e1, e2, e3, e4, hq, hd⟩ := h
  have hlt := World.ownsRow.lt (show W.ownsRow lo 9 1 v n (xs.map Value.string) from hq)
  refine ⟨P, ⟨h.at_.keep k (fun i hi hv => (hd i hv).1 hi), h.k.none_of k (fun i hi => Nat.le_trans hw (hlt i hi).1), h.new⟩, e1, e2, e3, e4, ?_, fun b hb' => ⟨fun hf => ?_, (World.ownsRow.lt ho b hb').2⟩⟩
  · show W'.ownsRow lo 9 1 v' (n + 1) ((xs ++ [s]).map Value.string)
    rw [List.map_append]; exact ho
  · rcases hb with e | e
    · exact (hd b (e.symm.trans hb')).1 hf
    · have h1 : v'.ownBlock = some b := hb'
      rw [e] at h1
      cases h1
      have := h.at_.lt hf
      omega
/-- One string more on the end of a row that is cut off there: a new row. -/
theorem app_cut (W : World) (g m n : Nat) (ys : List ByteArray) (key : ByteArray) (hl : ys.length = n) (hc : ∀ (j : Nat) (s : ByteArray), ys[j]? = some s → W.cell? ⟨g, m + j, none⟩ = some (.string s)) (hn : n ≤ 1000000) :
    ∃ v' w', (Builtin.append_ #[38, 38] 38 #[.slice (some ⟨g, m, none⟩) n n, .slice (some ⟨W.heap.size, 0, none⟩) 1 1]).run Try.prog (W.alloc (.cells #[.string key] 9)) = .ok v' w' ∧ w'.ownsRow W.heap.size 9 1 v' (n + 1) ((ys ++ [key]).map Value.string) ∧
      Keep (fun _ => False) W w' ∧ ∃ g c, v' = .slice (some ⟨g, 0, none⟩) (n + 1) c := by
  obtain ⟨i0, hi, hz0, hz1, hz2⟩ := info_parts info9
  obtain ⟨v', w', h1, h2, h3⟩ := run_append_arg_grows (P := Try.prog) (w := W.alloc (.cells #[.string key] 9)) 38 38 9 i0 (.string ⟨#[]⟩) 1 16 Try.underlying38 hi hz0 hz1 hz2 rfl (by decide) ⟨g, m, none⟩ n n (ys.map Value.string) (by simp [hl])
    (fun j u hj => by
      rw [List.getElem?_map] at hj
      cases e : ys[j]? with
      | none => rw [e] at hj; cases hj
      | some s =>
        rw [e] at hj; cases hj
        have hw := hc j s e
        rw [Addr.add_lit, World.cell?_alloc_lt _ _ _ (World.block_lt_of_cell? _ _ hw)]
        exact hw)
    ⟨W.heap.size, 0, none⟩ 1 1 [.string key] rfl (cell_one_new W _ 9) (by omega) (by unfold maxLen; omega) (by omega)
  have k : Keep (fun _ => False) W w' := ((Keep.refl _ W).alloc _).trans ((Keep.of_grown h3).mono (fun i h => by cases h))
  rw [World.size_alloc] at h2
  refine ⟨v', w', h1, ?_, k, ?_⟩
  · rw [List.map_append]; exact ownsRow_lower h2 (by omega)
  · exact ownsRow_succ h2
theorem strs_q {W : World} {v : Value} {xs : List ByteArray} (h : (Side.strs v xs).Q W) : StrsAt W v xs := h
theorem owns_strs {W : World} {lo n : Nat} {v : Value} {xs : List ByteArray} (h : (Side.owns lo v n xs).Q W) : StrsAt W v xs := StrsAt.of_owns h
end Go.Proofs.Ytigkhglgoabjaaa
