/-
  MemoryLends: the plain law.
-/
import Derived.Test.YtigkhglgoabjaaaR2
namespace Go.Proofs.Ytigkhglgoabjaaa
open Go.RowKit Go.Shelf

/-- How often x is in own. -/
def cnt (own : List ByteArray) (x : ByteArray) : Nat := (own.filter (fun y => decide (y = x))).length
def mn (own out : List ByteArray) : Nat := (out.map (cnt own)).sum

theorem cnt_zero {own : List ByteArray} {x : ByteArray} (h : x ∉ own) : cnt own x = 0 := by
  unfold cnt
  rw [List.length_eq_zero_iff, List.filter_eq_nil_iff]
  intro y hy
  simp only [decide_eq_true_eq]
  rintro rfl
  exact h hy
theorem cnt_one : ∀ {own : List ByteArray} {x : ByteArray}, own.Nodup → x ∈ own → cnt own x = 1
  | [], x, _, h => by cases h
  | a :: r, x, hn, h => by
    rw [List.nodup_cons] at hn
    by_cases e : a = x
    · subst e
      have h0 := cnt_zero hn.1
      unfold cnt at *
      rw [List.filter_cons_of_pos (by simp), List.length_cons, h0]
    · have h1 := cnt_one hn.2 (by rcases List.mem_cons.1 h with h | h; exact absurd h.symm e; exact h)
      unfold cnt at *
      rw [List.filter_cons_of_neg (by simpa using e), h1]
theorem cnt_le {own : List ByteArray} (h : own.Nodup) (x : ByteArray) : cnt own x ≤ 1 := by
  by_cases hx : x ∈ own
  · rw [cnt_one h hx]; exact Nat.le_refl _
  · rw [cnt_zero hx]; omega
theorem cnt_take (own : List ByteArray) (x : ByteArray) {j : Nat} {y : ByteArray} (h : own[j]? = some y) : cnt (own.take (j + 1)) x = cnt (own.take j) x + if y = x then 1 else 0 := by
  unfold cnt
  rw [take_succ_get h, List.filter_append, List.length_append]
  by_cases e : y = x
  · rw [if_pos e, List.filter_cons_of_pos (by simpa using e)]; rfl
  · rw [if_neg e, List.filter_cons_of_neg (by simpa using e)]; rfl
theorem cnt_take_le (own : List ByteArray) (h : own.Nodup) (x : ByteArray) (j : Nat) : cnt (own.take j) x ≤ 1 := cnt_le (h.sublist (List.take_sublist _ _)) x
theorem mn_take (own out : List ByteArray) {j : Nat} {y : ByteArray} (h : out[j]? = some y) : mn own (out.take (j + 1)) = mn own (out.take j) + cnt own y := by
  unfold mn
  rw [take_succ_get h]
  simp
theorem mn_le {own : List ByteArray} (h : own.Nodup) : ∀ (out : List ByteArray), mn own out ≤ out.length
  | [] => by simp [mn]
  | x :: r => by
    have := mn_le h r
    have h1 := cnt_le h x
    unfold mn at *
    simp
    omega
theorem mn_zero {own : List ByteArray} : ∀ {out : List ByteArray}, (∀ x ∈ out, x ∉ own) → mn own out = 0
  | [], _ => rfl
  | x :: r, h => by
    have := mn_zero (own := own) (out := r) (fun y hy => h y (by simp [hy]))
    have h1 := cnt_zero (h x (by simp))
    unfold mn at *
    simp only [List.map_cons, List.sum_cons]
    omega
theorem mn_all {own : List ByteArray} (hn : own.Nodup) : ∀ {out : List ByteArray}, (∀ x ∈ out, x ∈ own) → mn own out = out.length
  | [], _ => rfl
  | x :: r, h => by
    have := mn_all hn (out := r) (fun y hy => h y (by simp [hy]))
    have h1 := cnt_one hn (h x (by simp))
    unfold mn at *
    simp only [List.map_cons, List.sum_cons, List.length_cons]
    omega

theorem key_eq {L : List E} (hn : (L.map E.key).Nodup) : ∀ {x y : E}, x ∈ L → y ∈ L → x.key = y.key → x = y := by
  induction L with
  | nil => intro x y hx; cases hx
  | cons a r ih =>
    intro x y hx hy e
    rw [List.map_cons, List.nodup_cons] at hn
    rcases List.mem_cons.1 hx with hx' | hx'
    · rcases List.mem_cons.1 hy with hy' | hy'
      · rw [hx', hy']
      · exact absurd (by rw [← hx', e]; exact List.mem_map_of_mem hy') hn.1
    · rcases List.mem_cons.1 hy with hy' | hy'
      · exact absurd (by rw [← hy', ← e]; exact List.mem_map_of_mem hx') hn.1
      · exact ih hn.2 hx' hy' e
theorem keysOf_nodup {L : List E} (hn : (L.map E.key).Nodup) (t : Int) : (keysOf L t).Nodup := hn.sublist (List.Sublist.map _ List.filter_sublist)
theorem mem_keysOf {L : List E} {t : Nat} {x : ByteArray} : x ∈ keysOf L t ↔ ∃ y ∈ L, y.t = t ∧ y.key = x := by
  unfold keysOf
  rw [List.mem_map]
  constructor
  · rintro ⟨y, hy, e⟩
    rw [List.mem_filter] at hy
    exact ⟨y, hy.1, by have := hy.2; simp at this; omega, e⟩
  · rintro ⟨y, hy, h, e⟩
    exact ⟨y, List.mem_filter.2 ⟨hy, by simp; omega⟩, e⟩

theorem lends_step {cap : Int} {sh : List Int} {L : List E} (hs : Sane cap sh L) {t : Nat} {key : ByteArray} (hk : ∀ x ∈ L, x.key ≠ key) {z : Int} (ht : t < sh.length) (hz : 1 ≤ z) :
    (z ≤ cap - tot L → (putI cap sh L t key z).1 = true ∧ (putI cap sh L t key z).2.1 = []) ∧
    (usedOf L t + z ≤ sh.getD t 0 → mn (keysOf L t) ((putI cap sh L t key z).2.1.map E.key) = 0) ∧
    ((putI cap sh L t key z).1 = true → sh.getD t 0 < usedOf (putI cap sh L t key z).2.2 t → mn (keysOf L t) ((putI cap sh L t key z).2.1.map E.key) = (putI cap sh L t key z).2.1.length) ∧
    (putI cap sh L t key z).2.1.length ≤ 1000000 := by
  have hwo : woE L key = L := woE_none (atKey_none_of hk)
  have hll : (L.length : Int) ≤ 1000000 := by
    have := length_le_tot L (fun x hx => (hs.rng x hx).2)
    have := hs.le
    have := hs.cap
    omega
  rcases putI_spec hs key ht hz with ⟨T, M, e, hev, hem⟩ | ⟨e, hem⟩
  · rw [e]
    rw [hwo] at hev hem
    simp only
    have hT : ∀ x ∈ T, x ∈ L := fun x hx => hev.perm.mem_iff.2 (List.mem_append_left _ hx)
    refine ⟨fun h => ⟨trivial, ?_⟩, fun h => ?_, fun _ h => ?_, ?_⟩
    · rw [evM, if_neg (by omega)] at hem
      cases hem
      rfl
    · refine mn_zero (fun x hx hmem => ?_)
      obtain ⟨y, hy, rfl⟩ := List.mem_map.1 hx
      obtain ⟨y', hy', h1, h2⟩ := mem_keysOf.1 hmem
      have := key_eq hs.keys (hT y hy) hy' h2.symm
      exact hev.own h y hy (by rw [this]; exact h1)
    · rw [usedOf_append, usedOf_cons, if_pos rfl] at h
      simp only [usedOf, List.map_nil, List.sum_nil] at h
      rw [mn_all (keysOf_nodup hs.keys _) (fun x hx => ?_), List.length_map]
      obtain ⟨y, hy, rfl⟩ := List.mem_map.1 hx
      exact mem_keysOf.2 ⟨y, hT y hy, hev.over (by unfold usedOf; omega) y hy, rfl⟩
    · have := hev.perm.length_eq
      rw [List.length_append] at this
      omega
  · rw [e]
    rw [hwo] at hem
    refine ⟨fun h => ?_, fun _ => rfl, fun h => (by cases h), Nat.zero_le _⟩
    rw [evM, if_neg (by omega)] at hem
    cases hem
end Go.Proofs.Ytigkhglgoabjaaa
