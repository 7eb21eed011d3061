/-
  MemoryFew: the plain law; the array of sizes.
-/
import Derived.Test.YtigkhglgoabjaaaT1
namespace Go.Proofs.Ytigkhglgoabjaaa
open Go.RowKit Go.Shelf

theorem one_inj {i j : Nat} (hi : i < 12) (hj : j < 12) (h : one (97 + (i : Int)) = one (97 + (j : Int))) : i = j := by
  unfold one strOfNums at h
  injection h with h
  simp at h
  have h2 := congrArg UInt8.toNat h
  rw [UInt8.toNat_ofNat', UInt8.toNat_ofNat'] at h2
  omega

/-- Each entry's size is in its place. -/
def InvZ (L : List E) (Z : Nat → Int) : Prop := ∀ e ∈ L, ∃ j : Nat, j < 12 ∧ e.key = one (97 + (j : Int)) ∧ Z j = e.z
def updZ (Z : Nat → Int) (j : Nat) (v : Int) : Nat → Int := fun i => if i = j then v else Z i
/-- The places of the keys set to 0. -/
noncomputable def zeroZ (Z : Nat → Int) (T : List E) : Nat → Int := fun i => @ite _ (∃ x ∈ T, x.key = one (97 + (i : Int))) (Classical.propDecidable _) 0 (Z i)
theorem zeroZ_pos {Z : Nat → Int} {T : List E} {i : Nat} (h : ∃ x ∈ T, x.key = one (97 + (i : Int))) : zeroZ Z T i = 0 := by unfold zeroZ; exact if_pos h
theorem zeroZ_neg {Z : Nat → Int} {T : List E} {i : Nat} (h : ¬ ∃ x ∈ T, x.key = one (97 + (i : Int))) : zeroZ Z T i = Z i := by unfold zeroZ; exact if_neg h
theorem zeroZ_step {Z : Nat → Int} {T : List E} {m j : Nat} {x : E} (hx : T[m]? = some x) (hj : j < 12) (hk : x.key = one (97 + (j : Int))) : ∀ i, i < 12 → updZ (zeroZ Z (T.take m)) j 0 i = zeroZ Z (T.take (m + 1)) i := by
  intro i hi
  rw [take_succ_get hx]
  unfold updZ
  by_cases e : i = j
  · subst e
    rw [if_pos rfl, zeroZ_pos ⟨x, by simp, hk⟩]
  · rw [if_neg e]
    by_cases h : ∃ y ∈ T.take m, y.key = one (97 + (i : Int))
    · obtain ⟨y, hy, hyk⟩ := h
      rw [zeroZ_pos ⟨y, hy, hyk⟩, zeroZ_pos ⟨y, by simp [hy], hyk⟩]
    · rw [zeroZ_neg h, zeroZ_neg]
      rintro ⟨y, hy, hyk⟩
      rcases List.mem_append.1 hy with hy | hy
      · exact h ⟨y, hy, hyk⟩
      · rw [List.mem_singleton] at hy
        subst hy
        exact e (one_inj hi hj (hyk.symm.trans hk))

theorem zeroZ_last {L T : List E} {Z : Nat → Int} (hZ : InvZ L Z) (hT : ∀ x ∈ T, x ∈ L) (hn : (T.map E.key).Nodup) {m : Nat} {x : E} (hx : T[m]? = some x) : ∃ j : Nat, j < 12 ∧ x.key = one (97 + (j : Int)) ∧ zeroZ Z (T.take m) j = x.z := by
  obtain ⟨j, hj, hk, hz⟩ := hZ x (hT x (List.mem_of_getElem? hx))
  refine ⟨j, hj, hk, ?_⟩
  rw [zeroZ_neg, hz]
  rintro ⟨y, hy, hyk⟩
  obtain ⟨i, hi⟩ := List.mem_iff_getElem?.1 hy
  have him : i < m := by have := (List.getElem?_eq_some_iff.1 hi).1; rw [List.length_take] at this; omega
  rw [List.getElem?_take_of_lt him] at hi
  have := nodup_idx hn hi hx (hyk.trans hk.symm)
  omega

def hasK (ks : List ByteArray) (x : ByteArray) : Bool := ks.any (fun y => decide (y = x))
theorem hasK_iff {ks : List ByteArray} {x : ByteArray} : hasK ks x = true ↔ x ∈ ks := by
  unfold hasK
  rw [List.any_eq_true]
  constructor
  · rintro ⟨y, hy, h⟩
    simp at h
    rw [← h]; exact hy
  · intro h
    exact ⟨x, h, by simp⟩
theorem hasK_false {ks : List ByteArray} {x : ByteArray} : hasK ks x = false ↔ x ∉ ks := by rw [← hasK_iff]; simp
theorem hasK_take {ks : List ByteArray} {x y : ByteArray} {m : Nat} (h : ks[m]? = some y) : hasK (ks.take (m + 1)) x = (hasK (ks.take m) x || decide (y = x)) := by
  unfold hasK
  rw [take_succ_get h, List.any_append]
  simp

/-- What the law asks of a Put that is done. -/
structure FewP (cap : Int) (L T M : List E) (key : ByteArray) (Z : Nat → Int) (z : Int) : Prop where
  sub : ∀ x ∈ T, x ∈ L
  nod : (T.map E.key).Nodup
  gone : ∀ x ∈ T.map E.key, (atKey M x).isSome = false ∧ x ≠ key
  all : ∀ x ∈ L.map E.key, (atKey M x).isSome = !hasK (T.map E.key) x
  last : ∀ T' x, T = T' ++ [x] → cap - tot M - x.z < 0
  inv : ∀ j : Nat, j < 12 → key = one (97 + (j : Int)) → InvZ M (updZ (zeroZ Z T) j z)
  len : T.length ≤ L.length

theorem atKey_isSome {L : List E} {key : ByteArray} : (atKey L key).isSome = true ↔ key ∈ L.map E.key := by
  constructor
  · intro h
    cases ha : atKey L key with
    | none => rw [ha] at h; cases h
    | some x =>
      have h1 := List.find?_some ha
      have h2 := List.mem_of_find?_eq_some ha
      simp at h1
      rw [← h1]
      exact List.mem_map_of_mem h2
  · intro h
    cases ha : atKey L key with
    | none => exact absurd h (atKey_no ha)
    | some x => rfl
theorem atKey_isSome_false {L : List E} {key : ByteArray} : (atKey L key).isSome = false ↔ key ∉ L.map E.key := by
  rw [← atKey_isSome]; simp

theorem few_put {cap : Int} {sh : List Int} {L : List E} (hs : Sane cap sh L) {t : Nat} (key : ByteArray) {z : Int} (ht : t < sh.length) (hz : 1 ≤ z) {Z : Nat → Int} (hZ : InvZ L Z) :
    ((putI cap sh L t key z).1 = true → FewP cap L (putI cap sh L t key z).2.1 (putI cap sh L t key z).2.2 key Z z) ∧
    ((putI cap sh L t key z).1 = false → (putI cap sh L t key z).2.1 = [] ∧ (putI cap sh L t key z).2.2 = L) := by
  rcases putI_spec hs key ht hz with ⟨T, M, e, hev, _⟩ | ⟨e, _⟩
  · rw [e]
    refine ⟨fun _ => ?_, fun h => by cases h⟩
    simp only
    have hT : ∀ x ∈ T, x ∈ L ∧ x.key ≠ key := fun x hx => woE_mem (hev.perm.mem_iff.2 (List.mem_append_left _ hx))
    have hM : ∀ x ∈ M, x ∈ L ∧ x.key ≠ key := fun x hx => woE_mem (hev.perm.mem_iff.2 (List.mem_append_right _ hx))
    have hnd : ((T ++ M).map E.key).Nodup := by
      have h1 : ((woE L key).map E.key).Nodup := hs.keys.sublist ((woE_sub L key).map _)
      exact (hev.perm.map E.key).nodup_iff.1 h1
    rw [List.map_append, List.nodup_append] at hnd
    obtain ⟨hn1, hn2, hn3⟩ := hnd
    have memM : ∀ x, x ∈ (M ++ [⟨key, t, z⟩] : List E).map E.key ↔ x ∈ M.map E.key ∨ x = key := fun x => by simp
    refine ⟨fun x hx => (hT x hx).1, hn1, fun x hx => ?_, fun x hx => ?_, fun T' x hx => ?_, fun j hj hk => ?_, ?_⟩
    · obtain ⟨y, hy, rfl⟩ := List.mem_map.1 hx
      refine ⟨atKey_isSome_false.2 (fun h => ?_), (hT y hy).2⟩
      rcases (memM _).1 h with h | h
      · exact hn3 _ hx _ h rfl
      · exact (hT y hy).2 h
    · by_cases hxT : x ∈ T.map E.key
      · rw [hasK_iff.2 hxT, atKey_isSome_false.2]
        · rfl
        · intro h
          rcases (memM _).1 h with h | h
          · exact hn3 _ hxT _ h rfl
          · obtain ⟨y, hy, hyx⟩ := List.mem_map.1 hxT
            exact (hT y hy).2 (hyx.trans h)
      · rw [hasK_false.2 hxT, atKey_isSome.2]
        · rfl
        · rw [memM]
          by_cases hk : x = key
          · exact .inr hk
          · left
            obtain ⟨y, hy, rfl⟩ := List.mem_map.1 hx
            have hyw : y ∈ woE L key := List.mem_filter.2 ⟨hy, by simpa using hk⟩
            rcases List.mem_append.1 (hev.perm.mem_iff.1 hyw) with h | h
            · exact absurd (List.mem_map_of_mem h) hxT
            · exact List.mem_map_of_mem h
    · have h1 := hev.last T' x hx
      rw [tot_append, tot_cons]
      simp only [tot, List.map_nil, List.sum_nil] at *
      omega
    · intro e he
      rcases List.mem_append.1 he with he | he
      · obtain ⟨i, hi, hik, hiz⟩ := hZ e (hM e he).1
        refine ⟨i, hi, hik, ?_⟩
        have hij : i ≠ j := fun h => (hM e he).2 (by rw [hik, h, hk])
        unfold updZ
        rw [if_neg hij, zeroZ_neg, hiz]
        rintro ⟨y, hy, hyk⟩
        exact hn3 _ (List.mem_map_of_mem hy) _ (List.mem_map_of_mem he) (hyk.trans hik.symm)
      · rw [List.mem_singleton] at he
        subst he
        exact ⟨j, hj, hk, by unfold updZ; rw [if_pos rfl]⟩
    · have h1 := hev.perm.length_eq
      rw [List.length_append] at h1
      have h2 := (woE_sub L key).length_le
      omega
  · rw [e]
    exact ⟨fun h => (by cases h), fun _ => ⟨rfl, rfl⟩⟩

/-- The keys of the first m tenants. -/
def keysAll (L : List E) (m : Nat) : List ByteArray := (List.range m).flatMap (fun k : Nat => keysOf L (k : Int))
theorem keysAll_succ (L : List E) (m : Nat) : keysAll L (m + 1) = keysAll L m ++ keysOf L (m : Int) := by simp [keysAll, List.range_succ]
theorem keysAll_mem {L : List E} {m : Nat} {x : ByteArray} (h : x ∈ keysAll L m) : x ∈ L.map E.key := by
  unfold keysAll at h
  rw [List.mem_flatMap] at h
  obtain ⟨k, _, hk⟩ := h
  unfold keysOf at hk
  obtain ⟨y, hy, rfl⟩ := List.mem_map.1 hk
  exact List.mem_map_of_mem (List.mem_filter.1 hy).1
theorem keysAll_len (L : List E) (m : Nat) : (keysAll L m).length ≤ m * L.length := by
  induction m with
  | zero => simp [keysAll]
  | succ m ih =>
    rw [keysAll_succ, List.length_append]
    have := keysOf_length L (m : Int)
    rw [Nat.succ_mul]
    omega

/-! ### the array -/
def Side.arr (bz : Nat) (Z : Nat → Int) : Side := ⟨fun b => b = bz, fun W => (∀ j, j < 12 → W.cell? ⟨bz, j, Option.none⟩ = some (.int .i64 (Z j))) ∧ ∀ o, W.frozen? ⟨bz, o, Option.none⟩ = false, fun W W' _ h2 h =>
  ⟨fun j hj => (World.cell?_of_block (w := W) (a := ⟨bz, j, Option.none⟩) (h2 bz rfl)).trans (h.1 j hj), fun o => (World.frozen?_of_block (w := W) (a := ⟨bz, o, Option.none⟩) (h2 bz rfl)).trans (h.2 o)⟩⟩

theorem LW.set {w : World} {p : Nat} {cap : Int} {sh : List Int} {L : List E} {S : Side} {bz : Nat} {Z : Nat → Int} {W : World} (h : LW w p cap sh L (S.and (.arr bz Z)) W) (hS : ¬ S.D bz) (hb : w.heap.size ≤ bz) {j : Nat} (hj : j < 12) (v : Int) :
    LW w p cap sh L (S.and (.arr bz (updZ Z j v))) (W.setCell ⟨bz, j, none⟩ (.int .i64 v)) := by
  obtain ⟨P, h, e1, e2, e3, e4, hq, hd⟩ := h
  have k : Keep (fun i => i = bz) W (W.setCell ⟨bz, j, none⟩ (.int .i64 v)) := (Keep.refl _ W).setCell _ (.inl rfl)
  have hbz := hd bz (.inr rfl)
  refine ⟨P, ⟨h.at_.keep k (fun i hi e => hbz.1 (e ▸ hi)), h.k.none_of k (fun i hi => by rw [hi]; exact hb), h.new⟩, e1, e2, e3, e4, ⟨?_, ?_, ?_⟩, fun b hb' => ⟨(hd b hb').1, Nat.lt_of_lt_of_le (hd b hb').2 k.size⟩⟩
  · exact S.loc W _ (fun b hb' => (hd b (.inl hb')).2) (fun b hb' => k.block b (hd b (.inl hb')).2 (fun e => hS (e ▸ hb'))) hq.1
  · intro i hi
    unfold updZ
    by_cases e : i = j
    · subst e
      rw [if_pos rfl]
      exact cell_set_same (hq.2.1 i hi)
    · rw [if_neg e, cell_set_off (Ne.symm e)]
      exact hq.2.1 i hi
  · intro o
    rw [World.frozen?_setCell]
    exact hq.2.2 o
theorem LW.arr_eq {w : World} {p : Nat} {cap : Int} {sh : List Int} {L : List E} {S : Side} {bz : Nat} {Z Z' : Nat → Int} {W : World} (h : LW w p cap sh L (S.and (.arr bz Z)) W) (e : ∀ i, i < 12 → Z i = Z' i) : LW w p cap sh L (S.and (.arr bz Z')) W :=
  h.imp (T := S.and (.arr bz Z')) (fun hq => ⟨hq.1, fun j hj => by rw [← e j hj]; exact hq.2.1 j hj, hq.2.2⟩) (fun b hb => hb)
end Go.Proofs.Ytigkhglgoabjaaa
