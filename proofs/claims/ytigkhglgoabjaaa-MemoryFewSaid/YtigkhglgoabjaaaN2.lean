/-
  A pool of the law's own, with what lies beside it; the pool's calls in these words; uses.
-/
import Derived.Test.YtigkhglgoabjaaaN1
namespace Go.Proofs.Ytigkhglgoabjaaa
open Go.RowKit Go.Shelf

/-- What is known of memory beside the pool: it lies in the blocks D. -/
structure Side where
  D : Nat → Prop
  Q : World → Prop
  loc : ∀ W W' : World, (∀ b, D b → b < W.heap.size) → (∀ b, D b → W'.heap[b]? = W.heap[b]?) → Q W → Q W'

def Side.none : Side := ⟨fun _ => False, fun _ => True, fun _ _ _ _ _ => trivial⟩
def Side.and (S T : Side) : Side := ⟨fun b => S.D b ∨ T.D b, fun W => S.Q W ∧ T.Q W, fun W W' h1 h2 h3 =>
  ⟨S.loc W W' (fun b hb => h1 b (.inl hb)) (fun b hb => h2 b (.inl hb)) h3.1, T.loc W W' (fun b hb => h1 b (.inr hb)) (fun b hb => h2 b (.inr hb)) h3.2⟩⟩

theorem IntsAt.loc {W W' : World} {b off : Nat} {xs : List Int} (h : IntsAt W b off xs) (e : W'.heap[b]? = W.heap[b]?) : IntsAt W' b off xs := fun j x hj => (World.cell?_of_block (w := W) (a := ⟨b, off + j, none⟩) e).trans (h j x hj)

def Side.world (b p g cp : Nat) (cap : Int) (sh : List Int) : Side := ⟨fun k => k = b ∨ k = g, fun W => WorldAt W b p g cp cap sh, fun W _W' _ h2 h =>
  ⟨(World.cell?_of_block (w := W) (a := ⟨b, 0, Option.none⟩) (h2 b (.inl rfl))).trans h.c0, (World.cell?_of_block (w := W) (a := ⟨b, 1, Option.none⟩) (h2 b (.inl rfl))).trans h.c1, (World.cell?_of_block (w := W) (a := ⟨b, 2, Option.none⟩) (h2 b (.inl rfl))).trans h.c2, h.sh.loc (h2 g (.inr rfl))⟩⟩

theorem StrsAt.loc {W W' : World} {v : Value} {xs : List ByteArray} (h : StrsAt W v xs) (e : ∀ b, v.ownBlock = some b → W'.heap[b]? = W.heap[b]?) : StrsAt W' v xs := by
  obtain ⟨a, c, rfl, h⟩ := h
  refine ⟨a, c, rfl, fun j s hj => ?_⟩
  obtain ⟨b, off, rfl, hc⟩ := h j s hj
  exact ⟨b, off, rfl, (World.cell?_of_block (w := W) (a := ⟨b, off + j, none⟩) (e b rfl)).trans hc⟩
def Side.strs (v : Value) (xs : List ByteArray) : Side := ⟨fun b => v.ownBlock = some b, fun W => StrsAt W v xs, fun _ _ _ h2 h => h.loc h2⟩

/-- A row of integers in a block of its own. -/
def IntsIn (W : World) (v : Value) (xs : List Int) : Prop := ∃ a c, v = .slice a xs.length c ∧ RowIn W a xs
theorem IntsIn.loc {W W' : World} {v : Value} {xs : List Int} (h : IntsIn W v xs) (e : ∀ b, v.ownBlock = some b → W'.heap[b]? = W.heap[b]?) : IntsIn W' v xs := by
  obtain ⟨a, c, rfl, h⟩ := h
  refine ⟨a, c, rfl, fun j s hj => ?_⟩
  obtain ⟨b, off, rfl, hc⟩ := h j s hj
  exact ⟨b, off, rfl, (World.cell?_of_block (w := W) (a := ⟨b, off + j, none⟩) (e b rfl)).trans hc⟩
theorem IntsIn.of_owns {W : World} {lo n : Nat} {v : Value} {xs : List Int} (h : W.ownsRow lo 3 1 v n (ints xs)) : IntsIn W v xs := by
  have hl : xs.length = n := by have := h.1; simpa using this
  rcases h.2 with ⟨rfl, hx⟩ | ⟨g, cap, cur, rfl, r⟩
  · have : xs = [] := by
      apply List.eq_nil_of_length_eq_zero
      rw [hl]; simpa using hx
    subst this
    exact ⟨none, 0, rfl, fun j s hj => by cases hj⟩
  · exact ⟨some ⟨g, 0, none⟩, cap, by rw [hl], fun j s hj => ⟨g, 0, rfl, intsAt_of_owns h j s hj⟩⟩
def Side.ints (v : Value) (xs : List Int) : Side := ⟨fun b => v.ownBlock = some b, fun W => IntsIn W v xs, fun _ _ _ h2 h => h.loc h2⟩

/-- The law's pool: the call's own, at p, with L in it; S beside it. -/
def LW (w : World) (p : Nat) (cap : Int) (sh : List Int) (L : List E) (S : Side) (W : World) : Prop :=
  ∃ P : Pl, SS w P W ∧ P.p = p ∧ P.cap = cap ∧ P.sh = sh ∧ P.L = L ∧ S.Q W ∧ ∀ b, S.D b → ¬ P.foot b ∧ b < W.heap.size

section
variable {w : World} {p : Nat} {cap : Int} {sh : List Int} {L : List E} {S T : Side} {W W' : World}

theorem LW.k (h : LW w p cap sh L S W) : Keep (fun _ => False) w W := by obtain ⟨P, h, _⟩ := h; exact h.k
theorem LW.q (h : LW w p cap sh L S W) : S.Q W := by obtain ⟨P, _, _, _, _, _, h, _⟩ := h; exact h
theorem LW.keep (h : LW w p cap sh L S W) (k : Keep (fun _ => False) W W') : LW w p cap sh L S W' := by
  obtain ⟨P, h, e1, e2, e3, e4, hq, hd⟩ := h
  exact ⟨P, h.keep k, e1, e2, e3, e4, S.loc W W' (fun b hb => (hd b hb).2) (fun b hb => k.block b (hd b hb).2 (fun h => h)) hq, fun b hb => ⟨(hd b hb).1, Nat.lt_of_lt_of_le (hd b hb).2 k.size⟩⟩
/-- Something new beside the pool. -/
theorem LW.add (h : LW w p cap sh L S W) (k : Keep (fun _ => False) W W') (hq : T.Q W') (hd : ∀ b, T.D b → W.heap.size ≤ b ∧ b < W'.heap.size) : LW w p cap sh L (S.and T) W' := by
  have hq' := (h.keep k).q
  obtain ⟨P, hs, e1, e2, e3, e4, hq0, hd0⟩ := h
  refine ⟨P, hs.keep k, e1, e2, e3, e4, ⟨hq', hq⟩, fun b hb => ?_⟩
  rcases hb with hb | hb
  · exact ⟨(hd0 b hb).1, Nat.lt_of_lt_of_le (hd0 b hb).2 k.size⟩
  · exact ⟨fun hf => by have := hs.at_.lt hf; have := (hd b hb).1; omega, (hd b hb).2⟩
theorem LW.left (h : LW w p cap sh L (S.and T) W) : LW w p cap sh L S W := by
  obtain ⟨P, h, e1, e2, e3, e4, hq, hd⟩ := h
  exact ⟨P, h, e1, e2, e3, e4, hq.1, fun b hb => hd b (.inl hb)⟩

theorem LW.turn {P : Pl} {M : List E} {F : Nat → Prop} (_hs : SS w P W) (hq : S.Q W) (hd : ∀ b, S.D b → ¬ P.foot b ∧ b < W.heap.size) (t : Turn P M W W' F) :
    S.Q W' ∧ ∀ b, S.D b → ¬ F b ∧ b < W'.heap.size :=
  ⟨S.loc W W' (fun b hb => (hd b hb).2) (fun b hb => t.2.1.block b (hd b hb).2 (hd b hb).1) hq,
    fun b hb => ⟨fun hf => (t.2.2 b hf).elim (hd b hb).1 (fun h => by have := (hd b hb).2; omega), Nat.lt_of_lt_of_le (hd b hb).2 t.2.1.size⟩⟩

theorem put_lw (t : Int) (key : ByteArray) (z : Int) (h : LW w p cap sh L S W) (hks : key.size ≤ maxLen) (hz2 : z ≤ 9223372036854775807) :
    Calls Try.prog 17 #[ptr p, .int .i64 t, .string key, .int .i64 z] W fun e W' => ∃ a c, e = .returned (.tuple #[.slice a (putI cap sh L t key z).2.1.length c, .bool (putI cap sh L t key z).1]) ∧
      LW w p cap sh (putI cap sh L t key z).2.2 (S.and (.strs (.slice a (putI cap sh L t key z).2.1.length c) ((putI cap sh L t key z).2.1.map E.key))) W' := by
  obtain ⟨P, h, rfl, rfl, rfl, rfl, hq, hd⟩ := h
  refine (put_plain P t key z W h.at_ hks hz2).mono ?_
  rintro e' W' ⟨vo, F, he, ht, hs, hv⟩
  have hst := StrsAt.of_owns hs
  obtain ⟨a, c, hv', _⟩ := id hst
  rw [List.length_map] at hv'
  subst hv'
  obtain ⟨q1, q2⟩ := LW.turn h hq hd ht
  refine ⟨a, c, he, { P with L := _, foot := F }, h.turn ht, rfl, rfl, rfl, rfl, ⟨q1, hst⟩, fun b hb => ?_⟩
  rcases hb with hb | hb
  · exact q2 b hb
  · exact ⟨hv b hb, (World.ownsRow.lt hs b hb).2⟩

theorem touch_lw (key : ByteArray) (h : LW w p cap sh L S W) (hks : key.size ≤ maxLen) :
    Calls Try.prog 15 #[ptr p, .string key] W fun e W' => e = .returned (.bool (atKey L key).isSome) ∧ LW w p cap sh (touI L key) S W' := by
  obtain ⟨P, h, rfl, rfl, rfl, rfl, hq, hd⟩ := h
  refine (touch_plain P key W h.at_ hks).mono ?_
  rintro e' W' ⟨F, he, ht⟩
  obtain ⟨q1, q2⟩ := LW.turn h hq hd ht
  exact ⟨he, { P with L := _, foot := F }, h.turn ht, rfl, rfl, rfl, rfl, q1, q2⟩

theorem remove_lw (key : ByteArray) (h : LW w p cap sh L S W) (hks : key.size ≤ maxLen) :
    Calls Try.prog 16 #[ptr p, .string key] W fun e W' => e = .returned (.bool (atKey L key).isSome) ∧ LW w p cap sh (woE L key) S W' := by
  obtain ⟨P, h, rfl, rfl, rfl, rfl, hq, hd⟩ := h
  refine (remove_plain P key W h.at_ hks).mono ?_
  rintro e' W' ⟨F, he, ht⟩
  obtain ⟨q1, q2⟩ := LW.turn h hq hd ht
  exact ⟨he, { P with L := _, foot := F }, h.turn ht, rfl, rfl, rfl, rfl, q1, q2⟩

theorem keys_lw (t : Int) (h : LW w p cap sh L S W) :
    Calls Try.prog 20 #[ptr p, .int .i64 t] W fun e W' => ∃ a c, e = .returned (.slice a (keysOf L t).length c) ∧ LW w p cap sh L (S.and (.strs (.slice a (keysOf L t).length c) (keysOf L t))) W' ∧ Keep (fun _ => False) W W' := by
  have h0 := h
  obtain ⟨P, h, rfl, rfl, rfl, rfl, hq, hd⟩ := h
  refine (keys_plain P t W h.at_).mono ?_
  rintro e' W' ⟨v, he, hs, _, k⟩
  have hst := StrsAt.of_owns hs
  obtain ⟨a, c, hv', _⟩ := id hst
  subst hv'
  exact ⟨a, c, he, h0.add (T := .strs _ _) k hst (fun b hb => World.ownsRow.lt hs b hb), k⟩

theorem free_lw (h : LW w p cap sh L S W) : Calls Try.prog 18 #[ptr p] W fun e W' => e = .returned (.int .i64 (cap - tot L)) ∧ W = W' := by
  obtain ⟨P, h, rfl, rfl, rfl, rfl, _⟩ := h
  exact free_plain P W h.at_
theorem used_lw (t : Int) (h : LW w p cap sh L S W) : Calls Try.prog 19 #[ptr p, .int .i64 t] W fun e W' => e = .returned (.int .i64 (usedI sh L t)) ∧ W = W' := by
  obtain ⟨P, h, rfl, rfl, rfl, rfl, _⟩ := h
  exact used_plain P t W h.at_
theorem has_lw (key : ByteArray) (h : LW w p cap sh L S W) (hks : key.size ≤ maxLen) : Calls Try.prog 21 #[ptr p, .string key] W fun e W' => e = .returned (.bool (atKey L key).isSome) ∧ W = W' := by
  obtain ⟨P, h, rfl, rfl, rfl, rfl, _⟩ := h
  exact has_plain P key W h.at_ hks
theorem tenant_lw (key : ByteArray) (h : LW w p cap sh L S W) (hks : key.size ≤ maxLen) : Calls Try.prog 13 #[ptr p, .string key] W fun e W' => e = .returned (.int .i64 (tenI L key)) ∧ W = W' := by
  obtain ⟨P, h, rfl, rfl, rfl, rfl, _⟩ := h
  exact tenant_plain P key W h.at_ hks

/-- What a pool's list is like. -/
structure Sane (cap : Int) (sh : List Int) (L : List E) : Prop where
  keys : (L.map E.key).Nodup
  rng : ∀ x ∈ L, x.t < sh.length ∧ 1 ≤ x.z
  le : tot L ≤ cap
  cap : cap ≤ 1000000
  n0 : 0 < sh.length
  n8 : sh.length ≤ 8
  shr : ∀ x ∈ sh, 0 ≤ x ∧ x ≤ 1000000
theorem LW.sane (h : LW w p cap sh L S W) : Sane cap sh L := by
  obtain ⟨P, h, rfl, rfl, rfl, rfl, _⟩ := h
  obtain ⟨g, hp, e1, e2, e3, e4, _⟩ := h.at_
  rw [← e2, ← e3, ← e4]
  exact ⟨hp.keys, hp.rng, hp.le, hp.cap, hp.n0, hp.n8, hp.shr⟩
end

theorem BeginPost.lw {c : Int} {xs : List Int} {w W : World} {e : Ending} (h : BeginPost c xs w e W) :
    ∃ b p g cp, e = .returned (.tuple #[ptr b, .bool true]) ∧ LW w p (capOf c) (sharesOf c xs) [] (.world b p g cp (capOf c) (sharesOf c xs)) W := by
  obtain ⟨b, g, cp, P, he, hw, hs, e1, e2, e3, n1, n2, _, _⟩ := h
  obtain ⟨z, r, hz⟩ : ∃ z r, sharesOf c xs = z :: r := by
    have := (sharesOf_ok c xs).2.1
    cases hh : sharesOf c xs with
    | nil => rw [hh] at this; simp at this
    | cons z r => exact ⟨z, r, rfl⟩
  refine ⟨b, P.p, g, cp, he, P, hs, rfl, e1, e2, e3, hw, fun k hk => ?_⟩
  rcases hk with rfl | rfl
  · exact ⟨n1, World.block_lt_of_cell? _ _ hw.c0⟩
  · exact ⟨n2, World.block_lt_of_cell? _ _ (hw.sh 0 z (by rw [hz]; rfl))⟩

theorem usedI_nat {sh : List Int} (L : List E) {t : Nat} (h : t < sh.length) : usedI sh L t = usedOf L t := by
  rw [usedI, if_pos (by omega), Int.toNat_natCast]
theorem usesOf_length (sh : List Int) (L : List E) : (usesOf sh L).length = sh.length := by simp [usesOf]
theorem usesOf_get (sh : List Int) (L : List E) (k : Nat) (h : k < sh.length) : (usesOf sh L)[k]? = some (usedOf L k) := by simp [usesOf, h]
end Go.Proofs.Ytigkhglgoabjaaa
