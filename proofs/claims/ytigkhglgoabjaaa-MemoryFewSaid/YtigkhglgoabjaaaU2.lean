/-
  MemoryFew: rows that are joined; the pool's calls with what is new.
-/
import Derived.Test.YtigkhglgoabjaaaU1
namespace Go.Proofs.Ytigkhglgoabjaaa
open Go.RowKit Go.Shelf

/-- append(v, row...). -/
theorem app_row (W : World) (lo : Nat) (v : Value) (n : Nat) (xs ys : List ByteArray) (a : Option Addr) (m c : Nat) (hown : W.ownsRow lo 9 1 v n (xs.map Value.string)) (hs : StrsAt W (.slice a m c) ys)
    (hd : (a = none ∧ m = 0 ∧ c = 0) ∨ ∃ g, a = some ⟨g, 0, none⟩) (hn : n + m ≤ 1000000000) (hlo : lo ≤ W.heap.size) :
    ∃ v' w', (Builtin.append_ #[38, 38] 38 #[v, .slice a m c]).run Try.prog W = .ok v' w' ∧ w'.ownsRow lo 9 1 v' (n + m) ((xs ++ ys).map Value.string) ∧ Keep (fun k => v.ownBlock = some k) W w' := by
  obtain ⟨i0, hi, hz0, hz1, hz2⟩ := info_parts info9
  obtain ⟨a', c', e, hs⟩ := hs
  cases e
  rcases hd with ⟨rfl, hm, rfl⟩ | ⟨g, rfl⟩
  · have hy : ys = [] := List.eq_nil_of_length_eq_zero hm
    subst hy
    refine ⟨v, W, run_append_owned_none (P := Try.prog) (w := W) lo 38 38 9 i0 1 Try.underlying38 hi v n _ hown, ?_, Keep.refl _ _⟩
    simpa using hown
  · obtain ⟨v', w', h1, h2, h3, h4, h5⟩ := run_append_own_at (P := Try.prog) W lo 38 38 9 i0 (.string ⟨#[]⟩) 1 16 Try.underlying38 hi hz0 hz1 hz2 rfl (by decide) v n _ hown ⟨g, 0, none⟩ ys.length c (ys.map Value.string) (by simp)
      (fun j u hj => by
        rw [List.getElem?_map] at hj
        cases e : ys[j]? with
        | none => rw [e] at hj; cases hj
        | some s =>
          rw [e] at hj; cases hj
          obtain ⟨b, off, e2, hc⟩ := hs j s e
          cases e2
          rw [Addr.add_lit]
          exact hc) (by simp [Value.oneCell']) (by unfold maxLen; omega) (by omega) hlo
    refine ⟨v', w', h1, ?_, Keep.of_grown h3⟩
    rw [List.map_append]; exact h2

section
variable {w : World} {p : Nat} {cap : Int} {sh : List Int} {L : List E} {S T : Side} {W W' : World}
theorem keys_lw2 (t : Int) (h : LW w p cap sh L S W) :
    Calls Try.prog 20 #[ptr p, .int .i64 t] W fun e W' => ∃ a c, e = .returned (.slice a (keysOf L t).length c) ∧ StrsAt W' (.slice a (keysOf L t).length c) (keysOf L t) ∧ ((a = none ∧ (keysOf L t).length = 0 ∧ c = 0) ∨ ∃ g, a = some ⟨g, 0, none⟩) ∧ Keep (fun _ => False) W W' := by
  obtain ⟨P, h, rfl, rfl, rfl, rfl, hq, hd⟩ := h
  refine (keys_plain P t W h.at_).mono ?_
  rintro e' W' ⟨v, he, hs, _, k⟩
  have hst := StrsAt.of_owns hs
  obtain ⟨a, c, hv', _⟩ := id hst
  subst hv'
  refine ⟨a, c, he, hst, ?_, k⟩
  rcases ownsRow_cap hs with h | ⟨g, h, _⟩
  · exact .inl h
  · exact .inr ⟨g, h⟩

theorem put_lw2 (t : Int) (key : ByteArray) (z : Int) (h : LW w p cap sh L S W) (hks : key.size ≤ maxLen) (hz2 : z ≤ 9223372036854775807) :
    Calls Try.prog 17 #[ptr p, .int .i64 t, .string key, .int .i64 z] W fun e W' => ∃ a c, e = .returned (.tuple #[.slice a (putI cap sh L t key z).2.1.length c, .bool (putI cap sh L t key z).1]) ∧
      LW w p cap sh (putI cap sh L t key z).2.2 (S.and (.strs (.slice a (putI cap sh L t key z).2.1.length c) ((putI cap sh L t key z).2.1.map E.key))) W' ∧
      ∀ b, S.D b → ¬ (Side.strs (.slice a (putI cap sh L t key z).2.1.length c) ((putI cap sh L t key z).2.1.map E.key)).D b := by
  obtain ⟨P, h, rfl, rfl, rfl, rfl, hq, hd⟩ := h
  refine (put_plain P t key z W h.at_ hks hz2).mono ?_
  rintro e' W' ⟨vo, F, he, ht, hs, hv⟩
  have hst := StrsAt.of_owns hs
  obtain ⟨a, c, hv', _⟩ := id hst
  rw [List.length_map] at hv'
  subst hv'
  obtain ⟨q1, q2⟩ := LW.turn h hq hd ht
  refine ⟨a, c, he, ⟨{ P with L := _, foot := F }, h.turn ht, rfl, rfl, rfl, rfl, ⟨q1, hst⟩, fun b hb => ?_⟩, fun b hb hb' => ?_⟩
  · rcases hb with hb | hb
    · exact q2 b hb
    · exact ⟨hv b hb, (World.ownsRow.lt hs b hb).2⟩
  · have h1 := (World.ownsRow.lt hs b hb').1
    have h2 := (hd b hb).2
    omega
/-- Something new beside the pool, away from all that was there. -/
theorem LW.add2 (h : LW w p cap sh L S W) (k : Keep (fun _ => False) W W') (hq : T.Q W') (hd : ∀ b, T.D b → W.heap.size ≤ b ∧ b < W'.heap.size) : LW w p cap sh L (S.and T) W' ∧ ∀ b, S.D b → ¬ T.D b := by
  refine ⟨h.add k hq hd, fun b hb hb' => ?_⟩
  obtain ⟨P, _, _, _, _, _, _, hd'⟩ := h
  have h1 := (hd b hb').1
  have h2 := (hd' b hb).2
  omega
end

theorem StrsAt.cell {W : World} {a : Option Addr} {n c : Nat} {xs : List ByteArray} (h : StrsAt W (.slice a n c) xs) {j : Nat} {s : ByteArray} (hj : xs[j]? = some s) : ∃ b off, a = some ⟨b, off, none⟩ ∧ W.cell? ⟨b, off + j, none⟩ = some (.string s) := by
  obtain ⟨a', c', e, h⟩ := h
  cases e
  exact h j s hj
theorem has_eq {w : World} {p : Nat} {cap : Int} {sh : List Int} {L : List E} {S : Side} {W : World} {key : ByteArray} {r : Bool} (h : LW w p cap sh L S W) (hks : key.size ≤ maxLen) (e : (atKey L key).isSome = r) : Calls Try.prog 21 #[ptr p, .string key] W fun e W' => e = .returned (.bool r) ∧ W = W' := by
  rw [← e]
  exact has_lw key h hks
theorem inv_small {L : List E} {Z : Nat → Int} (h : InvZ L Z) : ∀ x ∈ L.map E.key, x.size ≤ maxLen := fun x hx => by
  obtain ⟨e, he, rfl⟩ := List.mem_map.1 hx
  obtain ⟨j, _, hk, _⟩ := h e he
  rw [hk]
  exact one_small _

/-- The last one's size. -/
def lastZ (T : List E) : Int := (T.getLast?.map E.z).getD 0
theorem lastZ_succ {T : List E} {m : Nat} {x : E} (h : T[m]? = some x) : lastZ (T.take (m + 1)) = x.z := by
  rw [take_succ_get h]
  simp [lastZ]
theorem zeroZ_nil (Z : Nat → Int) (i : Nat) : zeroZ Z [] i = Z i := zeroZ_neg (by rintro ⟨x, hx, _⟩; cases hx)
theorem one_get (j : Nat) (hj : j < 12) (h : 0 < (one (97 + (j : Int))).size) : ((one (97 + (j : Int)))[0]'h).toNat = 97 + j := by
  show (UInt8.ofNat (97 + (j : Int)).toNat).toNat = 97 + j
  rw [UInt8.toNat_ofNat']
  omega

theorem zero_arr (W : World) : (Side.arr W.heap.size (fun _ => 0)).Q (W.alloc (.cells #[.int .i64 0, .int .i64 0, .int .i64 0, .int .i64 0, .int .i64 0, .int .i64 0, .int .i64 0, .int .i64 0, .int .i64 0, .int .i64 0, .int .i64 0, .int .i64 0] 46)) := by
  have hh : (W.alloc (.cells #[.int .i64 0, .int .i64 0, .int .i64 0, .int .i64 0, .int .i64 0, .int .i64 0, .int .i64 0, .int .i64 0, .int .i64 0, .int .i64 0, .int .i64 0, .int .i64 0] 46)).heap[W.heap.size]? = some (.cells #[.int .i64 0, .int .i64 0, .int .i64 0, .int .i64 0, .int .i64 0, .int .i64 0, .int .i64 0, .int .i64 0, .int .i64 0, .int .i64 0, .int .i64 0, .int .i64 0] 46) := World.alloc_heap_new _ _
  refine ⟨fun j hj => ?_, fun o => ?_⟩
  · unfold World.cell?; simp only [hh]
    match j, hj with
    | 0, _ => rfl
    | 1, _ => rfl
    | 2, _ => rfl
    | 3, _ => rfl
    | 4, _ => rfl
    | 5, _ => rfl
    | 6, _ => rfl
    | 7, _ => rfl
    | 8, _ => rfl
    | 9, _ => rfl
    | 10, _ => rfl
    | 11, _ => rfl
  · unfold World.frozen?; simp only [hh]; simp
end Go.Proofs.Ytigkhglgoabjaaa
