/-
  Several texts in one, each under its own heading below (merged by a program of ours): the contracts of the functions that the law reaches, part 5 of 5.
-/
import Derived.Test.YtcnpncndecjahaaGreatDoorX1
import Derived.Test.YtcnpncndecjahaaGreatDoorX2
import Derived.Test.YtcnpncndecjahaaGreatDoorX3
import Derived.Test.YtcnpncndecjahaaGreatDoorX4
import Derived.Test.YtcnpncndecjahaaGreatDoorRows
import Derived.Test.YtcnpncndecjahaaGreatDoorTie
import Derived.Test.YtcnpncndecjahaaGreatDoorCards
import Derived.Lib.LaidTab
import Derived.Stop.LaidErr
import Derived.Stop.Joined
import Derived.Lib.SmallJoins
import Derived.SizedLaws
import Derived.ChangeSame
import Derived.ProofKit
import Derived.OpenShut
import Derived.LaidMore
import Derived.SevenTiedAt
import Derived.HandedShaped
import Derived.Deep.Fields
import Derived.Laws.IdiomArrays
import Derived.Deep.DeepCutAuto

/-
  MemoryResults: what lies beside the law's pool.
-/
namespace Go.Proofs.YtcnpncndecjahaaGreatDoor
open Go.RowKit Go.Shelf

/-- Arrays of five in a slice. -/
structure Fives (W : World) (v : Value) (n : Nat) (f : Nat → Nat → Int) : Prop where
  big : n ≤ 1000000000000000
  bd : ∀ i j, I64 (f i j)
  at_ : ∃ a c b off, v = .slice a n c ∧ n ≤ c ∧ (0 < n → a = some ⟨b, off, none⟩) ∧ ∀ i j, i < n → j < 5 → W.cell? ⟨b, off + i * 5 + j, none⟩ = some (.int .i64 (f i j))
theorem Fives.kept {W W' : World} {v : Value} {n : Nat} {f : Nat → Nat → Int} (h : Fives W v n f) (k : Keep (fun _ => False) W W') : Fives W' v n f := by
  obtain ⟨h1, h2, a, c, b, off, h3, h4, h5, h6⟩ := h
  exact ⟨h1, h2, a, c, b, off, h3, h4, h5, fun i j hi hj => k.cell (h6 i j hi hj) (fun h => h)⟩
theorem BoxL.loc {W W' : World} {z : Nat} {xs : List Value} (h : BoxL W z xs) (hs : z < W'.heap.size) (e : W'.heap[z]? = W.heap[z]?) : BoxL W' z xs :=
  ⟨hs, fun j v hj => (World.cell?_of_block (w := W) (a := ⟨z, j, none⟩) e).trans (h.cell j v hj), fun o => (World.frozen?_of_block (w := W) (a := ⟨z, o, none⟩) e).trans (h.soft o)⟩
theorem lt_of_same {W W' : World} {z : Nat} (h : z < W.heap.size) (e : W'.heap[z]? = W.heap[z]?) : z < W'.heap.size := by
  rw [Array.getElem?_eq_getElem h] at e
  exact (Array.getElem?_eq_some_iff.1 e).1
theorem StA.loc {W W' : World} {z mb : Nat} {l : List R5} {p : Int} (h : StA W z mb l p) (e1 : W'.heap[z]? = W.heap[z]?) (e2 : W'.heap[mb]? = W.heap[mb]?) : StA W' z mb l p :=
  ⟨h.box.loc (lt_of_same h.box.lt e1) e1, h.mp.of_heap e2, h.nd, h.fine⟩
theorem ownsRow_loc {W W' : World} {lo : Nat} {e : TypeId} {k : Nat} {v : Value} {n : Nat} {xs : List Value} (h : W.ownsRow lo e k v n xs) (he : ∀ b, v.ownBlock = some b → W'.heap[b]? = W.heap[b]?) : W'.ownsRow lo e k v n xs := by
  obtain ⟨h1, h2⟩ := h
  refine ⟨h1, ?_⟩
  rcases h2 with h2 | ⟨g, cap, cur, rfl, hb, hh, r⟩
  · exact .inl h2
  · exact .inr ⟨g, cap, cur, rfl, hb, (he g rfl).trans hh, r⟩
namespace Mem
/-- A store, keys and sizes. -/
def SX (z mb : Nat) (l : List R5) (p : Int) (lo : Nat) (vk : Value) (ks : List ByteArray) (vs : Value) (ss : List Int) : Side :=
  ⟨fun b => b = z ∨ b = mb ∨ vk.ownBlock = some b ∨ vs.ownBlock = some b,
   fun W => StA W z mb l p ∧ W.ownsRow lo 9 1 vk ks.length (ks.map Value.string) ∧ W.ownsRow lo 3 1 vs ss.length (ss.map vI),
   fun _ _ _ h2 h => ⟨h.1.loc (h2 z (.inl rfl)) (h2 mb (.inr (.inl rfl))), ownsRow_loc h.2.1 (fun b hb => h2 b (.inr (.inr (.inl hb)))), ownsRow_loc h.2.2 (fun b hb => h2 b (.inr (.inr (.inr hb))))⟩⟩
theorem SX.q {z mb : Nat} {l : List R5} {p : Int} {lo : Nat} {vk : Value} {ks : List ByteArray} {vs : Value} {ss : List Int} {W : World} (h : (SX z mb l p lo vk ks vs ss).Q W) : StA W z mb l p ∧ W.ownsRow lo 9 1 vk ks.length (ks.map Value.string) ∧ W.ownsRow lo 3 1 vs ss.length (ss.map vI) := h
/-- A block of cells. -/
def SB (z : Nat) (xs : List Value) : Side :=
  ⟨fun b => b = z, fun W => BoxL W z xs, fun _ _ h1 h2 h => h.loc (by exact lt_of_same (h1 z rfl) (h2 z rfl)) (h2 z rfl)⟩
/-- Keys and sizes that lie apart. -/
structure Apart (z mb : Nat) (vk vs : Value) : Prop where
  k : ∀ b, vk.ownBlock = some b → b ≠ z ∧ b ≠ mb
  s : ∀ b, vs.ownBlock = some b → b ≠ z ∧ b ≠ mb
  ne : ∀ b, vk.ownBlock = some b → vs.ownBlock ≠ some b
/-- A further key. -/
theorem LW.key {w W W' : World} {p : Nat} {cap : Int} {sh : List Int} {M : List E} {z mb : Nat} {l : List R5} {pos : Int} {vk vs vk' : Value} {ks : List ByteArray} {ss : List Int} {key : ByteArray} {zr : Nat} {xs : List Value}
    (h : LW w p cap sh M ((SX z mb l pos w.heap.size vk ks vs ss).and (SB zr xs)) W) (ha : Apart z mb vk vs) (hz : ∀ b, vk.ownBlock = some b → b < zr)
    (r2 : W'.ownsRow w.heap.size 9 1 vk' (ks.length + 1) (ks.map Value.string ++ [.string key])) (r3 : Keep (fun k => vk.ownBlock = some k) W W') (r4 : vk'.ownBlock = vk.ownBlock ∨ vk'.ownBlock = some (W.heap.size + 1)) :
    LW w p cap sh M ((SX z mb l pos w.heap.size vk' (ks ++ [key]) vs ss).and (SB zr xs)) W' ∧ Apart z mb vk' vs := by
  obtain ⟨q1, q2, q3⟩ := SX.q h.q.1
  have q4 : BoxL W zr xs := h.q.2
  have e1 : (ks ++ [key]).map Value.string = ks.map Value.string ++ [.string key] := by simp
  have e2 : (ks ++ [key]).length = ks.length + 1 := by simp
  refine ⟨h.write r3 (fun j hj => ⟨.inl (.inr (.inr (.inl hj))), (q2.lt j hj).1⟩) ⟨⟨q1.keep r3 (fun e => (ha.k _ e).1 rfl) (fun e => (ha.k _ e).2 rfl), ?_, ownsRow_keep q3 r3 (fun b hb e => ha.ne b e hb)⟩, q4.keep r3 (fun e => Nat.lt_irrefl _ (hz _ e))⟩ (fun b hb => ?_), ⟨fun b hb => ?_, ha.s, fun b hb => ?_⟩⟩
  · rw [e1, e2]
    exact r2
  · rcases hb with (rfl | rfl | hb | hb) | hb
    · exact .inl (.inl (.inl rfl))
    · exact .inl (.inl (.inr (.inl rfl)))
    · rcases r4 with r4 | r4
      · exact .inl (.inl (.inr (.inr (.inl (by rw [← r4]; exact hb)))))
      · have h1 := (r2.lt b hb).2
        rw [r4] at hb
        cases hb
        exact .inr ⟨by omega, h1⟩
    · exact .inl (.inl (.inr (.inr (.inr hb))))
    · exact .inl (.inr hb)
  · rcases r4 with r4 | r4
    · exact ha.k b (by rw [← r4]; exact hb)
    · rw [r4] at hb
      cases hb
      have h1 := q1.box.lt
      have h2 := q1.mp.lt
      omega
  · rcases r4 with r4 | r4
    · exact ha.ne b (by rw [← r4]; exact hb)
    · rw [r4] at hb
      cases hb
      intro e
      have h1 := (q3.lt _ e).2
      omega
/-- A further size. -/
theorem LW.size {w W W' : World} {p : Nat} {cap : Int} {sh : List Int} {M : List E} {z mb : Nat} {l : List R5} {pos : Int} {vk vs vs' : Value} {ks : List ByteArray} {ss : List Int} {s : Int} {zr : Nat} {xs : List Value}
    (h : LW w p cap sh M ((SX z mb l pos w.heap.size vk ks vs ss).and (SB zr xs)) W) (ha : Apart z mb vk vs) (hz : ∀ b, vs.ownBlock = some b → b < zr)
    (r2 : W'.ownsRow w.heap.size 3 1 vs' (ss.length + 1) (ss.map vI ++ [vI s])) (r3 : Keep (fun k => vs.ownBlock = some k) W W') (r4 : vs'.ownBlock = vs.ownBlock ∨ vs'.ownBlock = some (W.heap.size + 1)) :
    LW w p cap sh M ((SX z mb l pos w.heap.size vk ks vs' (ss ++ [s])).and (SB zr xs)) W' ∧ Apart z mb vk vs' := by
  obtain ⟨q1, q2, q3⟩ := SX.q h.q.1
  have q4 : BoxL W zr xs := h.q.2
  have e1 : (ss ++ [s]).map vI = ss.map vI ++ [vI s] := by simp
  have e2 : (ss ++ [s]).length = ss.length + 1 := by simp
  refine ⟨h.write r3 (fun j hj => ⟨.inl (.inr (.inr (.inr hj))), (q3.lt j hj).1⟩) ⟨⟨q1.keep r3 (fun e => (ha.s _ e).1 rfl) (fun e => (ha.s _ e).2 rfl), ownsRow_keep q2 r3 (fun b hb e => ha.ne b hb e), ?_⟩, q4.keep r3 (fun e => Nat.lt_irrefl _ (hz _ e))⟩ (fun b hb => ?_), ⟨ha.k, fun b hb => ?_, fun b hb => ?_⟩⟩
  · rw [e1, e2]
    exact r2
  · rcases hb with (rfl | rfl | hb | hb) | hb
    · exact .inl (.inl (.inl rfl))
    · exact .inl (.inl (.inr (.inl rfl)))
    · exact .inl (.inl (.inr (.inr (.inl hb))))
    · rcases r4 with r4 | r4
      · exact .inl (.inl (.inr (.inr (.inr (by rw [← r4]; exact hb)))))
      · have h1 := (r2.lt b hb).2
        rw [r4] at hb
        cases hb
        exact .inr ⟨by omega, h1⟩
    · exact .inl (.inr hb)
  · rcases r4 with r4 | r4
    · exact ha.s b (by rw [← r4]; exact hb)
    · rw [r4] at hb
      cases hb
      have h1 := q1.box.lt
      have h2 := q1.mp.lt
      omega
  · rcases r4 with r4 | r4
    · rw [r4]
      exact ha.ne b hb
    · rw [r4]
      intro e
      cases e
      have h1 := (q2.lt _ hb).2
      omega
theorem LW.lt {w W : World} {p : Nat} {cap : Int} {sh : List Int} {L : List E} {S : Side} (h : LW w p cap sh L S W) : ∀ b, S.D b → b < W.heap.size := by
  obtain ⟨P, -, -, -, -, -, -, hd⟩ := h
  exact fun b hb => (hd b hb).2
theorem keys_new {w W : World} {p : Nat} {cap : Int} {sh : List Int} {L : List E} {S : Side} (t : Int) (h : LW w p cap sh L S W) :
    Calls Tryz.prog 14 #[ptr p, .int .i64 t] W fun e W' => ∃ a c, e = .returned (.slice a (keysOf L t).length c) ∧ LW w p cap sh L (S.and (.strs (.slice a (keysOf L t).length c) (keysOf L t))) W' ∧ ∀ b, (Value.slice a (keysOf L t).length c).ownBlock = some b → W.heap.size ≤ b := by
  have h0 := h
  obtain ⟨P, h, rfl, rfl, rfl, rfl, hq, hd⟩ := h
  refine (keys_plain P t W h.at_).mono ?_
  rintro e' W' ⟨v, he, hs, _, k⟩
  have hst := StrsAt.of_owns hs
  obtain ⟨a, c, hv', _⟩ := id hst
  subst hv'
  exact ⟨a, c, he, h0.add (T := .strs _ _) k hst (fun b hb => World.ownsRow.lt hs b hb), fun b hb => (World.ownsRow.lt hs b hb).1⟩
/-- A number of the array is written. -/
theorem LW.num {w W : World} {p : Nat} {cap : Int} {sh : List Int} {M : List E} {z mb : Nat} {l : List R5} {pos : Int} {vk vs vo : Value} {ks keys : List ByteArray} {ss arr : List Int} {zu k : Nat} {u : Int}
    (h : LW w p cap sh M (((SX z mb l pos w.heap.size vk ks vs ss).and (SB zu (arr.map vI))).and (.strs vo keys)) W) (hw : w.heap.size ≤ zu) (hk : k < arr.length) (h1 : ∀ b, (SX z mb l pos w.heap.size vk ks vs ss).D b → b ≠ zu) (h2 : ∀ b, vo.ownBlock = some b → b ≠ zu) :
    LW w p cap sh M (((SX z mb l pos w.heap.size vk ks vs ss).and (SB zu ((arr.set k u).map vI))).and (.strs vo keys)) (W.setCell ⟨zu, k, none⟩ (.int .i64 u)) := by
  have kk := (Keep.refl (fun j => j = zu) W).setCell (p := ⟨zu, k, none⟩) (.int .i64 u) (.inl rfl)
  obtain ⟨q1, q2, q3⟩ := SX.q h.q.1.1
  have q4 : BoxL W zu (arr.map vI) := h.q.1.2
  have q5 : StrsAt W vo keys := h.q.2
  refine h.write kk (fun j hj => ⟨.inl (.inr hj), by have e : j = zu := hj; omega⟩) ⟨⟨⟨q1.keep kk (h1 z (.inl rfl)) (h1 mb (.inr (.inl rfl))), ownsRow_keep q2 kk (fun b hb e => h1 b (.inr (.inr (.inl hb))) e), ownsRow_keep q3 kk (fun b hb e => h1 b (.inr (.inr (.inr hb))) e)⟩, ?_⟩, q5.keep kk (fun b hb e => h2 b hb e)⟩ (fun b hb => .inl hb)
  show BoxL _ zu ((arr.set k u).map vI)
  rw [List.map_set]
  exact q4.set k (by simpa using hk) (vI u)
theorem len_tot : ∀ (L : List E), (∀ x ∈ L, 1 ≤ x.z) → (L.length : Int) ≤ tot L
  | [], _ => Int.le_refl _
  | x :: L, h => by
    rw [tot_cons, List.length_cons]
    have h1 := len_tot L (fun y hy => h y (List.mem_cons_of_mem _ hy))
    have h2 := h x List.mem_cons_self
    omega
theorem keys_few {cap : Int} {sh : List Int} {L : List E} (h : Sane cap sh L) (k : Int) : ((keysOf L k).length : Int) ≤ cap := by
  unfold keysOf
  rw [List.length_map]
  have h1 := List.length_filter_le (fun e : E => (e.t : Int) == k) L
  have h2 := len_tot L (fun x hx => (h.rng x hx).2)
  have h3 := h.le
  omega
theorem setSame {α : Type} {l : List α} {k : Nat} {v : α} (h : l[k]? = some v) : l.set k v = l := by
  apply List.ext_getElem?
  intro i
  rw [List.getElem?_set]
  split
  · rename_i e
    subst e
    rw [h]
    simp [(List.getElem?_eq_some_iff.1 h).1]
  · rfl
theorem strs_cell {W : World} {lo n c m j : Nat} {a : Option Addr} {xs : List ByteArray} {s : ByteArray} (h : W.ownsRow lo 9 1 (.slice a n c) m (xs.map Value.string)) (hj : xs[j]? = some s) : ∃ b off, a = some ⟨b, off, none⟩ ∧ W.cell? ⟨b, off + j, none⟩ = some (.string s) := by
  obtain ⟨a', c', e, h2⟩ := StrsAt.of_owns h
  cases e
  exact h2 j s hj
theorem strsAt_cell {W : World} {n c j : Nat} {a : Option Addr} {xs : List ByteArray} {s : ByteArray} (h : StrsAt W (.slice a n c) xs) (hj : xs[j]? = some s) : ∃ b off, a = some ⟨b, off, none⟩ ∧ W.cell? ⟨b, off + j, none⟩ = some (.string s) := by
  obtain ⟨a', c', e, h2⟩ := h
  cases e
  exact h2 j s hj
theorem ints_cell {W : World} {lo n c m j : Nat} {a : Option Addr} {xs : List Int} {s : Int} (h : W.ownsRow lo 3 1 (.slice a n c) m (xs.map vI)) (hj : xs[j]? = some s) : ∃ b off, a = some ⟨b, off, none⟩ ∧ W.cell? ⟨b, off + j, none⟩ = some (.int .i64 s) := by
  rcases h.2 with ⟨e, e2⟩ | ⟨g, cap, cur, e, -⟩
  · have h1 := h.1
    rw [e2] at h1
    have : xs = [] := by simpa using h1
    subst this
    simp at hj
  · cases e
    have h1 := h.cells (g := g) rfl j (.int .i64 s) (by rw [List.getElem?_map, hj]; rfl)
    rw [Addr.add_lit] at h1
    exact ⟨g, 0, rfl, h1⟩
/-- What the loop knows. -/
structure Known (l : List R5) (M : List E) (ks : List ByteArray) (ss : List Int) : Prop where
  len : ks.length = ss.length
  key : ∀ (j : Nat) (k : ByteArray) (s : Int), ks[j]? = some k → ss[j]? = some s → KeyIs l k s
  ent : ∀ x ∈ M, x.key ∈ ks ∧ KeyIs l x.key x.z
theorem Known.nil (l : List R5) : Known l [] [] [] := ⟨rfl, by simp, by simp⟩
theorem Known.put {l : List R5} {M : List E} {ks : List ByteArray} {ss : List Int} (h : Known l M ks ss) {cap : Int} {S : List Int} {t : Int} {k : ByteArray} {s : Int} (hk : KeyIs l k s) : Known l (putI cap S M t k s).2.2 (ks ++ [k]) (ss ++ [s]) := by
  refine ⟨by simp [h.len], fun j k' s' hj hs => ?_, fun x hx => ?_⟩
  · by_cases hl : j < ks.length
    · rw [List.getElem?_append_left hl] at hj
      rw [List.getElem?_append_left (by rw [← h.len]; exact hl)] at hs
      exact h.key j k' s' hj hs
    · have hj2 := (List.getElem?_eq_some_iff.1 hj).1
      have e : j = ks.length := by simp at hj2; omega
      subst e
      rw [List.getElem?_append_right (Nat.le_refl _), Nat.sub_self] at hj
      rw [List.getElem?_append_right (by rw [h.len]; exact Nat.le_refl _), h.len, Nat.sub_self] at hs
      simp only [List.getElem?_cons_zero, Option.some.injEq] at hj hs
      subst hj hs
      exact hk
  · rcases putI_mem x hx with hx | ⟨e1, e2⟩
    · exact ⟨List.mem_append.2 (.inl (h.ent x hx).1), (h.ent x hx).2⟩
    · rw [e1, e2]
      exact ⟨List.mem_append.2 (.inr List.mem_cons_self), hk⟩
/-- The first key that is an entry's has its size. -/
theorem Known.first {l : List R5} {M : List E} {ks : List ByteArray} {ss : List Int} (h : Known l M ks ss) {x : E} (hx : x ∈ M) {m : Nat} {s : Int} (hm : ks[m]? = some x.key) (hs : ss[m]? = some s) : s = x.z := (h.key m _ _ hm hs).same (h.ent x hx).2
theorem Known.found {l : List R5} {M : List E} {ks : List ByteArray} {ss : List Int} (h : Known l M ks ss) {x : E} (hx : x ∈ M) {m : Nat} (hm : ks.length ≤ m) (hn : ∀ i, i < m → ks[i]? ≠ some x.key) : False := by
  obtain ⟨i, hi⟩ := List.mem_iff_getElem?.1 (h.ent x hx).1
  exact hn i (by have := (List.getElem?_eq_some_iff.1 hi).1; omega) hi
theorem KeyIs.pos {l : List R5} {k : ByteArray} {s : Int} (h : KeyIs l k s) : 1 ≤ s ∧ s ≤ 1 + 2 * l.length := by
  obtain ⟨q, -, -, rfl⟩ := h
  have := lenQ_le q l
  omega
theorem KeyIs.len {l : List R5} {k : ByteArray} {s : Int} (h : KeyIs l k s) : k.size ≤ 42 := by
  obtain ⟨q, hq, rfl, -⟩ := h
  rw [bs_size]
  exact line_len hq
end Mem
end Go.Proofs.YtcnpncndecjahaaGreatDoor

/-
  From the row's own condition to the walk: the laid table, arguments that came in.
-/
namespace Go.Proofs.YtcnpncndecjahaaGreatDoor
open Go.ChangeShapes Go.WideShapes Go.ChangeAt Go.RowKit Go.Shelf

/-- What the row lists. -/
abbrev laid3 : List (String × DataW Unit) := [("math/bits.deBruijn32tab", Rows.laid_math_bits_deBruijn32tab), ("math/bits.deBruijn64tab", Rows.laid_math_bits_deBruijn64tab), ("internal/strconv.uint64pow10", Rows.laid_internal_strconv_uint64pow10)]
theorem own : ownKnob Tryz.prog.godebug = none := by kernel_rfl
theorem laidOut : laidOutB Tryz.prog = true := by kernel_rfl
theorem cellsI : Tryz.prog.cellsOf 3 = 1 := by kernel_rfl
theorem bytesI : Tryz.prog.bytesOf 3 = 8 := by kernel_rfl
theorem tPow : (Tryz.prog.globals[0]?).map (·.type) = some 182 := by kernel_rfl
theorem door_met (os : Os) (args : Array Value) : laidMetH Tryz.prog laid3 (World.forCall (World.doorLaid Tryz.prog 400 os) (fun _ _ => 0) ⟨#[], args, []⟩).memory :=
  laidMetH_of_parts3 (fuel := 8) (laidMet_of_run' 8 (by kernel_rfl) (by kernel_rfl)) (by kernel_rfl) (by kernel_rfl)
theorem pow_of_laid {W : World} (h : laidMetH Tryz.prog laid3 W) : Pow W := by
  rw [MakeChecks.laidMetH_plain _ _ _ (by kernel_rfl)] at h
  exact Lib.tabIs_of_head gPow tPow Tryz.underlying182 Tryz.underlying164 (by kernel_rfl) (by kernel_rfl) h.tail.tail
theorem returns_shaped_and {H : Type} {enc : TypeId × Value → H} {a : Assume} {C : Checked} {os : Os} {f : FuncId} {fn : Func} {s : ChangeSpec} {conds : List PathCond} {apart fresh handsOn again : Bool} {X : World → Array Value → Prop}
    (hX : ∀ (w w' : World) (args : Array Value), w.heap = w'.heap → X w args → X w' args)
    (own : ownKnob C.prog.godebug = none) (started : os.Started) (noInit : C.prog.inits.idxOf? f = none) (hfn : C.prog.funcs[f]? = some fn)
    (witness : ∃ (w : World) (tape : Tape) (i : Input), w.os = os ∧ (w.forCall tape i).Shaped C.prog ∧ i.vars = [] ∧ Input.okWide C.prog (w.forCall tape i) .any w.heap.size f i ∧
      ((s.pre enc C.prog fn conds apart (w.forCall tape i).memory i.args ∧ X (w.forCall tape i).memory i.args) ∧ sizedMet enc C.prog fn (OpenSpec.ofChange s) apart (w.forCall tape i).memory i.args) ∧ a.holds C.prog (lone (Frame.enter C.prog f i.args .normal) [] (w.forCall tape i)))
    (contract : ∀ (W : World) (base : Nat) (args : Array Value) (ds gs : List (DataW H)) (before : List MemPlace),
      (∀ (j : Nat) t v, fn.params[j]? = some t → args[j]? = some v → Value.okWide C.prog W .any base t v) →
      DataW.Whole enc C.prog fn.params.toList s.vars apart W args.toList ds gs before →
      conds.all (PathCond.test C.prog ⟨fn.params.toList, ds, s.plain.varTypes C.prog, gs⟩) = true →
      (DataW.weightsEach C.prog (fn.params.toList ++ s.plain.varTypes C.prog) (ds ++ gs)).all (· ≤ reachBytes) = true → X W args → W.ShapedOpen C.prog →
      a.holds C.prog (lone (Frame.enter C.prog f args .normal) [] W) →
      Calls C.prog f args W fun e W' => ∃ v, e = .returned v ∧ s.post enc C.prog fn apart fresh handsOn again W args v W') :
    ReturnsInHanded a C os f .any (fun w args => (s.pre enc C.prog fn conds apart w args ∧ X w args) ∧ sizedMet enc C.prog fn (OpenSpec.ofChange s) apart w args) (s.post enc C.prog fn apart fresh handsOn again) := by
  refine returnsInHanded_of_calls own started noInit witness ?_
  intro w tape i _ hsh _ hok hpre hholds
  obtain ⟨_, _, _, fn', hfn', _, _, _, _, hval⟩ := hok
  have e : fn' = fn := Option.some.inj (hfn'.symm.trans hfn)
  subst e
  obtain ⟨⟨⟨ds, gs, before, hw, hc⟩, hx⟩, hz⟩ := hpre
  have hw' := DataW.Whole.of_heap (w' := w.forCall tape i) (by rfl) hw
  refine (contract (w.forCall tape i) w.heap.size i.args ds gs before hval hw' hc (hz.weights hw) (hX _ _ _ (by rfl) hx) hsh hholds).mono fun e W' ⟨v, he, hp⟩ => ?_
  subst he
  exact ChangeSpec.post_blind hp
theorem ints_open {H : Type} {enc : TypeId × Value → H} {w : World} {base fuel : Nat} {spare : Nat → Bool} {held : Bool} {a : Option Addr} {len cap : Nat} {x : DataW H × List MemPlace} (h : DataW.trod enc Tryz.prog w base spare held fuel 24 [.slice a len cap] = some x)
    (hs : ∀ el sp, x.1 = .slice el sp → (el.length + sp.length) * Tryz.prog.bytesOf 3 ≤ reachBytes) : ∃ xs, Its w (.slice a len cap) xs := by
  rcases open_ints Tryz.underlying24 Tryz.underlying3 cellsI h with ⟨hcs, _⟩ | ⟨ad, l, c, zs, hcs, _, hl, hm, hz, hx, hcell, hwz⟩
  · cases hcs
    exact ⟨[], ⟨by simp, by simp, none, 0, 0, 0, rfl, by simp, by simp, by simp⟩⟩
  · cases hcs
    have hlz : len ≤ zs.length := by rw [hz]; split <;> omega
    have h1 := hs _ _ (by rw [hx])
    rw [bytesI] at h1
    simp only [lits, List.length_map, List.length_take, List.length_drop, reachBytes] at h1
    refine ⟨zs.take len, ⟨by rw [List.length_take]; omega, fun x hx => bounds_i64 (hwz x (List.mem_of_mem_take hx)), ?_⟩⟩
    have hll : (zs.take len).length = len := by rw [List.length_take]; omega
    obtain ⟨b, off, spot⟩ := ad
    refine ⟨some ⟨b, off, spot⟩, cap, b, off, by rw [hll], by rw [hll]; exact hl, fun h0 => ?_, fun j x hj => ?_⟩
    · have hspot : spot = none := by simpa [Addr.add] using World.cell?_spot (hcell 0 (by omega))
      rw [hspot]
    · have hj1 : j < len := by have := (List.getElem?_eq_some_iff.1 hj).1; omega
      have hspot : spot = none := by simpa [Addr.add] using World.cell?_spot (hcell 0 (by omega))
      subst hspot
      have hc := hcell j (by omega)
      rw [Addr.add_lit] at hc
      rw [hc]
      rw [List.getElem?_take_of_lt hj1] at hj
      rw [List.getD_eq_getElem?_getD, hj]
      rfl
theorem trod_array5 {H : Type} {enc : TypeId × Value → H} {P : Program} {w : World} {base : Nat} {spare : Nat → Bool} {held : Bool} {t e : TypeId} {fuel : Nat} {c0 c1 c2 c3 c4 : Value} {x : DataW H × List MemPlace} (ht : P.underlying t = some (.array 5 e)) (hce : P.cellsOf e = 1)
    (h : DataW.trod enc P w base spare held fuel t [c0, c1, c2, c3, c4] = some x) :
    ∃ y0 y1 y2 y3 y4 n, x = (.agg [y0.1, y1.1, y2.1, y3.1, y4.1], y0.2 ++ (y1.2 ++ (y2.2 ++ (y3.2 ++ (y4.2))))) ∧ DataW.trod enc P w base spare held n e [c0] = some y0 ∧ DataW.trod enc P w base spare held n e [c1] = some y1 ∧ DataW.trod enc P w base spare held n e [c2] = some y2 ∧ DataW.trod enc P w base spare held n e [c3] = some y3 ∧ DataW.trod enc P w base spare held n e [c4] = some y4 := by
  cases fuel with
  | zero => simp [DataW.trod] at h
  | succ n =>
    unfold DataW.trod at h
    rw [ht] at h
    have r5 : List.range 5 = [0, 1, 2, 3, 4] := rfl
    simp [r5, hce] at h
    obtain ⟨_, h⟩ := h
    cases h0 : DataW.trod enc P w base spare held n e [c0] with
    | none => simp [h0] at h
    | some y0 =>
      cases h1 : DataW.trod enc P w base spare held n e [c1] with
      | none => simp [h0, h1] at h
      | some y1 =>
        cases h2 : DataW.trod enc P w base spare held n e [c2] with
        | none => simp [h0, h1, h2] at h
        | some y2 =>
          cases h3 : DataW.trod enc P w base spare held n e [c3] with
          | none => simp [h0, h1, h2, h3] at h
          | some y3 =>
            cases h4 : DataW.trod enc P w base spare held n e [c4] with
            | none => simp [h0, h1, h2, h3, h4] at h
            | some y4 =>
              simp [h0, h1, h2, h3, h4] at h
              exact ⟨y0, y1, y2, y3, y4, n, h.symm, h0, h1, h2, h3, h4⟩
theorem cells5 : Tryz.prog.cellsOf 39 = 5 := by kernel_rfl
theorem bytes5 : Tryz.prog.bytesOf 39 = 40 := by kernel_rfl
theorem five_cells {H : Type} {enc : TypeId × Value → H} {w : World} {base n : Nat} {spare : Nat → Bool} {held : Bool} {a : Addr} {cs : List Value} {x : DataW H × List MemPlace} (hc : w.cells? base a (Tryz.prog.cellsOf 39) = some cs)
    (ht : DataW.trod enc Tryz.prog w base spare held n 39 cs = some x) (j : Nat) (hj : j < 5) : ∃ z, w.cell? (a.add j) = some (.int .i64 z) ∧ -9223372036854775808 ≤ z ∧ z ≤ 9223372036854775807 := by
  rw [cells5] at hc
  obtain ⟨_, hcl, hat⟩ := World.cells?_some hc
  obtain ⟨c0, c1, c2, c3, c4, rfl⟩ : ∃ c0 c1 c2 c3 c4, cs = [c0, c1, c2, c3, c4] := by
    match cs, hcl with
    | [c0, c1, c2, c3, c4], _ => exact ⟨c0, c1, c2, c3, c4, rfl⟩
  obtain ⟨y0, y1, y2, y3, y4, m, -, t0, t1, t2, t3, t4⟩ := trod_array5 Tryz.underlying39 cellsI ht
  have key : ∀ (c : Value) (y : DataW H × List MemPlace), DataW.trod enc Tryz.prog w base spare held m 3 [c] = some y → ∃ z, c = .int .i64 z ∧ -9223372036854775808 ≤ z ∧ z ≤ 9223372036854775807 := fun c y h => by
    obtain ⟨z, hz, _, hwf⟩ := DataW.trod_int Tryz.underlying3 h
    exact ⟨z, (List.cons.inj hz).1, bounds_i64 hwf⟩
  have h1 := hat j hj
  match j, hj with
  | 0, _ => obtain ⟨z, e, hb⟩ := key _ _ t0; exact ⟨z, by rw [h1, e]; rfl, hb⟩
  | 1, _ => obtain ⟨z, e, hb⟩ := key _ _ t1; exact ⟨z, by rw [h1, e]; rfl, hb⟩
  | 2, _ => obtain ⟨z, e, hb⟩ := key _ _ t2; exact ⟨z, by rw [h1, e]; rfl, hb⟩
  | 3, _ => obtain ⟨z, e, hb⟩ := key _ _ t3; exact ⟨z, by rw [h1, e]; rfl, hb⟩
  | 4, _ => obtain ⟨z, e, hb⟩ := key _ _ t4; exact ⟨z, by rw [h1, e]; rfl, hb⟩

theorem fives_open {H : Type} {enc : TypeId × Value → H} {w : World} {base fuel : Nat} {spare : Nat → Bool} {held : Bool} {a : Option Addr} {len cap : Nat} {x : DataW H × List MemPlace} (h : DataW.trod enc Tryz.prog w base spare held fuel 23 [.slice a len cap] = some x) (hlen : len ≤ 1000000000000000) : ∃ f, Fives w (.slice a len cap) len f := by
  rcases Go.Deep.open_slice Tryz.underlying23 h with ⟨h0, _⟩ | ⟨ad, l, c, m, n, D, Pl, hcs, hb, hl, hm, hmm, hx, hi⟩
  · cases h0
    exact ⟨fun _ _ => 0, ⟨by simp, fun _ _ => by unfold I64; decide, none, 0, 0, 0, rfl, by simp, fun h => by simp at h, fun i j hi => by simp at hi⟩⟩
  · cases hcs
    have hlm : len ≤ m := by rw [hmm]; split <;> omega
    have hc : ∀ i j, i < len → j < 5 → ∃ z, w.cell? (ad.add (i * 5 + j)) = some (.int .i64 z) ∧ -9223372036854775808 ≤ z ∧ z ≤ 9223372036854775807 := fun i j hi' hj => by
      obtain ⟨cs', h1, h2⟩ := hi i (by omega)
      obtain ⟨z, hz, hb⟩ := five_cells h1 h2 j hj
      rw [cells5, Go.Deep.add_add] at hz
      exact ⟨z, hz, hb⟩
    obtain ⟨b, off, spot⟩ := ad
    by_cases hl0 : len = 0
    · subst hl0
      exact ⟨fun _ _ => 0, ⟨by simp, fun _ _ => by unfold I64; decide, some ⟨b, off, spot⟩, cap, b, off, rfl, hl, fun h => by simp at h, fun i j hi => by simp at hi⟩⟩
    · obtain ⟨z0, hz0, _⟩ := hc 0 0 (by omega) (by omega)
      have hspot : spot = none := by simpa [Addr.add] using World.cell?_spot hz0
      subst hspot
      have hc2 : ∀ i j, ∃ z : Int, (i < len → j < 5 → w.cell? ⟨b, off + i * 5 + j, none⟩ = some (.int .i64 z)) ∧ I64 z := fun i j => by
        by_cases hil : i < len ∧ j < 5
        · obtain ⟨z, h0, b0⟩ := hc i j hil.1 hil.2
          rw [Addr.add_lit, ← Nat.add_assoc] at h0
          exact ⟨z, fun _ _ => h0, b0⟩
        · exact ⟨0, fun h1 h2 => absurd ⟨h1, h2⟩ hil, by unfold I64; decide⟩
      exact ⟨fun i j => Classical.choose (hc2 i j), ⟨hlen, fun i j => (Classical.choose_spec (hc2 i j)).2, some ⟨b, off, none⟩, cap, b, off, rfl, hl, fun _ => rfl, fun i j hi hj => (Classical.choose_spec (hc2 i j)).1 hi hj⟩⟩
theorem fives_open' {H : Type} {enc : TypeId × Value → H} {w : World} {base fuel : Nat} {spare : Nat → Bool} {held : Bool} {a : Option Addr} {len cap : Nat} {x : DataW H × List MemPlace} (h : DataW.trod enc Tryz.prog w base spare held fuel 23 [.slice a len cap] = some x)
    (hs : ∀ el sp, x.1 = .slice el sp → (el.length + sp.length) * Tryz.prog.bytesOf 39 ≤ reachBytes) : ∃ f, Fives w (.slice a len cap) len f := by
  refine fives_open h ?_
  have hl := Go.Joins.sliceLen_trod (d := x.1) (ps := x.2) Tryz.underlying23 h
  cases e : x.1 with
  | slice el sp =>
    rw [e] at hl
    have h1 := hs el sp e
    rw [bytes5] at h1
    simp only [Go.Joins.sliceLen] at hl
    unfold reachBytes at h1
    omega
  | _ =>
    rw [e] at hl
    simp only [Go.Joins.sliceLen] at hl
    omega
theorem trod_array6 {H : Type} {enc : TypeId × Value → H} {P : Program} {w : World} {base : Nat} {spare : Nat → Bool} {held : Bool} {t e : TypeId} {fuel : Nat} {c0 c1 c2 c3 c4 c5 : Value} {x : DataW H × List MemPlace} (ht : P.underlying t = some (.array 6 e)) (hce : P.cellsOf e = 1)
    (h : DataW.trod enc P w base spare held fuel t [c0, c1, c2, c3, c4, c5] = some x) :
    ∃ y0 y1 y2 y3 y4 y5 n, x = (.agg [y0.1, y1.1, y2.1, y3.1, y4.1, y5.1], y0.2 ++ (y1.2 ++ (y2.2 ++ (y3.2 ++ (y4.2 ++ (y5.2)))))) ∧ DataW.trod enc P w base spare held n e [c0] = some y0 ∧ DataW.trod enc P w base spare held n e [c1] = some y1 ∧ DataW.trod enc P w base spare held n e [c2] = some y2 ∧ DataW.trod enc P w base spare held n e [c3] = some y3 ∧ DataW.trod enc P w base spare held n e [c4] = some y4 ∧ DataW.trod enc P w base spare held n e [c5] = some y5 := by
  cases fuel with
  | zero => simp [DataW.trod] at h
  | succ n =>
    unfold DataW.trod at h
    rw [ht] at h
    have r5 : List.range 6 = [0, 1, 2, 3, 4, 5] := rfl
    simp [r5, hce] at h
    obtain ⟨_, h⟩ := h
    cases h0 : DataW.trod enc P w base spare held n e [c0] with
    | none => simp [h0] at h
    | some y0 =>
      cases h1 : DataW.trod enc P w base spare held n e [c1] with
      | none => simp [h0, h1] at h
      | some y1 =>
        cases h2 : DataW.trod enc P w base spare held n e [c2] with
        | none => simp [h0, h1, h2] at h
        | some y2 =>
          cases h3 : DataW.trod enc P w base spare held n e [c3] with
          | none => simp [h0, h1, h2, h3] at h
          | some y3 =>
            cases h4 : DataW.trod enc P w base spare held n e [c4] with
            | none => simp [h0, h1, h2, h3, h4] at h
            | some y4 =>
              cases h5 : DataW.trod enc P w base spare held n e [c5] with
              | none => simp [h0, h1, h2, h3, h4, h5] at h
              | some y5 =>
                simp [h0, h1, h2, h3, h4, h5] at h
                exact ⟨y0, y1, y2, y3, y4, y5, n, h.symm, h0, h1, h2, h3, h4, h5⟩
theorem cells6 : Tryz.prog.cellsOf 62 = 6 := by kernel_rfl
theorem bytes6 : Tryz.prog.bytesOf 62 = 48 := by kernel_rfl
theorem six_cells {H : Type} {enc : TypeId × Value → H} {w : World} {base n : Nat} {spare : Nat → Bool} {held : Bool} {a : Addr} {cs : List Value} {x : DataW H × List MemPlace} (hc : w.cells? base a (Tryz.prog.cellsOf 62) = some cs)
    (ht : DataW.trod enc Tryz.prog w base spare held n 62 cs = some x) (j : Nat) (hj : j < 6) : ∃ z, w.cell? (a.add j) = some (.int .i64 z) ∧ -9223372036854775808 ≤ z ∧ z ≤ 9223372036854775807 := by
  rw [cells6] at hc
  obtain ⟨_, hcl, hat⟩ := World.cells?_some hc
  obtain ⟨c0, c1, c2, c3, c4, c5, rfl⟩ : ∃ c0 c1 c2 c3 c4 c5, cs = [c0, c1, c2, c3, c4, c5] := by
    match cs, hcl with
    | [c0, c1, c2, c3, c4, c5], _ => exact ⟨c0, c1, c2, c3, c4, c5, rfl⟩
  obtain ⟨y0, y1, y2, y3, y4, y5, m, -, t0, t1, t2, t3, t4, t5⟩ := trod_array6 Tryz.underlying62 cellsI ht
  have key : ∀ (c : Value) (y : DataW H × List MemPlace), DataW.trod enc Tryz.prog w base spare held m 3 [c] = some y → ∃ z, c = .int .i64 z ∧ -9223372036854775808 ≤ z ∧ z ≤ 9223372036854775807 := fun c y h => by
    obtain ⟨z, hz, _, hwf⟩ := DataW.trod_int Tryz.underlying3 h
    exact ⟨z, (List.cons.inj hz).1, bounds_i64 hwf⟩
  have h1 := hat j hj
  match j, hj with
  | 0, _ => obtain ⟨z, e, hb⟩ := key _ _ t0; exact ⟨z, by rw [h1, e]; rfl, hb⟩
  | 1, _ => obtain ⟨z, e, hb⟩ := key _ _ t1; exact ⟨z, by rw [h1, e]; rfl, hb⟩
  | 2, _ => obtain ⟨z, e, hb⟩ := key _ _ t2; exact ⟨z, by rw [h1, e]; rfl, hb⟩
  | 3, _ => obtain ⟨z, e, hb⟩ := key _ _ t3; exact ⟨z, by rw [h1, e]; rfl, hb⟩
  | 4, _ => obtain ⟨z, e, hb⟩ := key _ _ t4; exact ⟨z, by rw [h1, e]; rfl, hb⟩
  | 5, _ => obtain ⟨z, e, hb⟩ := key _ _ t5; exact ⟨z, by rw [h1, e]; rfl, hb⟩

theorem sixs_open {H : Type} {enc : TypeId × Value → H} {w : World} {base fuel : Nat} {spare : Nat → Bool} {held : Bool} {a : Option Addr} {len cap : Nat} {x : DataW H × List MemPlace} (h : DataW.trod enc Tryz.prog w base spare held fuel 22 [.slice a len cap] = some x) (hlen : len ≤ 1000000000000000) : ∃ f, Sixes w (.slice a len cap) len f := by
  rcases Go.Deep.open_slice Tryz.underlying22 h with ⟨h0, _⟩ | ⟨ad, l, c, m, n, D, Pl, hcs, hb, hl, hm, hmm, hx, hi⟩
  · cases h0
    exact ⟨fun _ _ => 0, ⟨by simp, fun _ _ => by unfold I64; decide, none, 0, 0, 0, rfl, by simp, fun h => by simp at h, fun i j hi => by simp at hi⟩⟩
  · cases hcs
    have hlm : len ≤ m := by rw [hmm]; split <;> omega
    have hc : ∀ i j, i < len → j < 6 → ∃ z, w.cell? (ad.add (i * 6 + j)) = some (.int .i64 z) ∧ -9223372036854775808 ≤ z ∧ z ≤ 9223372036854775807 := fun i j hi' hj => by
      obtain ⟨cs', h1, h2⟩ := hi i (by omega)
      obtain ⟨z, hz, hb⟩ := six_cells h1 h2 j hj
      rw [cells6, Go.Deep.add_add] at hz
      exact ⟨z, hz, hb⟩
    obtain ⟨b, off, spot⟩ := ad
    by_cases hl0 : len = 0
    · subst hl0
      exact ⟨fun _ _ => 0, ⟨by simp, fun _ _ => by unfold I64; decide, some ⟨b, off, spot⟩, cap, b, off, rfl, hl, fun h => by simp at h, fun i j hi => by simp at hi⟩⟩
    · obtain ⟨z0, hz0, _⟩ := hc 0 0 (by omega) (by omega)
      have hspot : spot = none := by simpa [Addr.add] using World.cell?_spot hz0
      subst hspot
      have hc2 : ∀ i j, ∃ z : Int, (i < len → j < 6 → w.cell? ⟨b, off + i * 6 + j, none⟩ = some (.int .i64 z)) ∧ I64 z := fun i j => by
        by_cases hil : i < len ∧ j < 6
        · obtain ⟨z, h0, b0⟩ := hc i j hil.1 hil.2
          rw [Addr.add_lit, ← Nat.add_assoc] at h0
          exact ⟨z, fun _ _ => h0, b0⟩
        · exact ⟨0, fun h1 h2 => absurd ⟨h1, h2⟩ hil, by unfold I64; decide⟩
      exact ⟨fun i j => Classical.choose (hc2 i j), ⟨hlen, fun i j => (Classical.choose_spec (hc2 i j)).2, some ⟨b, off, none⟩, cap, b, off, rfl, hl, fun _ => rfl, fun i j hi hj => (Classical.choose_spec (hc2 i j)).1 hi hj⟩⟩
theorem sixs_open' {H : Type} {enc : TypeId × Value → H} {w : World} {base fuel : Nat} {spare : Nat → Bool} {held : Bool} {a : Option Addr} {len cap : Nat} {x : DataW H × List MemPlace} (h : DataW.trod enc Tryz.prog w base spare held fuel 22 [.slice a len cap] = some x)
    (hs : ∀ el sp, x.1 = .slice el sp → (el.length + sp.length) * Tryz.prog.bytesOf 62 ≤ reachBytes) : ∃ f, Sixes w (.slice a len cap) len f := by
  refine sixs_open h ?_
  have hl := Go.Joins.sliceLen_trod (d := x.1) (ps := x.2) Tryz.underlying22 h
  cases e : x.1 with
  | slice el sp =>
    rw [e] at hl
    have h1 := hs el sp e
    rw [bytes6] at h1
    simp only [Go.Joins.sliceLen] at hl
    unfold reachBytes at h1
    omega
  | _ =>
    rw [e] at hl
    simp only [Go.Joins.sliceLen] at hl
    omega
end Go.Proofs.YtcnpncndecjahaaGreatDoor

/-
  Log of the reference's package store: records that apply one after the other.
-/
namespace Go.Proofs.YtcnpncndecjahaaGreatDoor
open Go.RowKit Go.Shelf

set_option maxRecDepth 100000 in
set_option maxHeartbeats 8000000 in
theorem log_any (v : Value) (n : Nat) (f : Nat → Nat → Int) (w : World) (h : Sixes w v n f) (hn20 : n ≤ 1000) : Calls Tryz.prog 5 #[v] w (LogP n w) := by
  have HBD := Lib.hid h.bd
  obtain ⟨a, cp, bb, off, rfl, hcp, ha, hcell⟩ := h.at_
  have HA := Lib.hid ha
  have HCL := Lib.hid hcell
  clear h ha hcell
  go_enter Tryz.func5, Tryz.ntmps5
  go_wp2_with fail
  with_reducible refine (new04_any w).mono ?_
  rintro e W1 ⟨z, rfl, hs, hk, hz⟩
  have HS1 := Lib.hid hs
  have HK1 := Lib.hid hk
  have HZ1 : Hid (w.heap.size ≤ z ∧ z < W1.heap.size) := Lib.hid ⟨hz, hs.box.lt⟩
  clear hs hk hz
  go_wp2_with fail
  go_loopg [3, 5] n (fun gh v3 v5 wr => ∃ (i : Nat) (L : List Rc) (vs : List Value) (vst : Value) (ls : List R5), gh + i = n ∧ v5 = .int .i64 i ∧ L.length ≤ i ∧ LogOk L ∧ RcsOwn W1.heap.size wr v3 L vs ∧ RSt wr z vst ls L.length ∧ ls.Perm (rowsOf L) ∧ (∀ b, vst.ownBlock = some b → v3.ownBlock ≠ some b ∧ b < wr.heap.size) ∧ (∀ r ∈ rowsOf L, r.fine) ∧ Keep (fun _ => False) w wr ∧ W1.heap.size ≤ wr.heap.size)
  case atStart => exact ⟨0, [], [], .slice none 0 0, [], by omega, rfl, by simp, LogOk.nil, RcsOwn.nil _ _, HS1.out, List.Perm.refl _, (fun b hb => by cases hb), (fun r hr => by cases hr), HK1.out, Nat.le_refl _⟩
  case round =>
    as_aux_lemma =>
      obtain ⟨i, L, vs, vst, ls, hgi, rfl, hLi, hlog, hown, hst, hpm, hoff, hfine, hkw, hw1⟩ := hrel
      have HLOG := Lib.hid hlog
      have HOWN := Lib.hid hown
      have HST := Lib.hid hst
      have HPM := Lib.hid hpm
      have HOFF := Lib.hid hoff
      have HFINE := Lib.hid hfine
      have HKW := Lib.hid hkw
      have HWL := Lib.hid hw1
      clear hlog hown hst hpm hoff hfine hkw hw1
      by_cases hin : i < n
      · have hinz : (i : Int) < (n : Int) := by omega
        have hi0 : (0 : Int) ≤ (i : Int) := by omega
        obtain rfl := HA.out (by omega)
        go_wp2_with fail
        generalize wr = WI at *
        go_loopg [6, 7] 3 (fun gh v6 v7 wr2 => ∃ (k : Nat) (vl : Value) (cs : List Chg), gh + k = 3 ∧ v7 = .int .i64 k ∧ v6 = vl ∧ Chc wr2 vl cs ∧ cs.length ≤ k ∧ (∀ c ∈ cs, c.fine) ∧ (∀ b, vl.ownBlock = some b → WI.heap.size ≤ b ∧ b < wr2.heap.size) ∧ Keep (fun _ => False) WI wr2)
        case atStart => exact ⟨0, _, [], by omega, rfl, rfl, .inl ⟨rfl, rfl⟩, by simp, by simp, (fun b hb => by cases hb), Keep.refl _ _⟩
        case round =>
          as_aux_lemma =>
            obtain ⟨k, vl, cs, hgk, rfl, rfl, hchc, hcl, hcf, hvb, hkw2⟩ := hrel
            have HCHC := Lib.hid hchc
            have HCF := Lib.hid hcf
            have HVB := Lib.hid hvb
            have HKW2 := Lib.hid hkw2
            clear hchc hcf hvb hkw2
            by_cases hk3 : k < 3
            · have hk3z : (k : Int) < 3 := by omega
              have hk0 : (0 : Int) ≤ (k : Int) := by omega
              have HKWW := Lib.hid (HKW.out.trans HKW2.out)
              have hc1 : wr.cell? ⟨bb, off + i * 6 + (2 * k), none⟩ = some (.int .i64 (f i (2 * k))) := HKWW.out.cell (HCL.out i (2 * k) hin (by omega)) (fun h => h)
              have hc2 : wr.cell? ⟨bb, off + i * 6 + (2 * k + 1), none⟩ = some (.int .i64 (f i (2 * k + 1))) := HKWW.out.cell (HCL.out i (2 * k + 1) hin (by omega)) (fun h => h)
              have hb1 := HBD.out i (2 * k)
              have hb2 := HBD.out i (2 * k + 1)
              generalize f i (2 * k) = g1 at *
              generalize f i (2 * k + 1) = g2 at *
              unfold I64 at hb1 hb2
              have ht1 : (2 * (k : Int)).toNat = 2 * k := by omega
              have ht2 : (2 * (k : Int) + 1).toNat = 2 * k + 1 := by omega
              have hq1 : 2 * (k : Int) < 6 := by omega
              have hq2 : 2 * (k : Int) + 1 < 6 := by omega
              have hq3 : 0 ≤ 2 * (k : Int) := by omega
              have hq4 : 0 ≤ 2 * (k : Int) + 1 := by omega
              have HC2 := Lib.hid hc2
              clear hc2
              go_upto_if 37 with (fail)
              clear hc1
              go_cut [8] (fun v8 wc => ∃ y : Int, v8 = .int .i64 y ∧ 0 ≤ y ∧ y ≤ 9223372036854775807 ∧ wr = wc)
              case first =>
                by_cases hneg : g1 < 0
                · have hz1 : 0 ≤ -(g1 + 1) := by omega
                  have hz2 : -(g1 + 1) ≤ 9223372036854775807 := by omega
                  go_wp2_with fail
                  go_meet
                  exact ⟨_, rfl, by omega, by omega, rfl⟩
                · go_wp2_with fail
                  go_meet
                  exact ⟨g1, rfl, by omega, by omega, rfl⟩
              case rest =>
                as_aux_lemma =>
                  obtain ⟨y1, rfl, hy1, hy2, rfl⟩ := hcut
                  have hc2 := HC2.out
                  go_upto_if 50 with (fail)
                  clear hc2
                  go_cut [9] (fun v9 wc => ∃ y : Int, v9 = .int .i64 y ∧ 0 ≤ y ∧ y ≤ 9223372036854775807 ∧ wr = wc)
                  case first =>
                    by_cases hneg : g2 < 0
                    · have hz1 : 0 ≤ -(g2 + 1) := by omega
                      have hz2 : -(g2 + 1) ≤ 9223372036854775807 := by omega
                      go_wp2_with fail
                      go_meet
                      exact ⟨_, rfl, by omega, by omega, rfl⟩
                    · go_wp2_with fail
                      go_meet
                      exact ⟨g2, rfl, by omega, by omega, rfl⟩
                  case rest =>
                    as_aux_lemma =>
                      obtain ⟨y2, rfl, hy3, hy4, rfl⟩ := hcut
                      clear ht1 ht2 hq1 hq2 hq3 hq4 hb1 hb2
                      go_upto_region 17 with (fail)
                      have HT1 : Hid (0 ≤ y1 % 3 ∧ y1 % 3 < 3) := Lib.hid (by omega)
                      have HT2 : Hid (1 ≤ 1 + y1 / 3 % 9 ∧ 1 + y1 / 3 % 9 ≤ 9) := Lib.hid (by omega)
                      obtain ⟨tb, htb⟩ : ∃ t, y1 % 3 = t := ⟨_, rfl⟩
                      obtain ⟨ky, hky⟩ : ∃ t, 1 + y1 / 3 % 9 = t := ⟨_, rfl⟩
                      rw [htb] at HT1 ⊢
                      rw [hky] at HT2 ⊢
                      clear htb hky
                      have HBX := Lib.hid (BoxL.new wr (chC ⟨tb, ky, false, 0, 0, 0, false, 0, 0, 0⟩) 65)
                      have HKX := Lib.hid (keep_cells wr (chC ⟨tb, ky, false, 0, 0, 0, false, 0, 0, 0⟩).toArray 65)
                      have e1 : wr.alloc (.cells #[.int .i64 tb, .int .i64 ky, .bool false, .int .i64 0, .int .i64 0, .int .i64 0, .bool false, .int .i64 0, .int .i64 0, .int .i64 0] 65) = wr.alloc (.cells (chC ⟨tb, ky, false, 0, 0, 0, false, 0, 0, 0⟩).toArray 65) := rfl
                      rw [e1]
                      clear e1
                      have HGT := Lib.hid (get04_any z vst ls L.length tb ky _ (HST.out.kept (HKW2.out.trans HKX.out)))
                      have HRF : Hid (∀ r, getR ls tb ky = some r → r.fine) := Lib.hid (fun r hr => HFINE.out r (HPM.out.mem_iff.1 (getR_some hr).1))
                      generalize wr.alloc (.cells (chC ⟨tb, ky, false, 0, 0, 0, false, 0, 0, 0⟩).toArray 65) = WX at *
                      obtain ⟨zc, hzc⟩ : ∃ z, wr.heap.size = z := ⟨_, rfl⟩
                      have HZC := Lib.hid hzc
                      rw [hzc] at HBX ⊢
                      clear hzc
                      obtain ⟨r, th, hrt, hrf⟩ : ∃ (r : R5) (th : Bool), lookV (getR ls tb ky) = .tuple #[rowV r, .bool th] ∧ r.fine := by
                        cases e : getR ls tb ky with
                        | none => exact ⟨⟨0, 0, 0, 0, 0⟩, false, rfl, by unfold R5.fine I64; simp only []; omega⟩
                        | some r => exact ⟨r, true, rfl, HRF.out r e⟩
                      rw [hrt] at HGT
                      have HRFI := Lib.hid hrf
                      clear hrt hrf HRF
                      obtain ⟨r0, r1, o0, o1, o2⟩ := r
                      obtain ⟨c0, c1, -, -, -, -, -, -, -, -⟩ := HBX.out.chg
                      simp only [] at c0 c1
                      go_wp2_with fail
                      clear c0 c1
                      with_reducible refine HGT.out.mono ?_
                      rintro e W6 ⟨rfl, k6⟩
                      have kb := keep_cells W6 (rowC ⟨r0, r1, o0, o1, o2⟩).toArray 67
                      have HR7 := Lib.hid (BoxL.new W6 (rowC ⟨r0, r1, o0, o1, o2⟩) 67)
                      have HB7 := Lib.hid ((HBX.out.kept k6).kept kb)
                      have HK7 := Lib.hid ((HKX.out.trans k6).trans kb)
                      have HZR : Hid (zc < W6.heap.size) := Lib.hid (HBX.out.kept k6).lt
                      clear k6 kb HBX HKX HGT
                      go_upto_region 18 with (fail)
                      have e1 : W6.alloc (.cells #[.int .i64 r0, .int .i64 r1, .int .i64 o0, .int .i64 o1, .int .i64 o2] 67) = W6.alloc (.cells (rowC ⟨r0, r1, o0, o1, o2⟩).toArray 67) := rfl
                      rw [e1]
                      clear e1
                      generalize W6.alloc (.cells (rowC ⟨r0, r1, o0, o1, o2⟩).toArray 67) = W7 at *
                      generalize W6.heap.size = zx at *
                      obtain ⟨-, -, c2, -, -, -, -, -, -, -⟩ := HB7.out.chg
                      simp only [] at c2
                      have fr := HB7.out.soft
                      go_upto_region 19 with (fail)
                      clear c2 fr
                      have HB8 : Hid (BoxL (W7.setCell ⟨zc, 2, none⟩ (.bool th)) zc (chC ⟨tb, ky, th, 0, 0, 0, false, 0, 0, 0⟩)) := Lib.hid (HB7.out.set 2 (by simp) _)
                      have HR8 : Hid (BoxL (W7.setCell ⟨zc, 2, none⟩ (.bool th)) zx (rowC ⟨r0, r1, o0, o1, o2⟩)) := Lib.hid (HR7.out.keep (A := fun i => i = zc) ((Keep.refl (fun i => i = zc) W7).setCell (p := ⟨zc, 2, none⟩) _ (.inl rfl)) (by have := HZR.out; show ¬ zx = zc; omega))
                      have HK8 : Hid (Keep (fun _ => False) wr (W7.setCell ⟨zc, 2, none⟩ (.bool th))) := Lib.hid (HK7.out.setCell (p := ⟨zc, 2, none⟩) _ (.inr (by have := HZC.out; show wr.heap.size ≤ zc; omega)))
                      generalize W7.setCell ⟨zc, 2, none⟩ (.bool th) = W8 at *
                      obtain ⟨-, -, v2, v3, v4⟩ := HR8.out.row
                      simp only [] at v2 v3 v4
                      obtain ⟨-, -, -, c3, c4, c5, -, -, -, -⟩ := HB8.out.chg
                      simp only [] at c3 c4 c5
                      have fr := HB8.out.soft
                      go_upto_region 20 with (fail)
                      clear v2 v3 v4 c3 c4 c5 fr
                      have HB9 : Hid (BoxL (((W8.setCell ⟨zc, 3, none⟩ (.int .i64 o0)).setCell ⟨zc, 4, none⟩ (.int .i64 o1)).setCell ⟨zc, 5, none⟩ (.int .i64 o2)) zc (chC ⟨tb, ky, th, o0, o1, o2, false, 0, 0, 0⟩)) := Lib.hid (((HB8.out.set 3 (by simp) _).set 4 (by simp) _).set 5 (by simp) _)
                      have HK9 : Hid (Keep (fun _ => False) wr (((W8.setCell ⟨zc, 3, none⟩ (.int .i64 o0)).setCell ⟨zc, 4, none⟩ (.int .i64 o1)).setCell ⟨zc, 5, none⟩ (.int .i64 o2))) := Lib.hid (((HK8.out.setCell (p := ⟨zc, 3, none⟩) _ (.inr (by have := HZC.out; show wr.heap.size ≤ zc; omega))).setCell (p := ⟨zc, 4, none⟩) _ (.inr (by have := HZC.out; show wr.heap.size ≤ zc; omega))).setCell (p := ⟨zc, 5, none⟩) _ (.inr (by have := HZC.out; show wr.heap.size ≤ zc; omega)))
                      generalize (((W8.setCell ⟨zc, 3, none⟩ (.int .i64 o0)).setCell ⟨zc, 4, none⟩ (.int .i64 o1)).setCell ⟨zc, 5, none⟩ (.int .i64 o2)) = W9 at *
                      go_cut [] (fun wc => ∃ has : Bool, BoxL wc zc (chC ⟨tb, ky, th, o0, o1, o2, has, 0, 0, 0⟩) ∧ Keep (fun _ => False) wr wc)
                      case first =>
                        obtain ⟨-, -, -, -, -, -, c6, -, -, -⟩ := HB9.out.chg
                        simp only [] at c6
                        have fr := HB9.out.soft
                        cases th with
                        | false =>
                          go_wp2_with fail
                          go_meet
                          exact ⟨true, HB9.out.set 6 (by simp) _, HK9.out.setCell (p := ⟨zc, 6, none⟩) _ (.inr (by have := HZC.out; show wr.heap.size ≤ zc; omega))⟩
                        | true =>
                          go_wp2_with fail
                          go_meet
                          exact ⟨decide (0 < y2 % 4), HB9.out.set 6 (by simp) _, HK9.out.setCell (p := ⟨zc, 6, none⟩) _ (.inr (by have := HZC.out; show wr.heap.size ≤ zc; omega))⟩
                      case rest =>
                        as_aux_lemma =>
                          obtain ⟨has, hbw, hkwc⟩ := hcut
                          have HBW := Lib.hid hbw
                          have HKWC := Lib.hid hkwc
                          clear hbw hkwc HB9 HK9
                          generalize wc = WC at *
                          obtain ⟨-, -, -, -, -, -, c6, c7, c8, c9⟩ := HBW.out.chg
                          simp only [] at c6 c7 c8 c9
                          go_upto_if 84 with (fail)
                          go_cut [] (fun wd => ∃ n0 n1 n2 : Int, BoxL wd zc (chC ⟨tb, ky, th, o0, o1, o2, has, n0, n1, n2⟩) ∧ (I64 n0 ∧ I64 n1 ∧ I64 n2) ∧ Keep (fun _ => False) wr wd)
                          case first =>
                            cases has with
                            | false =>
                              go_wp2_with fail
                              go_meet
                              exact ⟨0, 0, 0, HBW.out, by unfold I64; omega, HKWC.out⟩
                            | true =>
                              have fr := HBW.out.soft
                              go_wp2_with fail
                              go_meet
                              exact ⟨y2 / 4 % 10, 1 + y2 / 40 % 9, y2 / 400 % 40 - 20, ((HBW.out.set 7 (by simp) _).set 8 (by simp) _).set 9 (by simp) _, by unfold I64; omega, ((HKWC.out.setCell (p := ⟨zc, 7, none⟩) _ (.inr (by have := HZC.out; show wr.heap.size ≤ zc; omega))).setCell (p := ⟨zc, 8, none⟩) _ (.inr (by have := HZC.out; show wr.heap.size ≤ zc; omega))).setCell (p := ⟨zc, 9, none⟩) _ (.inr (by have := HZC.out; show wr.heap.size ≤ zc; omega))⟩
                          case rest =>
                            as_aux_lemma =>
                              obtain ⟨n0, n1, n2, hbd, hnb, hkwd⟩ := hcut
                              have HBD2 := Lib.hid hbd
                              have HKD := Lib.hid hkwd
                              have HFC : Hid (Chg.fine ⟨tb, ky, th, o0, o1, o2, has, n0, n1, n2⟩) := Lib.hid (by
                                have h1 := HT1.out
                                have h2 := HT2.out
                                have h3 := HRFI.out
                                unfold R5.fine at h3
                                unfold Chg.fine R5.fine Chg.old Chg.new
                                simp only [] at h3 ⊢
                                have h4 : I64 tb := by unfold I64; omega
                                have h5 : I64 ky := by unfold I64; omega
                                exact ⟨⟨h4, h5, h3.2.2⟩, h4, h5, hnb⟩)
                              clear hbd hnb hkwd HBW HKWC c6 c7 c8 c9
                              generalize wc = WD at *
                              have HCHD := Lib.hid (HCHC.out.kept HKD.out)
                              obtain ⟨la, lc, hvl, hlc⟩ := HCHC.out.form
                              obtain ⟨mc, hmc⟩ : ∃ m, cs.length = m := ⟨_, rfl⟩
                              have HMC := Lib.hid hmc
                              rw [hmc] at hvl hlc
                              subst hvl
                              clear hmc
                              have hmcb : mc ≤ 3 := by have := HMC.out; omega
                              go_wp2_with fail
                              go_loopg [13, 14] mc (fun gh v13 v14 wr2 => ∃ (j : Nat) (b : Bool), gh + j = mc ∧ v14 = .int .i64 j ∧ v13 = .bool b ∧ Keep (fun _ => False) WD wr2)
                              case atStart => exact ⟨0, false, by omega, rfl, rfl, Keep.refl _ _⟩
                              case round =>
                                as_aux_lemma =>
                                  obtain ⟨j, b, hj, rfl, rfl, hkw5⟩ := hrel
                                  have HK5 := Lib.hid hkw5
                                  clear hkw5
                                  by_cases hjm : j < mc
                                  · obtain ⟨x, hx⟩ : ∃ x, cs[j]? = some x := ⟨_, List.getElem?_eq_getElem (by have := HMC.out; omega)⟩
                                    have hjz : (j : Int) < (mc : Int) := by omega
                                    have hj0 : (0 : Int) ≤ (j : Int) := by omega
                                    cases b with
                                    | true =>
                                      go_wp2_with fail
                                      go_quiet (fail)
                                      go_wp2_with fail
                                      go_roundg (gk - 1)
                                      case rel => exact ⟨j + 1, true, by omega, by go_num, rfl, keep_drewN' HK5.out nq⟩
                                      case measure => omega
                                    | false =>
                                      obtain ⟨bl, offl, hab, hcell⟩ := (HCHD.out.kept HK5.out).at_ hx
                                      subst hab
                                      obtain ⟨x0, x1, xd, xo0, xo1, xo2, xs, xn0, xn1, xn2⟩ := x
                                      have d0 := hcell 0 _ rfl
                                      have d1 := hcell 1 _ rfl
                                      rw [Nat.add_zero] at d0
                                      simp only [] at d0 d1
                                      obtain ⟨c0, c1, -, -, -, -, -, -, -, -⟩ := (HBD2.out.kept HK5.out).chg
                                      simp only [] at c0 c1
                                      clear hcell hx
                                      by_cases h1 : x0 = tb
                                      · have hb1 : (x0 == tb) = true := by simpa using h1
                                        clear h1
                                        go_wp2_with fail
                                        go_quiet (fail)
                                        go_wp2_with fail
                                        go_roundg (gk - 1)
                                        case rel => exact ⟨j + 1, (x1 == ky), by omega, by go_num, rfl, keep_drewN' HK5.out nq⟩
                                        case measure => omega
                                      · have hb1 : (x0 == tb) = false := by simpa using h1
                                        clear h1
                                        go_wp2_with fail
                                        go_quiet (fail)
                                        go_wp2_with fail
                                        go_roundg (gk - 1)
                                        case rel => exact ⟨j + 1, false, by omega, by go_num, rfl, keep_drewN' HK5.out nq⟩
                                        case measure => omega
                                  · have hjz : ¬ (j : Int) < (mc : Int) := by omega
                                    generalize wr = WB at *
                                    go_upto_region 28 with (fail)
                                    go_cut [149] (fun v149 wc => ∃ b2 : Bool, v149 = .bool b2 ∧ WB = wc)
                                    case first =>
                                      as_aux_lemma =>
                                        obtain ⟨-, -, c2, c3, c4, c5, c6, c7, c8, c9⟩ := (HBD2.out.kept HK5.out).chg
                                        simp only [] at c2 c3 c4 c5 c6 c7 c8 c9
                                        have heq := fun w => eql_v3 o0 o1 o2 n0 n1 n2 w
                                        have hm := guardV
                                        generalize (o0 == n0 && (o1 == n1 && o2 == n2)) = q at *
                                        cases b with
                                        | true =>
                                          go_wp2_with fail
                                          go_meet
                                          exact ⟨_, rfl, rfl⟩
                                        | false =>
                                          cases th with
                                          | false =>
                                            by_cases hk00 : k = 0
                                            · subst hk00
                                              go_wp2_with fail
                                              go_meet
                                              exact ⟨_, rfl, rfl⟩
                                            · have hkp : (0 : Int) < (k : Int) := by omega
                                              go_wp2_with fail
                                              go_meet
                                              exact ⟨_, rfl, rfl⟩
                                          | true =>
                                            cases has with
                                            | false =>
                                              by_cases hk00 : k = 0
                                              · subst hk00
                                                go_wp2_with fail
                                                go_meet
                                                exact ⟨_, rfl, rfl⟩
                                              · have hkp : (0 : Int) < (k : Int) := by omega
                                                go_wp2_with fail
                                                go_meet
                                                exact ⟨_, rfl, rfl⟩
                                            | true =>
                                              cases q with
                                              | true =>
                                                go_wp2_with fail
                                                go_meet
                                                exact ⟨_, rfl, rfl⟩
                                              | false =>
                                                by_cases hk00 : k = 0
                                                · subst hk00
                                                  go_wp2_with fail
                                                  go_meet
                                                  exact ⟨_, rfl, rfl⟩
                                                · have hkp : (0 : Int) < (k : Int) := by omega
                                                  go_wp2_with fail
                                                  go_meet
                                                  exact ⟨_, rfl, rfl⟩
                                    case rest =>
                                      as_aux_lemma =>
                                        obtain ⟨b2, rfl, rfl⟩ := hcut
                                        cases b2 with
                                        | true =>
                                          go_wp2_with fail
                                          go_roundg (2 - k)
                                          case rel => exact ⟨k + 1, _, cs, by omega, by go_num, rfl, HCHD.out.kept HK5.out, by have := HMC.out; omega, HCF.out, (fun b hb => ⟨(HVB.out b hb).1, by have h1 := (HVB.out b hb).2; have h2 := HKD.out.size; have h3 := HK5.out.size; omega⟩), HKW2.out.trans (HKD.out.trans HK5.out)⟩
                                          case measure => omega
                                        | false =>
                                          go_wp2_with fail
                                          go_loopg [15] mc (fun gh v15 wr2 => ∃ j : Nat, gh = j ∧ v15 = .int .i64 j ∧ j ≤ mc ∧ Keep (fun _ => False) WB wr2)
                                          case atStart => exact ⟨mc, rfl, rfl, Nat.le_refl _, Keep.refl _ _⟩
                                          case round =>
                                            as_aux_lemma =>
                                              obtain ⟨j2, rfl, rfl, hj2, hkw6⟩ := hrel
                                              have HK6 := Lib.hid hkw6
                                              have HCH6 := Lib.hid ((HCHD.out.kept HK5.out).kept hkw6)
                                              have HBX6 := Lib.hid ((HBD2.out.kept HK5.out).kept hkw6)
                                              clear hkw6
                                              go_upto_region 30 with (fail)
                                              go_cut [186] (fun v186 wc => ∃ b3 : Bool, v186 = .bool b3 ∧ Hid (b3 = true → 0 < gk) ∧ Keep (fun _ => False) wr wc)
                                              case first =>
                                                as_aux_lemma =>
                                                  -- DEV
                                                  rcases Nat.eq_zero_or_pos gk with h0 | h0
                                                  · subst h0
                                                    go_quiet (fail)
                                                    go_wp2_with fail
                                                    go_meet
                                                    exact ⟨false, rfl, Lib.hid (fun h => by cases h), keep_drewN' (Keep.refl _ _) nq⟩
                                                  · obtain ⟨j3, rfl⟩ : ∃ j, gk = j + 1 := ⟨gk - 1, by omega⟩
                                                    obtain ⟨x, hx⟩ : ∃ x, cs[j3]? = some x := ⟨_, List.getElem?_eq_getElem (by have := HMC.out; omega)⟩
                                                    obtain ⟨bl, offl, hab, hcell⟩ := HCH6.out.at_ hx
                                                    subst hab
                                                    obtain ⟨x0, x1, xd, xo0, xo1, xo2, xs, xn0, xn1, xn2⟩ := x
                                                    have d0 := hcell 0 _ rfl
                                                    have d1 := hcell 1 _ rfl
                                                    rw [Nat.add_zero] at d0
                                                    simp only [] at d0 d1
                                                    obtain ⟨c0, c1, -, -, -, -, -, -, -, -⟩ := HBX6.out.chg
                                                    simp only [] at c0 c1
                                                    have hcast : ((j3 + 1 : Nat) : Int) = (j3 : Int) + 1 := by omega
                                                    rw [hcast]
                                                    have hm1 : IntKind.i64.wrap ((j3 : Int) + 1 - 1) = (j3 : Int) := by rw [IntKind.wrap_i64]; omega
                                                    have hm2 : (j3 : Int) + 1 - 1 = (j3 : Int) := by omega
                                                    have hmz : (j3 : Int) < (mc : Int) := by omega
                                                    have hm0 : (0 : Int) ≤ (j3 : Int) := by omega
                                                    have hmp : (0 : Int) < (j3 : Int) + 1 := by omega
                                                    clear hcell hx hcast
                                                    by_cases h1 : tb < x0
                                                    · go_quiet (fail)
                                                      go_wp2_with fail
                                                      go_meet
                                                      exact ⟨_, rfl, Lib.hid (fun _ => by omega), keep_drewN' (Keep.refl _ _) nq⟩
                                                    · by_cases h2 : x0 = tb
                                                      · have hb1 : (x0 == tb) = true := by simpa using h2
                                                        clear h2
                                                        go_quiet (fail)
                                                        go_wp2_with fail
                                                        go_meet
                                                        exact ⟨_, rfl, Lib.hid (fun _ => by omega), keep_drewN' (Keep.refl _ _) nq⟩
                                                      · have hb1 : (x0 == tb) = false := by simpa using h2
                                                        clear h2
                                                        go_quiet (fail)
                                                        go_wp2_with fail
                                                        go_meet
                                                        exact ⟨_, rfl, Lib.hid (fun _ => by omega), keep_drewN' (Keep.refl _ _) nq⟩
                                              case rest =>
                                                as_aux_lemma =>
                                                  obtain ⟨b3, rfl, HB3, hkw7⟩ := hcut
                                                  have HK7 := Lib.hid hkw7
                                                  clear hkw7
                                                  cases b3 with
                                                  | true =>
                                                    obtain ⟨j3, hj3⟩ : ∃ j, gk = j + 1 := ⟨gk - 1, by have := HB3.out rfl; omega⟩
                                                    have hj1 : (1 : Int) ≤ (gk : Int) := by omega
                                                    go_wp2_with fail
                                                    go_roundg (gk - 1)
                                                    case rel => exact ⟨gk - 1, rfl, congrArg (Value.int IntKind.i64) (by omega), by omega, HK6.out.trans HK7.out⟩
                                                    case measure => omega
                                                  | false =>
                                                    go_upto_region 32 with (fail)
                                                    have HCW := Lib.hid (HCH6.out.kept HK7.out)
                                                    have HBXW := Lib.hid (HBX6.out.kept HK7.out)
                                                    have HKALL : Hid (Keep (fun _ => False) WI wc) := Lib.hid (HKW2.out.trans (HKD.out.trans (HK5.out.trans (HK6.out.trans HK7.out))))
                                                    generalize wc = WY at *
                                                    generalize hvl : Value.slice la mc lc = vl at *
                                                    have HVL := Lib.hid hvl
                                                    clear hvl
                                                    obtain ⟨v1, hr1, hch1, hfull1, hob1⟩ := chc_hi HCW.out gk (by have := HMC.out; omega)
                                                    obtain ⟨v2, hr2, hch2, hob2⟩ := chc_lo HCW.out gk (by have := HMC.out; omega)
                                                    have HCH1 := Lib.hid hch1
                                                    have HFU1 := Lib.hid hfull1
                                                    have HCH2 := Lib.hid hch2
                                                    clear hch1 hfull1 hch2
                                                    have a0 : ∀ x : KA (fun _ => False) WY, x.val.cell? ⟨zc, 0, none⟩ = some (.int .i64 tb) := fun x => (HBXW.out.kept x.k).cell 0 _ rfl
                                                    have a1 : ∀ x : KA (fun _ => False) WY, x.val.cell? ⟨zc, 1, none⟩ = some (.int .i64 ky) := fun x => (HBXW.out.kept x.k).cell 1 _ rfl
                                                    have a2 : ∀ x : KA (fun _ => False) WY, x.val.cell? ⟨zc, 2, none⟩ = some (.bool th) := fun x => (HBXW.out.kept x.k).cell 2 _ rfl
                                                    have a3 : ∀ x : KA (fun _ => False) WY, x.val.cell? ⟨zc, 3, none⟩ = some (.int .i64 o0) := fun x => (HBXW.out.kept x.k).cell 3 _ rfl
                                                    have a4 : ∀ x : KA (fun _ => False) WY, x.val.cell? ⟨zc, 4, none⟩ = some (.int .i64 o1) := fun x => (HBXW.out.kept x.k).cell 4 _ rfl
                                                    have a5 : ∀ x : KA (fun _ => False) WY, x.val.cell? ⟨zc, 5, none⟩ = some (.int .i64 o2) := fun x => (HBXW.out.kept x.k).cell 5 _ rfl
                                                    have a6 : ∀ x : KA (fun _ => False) WY, x.val.cell? ⟨zc, 6, none⟩ = some (.bool has) := fun x => (HBXW.out.kept x.k).cell 6 _ rfl
                                                    have a7 : ∀ x : KA (fun _ => False) WY, x.val.cell? ⟨zc, 7, none⟩ = some (.int .i64 n0) := fun x => (HBXW.out.kept x.k).cell 7 _ rfl
                                                    have a8 : ∀ x : KA (fun _ => False) WY, x.val.cell? ⟨zc, 8, none⟩ = some (.int .i64 n1) := fun x => (HBXW.out.kept x.k).cell 8 _ rfl
                                                    have a9 : ∀ x : KA (fun _ => False) WY, x.val.cell? ⟨zc, 9, none⟩ = some (.int .i64 n2) := fun x => (HBXW.out.kept x.k).cell 9 _ rfl
                                                    refine wp_region_walk [(true, 0), (true, 1), (true, 2), (true, 3), (true, 4), (true, 6), (true, 7), (true, 8), (false, 5), (false, 9), (false, 10), (false, 11)] (inKA (fun _ => False) WY) (by decide +kernel) (by decide +kernel) ?_
                                                    iterate 8 (refine walkW_read rfl (fun K hK => ?_); go_simp; refine hK _ ?_; clear hK K)
                                                    clear a0 a1 a2 a3 a4 a5 a6 a7 a8 a9 hr1 hr2
                                                    have HKA0 := Lib.hid ((Keep.refl (fun _ => False) WY).drew.trans (keep_cells WY.drew (chC ⟨tb, ky, th, o0, o1, o2, has, n0, n1, n2⟩).toArray 65))
                                                    have HKD1 : Hid (Keep (fun _ => False) WY WY.drew) := Lib.hid (Keep.refl _ WY).drew
                                                    have HSD : Hid (WY.drew.heap.size = WY.heap.size) := Lib.hid rfl
                                                    generalize WY.drew = WD2 at *
                                                    have HLIT := Lib.hid (lit_chg WD2 ⟨tb, ky, th, o0, o1, o2, has, n0, n1, n2⟩)
                                                    refine walkW_do rfl (inKA.of HKD1.out) (fun K hK => ?_)
                                                    rw [if_pos (by simp [Region.wanted])]
                                                    refine wp_build1 rfl rfl (run_build_chg WD2 ⟨tb, ky, th, o0, o1, o2, has, n0, n1, n2⟩) (hK _ _ ?_)
                                                    clear hK K
                                                    obtain ⟨zn, hzn⟩ : ∃ z, WD2.heap.size = z := ⟨_, rfl⟩
                                                    have HZN : Hid (WY.heap.size = zn) := Lib.hid (by rw [← hzn, HSD.out])
                                                    have HKA := Lib.hid HKA0.out
                                                    rw [hzn] at HLIT ⊢
                                                    generalize WD2.alloc (.cells (chC ⟨tb, ky, th, o0, o1, o2, has, n0, n1, n2⟩).toArray 65) = WA at *
                                                    clear hzn
                                                    obtain ⟨w1, X1, ra1, ro1, rk1⟩ := app_chgs WA 61 zn (.slice (some ⟨zn, 0, none⟩) 1 1) v2 [⟨tb, ky, th, o0, o1, o2, has, n0, n1, n2⟩] (cs.drop gk) HLIT.out (HCH2.out.kept HKA.out) (by have := HMC.out; rw [List.length_drop, List.length_singleton]; omega) (by have := HKA.out.size; have := HZN.out; omega)
                                                    have HX1 : Hid (Keep (fun _ => False) WY X1) := Lib.hid (HKA.out.trans' rk1 (fun i hi => .inr (by have h1 : some zn = some i := hi; cases h1; have := HZN.out; omega)))
                                                    obtain ⟨w2, X2, ra2, ro2, rk2⟩ := app_full X1 61 v1 w1 (cs.take gk) ([⟨tb, ky, th, o0, o1, o2, has, n0, n1, n2⟩] ++ cs.drop gk) (HCH1.out.kept HX1.out) HFU1.out (chc_own ro1).1 (by simp) (by have := HMC.out; simp only [List.length_append, List.length_take, List.length_drop, List.length_cons, List.length_nil]; omega)
                                                    have HX2 : Hid (Keep (fun _ => False) WY X2) := Lib.hid (HX1.out.trans rk2)
                                                    have HOW2 := Lib.hid (chc_own ro2)
                                                    have HB2 := Lib.hid (fun b hb => (ro2.lt b hb).2)
                                                    have HRA1 := Lib.hid ra1
                                                    have HRA2 := Lib.hid ra2
                                                    have HSZ : Hid (WY.heap.size ≤ X1.heap.size) := Lib.hid HX1.out.size
                                                    clear ra1 ra2 ro1 ro2 rk1 rk2
                                                    refine walkW_do rfl (inKA.of HKA.out) (fun K hK => ?_)
                                                    rw [if_pos (by simp [Region.wanted])]
                                                    refine wp_app (.tmp 194) (.tmp 197) 61 rfl rfl rfl HRA1.out (hK _ _ ?_); clear hK K
                                                    refine walkW_do rfl (inKA.of HX1.out) (fun K hK => ?_)
                                                    rw [if_pos (by simp [Region.wanted])]
                                                    refine wp_app (.tmp 192) (.tmp 198) 61 rfl rfl rfl HRA2.out (hK _ _ ?_); clear hK K
                                                    refine walkW_do rfl (inKA.of HX2.out) (fun K hK => ?_)
                                                    go_simp
                                                    refine hK _ _ ?_; clear hK K
                                                    refine ⟨inKA.of HX2.out, ?_⟩
                                                    go_wp2_with fail
                                                    go_roundg (2 - k)
                                                    case rel =>
                                                      refine ⟨k + 1, _, cs.take gk ++ ([⟨tb, ky, th, o0, o1, o2, has, n0, n1, n2⟩] ++ cs.drop gk), by omega, by go_num, rfl, HOW2.out.1, ?_, ?_, ?_, HKALL.out.trans HX2.out⟩
                                                      · have := HMC.out
                                                        simp only [List.length_append, List.length_take, List.length_drop, List.length_cons, List.length_nil]
                                                        omega
                                                      · intro c hc
                                                        rcases List.mem_append.1 hc with hc | hc
                                                        · exact HCF.out c (List.mem_of_mem_take hc)
                                                        · rcases List.mem_append.1 hc with hc | hc
                                                          · rw [List.mem_singleton] at hc
                                                            subst hc
                                                            exact HFC.out
                                                          · exact HCF.out c (List.mem_of_mem_drop hc)
                                                      · intro b hb
                                                        have h1 := HOW2.out.2 b hb
                                                        have h2 := HB2.out b hb
                                                        have h3 := HKALL.out.size
                                                        have h4 := HSZ.out
                                                        omega
                                                    case measure => omega
            · have hk3z : ¬ (k : Int) < 3 := by omega
              obtain ⟨la, lc, hvl, hlc⟩ := HCHC.out.form
              obtain ⟨mc, hmc⟩ : ∃ m, cs.length = m := ⟨_, rfl⟩
              have HMC := Lib.hid hmc
              rw [hmc] at hvl hlc
              subst hvl
              clear hmc
              have HSTW := Lib.hid (HST.out.kept HKW2.out)
              have HKWW := Lib.hid (HKW.out.trans HKW2.out)
              have p0 := HSTW.out.box.cell 0 _ rfl
              have p1 := HSTW.out.box.cell 1 _ rfl
              have hLb : L.length ≤ 1000 := by omega
              have HLB := Lib.hid hLb
              have HLS : Hid (ls.length ≤ 100000) := Lib.hid (by
                have h1 := rowsOf_len (L := L) (fun r hr => (HLOG.out.len8 r hr).2)
                have h2 := HPM.out.length_eq
                omega)
              have HCS := Lib.hid (HCHC.out.chs (by omega) HCF.out)
              have HVZ : Hid (∀ b, (Value.slice la mc lc).ownBlock = some b → b ≠ z) := Lib.hid (fun b hb e => by
                have h1 := (HVB.out b hb).1
                have h2 := HST.out.box.lt
                omega)
              have HFP : Hid (fitsB ls (L.length : Int) ((L.length : Int) + 1) cs = fitsB (rowsOf L) (L.length : Int) ((L.length : Int) + 1) cs) := Lib.hid (fitsB_perm HPM.out HST.out.asc.nodup _ _ _)
              have HLR := Lib.hid (fun (W : World) (h : Keep (fun _ => False) wr W) => apply04_any z vst (.slice la mc lc) ls L.length ((L.length : Int) + 1) cs W (HSTW.out.kept h) (HCS.out.kept h) (by omega) HLS.out HVZ.out)
              go_upto_region 34 with (fail)
              clear p0 p1
              have kb := keep_cells wr #[.int .i64 ((L.length : Int) + 1), .slice la mc lc] 73
              have HX := Lib.hid (BoxL.new wr [.int .i64 ((L.length : Int) + 1), .slice la mc lc] 73)
              have HKB := Lib.hid kb
              have HXLT : Hid (WI.heap.size ≤ wr.heap.size) := Lib.hid HKW2.out.size
              generalize wr.alloc (.cells #[.int .i64 ((L.length : Int) + 1), .slice la mc lc] 73) = W5 at *
              obtain ⟨zx, hzx⟩ : ∃ z, wr.heap.size = z := ⟨_, rfl⟩
              rw [hzx] at HX HXLT ⊢
              have HZX2 := Lib.hid hzx
              clear hzx kb
              have d0 := HX.out.cell 0 _ rfl
              have d1 := HX.out.cell 1 _ rfl
              go_wp2_with fail
              clear d0 d1
              with_reducible refine (HLR.out W5 HKB.out).mono ?_
              rintro e W6 ⟨v', l', p', rfl, hs6, hp6, hpp, k6, hv6⟩
              rw [HFP.out] at hp6 hpp ⊢
              have HS6 := Lib.hid hs6
              have HP6 := Lib.hid hp6
              have HPP := Lib.hid hpp
              have HK6 := Lib.hid k6
              have HV6 := Lib.hid hv6
              clear hs6 hp6 hpp k6 hv6
              generalize hfb : fitsB (rowsOf L) (L.length : Int) ((L.length : Int) + 1) cs = fb at *
              have HFB := Lib.hid hfb
              clear hfb
              have HOWW := Lib.hid (HOWN.out.keep (HKW2.out.trans HKB.out) (fun _ _ h => h) (fun _ h => h.elim))
              have HZLT : Hid (z < W1.heap.size) := Lib.hid HZ1.out.2
              have HOW6 := Lib.hid (HOWW.out.keep HK6.out (fun b hb e => by
                have h1 : b = z := e
                have h2 := (HOWW.out.own.lt b hb).1
                have h3 := HZLT.out
                omega) (fun b e => by
                have h1 : b = z := e
                have h3 := HZLT.out
                omega))
              have HKW6 := Lib.hid ((HKWW.out.trans HKB.out).trans' HK6.out (fun j hj => .inr (by have h1 : j = z := hj; have h2 := HZ1.out.1; omega)))
              have HX6 := Lib.hid (HX.out.keep HK6.out (by
                have h1 := HST.out.box.lt
                have h2 := HXLT.out
                show ¬ zx = z
                omega))
              have HOF6 : Hid (∀ b, v'.ownBlock = some b → u3.ownBlock ≠ some b ∧ b < W6.heap.size) := Lib.hid (fun b hb => by
                have h5 := HKB.out.size
                have h6 := HK6.out.size
                have h7 := HXLT.out
                have h8 := HZX2.out
                rcases HV6.out with ⟨e, -⟩ | h
                · rw [e] at hb
                  have h1 := HOFF.out b hb
                  exact ⟨h1.1, by omega⟩
                · have h1 := h b hb
                  refine ⟨fun e => ?_, h1.2⟩
                  have h2 := (HOWN.out.own.lt b e).2
                  omega)
              have HW6 : Hid (W1.heap.size ≤ W6.heap.size) := Lib.hid (by
                have h3 := HWL.out
                have h5 := HKB.out.size
                have h6 := HK6.out.size
                have h7 := HXLT.out
                have h8 := HZX2.out
                omega)
              cases fb with
              | false =>
                have HQP : Hid (p' = (L.length : Int)) := Lib.hid (by simpa using HPP.out)
                have HQM : Hid (l'.Perm ls) := Lib.hid (by simpa using HP6.out)
                go_wp2_with fail
                go_roundg (n - i - 1)
                case rel => exact ⟨i + 1, L, vs, v', l', by omega, by go_num, by omega, HLOG.out, HOW6.out, by rw [← HQP.out]; exact HS6.out, HQM.out.trans HPM.out, HOF6.out, HFINE.out, HKW6.out, HW6.out⟩
                case measure => omega
              | true =>
                have HQP : Hid (p' = (L.length : Int) + 1) := Lib.hid (by simpa using HPP.out)
                have HQM : Hid (l'.Perm (rowsOf (L ++ [⟨(L.length : Int) + 1, cs⟩]))) := Lib.hid (by
                  rw [rowsOf_snoc]
                  have h1 : l'.Perm (cs.foldl stepR ls) := by simpa using HP6.out
                  exact h1.trans (steps_perm cs HPM.out))
                have HLG2 : Hid (LogOk (L ++ [⟨(L.length : Int) + 1, cs⟩])) := Lib.hid (HLOG.out.snoc rfl HFB.out)
                have HFN2 : Hid (∀ r ∈ rowsOf (L ++ [⟨(L.length : Int) + 1, cs⟩]), r.fine) := Lib.hid (by
                  rw [rowsOf_snoc]
                  exact steps_fine HCF.out HFINE.out)
                have HCS6 := Lib.hid ((HCS.out.kept HKB.out).keep HK6.out (fun b hb e => HVZ.out b hb e))
                have HVB6 : Hid (∀ b, (Value.slice la mc lc).ownBlock = some b → W1.heap.size ≤ b ∧ b < W6.heap.size ∧ u3.ownBlock ≠ some b) := Lib.hid (fun b hb => by
                  have h1 := HVB.out b hb
                  have h5 := HKB.out.size
                  have h6 := HK6.out.size
                  have h8 := HZX2.out
                  refine ⟨?_, by omega, fun e => ?_⟩
                  · have h3 := HWL.out
                    omega
                  · have h2 := (HOWN.out.own.lt b e).2
                    omega)
                obtain ⟨v3, w7, r1, r2, r3, r4⟩ := HOW6.out.snoc HW6.out ((L.length : Int) + 1) cs (.slice la mc lc) HCS6.out HVB6.out rfl (by omega)
                have HR2 := Lib.hid r2
                have HR3 := Lib.hid r3
                have HR4 := Lib.hid r4
                clear r2 r3 r4
                have d0 := HX6.out.cell 0 _ rfl
                have d1 := HX6.out.cell 1 _ rfl
                go_wp2_with (at_builtin; refine wpList_app rfl (.tmp 212) (.tmp 214) 26 rfl rfl rfl r1 ?_)
                clear r1 d0 d1
                go_roundg (n - i - 1)
                case rel =>
                  refine ⟨i + 1, L ++ [⟨(L.length : Int) + 1, cs⟩], vs ++ [.slice la mc lc], v', l', by omega, by go_num, by rw [List.length_append]; simp; omega, HLG2.out, HR2.out, ?_, HQM.out, fun b hb => ?_, HFN2.out, HKW6.out.trans' HR3.out (fun j hj => .inr (by have h1 := (HOWN.out.own.lt j hj).1; have h2 := HK1.out.size; omega)), Nat.le_trans HW6.out HR3.out.size⟩
                  · have e : ((L ++ [Rc.mk ((L.length : Int) + 1) cs]).length : Int) = (L.length : Int) + 1 := by rw [List.length_append]; simp
                    rw [e, ← HQP.out]
                    exact HS6.out.keep HR3.out (fun e => by have h1 := (HOWN.out.own.lt z e).1; have h2 := HZLT.out; omega) (fun b hb e => (HOF6.out b hb).1 e)
                  · have h1 := HOF6.out b hb
                    refine ⟨fun e => ?_, Nat.lt_of_lt_of_le h1.2 HR3.out.size⟩
                    rcases HR4.out with h | h
                    · rw [h] at e
                      exact h1.1 e
                    · rw [h] at e
                      cases e
                      omega
                case measure => omega
      · have hinz : ¬ (i : Int) < (n : Int) := by omega
        go_wp2_with fail
        go_ret
        exact ⟨_, L, rfl, HOWN.out.at (by omega), HLOG.out, by omega, HKW.out⟩
end Go.Proofs.YtcnpncndecjahaaGreatDoor
