/-
  copy within a row that the call itself made, elements of k cells.
-/
import Derived.Laws.CopyOwn
import Derived.Test.YtplkmbfeeegaiaaDoorG7
namespace Go.Proofs.YtplkmbfeeegaiaaDoor
open Go.RowKit

theorem run_copy_zero {P : Program} (w : World) (dT sT ty elem : TypeId) (k : Nat) (dp sp : Option Addr) (dLen dCap sLen sCap : Nat) (hu : P.underlying dT = some (.slice elem)) (hs : (P.info? elem).map (·.size) = some k) (hn : Nat.min sLen dLen = 0) :
    (Builtin.copy_ #[dT, sT] ty #[.slice dp dLen dCap, .slice sp sLen sCap]).run P w = .ok (goInt 0) w := by
  cases hq : P.info? elem with
  | none => simp [hq] at hs
  | some i =>
    have hl : ∀ a : Addr, (loadCells a 0).run P w = .ok #[] w := fun a => run_loadCells_list (P := P) w a [] (fun j v hj => by simp at hj)
    cases sp with
    | none =>
      cases dp <;> simp [Builtin.copy_, run_underlying hu, Builtin.lenOf, Builtin.firstCells, sizeOf, typeInfo, hq, hn, storeCells]
    | some a =>
      cases dp <;> simp [Builtin.copy_, run_underlying hu, Builtin.lenOf, Builtin.firstCells, sizeOf, typeInfo, hq, hn, storeCells, hl]
theorem run_copy_k {P : Program} (w : World) (dT sT ty elem : TypeId) (k g o dLen dCap : Nat) (a : Addr) (sLen sCap : Nat) (cur : Array Value) (t : TypeId) (cs : List Value) (m : Nat)
    (hu : P.underlying dT = some (.slice elem)) (hs : (P.info? elem).map (·.size) = some k)
    (hg : w.heap[g]? = some (.cells cur t (0, 0))) (hn : Nat.min sLen dLen = m) (hc : cs.length = m * k)
    (hsrc : ∀ j v, cs[j]? = some v → w.cell? (a.add j) = some v) (hfit : o + cs.length ≤ cur.size) (h1 : ∀ v ∈ cs, v.oneCell' = true) :
    (Builtin.copy_ #[dT, sT] ty #[.slice (some ⟨g, o, none⟩) dLen dCap, .slice (some a) sLen sCap]).run P w =
      .ok (goInt m) (w.setRow g (cur.toList.take o ++ cs ++ cur.toList.drop (o + cs.length)).toArray) := by
  have hl := run_loadCells_list (P := P) w a cs hsrc
  have hst := run_storeCells_at P g o t cs 0 cur w hg (by simpa using hfit) h1
  cases hq : P.info? elem with
  | none => simp [hq] at hs
  | some i =>
    have hi : i.size = k := by simpa [hq] using hs
    simp [Builtin.copy_, run_underlying hu, Builtin.lenOf, Builtin.firstCells, sizeOf, typeInfo, hq, hi, hn, ← hc, hl, hst]
theorem Keep.setRow (w : World) (g : Nat) (cs : Array Value) : Keep (fun j => j = g) w (w.setRow g cs) :=
  ⟨rfl, rfl, rfl, by simp [World.setRow], fun k _ hk => setRow_other w g k cs (fun e => hk e)⟩
theorem copy_within {P : Program} {W : World} {base : Nat} {e : TypeId} {k g cap n : Nat} {xs : List Value} (h : W.ownsRow base e k (.slice (some ⟨g, 0, none⟩) n cap) n xs) (h1 : ∀ u ∈ xs, u.oneCell' = true)
    (dT sT ty elem : TypeId) (hu : P.underlying dT = some (.slice elem)) (hs : (P.info? elem).map (·.size) = some k)
    (dp sp : Option Addr) (dLen dCap sLen sCap o so m : Nat) (hm : Nat.min sLen dLen = m) (hpos : 0 < m → dp = some ⟨g, o, none⟩ ∧ sp = some ⟨g, so, none⟩) (ho : o + m * k ≤ n * k) (hso : so + m * k ≤ n * k) :
    ∃ W', (Builtin.copy_ #[dT, sT] ty #[.slice dp dLen dCap, .slice sp sLen sCap]).run P W = .ok (goInt m) W' ∧ W'.ownsRow base e k (.slice (some ⟨g, 0, none⟩) n cap) n (xs.take o ++ ((xs.drop so).take (m * k) ++ xs.drop (o + m * k))) ∧ Keep (fun j => j = g) W W' := by
  have h' := h
  obtain ⟨hlen, hrow⟩ := h
  rcases hrow with ⟨e0, _⟩ | ⟨g', cap', cur, e0, hb, hg, hn, hmax, hcur, htake⟩
  · cases e0
  · cases e0
    by_cases h0 : m = 0
    · subst h0
      refine ⟨W, run_copy_zero W dT sT ty elem k dp sp dLen dCap sLen sCap hu hs hm, ?_, Keep.refl _ W⟩
      simpa using h'
    · obtain ⟨rfl, rfl⟩ := hpos (by omega)
      have hcl : ((xs.drop so).take (m * k)).length = m * k := by rw [List.length_take, List.length_drop]; omega
      have hnc : n * k ≤ cap * k := Nat.mul_le_mul_right k hn
      have hfull : cur.toList = xs ++ cur.toList.drop (n * k) := by rw [← htake, List.take_append_drop]
      refine ⟨_, run_copy_k W dT sT ty elem k g o dLen dCap ⟨g, so, none⟩ sLen sCap cur e ((xs.drop so).take (m * k)) m hu hs hg hm hcl (fun j v hj => ?_) (by rw [hcl]; omega) (fun v hv => h1 v (List.mem_of_mem_drop (List.mem_of_mem_take hv))), ?_, Keep.setRow W g _⟩
      · have hj1 : j < m * k := by have := (List.getElem?_eq_some_iff.1 hj).1; omega
        rw [List.getElem?_take_of_lt hj1, List.getElem?_drop] at hj
        rw [Addr.add_lit, h'.cellAt (so + j) (by omega)]
        exact hj
      · refine ⟨by simp only [List.length_append, List.length_take, List.length_drop]; omega, .inr ⟨g, cap, _, rfl, hb, setRow_heap W g cur _ e _ hg, hn, hmax, ?_, ?_⟩⟩
        · simp only [List.size_toArray, List.length_append, List.length_take, List.length_drop, Array.length_toList]
          omega
        · rw [hcl]
          show List.take (n * k) (cur.toList.take o ++ (xs.drop so).take (m * k) ++ cur.toList.drop (o + m * k)) = _
          generalize (xs.drop so).take (m * k) = cs at *
          generalize cur.toList.drop (n * k) = D at hfull
          have e1 : (xs ++ D).take o = xs.take o := List.take_append_of_le_length (by omega)
          have e2 : (xs ++ D).drop (o + m * k) = xs.drop (o + m * k) ++ D := List.drop_append_of_le_length (by omega)
          rw [hfull, e1, e2]
          have e : xs.take o ++ cs ++ (xs.drop (o + m * k) ++ D) = (xs.take o ++ (cs ++ xs.drop (o + m * k))) ++ D := by simp
          rw [e, List.take_append_of_le_length (by simp only [List.length_append, List.length_take, List.length_drop]; omega)]
          exact List.take_of_length_le (by simp only [List.length_append, List.length_take, List.length_drop]; omega)
end Go.Proofs.YtplkmbfeeegaiaaDoor
