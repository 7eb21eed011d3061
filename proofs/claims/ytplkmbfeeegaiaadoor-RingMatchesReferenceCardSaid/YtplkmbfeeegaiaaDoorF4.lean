/-
  A ring that came in, as the walks want it.
-/
import Derived.Test.YtplkmbfeeegaiaaDoorF3
namespace Go.Proofs.YtplkmbfeeegaiaaDoor
open Go.ChangeShapes Go.WideShapes Go.ChangeAt Go.RowKit Go.Shelf

theorem bytesMb : Tryd.prog.bytesOf 25 = 24 := by kernel_rfl
theorem mbs_open' {H : Type} {enc : TypeId × Value → H} {w : World} {base fuel : Nat} {spare : Nat → Bool} {held : Bool} {a : Option Addr} {len cap : Nat} {x : DataW H × List MemPlace} (h : DataW.trod enc Tryd.prog w base spare held fuel 22 [.slice a len cap] = some x)
    (hs : ∀ el sp, x.1 = .slice el sp → (el.length + sp.length) * Tryd.prog.bytesOf 25 ≤ reachBytes) : ∃ l, Mbs w (.slice a len cap) l ∧ l.length = len := by
  refine mbs_open h ?_
  have hl := Go.Joins.sliceLen_trod (d := x.1) (ps := x.2) Tryd.underlying22 h
  cases e : x.1 with
  | slice el sp =>
    rw [e] at hl
    have h1 := hs el sp e
    rw [bytesMb] at h1
    simp only [Go.Joins.sliceLen] at hl
    unfold reachBytes at h1
    omega
  | _ =>
    rw [e] at hl
    simp only [Go.Joins.sliceLen] at hl
    omega
set_option maxRecDepth 100000 in
theorem ring_open {H : Type} {enc : TypeId × Value → H} {w : World} {base b0 : Nat} {spare : Nat → Bool} {held : Bool} {r : Reach} {v : Value} {d : DataW H} {p : List MemPlace}
    (hv : Value.okWide Tryd.prog w r b0 31 v) (h : DataW.Trod enc Tryd.prog w base spare held 31 v d p) (hs : ∀ n ∈ DataW.weights Tryd.prog 31 d, n ≤ reachBytes) : ∃ ep l ow, Rng w v ep l ow := by
  obtain ⟨ep, ma, mn, mc, oa, on, oc, n, y0, y1, y2, rfl, hb, rfl, -, h0, h1, h2⟩ := ring_fields hv h
  have hw : DataW.weights Tryd.prog 31 (.agg [y0.1, y1.1, y2.1]) = DataW.weights Tryd.prog 3 y0.1 ++ (DataW.weights Tryd.prog 22 y1.1 ++ (DataW.weights Tryd.prog 26 y2.1 ++ [])) := by
    simp only [DataW.weights, Tryd.underlying31]
    rfl
  rw [hw] at hs
  obtain ⟨l, hl, -⟩ := mbs_open' h1 (fun el sp e => hs _ (by
    simp only [List.mem_append]
    right; left
    rw [e]
    simp only [DataW.weights, Tryd.underlying22]
    exact List.mem_cons_self))
  obtain ⟨ow, how⟩ := ints_open h2 (fun el sp e => hs _ (by
    simp only [List.mem_append]
    right; right; left
    rw [e]
    simp only [DataW.weights, Tryd.underlying26]
    exact List.mem_cons_self))
  exact ⟨ep, l, ow, hb, _, _, rfl, hl, how⟩
/-- What a datum weighs is among what all weigh. -/
theorem weigh_at {H : Type} {P : Program} {ts : List TypeId} {ds : List (DataW H)} (h : (DataW.weightsEach P ts ds).all (· ≤ reachBytes) = true) {j : Nat} {t : TypeId} {d : DataW H} (ht : ts[j]? = some t) (hd : ds[j]? = some d) : ∀ n ∈ DataW.weights P t d, n ≤ reachBytes := fun n hn => by
  have := List.all_eq_true.1 h _ (DataW.weights_mem_each ht hd n hn)
  simpa using this
end Go.Proofs.YtplkmbfeeegaiaaDoor
