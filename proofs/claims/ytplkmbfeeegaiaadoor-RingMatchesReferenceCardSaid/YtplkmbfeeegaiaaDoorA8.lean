/-
  drawn: the circle.
-/
import Derived.Test.YtplkmbfeeegaiaaDoorA7
namespace Go.Proofs.YtplkmbfeeegaiaaDoor
open Go.RowKit Go.Shelf
open Go.Sort (grow)

theorem flatM_get : ∀ (l : List Mk) (q : Nat) (x : Mk) (r : Nat), l[q]? = some x → r < 3 → (flatM l)[q * 3 + r]? = (encMk x)[r]?
  | [], q, x, r, h, _ => by simp at h
  | y :: l, 0, x, r, h, hr => by
    simp only [List.getElem?_cons_zero, Option.some.injEq] at h
    subst h
    unfold flatM
    rw [List.flatMap_cons, Nat.zero_mul, Nat.zero_add, List.getElem?_append_left (by simp [encMk]; omega)]
  | y :: l, q + 1, x, r, h, hr => by
    simp only [List.getElem?_cons_succ] at h
    have ih := flatM_get l q x r h hr
    unfold flatM at ih ⊢
    rw [List.flatMap_cons, List.getElem?_append_right (by simp [encMk]; omega)]
    have e : (q + 1) * 3 + r - (encMk y).length = q * 3 + r := by simp [encMk]; omega
    rw [e]; exact ih
/-- Points in a slice. -/
structure Mks (W : World) (v : Value) (l : List Mk) : Prop where
  n : l.length ≤ 100000
  at_ : ∃ a c b off, v = .slice a l.length c ∧ l.length ≤ c ∧ (0 < l.length → a = some ⟨b, off, none⟩) ∧ ∀ j x, l[j]? = some x → W.cell? ⟨b, off + j * 3, none⟩ = some (.int .i64 x.point) ∧ W.cell? ⟨b, off + j * 3 + 1, none⟩ = some (.int .i64 x.node) ∧ W.cell? ⟨b, off + j * 3 + 2, none⟩ = some (.int .i64 x.i)
theorem Mks.keep {W W' : World} {A : Nat → Prop} {v : Value} {l : List Mk} (h : Mks W v l) (k : Keep A W W') (hA : ∀ b, v.ownBlock = some b → ¬ A b) : Mks W' v l := by
  obtain ⟨a, c, b, off, rfl, hc, ha, h1⟩ := h.at_
  refine ⟨h.n, a, c, b, off, rfl, hc, ha, fun j x hj => ?_⟩
  have hp : 0 < l.length := by have := (List.getElem?_eq_some_iff.1 hj).1; omega
  have hb := hA b (by rw [ha hp]; rfl)
  exact ⟨k.cell (h1 j x hj).1 hb, k.cell (h1 j x hj).2.1 hb, k.cell (h1 j x hj).2.2 hb⟩
theorem Mks.kept {W W' : World} {v : Value} {l : List Mk} (h : Mks W v l) (k : Keep (fun _ => False) W W') : Mks W' v l := h.keep k (fun _ _ h => h)

theorem holds_mks {W : World} {g : Nat} {d : Array Mk} (h : Go.Sort.HoldsK encMk 3 W g 0 d) (j : Nat) (x : Mk) (hj : d.toList[j]? = some x) : W.cell? ⟨g, 0 + j * 3, none⟩ = some (.int .i64 x.point) ∧ W.cell? ⟨g, 0 + j * 3 + 1, none⟩ = some (.int .i64 x.node) ∧ W.cell? ⟨g, 0 + j * 3 + 2, none⟩ = some (.int .i64 x.i) := by
  have hlt : j < d.size := by have := (List.getElem?_eq_some_iff.1 hj).1; simpa using this
  have hx : d[j]! = x := by
    rw [Array.getElem?_toList, Array.getElem?_eq_getElem hlt] at hj
    simp only [Option.some.injEq] at hj
    rw [getElem!_pos d j hlt]; exact hj
  have key : ∀ r, r < 3 → W.cell? ⟨g, 0 + (j * 3 + r), none⟩ = some ((encMk x)[r]!) := fun r hr => by
    have h1 := (h (j * 3 + r) (by rw [Go.Sort.size_flatK]; omega)).1
    rw [Go.Sort.get_flatK _ _ _ _ (by omega), show (j * 3 + r) / 3 = j by omega, show (j * 3 + r) % 3 = r by omega, hx] at h1
    exact h1
  exact ⟨key 0 (by decide), by have := key 1 (by decide); rwa [← Nat.add_assoc] at this, by have := key 2 (by decide); rwa [← Nat.add_assoc] at this⟩
theorem owns_holds {W : World} {lo g n cap : Nat} {l : List Mk} (h : W.ownsRow lo 96 3 (.slice (some ⟨g, 0, none⟩) n cap) l.length (flatM l)) : Go.Sort.HoldsK encMk 3 W g 0 l.toArray := by
  intro j hj
  rw [Go.Sort.size_flatK] at hj
  simp only [List.size_toArray] at hj
  have hq : j / 3 < l.length := by omega
  have hx : l[j / 3]? = some l[j / 3] := List.getElem?_eq_getElem hq
  have h1 := flatM_get l (j / 3) _ (j % 3) hx (by omega)
  rw [show j / 3 * 3 + j % 3 = j by omega] at h1
  have h2 : (encMk l[j / 3])[j % 3]? = some ((encMk l[j / 3])[j % 3]!) := by
    have : j % 3 < (encMk l[j / 3]).length := by show j % 3 < 3; omega
    rw [List.getElem?_eq_getElem this, getElem!_pos (encMk l[j / 3]) (j % 3) this]
  rw [h2] at h1
  have h3 := h.cells (g := g) rfl _ _ h1
  rw [Addr.add_lit] at h3
  refine ⟨?_, ?_⟩
  · rw [Go.Sort.get_flatK _ _ _ _ (by simpa using hj)]
    have e : (l.toArray)[j / 3]! = l[j / 3] := by rw [getElem!_pos l.toArray (j / 3) (by simpa using hq)]; simp
    rw [e]; exact h3
  · rcases h.2 with ⟨h4, _⟩ | ⟨g', cap', cur, h4, _, hh, _⟩
    · cases h4
    · cases h4
      unfold World.frozen?
      rw [hh]
      rfl
theorem keep_sort (w : World) (blk off m : Nat) (d : Array Mk) (os : Array Obj) : Keep (fun j => j = blk) w (Go.Proofs.sortWorldK encMk 3 w blk off m d os) := by
  unfold Go.Proofs.sortWorldK
  refine ⟨rfl, rfl, rfl, ?_, fun k hk hn => ?_⟩
  · rw [Go.Sort.size_grow, Go.Sort.size_putRowK]
    exact Nat.le_add_right _ _
  · unfold grow
    show ((Go.Sort.putRowK encMk 3 (Go.Sort.ahead w m) blk off d).heap ++ os)[k]? = _
    rw [Array.getElem?_append_left (by rw [Go.Sort.size_putRowK]; exact hk)]
    unfold Go.Sort.putRowK Go.Sort.putRow Go.Sort.mapBlock
    show ((Go.Sort.ahead w m).heap.modify blk _)[k]? = _
    rw [Array.getElem?_modify, if_neg (fun e => hn e.symm)]
    rfl

def DrawPost (l : List Mb) (w : World) (e : Ending) (w' : World) : Prop := ∃ v, e = .returned v ∧ Mks w' v (circ PN l) ∧ Keep (fun _ => False) w w'
theorem drawn_any (v : Value) (l : List Mb) (w : World) (h : Mbs w v l) (hv : VL l) (hT : Tab w) : Calls Tryd.prog 48 #[v] w (DrawPost l w) := by
  refine drawn_raw v l w h hv hT _ fun vo W how => ?_
  have hlen := draws_len PN l hv.ok
  have hws := hv.wsum
  rcases how.2.2 with ⟨rfl, h0⟩ | ⟨g, cap, cur, rfl, hg, hh, hcap, r⟩
  · omega
  · have hH := owns_holds how.2
    have hblk : g < W.heap.size := (Array.getElem?_eq_some_iff.1 hh).1
    have hs := sortMarks g 0 cap (draws PN l).toArray W hH hblk (by simp; omega)
    simp only [List.size_toArray] at hs
    refine hs.mono ?_
    rintro e w' ⟨rfl, d', n, os, hperm, hsort, rfl⟩
    refine ⟨rfl, _, rfl, ?_, ?_⟩
    · have hp : d'.toList.Perm (draws PN l) := by
        have h1 := hperm.2.2
        have h2 := hperm.1
        simp only [List.size_toArray] at h2
        have e1 : d'.extract 0 (draws PN l).length = d' := by rw [← h2]; exact Array.extract_size
        have e2 : ((draws PN l).toArray.extract 0 (draws PN l).length) = (draws PN l).toArray := by
          simp
        rw [e1, e2] at h1
        simpa using h1
      have hsz : d'.size = (draws PN l).length := by have := hperm.1; simpa using this
      have hso : d'.toList.Pairwise ltMk := by
        rw [List.pairwise_iff_getElem]
        intro i j hi hj hij
        have hi' : i < d'.size := by simpa using hi
        have hj' : j < d'.size := by simpa using hj
        have h1 := hsort i j (Nat.zero_le _) hij (by omega)
        rw [cmpM_lt, decide_eq_false_iff_not, getElem!_pos d' j hj', getElem!_pos d' i hi'] at h1
        have hne : d'.toList[i] ≠ d'.toList[j] := by
          have hnd : d'.toList.Nodup := hp.nodup_iff.2 (draws_nodup PN hv.asc)
          intro e
          have := (List.getElem_inj hnd).1 e
          omega
        rw [Array.getElem_toList, Array.getElem_toList] at hne ⊢
        exact (ltMk_total hne).resolve_right h1
      have hc := circ_uniq PN hv.asc hp hso
      have hcl : (circ PN l).length = (draws PN l).length := (sortMk_perm _).length_eq
      have hHd := Go.Proofs.holdsK_sortWorldK_c encMk 3 W g 0 (draws PN l).toArray d' n os hH hblk (by simpa using hsz)
      refine ⟨by rw [hcl]; omega, some ⟨g, 0, none⟩, cap, g, 0, by rw [hcl], by rw [hcl]; exact hcap, fun _ => rfl, fun j x hj => ?_⟩
      rw [← hc] at hj
      exact holds_mks hHd j x hj
    · exact how.1.trans' (keep_sort W g 0 n d' os) (fun i e => .inr (by omega))
end Go.Proofs.YtplkmbfeeegaiaaDoor
