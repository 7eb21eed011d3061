/-
  parse: words, the plain steps, the door.
-/
import Derived.Test.YtmndjicaofciiaaGreatDoorW11
namespace Go.Proofs.YtmndjicaofciiaaGreatDoor
open Go.RowKit Go.Shelf

/-- What parse reads. -/
def parseRaw (s : ByteArray) : Option Qy := readW (Lib.split s.data.toList [32])
def wl (ws : List ByteArray) : List (List UInt8) := ws.map (fun x => x.data.toList)
def wordsOf (s : ByteArray) : List ByteArray := Lib.splitB ⟨#[32]⟩ 0 (Lib.countB s ⟨#[32]⟩) s
theorem wordsOf_wl (s : ByteArray) : wl (wordsOf s) = Lib.split s.data.toList [32] := Lib.splitB_data ⟨#[32]⟩ 0 _ s
theorem splitB_size (sep : ByteArray) : ∀ (k : Nat) (s : ByteArray), ∀ x ∈ Lib.splitB sep 0 k s, x.size ≤ s.size
  | 0, s, x, h => by
    rw [Lib.splitB_zero] at h
    simp only [List.mem_singleton] at h
    rw [h]; exact Nat.le_refl _
  | k + 1, s, x, h => by
    unfold Lib.splitB at h
    split at h
    · simp only [List.mem_singleton] at h
      rw [h]; exact Nat.le_refl _
    · rcases List.mem_cons.1 h with rfl | h
      · rw [ByteArray.size_extract]; omega
      · have := splitB_size sep k _ x h
        rw [ByteArray.size_extract] at this
        omega
theorem wordsOf_size (s : ByteArray) : ∀ x ∈ wordsOf s, x.size ≤ s.size := splitB_size _ _ s
theorem split_any (p : Addr) (s : ByteArray) (w : World) (hs : s.size ≤ 100000) (hE : Env p w) : Calls Tryz.prog 42 #[.string s, .string ⟨#[32]⟩] w fun e w' => ∃ v, e = .returned v ∧ Wds w' v (wordsOf s) ∧ 1 ≤ (wordsOf s).length ∧ (∀ b, v.ownBlock = some b → w.heap.size ≤ b) ∧ Keep (fun _ => False) w w' := by
  obtain ⟨m, hm⟩ := hE.maxl
  refine (Tryz.strings_Split s ⟨#[32]⟩ m w (by omega) hm (by decide)).mono ?_
  rintro e w' ⟨rfl, rfl⟩
  have hl : (wordsOf s).length = Lib.countB s ⟨#[32]⟩ + 1 := Lib.splitB_all ⟨#[32]⟩ (by decide) 0 _ s rfl
  have hc := Lib.countB_le ⟨#[32]⟩ (by decide) s.size s (Nat.le_refl _)
  refine ⟨_, rfl, ⟨by omega, _, _, w.heap.size, 0, by rw [hl], by omega, fun _ => rfl, fun j x hj => ?_⟩, by omega, fun b hb => by cases hb; exact Nat.le_refl _, (Keep.refl _ w).alloc _⟩
  rw [Lib.cell_of_heap (World.alloc_heap_new _ _), Nat.zero_add]
  show ((wordsOf s).map Value.string).toArray[j]? = _
  rw [List.getElem?_toArray, List.getElem?_map, hj]
  rfl
/-! ## The plain steps -/
theorem set_kd (q : Qy) (v : Int) {f : Nat} (h : f ≠ 0) : (q.set v f).kd = q.kd := by
  match f, h with
  | 1, _ => rfl
  | 2, _ => rfl
  | 3, _ => rfl
  | 4, _ => rfl
  | 5, _ => rfl
  | (n + 6), _ => rfl
theorem flds_pos {k : Int} {j f : Nat} (h : (flds k)[j]? = some f) : f ≠ 0 := by
  have hm := List.mem_of_getElem? h
  unfold flds at hm
  repeat' split at hm
  all_goals (simp only [List.mem_cons, List.not_mem_nil, or_false] at hm; omega)
/-- What is still to be read. -/
def restF (kd : Int) (k : Nat) (ws : List ByteArray) (q : Qy) : Option Qy := (readF kd k ((flds kd).drop k) (wl ws) q).map endQ
theorem drop_cons {kd : Int} {k f : Nat} (h : (flds kd)[k]? = some f) : (flds kd).drop k = f :: (flds kd).drop (k + 1) := by
  obtain ⟨h1, h2⟩ := List.getElem?_eq_some_iff.1 h
  rw [List.drop_eq_getElem_cons h1, h2]
theorem rest_num {kd : Int} {k f : Nat} {x : ByteArray} {ws : List ByteArray} {q : Qy} {v : Int} (hf : (flds kd)[k]? = some f) (hg : glueK kd k = none) (hv : Lib.atoiAll x.data.toList = .ok v) : restF kd k (x :: ws) q = restF kd (k + 1) ws (q.set v f) := by
  unfold restF
  rw [drop_cons hf]
  simp only [wl, List.map_cons, readF, skipG, hg, hv]
theorem rest_bad {kd : Int} {k f : Nat} {ws : List ByteArray} {q : Qy} (hf : (flds kd)[k]? = some f) (hg : glueK kd k = none) (hv : ∀ x r, ws = x :: r → ∀ v, Lib.atoiAll x.data.toList ≠ .ok v) : restF kd k ws q = none := by
  unfold restF
  rw [drop_cons hf]
  cases ws with
  | nil => simp [wl, readF, skipG, hg]
  | cons x r =>
    have h1 := hv x r rfl
    simp only [wl, List.map_cons, readF, skipG, hg]
    rcases e : Lib.atoiAll x.data.toList with v | _ | _
    · exact absurd e (h1 v)
    · rfl
    · rfl
theorem rest_gnum {kd : Int} {k f : Nat} {g : List UInt8} {y x : ByteArray} {ws : List ByteArray} {q : Qy} {v : Int} (hf : (flds kd)[k]? = some f) (hg : glueK kd k = some g) (hy : y.data.toList = g) (hv : Lib.atoiAll x.data.toList = .ok v) : restF kd k (y :: x :: ws) q = restF kd (k + 1) ws (q.set v f) := by
  unfold restF
  rw [drop_cons hf]
  simp only [wl, List.map_cons, readF, skipG, hg, hy, if_true, hv]
theorem rest_gbad {kd : Int} {k f : Nat} {g : List UInt8} {y : ByteArray} {ws : List ByteArray} {q : Qy} (hf : (flds kd)[k]? = some f) (hg : glueK kd k = some g) (hy : y.data.toList = g) (hv : ∀ x r, ws = x :: r → ∀ v, Lib.atoiAll x.data.toList ≠ .ok v) : restF kd k (y :: ws) q = none := by
  unfold restF
  rw [drop_cons hf]
  cases ws with
  | nil => simp [wl, readF, skipG, hg, hy]
  | cons x r =>
    have h1 := hv x r rfl
    simp only [wl, List.map_cons, readF, skipG, hg, hy, if_true]
    rcases e : Lib.atoiAll x.data.toList with v | _ | _
    · exact absurd e (h1 v)
    · rfl
    · rfl
theorem rest_gmiss {kd : Int} {k f : Nat} {g : List UInt8} {ws : List ByteArray} {q : Qy} (hf : (flds kd)[k]? = some f) (hg : glueK kd k = some g) (hy : ∀ y r, ws = y :: r → y.data.toList ≠ g) : restF kd k ws q = none := by
  unfold restF
  rw [drop_cons hf]
  cases ws with
  | nil => simp [wl, readF, skipG, hg]
  | cons y r =>
    have h1 := hy y r rfl
    simp only [wl, List.map_cons, readF, skipG, hg]
    rw [if_neg h1]
    rfl
theorem rest_end {kd : Int} {k : Nat} {ws : List ByteArray} {q : Qy} (hk : (flds kd).length ≤ k) : restF kd k ws q = some (endQ q) := by
  unfold restF
  rw [List.drop_of_length_le hk]
  rfl
theorem raw_start {s x : ByteArray} {ws : List ByteArray} {k : Int} (hw : wordsOf s = x :: ws) (hk : kindOf x.data.toList = some k) : parseRaw s = restF k 0 ws ⟨k, 0, 0, 0, 0, 0, 0⟩ := by
  unfold parseRaw restF
  rw [← wordsOf_wl, hw]
  simp only [wl, List.map_cons, readW, hk, List.drop_zero]
theorem raw_none {s x : ByteArray} {ws : List ByteArray} (hw : wordsOf s = x :: ws) (hk : kindOf x.data.toList = none) : parseRaw s = none := by
  unfold parseRaw
  rw [← wordsOf_wl, hw]
  simp only [wl, List.map_cons, readW, hk]
/-! ## The reader beside the query -/
theorem Rdr.setI {W : World} {r z f : Nat} {ws : List ByteArray} {q : Qy} (h : Rdr W r ws) (hq : QBox W z q) (hf : f < 7) (v : Int) : Rdr (W.setCell ⟨z, f, none⟩ (.int .i64 v)) r ws := by
  obtain ⟨⟨u, h1, hl, a, c, g, off, rfl, hc, ha, hcell⟩, h3⟩ := h
  have hi := hq.1 f hf
  have hne : ∀ (b o : Nat) (y : Value), W.cell? ⟨b, o, none⟩ = some y → (∀ x, y ≠ .int .i64 x) → (W.setCell ⟨z, f, none⟩ (.int .i64 v)).cell? ⟨b, o, none⟩ = some y := fun b o y hy hn => by
    by_cases e : z ≠ b ∨ f ≠ o
    · rw [cell_set_ne e]; exact hy
    · have e1 : z = b := by omega
      have e2 : f = o := by omega
      subst e1 e2
      rw [hi] at hy
      exact absurd (Option.some.inj hy).symm (hn _)
  exact ⟨⟨_, hne _ _ _ h1 (fun x e => by cases e), hl, a, c, g, off, rfl, hc, ha, fun j x hj => hne _ _ _ (hcell j x hj) (fun y e => by cases e)⟩, fun o => (World.frozen?_setCell _ _ _ _).trans (h3 o)⟩
end Go.Proofs.YtmndjicaofciiaaGreatDoor
