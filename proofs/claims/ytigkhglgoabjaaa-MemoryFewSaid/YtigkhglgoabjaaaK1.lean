/-
  A pool of the call's own, through its calls; New as plain data.
-/
import Derived.Test.YtigkhglgoabjaaaJ1
namespace Go.Proofs.Ytigkhglgoabjaaa
open Go.RowKit Go.Shelf

theorem new_ok (cap : Int) (b off n c : Nat) (xs : List Int) (w : World) (hn : xs.length = n) (h1 : 1 ≤ cap) (h2 : cap ≤ 1000000) (h3 : 1 ≤ n) (h4 : n ≤ 8) (hc : IntsAt w b off xs) (hs : sharesOk cap xs = true) :
    Calls Try.prog 22 #[.int .i64 cap, .slice (some ⟨b, off, none⟩) n c] w fun e w' => ∃ P : Pl, e = .returned (.tuple #[ptr P.p, .int .i64 0]) ∧ P.At w' ∧ P.cap = cap ∧ P.sh = xs ∧ P.L = [] ∧ Keep (fun _ => False) w w' ∧ ∀ i, P.foot i → w.heap.size ≤ i := by
  refine (new_walk cap b off n c xs w hn h1 h2 h3 h4 hc).mono fun e w' h => ?_
  rcases h with ⟨h, _⟩ | ⟨_, g, he, hp, e1, e2, e3, k, hf⟩
  · rw [hs] at h; cases h
  · exact ⟨⟨g.bp, g.cap, g.sh, g.es, g.foot⟩, he, ⟨g, hp, rfl, rfl, rfl, rfl, rfl⟩, e1, e2, by show g.L.map Ent.e = []; rw [e3]; rfl, k, hf⟩

theorem new_no (cap : Int) (b off n c : Nat) (xs : List Int) (w : World) (hn : xs.length = n) (h1 : 1 ≤ cap) (h2 : cap ≤ 1000000) (h3 : 1 ≤ n) (h4 : n ≤ 8) (hc : IntsAt w b off xs) (hs : sharesOk cap xs = false) :
    Calls Try.prog 22 #[.int .i64 cap, .slice (some ⟨b, off, none⟩) n c] w fun e w' => e = .returned (.tuple #[.pointer none, .int .i64 170]) ∧ w = w' := by
  refine (new_walk cap b off n c xs w hn h1 h2 h3 h4 hc).mono fun e w' h => ?_
  rcases h with ⟨_, h⟩ | ⟨h, _⟩
  · exact h
  · rw [hs] at h; cases h

/-- A pool of the call's own: the blocks are newer than w. -/
structure SS (w : World) (P : Pl) (W : World) : Prop where
  at_ : P.At W
  k : Keep (fun _ => False) w W
  new : ∀ i, P.foot i → w.heap.size ≤ i

theorem Keep.none_of {A : Nat → Prop} {w W W' : World} (k : Keep (fun _ => False) w W) (k' : Keep A W W') (hA : ∀ i, A i → w.heap.size ≤ i) : Keep (fun _ => False) w W' :=
  k.trans' k' (fun i hi => .inr (hA i hi))

theorem SS.turn {w W W' : World} {P : Pl} {L : List E} {F : Nat → Prop} (h : SS w P W) (t : Turn P L W W' F) : SS w { P with L := L, foot := F } W' :=
  ⟨t.1, h.k.none_of t.2.1 h.new, fun i hi => (t.2.2 i hi).elim (h.new i) (fun h' => Nat.le_trans h.k.size h')⟩
theorem SS.keep {w W W' : World} {P : Pl} (h : SS w P W) (k : Keep (fun _ => False) W W') : SS w P W' := ⟨h.at_.keep k (fun _ _ h => h), h.k.trans k, h.new⟩

/-- Strings that lie away from the pool. -/
def Row (P : Pl) (W : World) (v : Value) (xs : List ByteArray) : Prop := StrsAt W v xs ∧ ∀ b, v.ownBlock = some b → ¬ P.foot b ∧ b < W.heap.size

theorem Row.of {P : Pl} {W : World} {lo : Nat} {v : Value} {xs : List ByteArray} (h : Strs W lo v xs) (hf : ∀ b, v.ownBlock = some b → ¬ P.foot b) : Row P W v xs :=
  ⟨StrsAt.of_owns h, fun b hb => ⟨hf b hb, (World.ownsRow.lt h b hb).2⟩⟩
theorem Row.turn {P : Pl} {W W' : World} {v : Value} {xs : List ByteArray} {L : List E} {F : Nat → Prop} (h : Row P W v xs) (t : Turn P L W W' F) : Row { P with L := L, foot := F } W' v xs :=
  ⟨h.1.keep t.2.1 (fun b hb => (h.2 b hb).1), fun b hb => ⟨fun hf => (t.2.2 b hf).elim (h.2 b hb).1 (fun h' => by have := (h.2 b hb).2; omega), Nat.lt_of_lt_of_le (h.2 b hb).2 t.2.1.size⟩⟩
theorem Row.keep {P : Pl} {W W' : World} {v : Value} {xs : List ByteArray} (h : Row P W v xs) (k : Keep (fun _ => False) W W') : Row P W' v xs :=
  ⟨h.1.keep k (fun _ _ h => h), fun b hb => ⟨(h.2 b hb).1, Nat.lt_of_lt_of_le (h.2 b hb).2 k.size⟩⟩
end Go.Proofs.Ytigkhglgoabjaaa
