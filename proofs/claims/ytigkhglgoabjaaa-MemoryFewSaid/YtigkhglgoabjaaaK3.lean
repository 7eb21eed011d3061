/-
  A pool of the call's own, with the rows of strings that it has given out.
-/
import Derived.Test.YtigkhglgoabjaaaK1
namespace Go.Proofs.Ytigkhglgoabjaaa
open Go.RowKit Go.Shelf

/-- The pool p holds L, and each of the rows still reads as it did. -/
def SP (w : World) (p : Nat) (cap : Int) (sh : List Int) (L : List E) (rows : List (Value × List ByteArray)) (W : World) : Prop :=
  ∃ P : Pl, SS w P W ∧ P.p = p ∧ P.cap = cap ∧ P.sh = sh ∧ P.L = L ∧ ∀ r ∈ rows, Row P W r.1 r.2

theorem SP.k {w W : World} {p : Nat} {cap : Int} {sh : List Int} {L : List E} {rows : List (Value × List ByteArray)} (h : SP w p cap sh L rows W) : Keep (fun _ => False) w W := by
  obtain ⟨P, h, _⟩ := h
  exact h.k

theorem SP.keep {w W W' : World} {p : Nat} {cap : Int} {sh : List Int} {L : List E} {rows : List (Value × List ByteArray)} (h : SP w p cap sh L rows W) (k : Keep (fun _ => False) W W') : SP w p cap sh L rows W' := by
  obtain ⟨P, h, e1, e2, e3, e4, hr⟩ := h
  exact ⟨P, h.keep k, e1, e2, e3, e4, fun r hr' => (hr r hr').keep k⟩

theorem SP.row {w W : World} {p : Nat} {cap : Int} {sh : List Int} {L : List E} {rows : List (Value × List ByteArray)} (h : SP w p cap sh L rows W) {v : Value} {xs : List ByteArray} (hm : (v, xs) ∈ rows) : StrsAt W v xs := by
  obtain ⟨P, h, e1, e2, e3, e4, hr⟩ := h
  exact (hr _ hm).1

/-- New's pool. -/
theorem SP.new {w W W' : World} {P : Pl} {cap : Int} {sh : List Int} (k0 : Keep (fun _ => False) w W) (h : P.At W') (e1 : P.cap = cap) (e2 : P.sh = sh) (e3 : P.L = []) (k : Keep (fun _ => False) W W') (hf : ∀ i, P.foot i → W.heap.size ≤ i) :
    SP w P.p cap sh [] [] W' := ⟨P, ⟨h, k0.trans k, fun i hi => Nat.le_trans k0.size (hf i hi)⟩, rfl, e1, e2, e3, fun r hr => by cases hr⟩

theorem put_sp {w : World} {p : Nat} {cap : Int} {sh : List Int} {L : List E} {rows : List (Value × List ByteArray)} (t : Int) (key : ByteArray) (z : Int) (W : World) (h : SP w p cap sh L rows W) (hks : key.size ≤ maxLen) (hz2 : z ≤ 9223372036854775807)
    (b : Bool) (T M : List E) (e : putI cap sh L t key z = (b, T, M)) :
    Calls Try.prog 17 #[ptr p, .int .i64 t, .string key, .int .i64 z] W fun e W' => ∃ a c, e = .returned (.tuple #[.slice a T.length c, .bool b]) ∧ SP w p cap sh M ((.slice a T.length c, T.map E.key) :: rows) W' := by
  obtain ⟨P, h, rfl, rfl, rfl, rfl, hr⟩ := h
  refine (put_plain P t key z W h.at_ hks hz2).mono ?_
  rintro e' W' ⟨vo, F, he, ht, hs, hd⟩
  rw [e] at he ht hs
  have hrow := Row.of (P := { P with L := M, foot := F }) hs hd
  obtain ⟨a, c, hv, _⟩ := hrow.1
  rw [List.length_map] at hv
  subst hv
  refine ⟨a, c, he, { P with L := M, foot := F }, h.turn ht, rfl, rfl, rfl, rfl, fun r hr' => ?_⟩
  rcases List.mem_cons.1 hr' with rfl | hr'
  · exact hrow
  · exact (hr r hr').turn ht

theorem touch_sp {w : World} {p : Nat} {cap : Int} {sh : List Int} {L : List E} {rows : List (Value × List ByteArray)} (key : ByteArray) (W : World) (h : SP w p cap sh L rows W) (hks : key.size ≤ maxLen) :
    Calls Try.prog 15 #[ptr p, .string key] W fun e W' => e = .returned (.bool (atKey L key).isSome) ∧ SP w p cap sh (touI L key) rows W' := by
  obtain ⟨P, h, rfl, rfl, rfl, rfl, hr⟩ := h
  refine (touch_plain P key W h.at_ hks).mono ?_
  rintro e' W' ⟨F, he, ht⟩
  exact ⟨he, { P with L := _, foot := F }, h.turn ht, rfl, rfl, rfl, rfl, fun r hr' => (hr r hr').turn ht⟩

theorem remove_sp {w : World} {p : Nat} {cap : Int} {sh : List Int} {L : List E} {rows : List (Value × List ByteArray)} (key : ByteArray) (W : World) (h : SP w p cap sh L rows W) (hks : key.size ≤ maxLen) :
    Calls Try.prog 16 #[ptr p, .string key] W fun e W' => e = .returned (.bool (atKey L key).isSome) ∧ SP w p cap sh (woE L key) rows W' := by
  obtain ⟨P, h, rfl, rfl, rfl, rfl, hr⟩ := h
  refine (remove_plain P key W h.at_ hks).mono ?_
  rintro e' W' ⟨F, he, ht⟩
  exact ⟨he, { P with L := _, foot := F }, h.turn ht, rfl, rfl, rfl, rfl, fun r hr' => (hr r hr').turn ht⟩

theorem keys_sp {w : World} {p : Nat} {cap : Int} {sh : List Int} {L : List E} {rows : List (Value × List ByteArray)} (t : Int) (W : World) (h : SP w p cap sh L rows W) :
    Calls Try.prog 20 #[ptr p, .int .i64 t] W fun e W' => ∃ a c, e = .returned (.slice a (keysOf L t).length c) ∧ SP w p cap sh L ((.slice a (keysOf L t).length c, keysOf L t) :: rows) W' ∧ Keep (fun _ => False) W W' := by
  obtain ⟨P, h, rfl, rfl, rfl, rfl, hr⟩ := h
  refine (keys_plain P t W h.at_).mono ?_
  rintro e' W' ⟨v, he, hs, _, k⟩
  have hd : ∀ b, v.ownBlock = some b → ¬ P.foot b := fun b hb hf => by
    have h1 := (World.ownsRow.lt hs b hb).1
    have h2 := h.at_.lt hf
    omega
  have hrow := Row.of (P := P) hs hd
  obtain ⟨a, c, hv, _⟩ := hrow.1
  subst hv
  refine ⟨a, c, he, ⟨P, h.keep k, rfl, rfl, rfl, rfl, fun r hr' => ?_⟩, k⟩
  rcases List.mem_cons.1 hr' with rfl | hr'
  · exact hrow
  · exact (hr r hr').keep k

theorem free_sp {w : World} {p : Nat} {cap : Int} {sh : List Int} {L : List E} {rows : List (Value × List ByteArray)} (W : World) (h : SP w p cap sh L rows W) :
    Calls Try.prog 18 #[ptr p] W fun e W' => e = .returned (.int .i64 (cap - tot L)) ∧ W = W' := by
  obtain ⟨P, h, rfl, rfl, rfl, rfl, hr⟩ := h
  exact free_plain P W h.at_
theorem used_sp {w : World} {p : Nat} {cap : Int} {sh : List Int} {L : List E} {rows : List (Value × List ByteArray)} (t : Int) (W : World) (h : SP w p cap sh L rows W) :
    Calls Try.prog 19 #[ptr p, .int .i64 t] W fun e W' => e = .returned (.int .i64 (usedI sh L t)) ∧ W = W' := by
  obtain ⟨P, h, rfl, rfl, rfl, rfl, hr⟩ := h
  exact used_plain P t W h.at_
theorem has_sp {w : World} {p : Nat} {cap : Int} {sh : List Int} {L : List E} {rows : List (Value × List ByteArray)} (key : ByteArray) (W : World) (h : SP w p cap sh L rows W) (hks : key.size ≤ maxLen) :
    Calls Try.prog 21 #[ptr p, .string key] W fun e W' => e = .returned (.bool (atKey L key).isSome) ∧ W = W' := by
  obtain ⟨P, h, rfl, rfl, rfl, rfl, hr⟩ := h
  exact has_plain P key W h.at_ hks
theorem tenant_sp {w : World} {p : Nat} {cap : Int} {sh : List Int} {L : List E} {rows : List (Value × List ByteArray)} (key : ByteArray) (W : World) (h : SP w p cap sh L rows W) (hks : key.size ≤ maxLen) :
    Calls Try.prog 13 #[ptr p, .string key] W fun e W' => e = .returned (.int .i64 (tenI L key)) ∧ W = W' := by
  obtain ⟨P, h, rfl, rfl, rfl, rfl, hr⟩ := h
  exact tenant_plain P key W h.at_ hks
end Go.Proofs.Ytigkhglgoabjaaa
