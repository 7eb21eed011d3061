/-
  Itoa, text; the points of members and of slots.
-/
import Derived.Test.YtplkmbfeeegaiaaDoorA4
import Derived.Test.YtplkmbfeeegaiaaDoorT1
namespace Go.Proofs.YtplkmbfeeegaiaaDoor
open Go.RowKit Go.Shelf

/-- A numeral. -/
def dig (n : Nat) : ByteArray := ⟨(Lib.decDigits n).toArray⟩
theorem itoa_small (n : Nat) (h : n < 100) (w : World) : Calls Tryd.prog 66 #[.int .i64 n] w fun e w' => e = .returned (.string (dig n)) ∧ w = w' :=
  (Any.strconv_Itoa_small Tryd.lays171 n h w).mono fun _ _ ⟨h1, h2⟩ => ⟨h1, h2.symm⟩
theorem dig_size {n : Nat} (h : n < 100) : (dig n).size ≤ 2 := by
  show (Lib.decDigits n).toArray.size ≤ 2
  rw [List.size_toArray, Lib.decDigits]
  split
  · simp
  · rw [Lib.decDigits, dif_pos (by omega)]
    simp
/-- A word and numbers. -/
def addT (s : ByteArray) (n : Nat) : ByteArray := s ++ (⟨#[32]⟩ ++ dig n)
def txt (s : ByteArray) (l : List Nat) : ByteArray := l.foldl addT s
theorem txt_snoc (s : ByteArray) (l : List Nat) (n : Nat) : txt s (l ++ [n]) = addT (txt s l) n := by unfold txt; rw [List.foldl_append]; rfl

set_option maxRecDepth 100000 in
set_option maxHeartbeats 1000000 in
theorem text_any (word : ByteArray) (v : Value) (l : List Nat) (w : World) (hw : word.size ≤ 10) (hl : l.length ≤ 2) (hb : ∀ n ∈ l, n < 100) (h : Its w v (l.map (fun n : Nat => (n : Int)))) :
    Calls Tryd.prog 51 #[.string word, v] w fun e w' => e = .returned (.string (txt word l)) ∧ w = w' := by
  obtain ⟨hn, -, a, c, b, off, rfl, hc, ha, hcell⟩ := h
  have HC := Lib.hid hcell
  have HA := Lib.hid ha
  have HB := Lib.hid hb
  clear hcell ha hb
  rw [List.length_map] at hn hc HA ⊢
  obtain ⟨n, hn'⟩ : ∃ n, l.length = n := ⟨_, rfl⟩
  have HL := Lib.hid hn'
  rw [hn'] at hn hc hl ⊢
  clear hn'
  go_enter Tryd.func51, Tryd.ntmps51
  go_wp2_with fail
  go_loopg [0, 9] n (fun gh v0 v wr => ∃ (k : Nat) (s : ByteArray), gh + k = n ∧ v = .int .i64 k ∧ v0 = .string s ∧ s = txt word (l.take k) ∧ s.size ≤ 10 + 3 * k ∧ w = wr)
  case atStart => exact ⟨0, word, by omega, rfl, rfl, rfl, by omega, rfl⟩
  case round =>
    obtain ⟨k, s, hk, rfl, rfl, hs, hsz, rfl⟩ := hrel
    have HS := Lib.hid hs
    clear hs
    by_cases hlt : k < n
    · obtain ⟨x, hx⟩ : ∃ x, l[k]? = some x := ⟨_, List.getElem?_eq_getElem (by have := HL.out; omega)⟩
      obtain rfl := HA.out (by have := HL.out; omega)
      have c1 := HC.out k (x : Int) (by rw [List.getElem?_map, hx]; rfl)
      have hx100 := HB.out x (List.mem_of_getElem? hx)
      have hdz := dig_size hx100
      have HX : Hid (txt word (l.take (k + 1)) = s ++ (⟨#[32]⟩ ++ dig x)) := Lib.hid (by rw [List.take_add_one, hx, Option.toList_some, txt_snoc, ← HS.out]; rfl)
      have hkz : (k : Int) < (n : Int) := by omega
      have hk0 : (0 : Int) ≤ (k : Int) := by omega
      clear hx
      go_wp2_with fail
      with_reducible refine (itoa_small x hx100 _).mono ?_
      rintro e w' ⟨rfl, rfl⟩
      generalize dig x = d at *
      have hsz2 : (s ++ (⟨#[32]⟩ ++ d)).size ≤ 10 + 3 * (k + 1) := by
        rw [ByteArray.size_append, ByteArray.size_append]
        have : (⟨#[32]⟩ : ByteArray).size = 1 := rfl
        omega
      go_wp2_with fail
      go_roundg (gk - 1)
      case rel => exact ⟨k + 1, _, by omega, by go_num, rfl, HX.out.symm, hsz2, rfl⟩
      case measure => omega
    · have HE : Hid (txt word l = s) := Lib.hid (by rw [HS.out, List.take_of_length_le (by have := HL.out; omega)])
      go_wp2_with fail
      go_ret
      exact ⟨by rw [HE.out]; rfl, rfl⟩

/-- The point of a member. -/
def nodeT (n : Int) (i : Nat) : ByteArray := txt ⟨#[110, 111, 100, 101]⟩ [n.toNat, i]
def slotT (s : Nat) : ByteArray := txt ⟨#[115, 108, 111, 116]⟩ [s]
def PN (n : Int) (i : Nat) : Int := (pt (nodeT n i) : Nat)
def QS (s : Nat) : Int := (pt (slotT s) : Nat)
theorem nodeT_size {n : Int} {i : Nat} (hn : n.toNat < 100) (hi : i < 100) : (nodeT n i).size ≤ 1000000 := by
  have h1 := dig_size hn
  have h2 := dig_size hi
  unfold nodeT txt addT
  simp only [List.foldl_cons, List.foldl_nil, ByteArray.size_append]
  have e1 : (⟨#[110, 111, 100, 101]⟩ : ByteArray).size = 4 := rfl
  have e2 : (⟨#[32]⟩ : ByteArray).size = 1 := rfl
  omega
theorem slotT_size {s : Nat} (hs : s < 100) : (slotT s).size ≤ 1000000 := by
  have h1 := dig_size hs
  unfold slotT txt addT
  simp only [List.foldl_cons, List.foldl_nil, ByteArray.size_append]
  have e1 : (⟨#[115, 108, 111, 116]⟩ : ByteArray).size = 4 := rfl
  have e2 : (⟨#[32]⟩ : ByteArray).size = 1 := rfl
  omega
end Go.Proofs.YtplkmbfeeegaiaaDoor
