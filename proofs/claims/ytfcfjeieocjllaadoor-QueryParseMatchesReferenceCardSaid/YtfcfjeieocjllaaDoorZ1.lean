/-
  The reference's Number.
-/
import Derived.Test.YtfcfjeieocjllaaDoorU5
import Derived.Laws.IdiomStrings
namespace Go.Proofs.YtfcfjeieocjllaaDoor
open Go.RowKit Go.Shelf

/-- While the digits of N are written: n is left, s is there. -/
def digSt (N n : Nat) (s : List UInt8) : Prop := (s = [] ∧ n = N) ∨ (s ≠ [] ∧ n ≠ 0 ∧ Lib.decDigits n ++ s = Lib.decDigits N) ∨ (s ≠ [] ∧ n = 0 ∧ s = Lib.decDigits N)
theorem digSt_step {N n : Nat} {s : List UInt8} (h : digSt N n s) (hgo : s = [] ∨ 0 < n) : digSt N (n / 10) (UInt8.ofNat (48 + n % 10) :: s) := by
  have key : Lib.decDigits n ++ s = Lib.decDigits N → digSt N (n / 10) (UInt8.ofNat (48 + n % 10) :: s) := fun e => by
    by_cases h10 : n < 10
    · refine .inr (.inr ⟨by simp, by omega, ?_⟩)
      rw [← e, Lib.decDigits, dif_pos h10, Nat.mod_eq_of_lt h10]
      rfl
    · refine .inr (.inl ⟨by simp, by omega, ?_⟩)
      rw [← e]
      conv => rhs; rw [Lib.decDigits, dif_neg h10]
      simp
  rcases h with ⟨rfl, rfl⟩ | ⟨h1, h2, h3⟩ | ⟨h1, h2, h3⟩
  · exact key (by simp)
  · exact key h3
  · rcases hgo with hgo | hgo
    · exact absurd hgo h1
    · omega
theorem digSt_end {N n : Nat} {s : List UInt8} (h : digSt N n s) (h1 : s ≠ []) (h0 : n = 0) : s = Lib.decDigits N := by
  rcases h with ⟨rfl, rfl⟩ | ⟨_, h2, _⟩ | ⟨_, _, h3⟩
  · exact absurd rfl h1
  · exact absurd h0 h2
  · exact h3
theorem dec_len (n : Nat) : (Lib.decDigits n).length ≤ n + 1 := by
  induction n using Nat.strongRecOn with
  | _ n ih =>
    rw [Lib.decDigits]
    split
    · simp
    · have := ih (n / 10) (by omega)
      simp only [List.length_append, List.length_cons, List.length_nil]
      omega
theorem digSt_len {N n : Nat} {s : List UInt8} (h : digSt N n s) : s.length ≤ N + 1 := by
  have := dec_len N
  rcases h with ⟨rfl, _⟩ | ⟨_, _, h3⟩ | ⟨_, _, h3⟩
  · simp
  · have h4 := congrArg List.length h3
    rw [List.length_append] at h4
    omega
  · rw [h3]; exact this
def digM (n : Nat) (s : ByteArray) : Nat := n + (if s.size = 0 then 1 else 0)
theorem cells_new0 (W : World) (x : Value) (t : TypeId) (u : Value) (h : x = u) : (W.alloc (.cells #[x] t)).cell? ⟨W.heap.size, 0, none⟩ = some u := by
  subst h
  rw [cell_new]
  rfl
theorem byte_str (W : World) (d : Nat) (hd : d < 10) : (convert 43 9 (.slice (some ⟨W.heap.size, 0, none⟩) 1 1)).run Tryd.prog (W.alloc (.cells #[.int .u8 (48 + (d : Int))] 5)) = .ok (.string ⟨#[UInt8.ofNat (48 + d)]⟩) (W.alloc (.cells #[.int .u8 (48 + (d : Int))] 5)) := by
  have h := run_convert_bytes_back (P := Tryd.prog) (W.alloc (.cells #[.int .u8 (48 + (d : Int))] 5)) 43 9 5 ⟨W.heap.size, 0, none⟩ 1 [UInt8.ofNat (48 + d)] Tryd.underlying43 Tryd.underlying5 Tryd.underlying9 (fun j hj => by
    obtain rfl : j = 0 := by simp at hj; omega
    rw [Addr.add_lit, Nat.zero_add]
    refine cells_new0 W _ _ _ ?_
    simp only [List.getElem_cons_zero, UInt8.toNat_ofNat']
    rw [Nat.mod_eq_of_lt (by omega)]
    simp)
  exact h
set_option maxRecDepth 100000 in
set_option maxHeartbeats 2000000 in
theorem numberP (N : Nat) (hN : N ≤ 1000000000000000000) (w : World) : Calls Tryd.prog 37 #[.int .i64 N] w fun e w' => e = .returned (.string (bs (Lib.decDigits N))) ∧ Keep (fun _ => False) w w' := by
  go_enter Tryd.func37, Tryd.ntmps37
  go_wp2_with fail
  go_loopg [0, 3] (N + 1) (fun gh v0 v3 wr => ∃ (n : Nat) (s : ByteArray), v0 = .int .i64 n ∧ v3 = .string s ∧ digSt N n s.data.toList ∧ n ≤ N ∧ gh = digM n s ∧ Keep (fun _ => False) w wr)
  case atStart => exact ⟨N, ⟨#[]⟩, rfl, rfl, .inl ⟨rfl, rfl⟩, Nat.le_refl _, rfl, Keep.refl _ _⟩
  case round =>
    obtain ⟨n, s, rfl, rfl, hst, hn, hgk, hkeep⟩ := hrel
    have HST := Lib.hid hst
    have HK := Lib.hid hkeep
    clear hst hkeep
    have hb0 : (0 : Int) ≤ (n : Int) := by omega
    have hsz : s.size ≤ N + 1 := by
      have := digSt_len HST.out
      rwa [Array.length_toList, ByteArray.size_data] at this
    by_cases hgo : s.data.toList = [] ∨ 0 < n
    · have HN := Lib.hid (digSt_step HST.out hgo)
      obtain ⟨d, hd⟩ : ∃ d : Nat, n % 10 = d := ⟨_, rfl⟩
      obtain ⟨q, hq⟩ : ∃ q : Nat, n / 10 = q := ⟨_, rfl⟩
      have hm0 : (n : Int) % 10 = (d : Int) := by omega
      have hm1 : (n : Int) / 10 = (q : Int) := by omega
      have hd9 : d < 10 := by omega
      rw [hd, hq] at HN
      have HQ := Lib.hid hq
      clear hd hq
      have hbs := byte_str wr d hd9
      generalize UInt8.ofNat (48 + d) = c at *
      obtain ⟨t, ht⟩ : ∃ t : ByteArray, (⟨#[c]⟩ : ByteArray) ++ s = t := ⟨_, rfl⟩
      have htl : t.data.toList = c :: s.data.toList := by rw [← ht]; simp
      rw [← htl] at HN
      have hts : t.size = s.size + 1 := by rw [← ht, ByteArray.size_append]; show 1 + s.size = _; omega
      have HTS := Lib.hid hts
      by_cases hs : s.data.toList = []
      · have hb : s.toList.isEmpty = true := by rw [Lib.toList_data, hs]; rfl
        have hb2 : (s.toList == []) = true := by rw [Lib.toList_data, hs]; rfl
        go_wp2_with fail
        go_roundg (digM q t)
        case rel => exact ⟨q, t, by first | rfl | go_num, by first | rfl | simp, HN.out, by have := HQ.out; omega, rfl, HK.out.alloc _⟩
        case measure =>
          rw [hgk]
          have h1 := HTS.out
          have h2 := HQ.out
          unfold digM
          rw [if_neg (by omega)]
          by_cases hz : s.size = 0
          · rw [if_pos hz]; omega
          · rw [if_neg hz]
            have : 0 < n := by
              rcases hgo with h | h
              · exact absurd (by rw [← ByteArray.size_data, ← Array.length_toList, h]; rfl) hz
              · exact h
            omega
      · have hn0 : 0 < n := by rcases hgo with h | h; exact absurd h hs; omega
        have hb : s.toList.isEmpty = false := by rw [Lib.toList_data]; simpa using hs
        go_wp2_with fail
        go_roundg (digM q t)
        case rel => exact ⟨q, t, by first | rfl | go_num, by first | rfl | simp, HN.out, by have := HQ.out; omega, rfl, HK.out.alloc _⟩
        case measure =>
          rw [hgk]
          have h1 := HTS.out
          have h2 := HQ.out
          unfold digM
          rw [if_neg (by omega)]
          by_cases hz : s.size = 0
          · rw [if_pos hz]; omega
          · rw [if_neg hz]
            have : 0 < n := by
              rcases hgo with h | h
              · exact absurd (by rw [← ByteArray.size_data, ← Array.length_toList, h]; rfl) hz
              · exact h
            omega
    · have hs : s.data.toList ≠ [] := fun e => hgo (.inl e)
      have hn0 : ¬ 0 < n := fun e => hgo (.inr e)
      have hb : s.toList.isEmpty = false := by rw [Lib.toList_data]; simpa using hs
      have HE : Hid (s = bs (Lib.decDigits N)) := Lib.hid (by
        have := digSt_end HST.out hs (by omega)
        rw [← this])
      go_wp2_with fail
      go_ret
      exact ⟨by rw [← HE.out] <;> rfl, HK.out⟩
set_option maxRecDepth 100000 in
set_option maxHeartbeats 2000000 in
theorem number_ref (n : Int) (hn : -1000000000000000000 ≤ n ∧ n ≤ 1000000000000000000) (w : World) : Calls Tryd.prog 37 #[.int .i64 n] w fun e w' => e = .returned (.string (bs (Lib.itoa n))) ∧ Keep (fun _ => False) w w' := by
  unfold Lib.itoa
  by_cases h : n < 0
  · rw [if_pos h]
    have HP : Hid (∀ w, Calls Tryd.prog 37 #[.int .i64 (-n)] w fun e w' => e = .returned (.string (bs (Lib.decDigits n.natAbs))) ∧ Keep (fun _ => False) w w') := Lib.hid (fun w => by
      have h1 := numberP n.natAbs (by omega) w
      rw [show ((n.natAbs : Nat) : Int) = -n by omega] at h1
      exact h1)
    have hr : bs (45 :: Lib.decDigits n.natAbs) = (⟨#[45]⟩ : ByteArray) ++ bs (Lib.decDigits n.natAbs) := by
      have : bs (45 :: Lib.decDigits n.natAbs) = bs ([45] ++ Lib.decDigits n.natAbs) := rfl
      rw [this, bs_add]
    have hsz : (bs (Lib.decDigits n.natAbs)).size ≤ 1000000000000000001 := by
      have h2 := dec_len n.natAbs
      rw [bs_size]
      omega
    rw [hr]
    clear hr
    generalize bs (Lib.decDigits n.natAbs) = s at *
    go_enter Tryd.func37, Tryd.ntmps37
    go_wp2_with fail
    with_reducible refine (HP.out w).mono ?_
    rintro e V ⟨rfl, k⟩
    go_wp2_with fail
    go_ret
    exact ⟨rfl, k⟩
  · rw [if_neg h]
    have h1 := numberP n.toNat (by omega) w
    rw [show ((n.toNat : Nat) : Int) = n by omega] at h1
    exact h1
end Go.Proofs.YtfcfjeieocjllaaDoor
