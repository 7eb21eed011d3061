/-
  SortFunc, SortedFunc, ordered.
-/
import Derived.Test.YtogkkghliogpeaaC2
namespace Go.Proofs.Ytogkkghliogpeaa
open Go.RowKit Go.Shelf

def IntPost (w : World) (e : Ending) (w' : World) : Prop := ∃ v : Int, e = .returned (.int .i64 v) ∧ w = w'

set_option maxRecDepth 100000 in
set_option maxHeartbeats 2000000 in
theorem len64_small (n : Nat) (hn : n ≤ 12) (w : World) : Calls Try.prog 67 #[.int .u64 n] w (IntPost w) := by
  have hc : n = 0 ∨ n = 1 ∨ n = 2 ∨ n = 3 ∨ n = 4 ∨ n = 5 ∨ n = 6 ∨ n = 7 ∨ n = 8 ∨ n = 9 ∨ n = 10 ∨ n = 11 ∨ n = 12 := by omega
  clear hn
  rcases hc with rfl | rfl | rfl | rfl | rfl | rfl | rfl | rfl | rfl | rfl | rfl | rfl | rfl
  all_goals
    go_enter Try.func67, Try.ntmps67
    go_wp2_with fail
    go_ret
    exact ⟨_, rfl, rfl⟩
set_option maxRecDepth 100000 in
set_option maxHeartbeats 400000 in
theorem len_small (n : Nat) (hn : n ≤ 12) (w : World) : Calls Try.prog 57 #[.int .u64 n] w (IntPost w) := by
  go_enter Try.func57, Try.ntmps57
  go_wp2_with fail
  with_reducible refine (len64_small n hn _).mono ?_
  rintro e w' ⟨v, rfl, rfl⟩
  go_wp2_with fail
  go_ret
  exact ⟨_, rfl, rfl⟩

set_option maxRecDepth 100000 in
set_option maxHeartbeats 2000000 in
theorem insertion_none (p : Option Addr) (c : Nat) (fv : Value) (w : World) : Calls Try.prog 58 #[.slice p 0 c, .int .i64 0, .int .i64 0, fv] w fun e w' => e = .returned (.tuple #[]) ∧ w = w' := by
  go_enter Try.func58, Try.ntmps58
  go_wp2_with fail
  refine wp_loop_rounds 1 ?_
  rw [rounds_succ]
  go_wp2_with fail
  go_end0
  exact ⟨rfl, rfl⟩
set_option maxRecDepth 100000 in
set_option maxHeartbeats 2000000 in
theorem pdq_none (p : Option Addr) (c : Nat) (lim : Int) (fv : Value) (w : World) : Calls Try.prog 56 #[.slice p 0 c, .int .i64 0, .int .i64 0, .int .i64 lim, fv] w fun e w' => e = .returned (.tuple #[]) ∧ w = w' := by
  go_enter Try.func56, Try.ntmps56
  go_wp2_with fail
  refine wp_loop_rounds 1 ?_
  rw [rounds_succ]
  go_wp2_with fail
  with_reducible refine (insertion_none _ _ _ _).mono ?_
  rintro e w' ⟨rfl, rfl⟩
  go_wp2_with fail
  refine bodyPost_ret (results_none rfl _ _ _) rfl ?_
  exact ⟨rfl, rfl⟩
set_option maxRecDepth 100000 in
set_option maxHeartbeats 2000000 in
theorem sort_none (p : Option Addr) (c : Nat) (fv : Value) (w : World) : Calls Try.prog 51 #[.slice p 0 c, fv] w fun e w' => e = .returned (.tuple #[]) ∧ w = w' := by
  have hl0 : Calls Try.prog 57 #[.int .u64 0] w (IntPost w) := len_small 0 (by omega) w
  go_enter Try.func51, Try.ntmps51
  go_wp2_with fail
  with_reducible refine hl0.mono ?_
  clear hl0
  rintro e w' ⟨v, rfl, rfl⟩
  go_wp2_with fail
  with_reducible refine (pdq_none _ _ _ _ _).mono ?_
  rintro e w' ⟨rfl, rfl⟩
  go_wp2_with fail
  go_end0
  exact ⟨rfl, rfl⟩

set_option maxRecDepth 100000 in
set_option maxHeartbeats 2000000 in
theorem pdq_sk {w : World} {s blk c : Nat} {L : List C} {ks : List ByteArray} (hl : ks.length ≤ 12) (hi : Calls Try.prog 58 #[.slice (some ⟨blk, 0, none⟩) ks.length c, .int .i64 0, .int .i64 ks.length, cmpV s] w fun e w' => e = .returned (.tuple #[]) ∧ OutR w L blk ks ks.length w') (lim : Int) :
    Calls Try.prog 56 #[.slice (some ⟨blk, 0, none⟩) ks.length c, .int .i64 0, .int .i64 ks.length, .int .i64 lim, cmpV s] w fun e w' => e = .returned (.tuple #[]) ∧ OutR w L blk ks ks.length w' := by
  have HI := Lib.hid hi
  clear hi
  obtain ⟨n, hn⟩ : ∃ n, n = ks.length := ⟨_, rfl⟩
  rw [← hn] at HI hl ⊢
  have HN := Lib.hid hn
  clear hn
  have hl' : (n : Int) ≤ 12 := by omega
  go_enter Try.func56, Try.ntmps56
  go_wp2_with fail
  refine wp_loop_rounds 1 ?_
  rw [rounds_succ]
  go_wp2_with fail
  with_reducible refine HI.out.mono ?_
  rintro e w' ⟨rfl, ho⟩
  have HO := Lib.hid ho
  clear ho
  go_wp2_with fail
  refine bodyPost_ret (results_none rfl _ _ _) rfl ?_
  exact ⟨rfl, HO.out⟩
set_option maxRecDepth 100000 in
set_option maxHeartbeats 2000000 in
theorem sort_sk {w : World} {s bm blk c : Nat} {cap tot : Int} {L : List C} (h : SkAt w s bm cap tot L) (hs : s ≠ blk) (hbm : bm ≠ blk) (hblk : blk < w.heap.size) (ks : List ByteArray) (hn : ks.Nodup) (hks : ∀ k ∈ ks, k.size ≤ maxLen) (hl : ks.length ≤ 12) (hr : Row w blk ks w) :
    Calls Try.prog 51 #[.slice (some ⟨blk, 0, none⟩) ks.length c, cmpV s] w fun e w' => e = .returned (.tuple #[]) ∧ OutR w L blk ks ks.length w' := by
  have HP := Lib.hid (fun lim => pdq_sk (c := c) (s := s) hl (insertion_sk h hs hbm hblk ks hn hks hl hr) lim)
  clear h hs hbm hn hks hr
  obtain ⟨n, hn⟩ : ∃ n, n = ks.length := ⟨_, rfl⟩
  rw [← hn] at HP hl ⊢
  have HN := Lib.hid hn
  clear hn
  have hl' : (n : Int) ≤ 12 := by omega
  go_enter Try.func51, Try.ntmps51
  go_wp2_with fail
  with_reducible refine (len_small n hl _).mono ?_
  rintro e w' ⟨v, rfl, rfl⟩
  go_wp2_with fail
  with_reducible refine (HP.out v).mono ?_
  rintro e w' ⟨rfl, ho⟩
  have HO := Lib.hid ho
  clear ho
  go_wp2_with fail
  go_end0
  exact ⟨rfl, HO.out⟩

/-- A new slice of strings that reads as xs. -/
def StrsN (lo : Nat) (W : World) (v : Value) (xs : List ByteArray) : Prop :=
  ∃ a c, v = .slice a xs.length c ∧ xs.length ≤ c ∧ ∀ (j : Nat) (s : ByteArray), xs[j]? = some s → ∃ b, a = some ⟨b, 0, none⟩ ∧ lo ≤ b ∧ W.cell? ⟨b, j, none⟩ = some (.string s)

def SortPost (w : World) (L : List C) (e : Ending) (w' : World) : Prop := ∃ v, e = .returned v ∧ StrsN w.heap.size w' v (L.map C.key) ∧ Keep (fun _ => False) w w'

theorem ks_perm {L : List C} {ss : List (List UInt8)} (h : KeysOf L ss) : (ss.map fun b => (⟨b.toArray⟩ : ByteArray)).Perm (L.map C.key) := by
  have h2 := h.map fun b => (⟨b.toArray⟩ : ByteArray)
  rw [List.map_map] at h2
  refine h2.trans (List.Perm.of_eq ?_)
  apply List.map_congr_left
  intro x _
  show (⟨x.key.data.toList.toArray⟩ : ByteArray) = x.key
  cases x.key
  simp

theorem row_of_owns {w : World} {lo g c n : Nat} {ss : List (List UInt8)} (h : w.ownsRow lo 9 1 (.slice (some ⟨g, 0, none⟩) n c) ss.length (ss.map encStr)) : Row w g (ss.map fun b => (⟨b.toArray⟩ : ByteArray)) w ∧ lo ≤ g ∧ g < w.heap.size ∧ n = ss.length := by
  refine ⟨⟨Keep.refl _ _, fun i x hx => ?_, fun i => ?_⟩, ?_⟩
  · rw [List.getElem?_map] at hx
    cases e : ss[i]? with
    | none => rw [e] at hx; cases hx
    | some b =>
      rw [e] at hx
      cases hx
      have := h.cells (g := g) rfl i (encStr b) (by rw [List.getElem?_map, e]; rfl)
      rw [Addr.add_lit, Nat.zero_add] at this
      exact this
  · rcases h.2 with ⟨e, _⟩ | ⟨g', cap, cur, e, hb, hh, _⟩
    · cases e
    · cases e
      unfold World.frozen?; simp only [hh]; simp
  · rcases h.2 with ⟨e, _⟩ | ⟨g', cap, cur, e, hb, hh, _⟩
    · cases e
    · cases e
      exact ⟨hb, (Array.getElem?_eq_some_iff.1 hh).1, rfl⟩

theorem sorted_keys {L : List C} (hk : (L.map C.key).Nodup) (hs : L.Pairwise BefC) : (L.map C.key).Pairwise (Bef L) := by
  rw [List.pairwise_map]
  have : ∀ (M : List C), (∀ x ∈ M, x ∈ L) → M.Pairwise BefC → M.Pairwise (fun a b => Bef L a.key b.key) := by
    intro M
    induction M with
    | nil => intro _ _; exact List.Pairwise.nil
    | cons x r ih =>
      intro hm hp
      rw [List.pairwise_cons] at hp ⊢
      exact ⟨fun y hy => (bef_iff hk (hm x (by simp)) (hm y (by simp [hy]))).2 (hp.1 y hy), ih (fun y hy => hm y (by simp [hy])) hp.2⟩
  exact this L (fun _ h => h) hs

set_option maxRecDepth 100000 in
set_option maxHeartbeats 1000000 in
theorem sorted_sk {w : World} {s bm Bm : Nat} {cap tot : Int} {L : List C} (h : SkAt w s bm cap tot L) (hsort : L.Pairwise BefC) (hB : Bm < w.heap.size) (hm : w.cell? ⟨Bm, 0, none⟩ = some (.map (some bm))) (hl : L.length ≤ 12) :
    Calls Try.prog 44 #[.func (.func 52) #[] #[ptr Bm], cmpV s] w (SortPost w L) := by
  have HC := Lib.hid (collect_sk h hB hm (by omega))
  have H := Lib.hid h
  have HS := Lib.hid hsort
  clear h hB hm hsort
  go_enter Try.func44, Try.ntmps44
  go_wp2_with fail
  with_reducible refine HC.out.mono ?_
  rintro e W ⟨v, ss, rfl, hS, hrow, hk⟩
  have HKO := Lib.hid hS
  have HK := Lib.hid hk
  have HSK := Lib.hid (H.out.keep hk (fun h => h) (fun h => h))
  clear HC
  rcases hrow.2 with ⟨rfl, h0⟩ | ⟨g, cp, cur, rfl, r⟩
  · have hss : ss = [] := by
      apply List.eq_nil_of_length_eq_zero
      have := hrow.1
      simpa using h0
    clear hrow hS hk h0
    go_wp2_with fail
    with_reducible refine (sort_none _ _ _ _).mono ?_
    rintro e w' ⟨rfl, rfl⟩
    go_wp2_with fail
    go_ret
    have hL : L = [] := by
      have := HKO.out.length_eq
      rw [hss] at this
      exact List.eq_nil_of_length_eq_zero (by simpa using this.symm)
    subst hL
    exact ⟨_, rfl, ⟨none, 0, rfl, by simp, by simp⟩, HK.out⟩
  · obtain ⟨hr, hlo, hgl, hnn⟩ := row_of_owns hrow
    have HCP := Lib.hid r.2.2.1
    clear hrow r
    have hperm := ks_perm hS
    have hlen : (ss.map fun b => (⟨b.toArray⟩ : ByteArray)).length = ss.length := by simp
    have hsl := hperm.length_eq
    rw [hlen, List.length_map] at hsl
    have hlt := H.out.lt
    have hso := sort_sk (c := cp) HSK.out (show s ≠ g by omega) (show bm ≠ g by omega) hgl (ss.map fun b => (⟨b.toArray⟩ : ByteArray)) (hperm.nodup_iff.2 H.out.keys) (fun k hk => by
      obtain ⟨x, hx, rfl⟩ := List.mem_map.1 (hperm.mem_iff.1 hk)
      exact H.out.ks x hx) (by omega) hr
    rw [hlen] at hso
    have HPM := Lib.hid hperm
    have HSO := Lib.hid hso
    have HNN := Lib.hid (And.intro hlo (And.intro hgl hsl))
    clear hr hperm hlen hso hsl hlt hS hk hlo hgl hnn
    go_wp2_with fail
    with_reducible refine HSO.out.mono ?_
    rintro e W2 ⟨rfl, ds, hrow, hpm, hsorted⟩
    have HD := Lib.hid (And.intro hrow (And.intro hpm hsorted))
    clear hrow hpm hsorted HSO
    go_wp2_with fail
    go_ret
    obtain ⟨hrow, hpm, hsorted⟩ := HD.out
    have hdl : ds.length = ss.length := by rw [hpm.length_eq]; simp
    have heq : ds = L.map C.key := by
      rw [List.take_of_length_le (by omega)] at hsorted
      exact (hpm.trans HPM.out).eq_of_pairwise (fun _ _ _ _ h1 h2 => absurd (h1.trans h2) (fun h => h.irrefl)) hsorted (sorted_keys H.out.keys HS.out)
    subst heq
    refine ⟨_, rfl, ⟨some ⟨g, 0, none⟩, cp, by rw [hdl]; rfl, by rw [hdl]; exact HCP.out, fun j k hj => ⟨g, rfl, HNN.out.1, hrow.c j k hj⟩⟩, HK.out.trans' hrow.k (fun i e => .inr (by have := HNN.out.1; omega))⟩

set_option maxRecDepth 100000 in
set_option maxHeartbeats 1000000 in
theorem ordered_sk {w : World} {s bm : Nat} {cap tot : Int} {L : List C} (h : SkAt w s bm cap tot L) (hsort : L.Pairwise BefC) (hl : L.length ≤ 12) :
    Calls Try.prog 34 #[ptr s] w (SortPost w L) := by
  have c2 := h.c2
  have H := Lib.hid h
  have HS := Lib.hid hsort
  clear h hsort
  go_enter Try.func34, Try.ntmps34
  go_wp2_with fail
  with_reducible refine (keys_any bm w).mono ?_
  rintro e W ⟨rfl, hW⟩
  have hk : Keep (fun _ => False) w W := by rw [hW]; exact (Keep.refl _ w).alloc _
  have hcell := new_cell w (.map (some bm)) 56
  rw [← hW] at hcell
  have hsz : w.heap.size < W.heap.size := by rw [hW]; simp
  have HSO := Lib.hid (sorted_sk (H.out.keep hk (fun h => h) (fun h => h)) HS.out hsz hcell.1 hl)
  have HK := Lib.hid (And.intro hk hsz)
  clear hW hk hcell hsz c2
  go_wp2_with fail
  with_reducible refine HSO.out.mono ?_
  rintro e W2 ⟨v, rfl, hst, hk2⟩
  have HF := Lib.hid (And.intro hst hk2)
  clear hst hk2
  go_wp2_with fail
  go_ret
  obtain ⟨⟨a, c, hv, hcc, hc⟩, hk2⟩ := HF.out
  exact ⟨_, rfl, ⟨a, c, hv, hcc, fun j k hj => by obtain ⟨b, h1, h2, h3⟩ := hc j k hj; exact ⟨b, h1, by have := HK.out.2; omega, h3⟩⟩, HK.out.1.trans hk2⟩
end Go.Proofs.Ytogkkghliogpeaa
