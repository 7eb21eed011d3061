/-
  The law file's helpers: name, shape.
-/
import Derived.Test.YtigkhglgoabjaaaM1
import Derived.Laws.BytesArg
namespace Go.Proofs.Ytigkhglgoabjaaa
open Go.RowKit Go.Shelf

theorem pk_bd (c n : Int) (hn : 1 ≤ n) : 0 ≤ pk c n ∧ pk c n < n := by
  unfold pk
  exact ⟨Int.emod_nonneg _ (by omega), Int.emod_lt_of_pos _ (by omega)⟩

/-- The string of one byte. -/
def one (n : Int) : ByteArray := strOfNums [n]
theorem one_small (n : Int) : (one n).size ≤ maxLen := by show 1 ≤ _; unfold maxLen; omega

theorem conv_one (W : World) (n : Int) : (convert 45 9 (.slice (some ⟨W.heap.size, 0, none⟩) 1 1)).run Try.prog (W.alloc (.cells #[.int .u8 n] 5)) = .ok (.string (one n)) (W.alloc (.cells #[.int .u8 n] 5)) :=
  run_convert_bytes_arg _ 45 5 Try.underlying45 Try.underlying5 W.heap.size 0 1 1 [n] rfl (fun i hi => by
    obtain rfl : i = 0 := by omega
    have hh : (W.alloc (.cells #[.int .u8 n] 5)).heap[W.heap.size]? = some (.cells #[.int .u8 n] 5) := World.alloc_heap_new _ _
    unfold World.cell?; simp only [hh]; rfl) 9 Try.underlying9

def nm (k : Int) : ByteArray := one (97 + pk k 12)

set_option maxHeartbeats 400000 in
theorem name_any (k : Int) (w : World) (h1 : -9223372036854775808 ≤ k) (h2 : k ≤ 9223372036854775807) :
    Calls Try.prog 11 #[.int .i64 k] w fun e w' => e = .returned (.string (nm k)) ∧ Keep (fun _ => False) w w' := by
  have hb := pk_bd k 12 (by omega)
  have hcv := fun n => conv_one w n
  unfold nm
  go_enter Try.func11, Try.ntmps11
  go_wp2_with (go_at_call 14; refine (pick_any _ _ _ h1 h2 (by omega) (by omega)).mono ?_; rintro e w' ⟨rfl, rfl⟩)
  go_ret
  exact ⟨rfl, (Keep.refl _ w).alloc _⟩

/-! ### shape -/
/-- One share more: what is chosen so far, and what is left. -/
def shStep (s : List Int × Int) (x : Int) : List Int × Int := (s.1 ++ [pk x (s.2 + 1)], s.2 - pk x (s.2 + 1))
def shRun (cap : Int) (xs : List Int) : List Int × Int := xs.foldl shStep ([], cap)
theorem shRun_snoc (cap : Int) (xs : List Int) (x : Int) : shRun cap (xs ++ [x]) = shStep (shRun cap xs) x := by simp [shRun]
theorem shRun_length (cap : Int) (xs : List Int) : (shRun cap xs).1.length = xs.length := by
  have : ∀ (xs : List Int) (s : List Int × Int), (xs.foldl shStep s).1.length = s.1.length + xs.length := by
    intro xs
    induction xs with
    | nil => intro s; simp
    | cons x r ih => intro s; rw [List.foldl_cons, ih]; simp [shStep]; omega
  have h := this xs ([], cap)
  simp only [List.length_nil, Nat.zero_add] at h
  exact h

/-- The shares are not negative, and their sum is what has gone from the capacity. -/
theorem sharesOk_snoc : ∀ (l : List Int) (left x : Int), sharesOk left l = true → 0 ≤ x → x ≤ left - l.sum → sharesOk left (l ++ [x]) = true
  | [], left, x, _, h0, h1 => by simp [sharesOk, h0] at *; omega
  | a :: r, left, x, h, h0, h1 => by
    simp [sharesOk] at h ⊢
    exact ⟨h.1, sharesOk_snoc r (left - a) x h.2 h0 (by simp at h1; omega)⟩
def ShInv (cap : Int) (s : List Int × Int) : Prop := sharesOk cap s.1 = true ∧ s.2 = cap - s.1.sum ∧ 0 ≤ s.2 ∧ s.2 ≤ cap
theorem shStep_inv {cap : Int} {s : List Int × Int} (h : ShInv cap s) (x : Int) : ShInv cap (shStep s x) := by
  obtain ⟨h1, h2, h3, h4⟩ := h
  have hp := pk_bd x (s.2 + 1) (by omega)
  refine ⟨sharesOk_snoc _ _ _ h1 hp.1 (by omega), ?_, ?_, ?_⟩
  · simp [shStep]; omega
  · simp [shStep]; omega
  · simp [shStep]; omega
theorem shRun_inv (cap : Int) (h : 0 ≤ cap) (xs : List Int) : ShInv cap (shRun cap xs) := by
  have : ∀ (xs : List Int) (s : List Int × Int), ShInv cap s → ShInv cap (xs.foldl shStep s) := by
    intro xs
    induction xs with
    | nil => intro s hs; exact hs
    | cons x r ih => intro s hs; exact ih _ (shStep_inv hs x)
  exact this xs _ ⟨rfl, by simp, h, Int.le_refl _⟩

def capOf (c : Int) : Int := 1 + pk c 30
theorem capOf_bd (c : Int) : 1 ≤ capOf c ∧ capOf c ≤ 30 := by have := pk_bd c 30 (by omega); unfold capOf; omega
def sharesOf (c : Int) (xs : List Int) : List Int := if xs = [] then [capOf c] else (shRun (capOf c) (xs.take 4)).1

theorem sharesOf_ok (c : Int) (xs : List Int) : sharesOk (capOf c) (sharesOf c xs) = true ∧ 1 ≤ (sharesOf c xs).length ∧ (sharesOf c xs).length ≤ 4 := by
  have hc := capOf_bd c
  unfold sharesOf
  split
  · exact ⟨by simp [sharesOk]; omega, by simp, by simp⟩
  · rename_i h
    refine ⟨(shRun_inv _ (by omega) _).1, ?_, ?_⟩
    · rw [shRun_length]
      cases xs with
      | nil => exact absurd rfl h
      | cons a r => simp
    · rw [shRun_length, List.length_take]; omega

/-- A slice of integers, wherever it lies. -/
def RowIn (w : World) (a : Option Addr) (xs : List Int) : Prop := ∀ (j : Nat) (x : Int), xs[j]? = some x → ∃ b off, a = some ⟨b, off, none⟩ ∧ w.cell? ⟨b, off + j, none⟩ = some (.int .i64 x)

def ShapePost (c : Int) (xs : List Int) (w : World) (e : Ending) (w' : World) : Prop :=
  ∃ g cp, e = .returned (.tuple #[.int .i64 (capOf c), .slice (some ⟨g, 0, none⟩) (sharesOf c xs).length cp]) ∧ w'.ownsRow w.heap.size 3 1 (.slice (some ⟨g, 0, none⟩) (sharesOf c xs).length cp) (sharesOf c xs).length (ints (sharesOf c xs)) ∧ Keep (fun _ => False) w w'

set_option maxRecDepth 100000 in
set_option maxHeartbeats 1000000 in
theorem shape_none (c : Int) (a : Option Addr) (cp : Nat) (w : World) (h1 : -9223372036854775808 ≤ c) (h2 : c ≤ 9223372036854775807) :
    Calls Try.prog 24 #[.int .i64 c, .slice a 0 cp] w (ShapePost c [] w) := by
  have hb := pk_bd c 30 (by omega)
  obtain ⟨v', w', r1, r2, r3, r4, g, c', rfl⟩ := app_int w 22 w.heap.size (.slice none 0 0) 0 [] (1 + pk c 30) (World.ownsRow_nil _ _ _ _) (by omega) (Nat.le_refl _)
  have HF : Hid (ShapePost c [] w (.returned (.tuple #[.int .i64 (1 + pk c 30), .slice (some ⟨g, 0, none⟩) 1 c'])) w') := Lib.hid ⟨g, c', rfl, r2, r3.mono (fun k hk => by cases hk)⟩
  clear r2 r3 r4
  go_enter Try.func24, Try.ntmps24
  go_wp2_with fail
  with_reducible refine (pick_any _ _ _ h1 h2 (by omega) (by omega)).mono ?_
  rintro e w1 ⟨rfl, rfl⟩
  go_wp2_with fail
  go_loop [6, 7, 8] (fun l o i => l = .int .i64 (1 + pk c 30) ∧ o = .slice none 0 0 ∧ i = .int .i64 0) (fun _ _ i => 0)
  case atStart => exact ⟨rfl, rfl, rfl⟩
  case round =>
    obtain ⟨rfl, rfl, rfl⟩ := hrel
    go_wp2_with (at_builtin; refine wpList_app rfl (.tmp 41) (.tmp 43) 22 rfl rfl rfl r1 ?_)
    go_ret2
    exact HF.out

theorem ints_snoc (l : List Int) (x : Int) : ints l ++ [.int .i64 x] = ints (l ++ [x]) := by simp [ints]

theorem ownsRow_form {W : World} {lo : Nat} {e : TypeId} {v : Value} {n : Nat} {xs : List Value} (h : W.ownsRow lo e 1 v n xs) : ∃ a c, v = .slice a n c := by
  rcases h.2 with ⟨rfl, hx⟩ | ⟨g, cap, cur, rfl, r⟩
  · have := h.1
    exact ⟨none, 0, by rw [show n = 0 by simp_all]⟩
  · exact ⟨_, _, rfl⟩

/-- shape's loop after k shares. -/
def ShR (w : World) (c : Int) (xs : List Int) (k : Nat) (l o : Value) (wr : World) : Prop :=
  l = .int .i64 (shRun (capOf c) (xs.take k)).2 ∧ wr.ownsRow w.heap.size 3 1 o k (ints (shRun (capOf c) (xs.take k)).1) ∧ Keep (fun _ => False) w wr

set_option maxRecDepth 100000 in
set_option maxHeartbeats 1000000 in
theorem shape_some (c : Int) (b off n cp : Nat) (xs : List Int) (w : World) (h1 : -9223372036854775808 ≤ c) (h2 : c ≤ 9223372036854775807) (hn : xs.length = n) (h0 : 1 ≤ n) (hn2 : n ≤ 9223372036854775807) (hx : IntsAt w b off xs) (hw : ∀ x ∈ xs, -9223372036854775808 ≤ x ∧ x ≤ 9223372036854775807) :
    Calls Try.prog 24 #[.int .i64 c, .slice (some ⟨b, off, none⟩) n cp] w (ShapePost c xs w) := by
  have hb := pk_bd c 30 (by omega)
  have HX := Lib.hid hx; clear hx
  have HN := Lib.hid hn; clear hn
  have HW := Lib.hid hw; clear hw
  go_enter Try.func24, Try.ntmps24
  go_wp2_with fail
  with_reducible refine (pick_any _ _ _ h1 h2 (by omega) (by omega)).mono ?_
  rintro e w1 ⟨rfl, rfl⟩
  go_wp2_with fail
  go_loopw [6, 7, 8] (fun l o i wr => ∃ k : Nat, k ≤ n ∧ k ≤ 4 ∧ i = .int .i64 k ∧ ShR w c xs k l o wr) (fun _ _ i _ => 4 - (intOf i).toNat)
  case atStart => exact ⟨0, by omega, by omega, rfl, rfl, World.ownsRow_nil _ _ _ _, Keep.refl _ _⟩
  case round =>
    obtain ⟨k, hk, hk4, rfl, hl, ho, kk⟩ := hrel
    have hlen : (shRun (capOf c) (xs.take k)).1.length = k := by rw [shRun_length, List.length_take]; have := HN.out; omega
    obtain ⟨hi1, hi2, hi3, hi4⟩ := shRun_inv (capOf c) (by have := capOf_bd c; omega) (xs.take k)
    have hcb := capOf_bd c
    obtain ⟨a', c', rfl⟩ := ownsRow_form ho
    by_cases hlt : k < n ∧ k < 4
    · obtain ⟨hkn, hk4'⟩ := hlt
      have hget : xs[k]? = some (xs.getD k 0) := by rw [List.getD_eq_getElem?_getD, List.getElem?_eq_getElem (by have := HN.out; omega)]; rfl
      have hcell := kk.cell (HX.out k _ hget) (fun h => h)
      have hyb := HW.out (xs.getD k 0) (List.mem_of_getElem? hget)
      have hst : shRun (capOf c) (xs.take (k + 1)) = shStep (shRun (capOf c) (xs.take k)) (xs.getD k 0) := by rw [take_succ_get hget, shRun_snoc]
      generalize xs.getD k 0 = y at hcell hyb hst
      have HST := Lib.hid hst
      clear hst hget hi1 hi2 hlen
      subst hl
      generalize hs1 : (shRun (capOf c) (xs.take k)) = s at *
      have HS1 := Lib.hid hs1
      clear hs1
      have hp := pk_bd y (s.2 + 1) (by omega)
      obtain ⟨v', w', r1, r2, r3, r4, r5⟩ := app_int wr 22 w.heap.size (.slice a' k c') k (ints s.1) (pk y (s.2 + 1)) ho (by omega) kk.size
      have hlt' := ho.lt
      have HF : Hid (ShR w c xs (k + 1) (.int .i64 (s.2 - pk y (s.2 + 1))) v' w') := Lib.hid (by
        unfold ShR
        rw [HST.out]
        refine ⟨rfl, ?_, kk.none_of r3 (fun i hi => (hlt' i hi).1)⟩
        rw [ints_snoc] at r2
        exact r2)
      clear r2 r3 r4 ho hlt' r5
      go_wp2_with fail
      with_reducible refine (pick_any _ _ _ hyb.1 hyb.2 (by omega) (by omega)).mono ?_
      rintro e w1 ⟨rfl, rfl⟩
      go_wp2_with (at_builtin; refine wpList_app rfl (.tmp 31) (.tmp 33) 22 rfl rfl rfl r1 ?_)
      go_roundw
      case rel => exact ⟨k + 1, by omega, by omega, by go_num, HF.out⟩
      case measure => simp [intOf]; omega
    · have hsh : (shRun (capOf c) (xs.take k)).1 = sharesOf c xs := by
        have hn' := HN.out
        have e : xs.take k = xs.take 4 := by
          by_cases h4 : k = 4
          · rw [h4]
          · rw [List.take_of_length_le (by omega), List.take_of_length_le (by omega)]
        have e2 : xs ≠ [] := fun h => by rw [h] at hn'; simp at hn'; omega
        rw [e, sharesOf, if_neg e2]
      have hk0 : ((k : Int) == 0) = false := by simp; omega
      have HF : Hid (∀ e, e = Ending.returned (.tuple #[.int .i64 (1 + pk c 30), .slice a' k c']) → ShapePost c xs w e wr) := Lib.hid (by
        rintro e rfl
        rw [hsh] at hlen ho
        rcases ho.2 with ⟨e, e2⟩ | ⟨g, cap, cur, e, r⟩
        · cases e; omega
        · cases e
          refine ⟨g, c', ?_, ?_, kk⟩
          · rw [hlen]; rfl
          · rw [hlen]; exact ho)
      clear ho hsh kk hi1 hi2 hi3 hi4 hlen
      subst hl
      by_cases hkn : k < n
      · go_wp2_with fail
        go_ret2
        exact HF.out _ rfl
      · go_wp2_with fail
        go_ret2
        exact HF.out _ rfl

theorem shape_any (c : Int) (a : Option Addr) (n cp : Nat) (xs : List Int) (w : World) (h1 : -9223372036854775808 ≤ c) (h2 : c ≤ 9223372036854775807) (hn : xs.length = n) (hn2 : n ≤ 9223372036854775807) (hx : RowIn w a xs) (hw : ∀ x ∈ xs, -9223372036854775808 ≤ x ∧ x ≤ 9223372036854775807) :
    Calls Try.prog 24 #[.int .i64 c, .slice a n cp] w (ShapePost c xs w) := by
  cases xs with
  | nil => subst hn; exact shape_none c a cp w h1 h2
  | cons x r =>
    obtain ⟨b, off, rfl, _⟩ := hx 0 x rfl
    refine shape_some c b off n cp (x :: r) w h1 h2 hn (by simp at hn; omega) hn2 (fun j y hj => ?_) hw
    obtain ⟨b', off', e, hc⟩ := hx j y hj
    cases e
    exact hc

/-! ### begin -/
theorem intsAt_of_owns {W : World} {lo g n c : Nat} {xs : List Int} (h : W.ownsRow lo 3 1 (.slice (some ⟨g, 0, none⟩) n c) n (ints xs)) : IntsAt W g 0 xs := fun j x hj => by
  have := h.cells (g := g) rfl j (.int .i64 x) (by rw [List.getElem?_map, hj]; rfl)
  rw [Addr.add_lit] at this
  exact this

/-- A pool with its shape, at block b. -/
structure WorldAt (W : World) (b p g cp : Nat) (cap : Int) (sh : List Int) : Prop where
  c0 : W.cell? ⟨b, 0, none⟩ = some (ptr p)
  c1 : W.cell? ⟨b, 1, none⟩ = some (.int .i64 cap)
  c2 : W.cell? ⟨b, 2, none⟩ = some (.slice (some ⟨g, 0, none⟩) sh.length cp)
  sh : IntsAt W g 0 sh

def BeginPost (c : Int) (xs : List Int) (w : World) (e : Ending) (w' : World) : Prop :=
  ∃ (b g cp : Nat) (P : Pl), e = .returned (.tuple #[ptr b, .bool true]) ∧ WorldAt w' b P.p g cp (capOf c) (sharesOf c xs) ∧ SS w P w' ∧ P.cap = capOf c ∧ P.sh = sharesOf c xs ∧ P.L = [] ∧ ¬ P.foot b ∧ ¬ P.foot g ∧ w.heap.size ≤ b ∧ w.heap.size ≤ g

set_option maxRecDepth 100000 in
set_option maxHeartbeats 1000000 in
theorem begin_any (c : Int) (a : Option Addr) (n cp : Nat) (xs : List Int) (w : World) (h1 : -9223372036854775808 ≤ c) (h2 : c ≤ 9223372036854775807) (hn : xs.length = n) (hn2 : n ≤ 9223372036854775807) (hx : RowIn w a xs) (hw : ∀ x ∈ xs, -9223372036854775808 ≤ x ∧ x ≤ 9223372036854775807) :
    Calls Try.prog 10 #[.int .i64 c, .slice a n cp] w (BeginPost c xs w) := by
  have hsp := shape_any c a n cp xs w h1 h2 hn hn2 hx hw
  have HSP := Lib.hid hsp
  clear hsp hn hx hw
  go_enter Try.func10, Try.ntmps10
  go_wp2_with fail
  with_reducible refine HSP.out.mono ?_
  rintro e W1 ⟨g, c1, rfl, ho, k1⟩
  have HO := Lib.hid ho
  have K1 := Lib.hid k1
  clear ho k1 HSP
  have hok := sharesOf_ok c xs
  have hcb := capOf_bd c
  have hia : IntsAt W1 g 0 (sharesOf c xs) := intsAt_of_owns HO.out
  have HI := Lib.hid hia
  clear hia
  generalize hl : (sharesOf c xs).length = m at *
  have HL := Lib.hid hl
  clear hl
  go_wp2_with fail
  with_reducible refine (new_ok (capOf c) _ _ _ _ _ _ HL.out hcb.1 (by omega) hok.2.1 (by omega) HI.out hok.1).mono ?_
  rintro e W2 ⟨P, rfl, hP, e1, e2, e3, k2, hf⟩
  have hgl := (HO.out.lt g rfl)
  have HF : Hid (BeginPost c xs w (.returned (.tuple #[ptr W2.heap.size, .bool true])) (W2.alloc (.cells #[ptr P.p, .int .i64 (capOf c), .slice (some ⟨g, 0, none⟩) m c1] 34))) := Lib.hid (by
    have hh : (W2.alloc (.cells #[ptr P.p, .int .i64 (capOf c), .slice (some ⟨g, 0, none⟩) m c1] 34)).heap[W2.heap.size]? = some (.cells #[ptr P.p, .int .i64 (capOf c), .slice (some ⟨g, 0, none⟩) m c1] 34) := World.alloc_heap_new _ _
    refine ⟨W2.heap.size, g, c1, P, rfl, ⟨?_, ?_, ?_, ?_⟩, ⟨?_, ?_, ?_⟩, e1, e2, e3, ?_, ?_, ?_, ?_⟩
    · unfold World.cell?; simp only [hh]; rfl
    · unfold World.cell?; simp only [hh]; rfl
    · unfold World.cell?; simp only [hh]; rw [HL.out]; rfl
    · exact (HI.out.keep k2 (fun h => h)).keep ((Keep.refl (fun _ => False) W2).alloc _) (fun h => h)
    · exact hP.keep (A := fun _ => False) ((Keep.refl _ W2).alloc _) (fun _ _ h => h)
    · exact (K1.out.trans k2).alloc _
    · exact fun i hi => Nat.le_trans K1.out.size (hf i hi)
    · exact fun h => by have := hP.lt h; omega
    · exact fun h => by have := hf g h; omega
    · exact Nat.le_trans K1.out.size k2.size
    · exact hgl.1)
  clear hP k2 hf e1 e2 e3
  go_wp2_with fail
  go_ret2
  exact HF.out

/-! ### uses -/
def usesOf (sh : List Int) (L : List E) : List Int := (List.range sh.length).map (usedOf L)
end Go.Proofs.Ytigkhglgoabjaaa
