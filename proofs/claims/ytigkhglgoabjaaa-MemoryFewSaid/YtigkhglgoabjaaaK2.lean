/-
  sane answers true.
-/
import Derived.Test.YtigkhglgoabjaaaK3
namespace Go.Proofs.Ytigkhglgoabjaaa
open Go.RowKit Go.Shelf

abbrev ky (c : UInt8) : ByteArray := ⟨#[c]⟩
theorem ky_small (c : UInt8) : (ky c).size ≤ maxLen := by show 1 ≤ _; unfold maxLen; omega

theorem ints_new (W : World) (x y : Int) : IntsAt (W.alloc (.cells #[.int .i64 x, .int .i64 y] 3)) W.heap.size 0 [x, y] := by
  intro j v hj
  have hh : (W.alloc (.cells #[.int .i64 x, .int .i64 y] 3)).heap[W.heap.size]? = some (.cells #[.int .i64 x, .int .i64 y] 3) := World.alloc_heap_new _ _
  match j, hj with
  | 0, hj => cases hj; unfold World.cell?; simp only [hh]; rfl
  | 1, hj => cases hj; unfold World.cell?; simp only [hh]; rfl

theorem strs_new1 (W : World) (x : ByteArray) : StrsAt (W.alloc (.cells #[.string x] 9)) (.slice (some ⟨W.heap.size, 0, none⟩) 1 1) [x] := by
  refine ⟨_, _, rfl, fun j v hj => ⟨_, _, rfl, ?_⟩⟩
  have hh : (W.alloc (.cells #[.string x] 9)).heap[W.heap.size]? = some (.cells #[.string x] 9) := World.alloc_heap_new _ _
  match j, hj with
  | 0, hj => cases hj; unfold World.cell?; simp only [hh]; rfl
theorem strs_new2 (W : World) (x y : ByteArray) : StrsAt (W.alloc (.cells #[.string x, .string y] 9)) (.slice (some ⟨W.heap.size, 0, none⟩) 2 2) [x, y] := by
  refine ⟨_, _, rfl, fun j v hj => ⟨_, _, rfl, ?_⟩⟩
  have hh : (W.alloc (.cells #[.string x, .string y] 9)).heap[W.heap.size]? = some (.cells #[.string x, .string y] 9) := World.alloc_heap_new _ _
  match j, hj with
  | 0, hj => cases hj; unfold World.cell?; simp only [hh]; rfl
  | 1, hj => cases hj; unfold World.cell?; simp only [hh]; rfl

/-- Same at a row of the pool's and a new one, equal. -/
theorem same_eq {w : World} {p : Nat} {cap : Int} {sh : List Int} {L : List E} {rows : List (Value × List ByteArray)} (W : World) (va vb : Value) (xs : List ByteArray) (h : SP w p cap sh L rows W) (hm : (va, xs) ∈ rows) (hb : StrsAt W vb xs) (hx : xs.length ≤ 1000000000) :
    Calls Try.prog 23 #[va, vb] W fun e W' => e = .returned (.bool true) ∧ SP w p cap sh L rows W' := by
  refine (same_any va vb xs xs W (h.row hm) hb hx hx).mono ?_
  rintro e W' ⟨he, k, rfl⟩
  exact ⟨by rw [he]; simp, h.keep ((Keep.refl _ W).drewN k)⟩

theorem put_sp' {w : World} {p : Nat} {cap : Int} {sh : List Int} {L : List E} {rows : List (Value × List ByteArray)} (t : Int) (key : ByteArray) (z : Int) (W : World) (h : SP w p cap sh L rows W) (hks : key.size ≤ maxLen) (hz2 : z ≤ 9223372036854775807)
    (b : Bool) (T M : List E) (ks : List ByteArray) (n : Nat) (e : putI cap sh L t key z = (b, T, M)) (hn : T.length = n) (hks' : T.map E.key = ks) :
    Calls Try.prog 17 #[ptr p, .int .i64 t, .string key, .int .i64 z] W fun e W' => ∃ a c, e = .returned (.tuple #[.slice a n c, .bool b]) ∧ SP w p cap sh M ((.slice a n c, ks) :: rows) W' := by
  subst hn; subst hks'
  exact put_sp t key z W h hks hz2 b T M e

theorem keys_sp' {w : World} {p : Nat} {cap : Int} {sh : List Int} {L : List E} {rows : List (Value × List ByteArray)} (t : Int) (W : World) (h : SP w p cap sh L rows W) (ks : List ByteArray) (n : Nat) (e1 : keysOf L t = ks) (e2 : ks.length = n) :
    Calls Try.prog 20 #[ptr p, .int .i64 t] W fun e W' => ∃ a c, e = .returned (.slice a n c) ∧ SP w p cap sh L ((.slice a n c, ks) :: rows) W' := by
  subst e1; subst e2
  exact (keys_sp t W h).mono fun e W' ⟨a, c, h1, h2, _⟩ => ⟨a, c, h1, h2⟩

set_option maxRecDepth 100000 in
set_option maxHeartbeats 1000000 in
theorem sane_any (w : World) : Calls Try.prog 9 #[] w fun e w' => e = .returned (.bool true) ∧ Keep (fun _ => False) w w' := by
  go_enter Try.func9, Try.ntmps9
  go_wp2_with fail
  with_reducible refine (new_ok 10 _ 0 2 2 [4, 4] _ rfl (by decide) (by decide) (by decide) (by decide) (ints_new _ 4 4) rfl).mono ?_
  rintro e W1 ⟨P, rfl, hP, e1, e2, e3, k1, hf⟩
  have H1 := Lib.hid (SP.new ((Keep.refl (fun _ => False) w).alloc _) hP e1 e2 e3 k1 hf)
  clear hP k1 hf e1 e2 e3
  generalize P.p = p at *
  clear P
  go_wp2_with fail
  with_reducible refine (new_no 10 _ 0 2 2 [4, 7] _ rfl (by decide) (by decide) (by decide) (by decide) (ints_new _ 4 7) rfl).mono ?_
  rintro e W2 ⟨rfl, hw2⟩
  have H2 := Lib.hid (H1.out.keep (hw2 ▸ (Keep.refl _ W1).alloc _))
  clear H1
  clear hw2
  go_wp2_with fail
  with_reducible refine (put_sp' 0 (ky 97) 3 _ H2.out (ky_small _) (by decide) true [] [⟨ky 97, 0, 3⟩] [] 0 rfl rfl rfl).mono ?_
  rintro e W3 ⟨a3, c3, rfl, h⟩
  have H3 := Lib.hid h
  clear H2 h
  go_wp2_with fail
  with_reducible refine (put_sp' 0 (ky 98) 3 _ H3.out (ky_small _) (by decide) true [] [⟨ky 97, 0, 3⟩, ⟨ky 98, 0, 3⟩] [] 0 rfl rfl rfl).mono ?_
  rintro e W4 ⟨a4, c4, rfl, h⟩
  have H4 := Lib.hid h
  clear H3 h
  go_wp2_with fail
  with_reducible refine (put_sp' 0 (ky 99) 3 _ H4.out (ky_small _) (by decide) true [] [⟨ky 97, 0, 3⟩, ⟨ky 98, 0, 3⟩, ⟨ky 99, 0, 3⟩] [] 0 rfl rfl rfl).mono ?_
  rintro e W5 ⟨a5, c5, rfl, h⟩
  have H5 := Lib.hid h
  clear H4 h
  go_wp2_with fail
  with_reducible refine (put_sp' 1 (ky 120) 2 _ H5.out (ky_small _) (by decide) true [⟨ky 97, 0, 3⟩] [⟨ky 98, 0, 3⟩, ⟨ky 99, 0, 3⟩, ⟨ky 120, 1, 2⟩] [ky 97] 1 rfl rfl rfl).mono ?_
  rintro e W6 ⟨a6, c6, rfl, h⟩
  have H6 := Lib.hid h
  clear H5 h
  go_wp2_with fail
  with_reducible refine (put_sp' 1 (ky 121) 2 _ H6.out (ky_small _) (by decide) true [] [⟨ky 98, 0, 3⟩, ⟨ky 99, 0, 3⟩, ⟨ky 120, 1, 2⟩, ⟨ky 121, 1, 2⟩] [] 0 rfl rfl rfl).mono ?_
  rintro e W7 ⟨a7, c7, rfl, h⟩
  have H7 := Lib.hid h
  clear H6 h
  go_wp2_with fail
  with_reducible refine (put_sp' 0 (ky 100) 3 _ H7.out (ky_small _) (by decide) true [⟨ky 98, 0, 3⟩] [⟨ky 99, 0, 3⟩, ⟨ky 120, 1, 2⟩, ⟨ky 121, 1, 2⟩, ⟨ky 100, 0, 3⟩] [ky 98] 1 rfl rfl rfl).mono ?_
  rintro e W8 ⟨a8, c8, rfl, h⟩
  have H8 := Lib.hid h
  clear H7 h
  go_wp2_with fail
  with_reducible refine (put_sp' 1 (ky 122) 9 _ H8.out (ky_small _) (by decide) false [] [⟨ky 99, 0, 3⟩, ⟨ky 120, 1, 2⟩, ⟨ky 121, 1, 2⟩, ⟨ky 100, 0, 3⟩] [] 0 rfl rfl rfl).mono ?_
  rintro e W9 ⟨a9, c9, rfl, h⟩
  have H9 := Lib.hid h
  clear H8 h
  go_wp2_with fail
  with_reducible refine (same_eq _ _ _ [ky 97] (H9.out.keep ((Keep.refl _ W9).alloc _)) (by simp) (strs_new1 _ _) (by decide)).mono ?_
  rintro e W10 ⟨rfl, h⟩
  have H10 := Lib.hid h
  clear H9 h
  go_wp2_with fail
  with_reducible refine (same_eq _ _ _ [ky 98] (H10.out.keep ((Keep.refl _ W10).alloc _)) (by simp) (strs_new1 _ _) (by decide)).mono ?_
  rintro e W11 ⟨rfl, h⟩
  have H11 := Lib.hid h
  clear H10 h
  go_wp2_with fail
  with_reducible refine (used_sp 0 _ H11.out).mono ?_
  rintro e w' ⟨rfl, rfl⟩
  rw [show usedI [4, 4] [⟨ky 99, 0, 3⟩, ⟨ky 120, 1, 2⟩, ⟨ky 121, 1, 2⟩, ⟨ky 100, 0, 3⟩] 0 = 6 from rfl]
  go_wp2_with fail
  with_reducible refine (used_sp 1 _ H11.out).mono ?_
  rintro e w' ⟨rfl, rfl⟩
  rw [show usedI [4, 4] [⟨ky 99, 0, 3⟩, ⟨ky 120, 1, 2⟩, ⟨ky 121, 1, 2⟩, ⟨ky 100, 0, 3⟩] 1 = 4 from rfl]
  go_wp2_with fail
  with_reducible refine (free_sp _ H11.out).mono ?_
  rintro e w' ⟨rfl, rfl⟩
  rw [show (10 : Int) - tot [⟨ky 99, 0, 3⟩, ⟨ky 120, 1, 2⟩, ⟨ky 121, 1, 2⟩, ⟨ky 100, 0, 3⟩] = 0 from rfl]
  go_wp2_with fail
  with_reducible refine (keys_sp' 0 _ H11.out [ky 99, ky 100] 2 rfl rfl).mono ?_
  rintro e W12 ⟨a12, c12, rfl, h⟩
  have H12 := Lib.hid h
  clear H11 h
  go_wp2_with fail
  with_reducible refine (same_eq _ _ _ [ky 99, ky 100] (H12.out.keep ((Keep.refl _ W12).alloc _)) (by simp) (strs_new2 _ _ _) (by decide)).mono ?_
  rintro e W13 ⟨rfl, h⟩
  have H13 := Lib.hid h
  clear H12 h
  go_wp2_with fail
  with_reducible refine (has_sp (ky 120) _ H13.out (ky_small _)).mono ?_
  rintro e w' ⟨rfl, rfl⟩
  rw [show (atKey [⟨ky 99, 0, 3⟩, ⟨ky 120, 1, 2⟩, ⟨ky 121, 1, 2⟩, ⟨ky 100, 0, 3⟩] (ky 120)).isSome = true from rfl]
  go_wp2_with fail
  with_reducible refine (tenant_sp (ky 120) _ H13.out (ky_small _)).mono ?_
  rintro e w' ⟨rfl, rfl⟩
  rw [show tenI [⟨ky 99, 0, 3⟩, ⟨ky 120, 1, 2⟩, ⟨ky 121, 1, 2⟩, ⟨ky 100, 0, 3⟩] (ky 120) = 1 from rfl]
  go_wp2_with fail
  with_reducible refine (tenant_sp (ky 97) _ H13.out (ky_small _)).mono ?_
  rintro e w' ⟨rfl, rfl⟩
  rw [show tenI [⟨ky 99, 0, 3⟩, ⟨ky 120, 1, 2⟩, ⟨ky 121, 1, 2⟩, ⟨ky 100, 0, 3⟩] (ky 97) = -1 from rfl]
  go_wp2_with fail
  with_reducible refine (touch_sp (ky 99) _ H13.out (ky_small _)).mono ?_
  rintro e W14 ⟨rfl, h⟩
  rw [show (atKey [⟨ky 99, 0, 3⟩, ⟨ky 120, 1, 2⟩, ⟨ky 121, 1, 2⟩, ⟨ky 100, 0, 3⟩] (ky 99)).isSome = true from rfl]
  rw [show touI [⟨ky 99, 0, 3⟩, ⟨ky 120, 1, 2⟩, ⟨ky 121, 1, 2⟩, ⟨ky 100, 0, 3⟩] (ky 99) = [⟨ky 120, 1, 2⟩, ⟨ky 121, 1, 2⟩, ⟨ky 100, 0, 3⟩, ⟨ky 99, 0, 3⟩] from rfl] at h
  have H14 := Lib.hid h
  clear H13 h
  go_wp2_with fail
  with_reducible refine (keys_sp' 0 _ H14.out [ky 100, ky 99] 2 rfl rfl).mono ?_
  rintro e W15 ⟨a15, c15, rfl, h⟩
  have H15 := Lib.hid h
  clear H14 h
  go_wp2_with fail
  with_reducible refine (same_eq _ _ _ [ky 100, ky 99] (H15.out.keep ((Keep.refl _ W15).alloc _)) (by simp) (strs_new2 _ _ _) (by decide)).mono ?_
  rintro e W16 ⟨rfl, h⟩
  have H16 := Lib.hid h
  clear H15 h
  go_wp2_with fail
  with_reducible refine (remove_sp (ky 120) _ H16.out (ky_small _)).mono ?_
  rintro e W17 ⟨rfl, h⟩
  rw [show (atKey [⟨ky 120, 1, 2⟩, ⟨ky 121, 1, 2⟩, ⟨ky 100, 0, 3⟩, ⟨ky 99, 0, 3⟩] (ky 120)).isSome = true from rfl]
  rw [show woE [⟨ky 120, 1, 2⟩, ⟨ky 121, 1, 2⟩, ⟨ky 100, 0, 3⟩, ⟨ky 99, 0, 3⟩] (ky 120) = [⟨ky 121, 1, 2⟩, ⟨ky 100, 0, 3⟩, ⟨ky 99, 0, 3⟩] from rfl] at h
  have H17 := Lib.hid h
  clear H16 h
  go_wp2_with fail
  with_reducible refine (free_sp _ H17.out).mono ?_
  rintro e w' ⟨rfl, rfl⟩
  rw [show (10 : Int) - tot [⟨ky 121, 1, 2⟩, ⟨ky 100, 0, 3⟩, ⟨ky 99, 0, 3⟩] = 2 from rfl]
  go_wp2_with fail
  go_ret
  exact ⟨rfl, H17.out.k⟩
end Go.Proofs.Ytigkhglgoabjaaa
