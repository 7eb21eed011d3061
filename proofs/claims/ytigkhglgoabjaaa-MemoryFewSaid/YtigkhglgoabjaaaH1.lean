/-
  slices.Clone, begin, New.
-/
import Derived.Test.YtigkhglgoabjaaaF8
import Derived.Deep.OwnRows
namespace Go.Proofs.Ytigkhglgoabjaaa
open Go.RowKit Go.Shelf

abbrev ints (xs : List Int) : List Value := xs.map (Value.int .i64)

/-- A slice's cells, as integers. -/
def IntsAt (w : World) (b off : Nat) (xs : List Int) : Prop := ∀ (j : Nat) (x : Int), xs[j]? = some x → w.cell? ⟨b, off + j, none⟩ = some (.int .i64 x)

theorem IntsAt.cells {w : World} {b off : Nat} {xs : List Int} (h : IntsAt w b off xs) : ∀ j u, (ints xs)[j]? = some u → w.cell? ((⟨b, off, none⟩ : Addr).add j) = some u := by
  intro j u hj
  rw [List.getElem?_map] at hj
  cases e : xs[j]? with
  | none => rw [e] at hj; cases hj
  | some x => rw [e] at hj; cases hj; rw [Addr.add_lit]; exact h j x e

set_option maxHeartbeats 400000 in
theorem clone_any (b off n c : Nat) (xs : List Int) (w : World) (hn : xs.length = n) (hn2 : n ≤ 1000000) (hc : IntsAt w b off xs) :
    Calls Try.prog 34 #[.slice (some ⟨b, off, none⟩) n c] w fun e w' => ∃ g' c', e = .returned (.slice (some ⟨g', 0, none⟩) n c') ∧ w'.ownsRow w.heap.size 3 1 (.slice (some ⟨g', 0, none⟩) n c') n (ints xs) ∧ Keep (fun _ => False) w w' := by
  obtain ⟨i0, hi, hz0, hz1, hz2⟩ := info_parts info3
  obtain ⟨v', w', h1, h2, h3, h4, h5⟩ := run_append_own_at (P := Try.prog) (w.alloc (.cells #[] 3)) w.heap.size 22 22 3 i0 (.int .i64 0) 1 8 Try.underlying22 hi hz0 hz1 hz2 rfl (by decide) (.slice (some ⟨w.heap.size, 0, none⟩) 0 0) 0 []
    (World.ownsRow_made w #[] 0 (Nat.le_refl _) (by unfold maxLen; omega) rfl) ⟨b, off, none⟩ n c (ints xs) (by simp [hn])
    (fun j u hj => by
      have hw := hc.cells j u hj
      have hb := World.block_lt_of_cell? _ _ hw
      rw [World.cell?_alloc_lt _ _ _ hb]; exact hw) (by simp [Value.oneCell']) (by unfold maxLen; omega) (by omega) (by simp)
  have HV : Hid (∃ g' c', Ending.returned v' = .returned (.slice (some ⟨g', 0, none⟩) n c') ∧ w'.ownsRow w.heap.size 3 1 (.slice (some ⟨g', 0, none⟩) n c') n (ints xs) ∧ Keep (fun _ => False) w w') := by
    have hk := ((Keep.refl (fun _ => False) w).alloc (.cells #[] 3)).trans' (Keep.of_grown h3) (fun i e => .inr (by cases e; exact Nat.le_refl _))
    rw [Nat.zero_add, List.nil_append] at h2
    rcases h2.2 with ⟨e, _⟩ | ⟨g', cap, cur, e, r⟩
    · have := (h4.1 e).1; cases this
    · exact ⟨g', cap, by rw [e], by rw [← e]; exact h2, hk⟩
  clear h2 h3 h4 h5 hi hz0 hz1 hz2 hc
  have heq : (binOp .eql 22 (.slice (some ⟨b, off, none⟩) n c) (.slice none 0 0)).run Try.prog w = .ok (.bool false) w := by
    simp only [binOp]
    simp [Op.equal, Op.maxDepth, Lib.run_equalIn_slice_nil w 9999 22 3 (some ⟨b, off, none⟩) n c 0 0 Try.underlying22]
  go_enter Try.func34, Try.ntmps34
  go_wp2_with (at_builtin; refine wpList_app rfl (.tmp 5) (.tmp 6) 22 rfl rfl rfl h1 ?_)
  go_ret
  exact HV.out

set_option maxHeartbeats 400000 in
theorem order_begin (p : Nat) (v3 v4 : Value) (w : World) (h3 : w.cell? ⟨p, 3, none⟩ = some v3) (h4 : w.cell? ⟨p, 4, none⟩ = some v4) (f3 : w.frozen? ⟨p, 3, none⟩ = false) (f4 : w.frozen? ⟨p, 4, none⟩ = false) :
    Calls Try.prog 35 #[ptr p] w fun e w' => e = .returned (.tuple #[]) ∧ ∃ k, w' = ((w.setCell ⟨p, 3, none⟩ (ptr p)).setCell ⟨p, 4, none⟩ (ptr p)).drewN k := by
  go_enter Try.func35, Try.ntmps35
  go_region
  all_goals (go_end0; exact ⟨rfl, 1, rfl⟩)

set_option maxRecDepth 100000 in
set_option maxHeartbeats 400000 in
theorem new_cap (cap : Int) (v : Value) (a : Option Addr) (n c : Nat) (w : World) (hv : v = .slice a n c) (h : cap < 1 ∨ 1000000 < cap ∨ n < 1 ∨ 8 < n) :
    Calls Try.prog 22 #[.int .i64 cap, v] w fun e w' => e = .returned (.tuple #[.pointer none, .int .i64 170]) ∧ w = w' := by
  subst hv
  by_cases h1 : cap < 1
  · have hd1 : decide (cap < 1) = true := by simpa using h1
    go_enter Try.func22, Try.ntmps22
    go_wp2
    go_ret2
    exact ⟨rfl, rfl⟩
  · have hd1 : decide (cap < 1) = false := by simpa using h1
    by_cases h2 : 1000000 < cap
    · have hd2 : decide (1000000 < cap) = true := by simpa using h2
      go_enter Try.func22, Try.ntmps22
      go_wp2
      go_ret2
      exact ⟨rfl, rfl⟩
    · have hd2 : decide (1000000 < cap) = false := by simpa using h2
      by_cases h3 : n < 1
      · have hd3 : decide ((n : Int) < 1) = true := by simp; omega
        go_enter Try.func22, Try.ntmps22
        go_wp2
        go_ret2
        exact ⟨rfl, rfl⟩
      · have hd3 : decide ((n : Int) < 1) = false := by simp; omega
        have h4 : 8 < n := by omega
        have hd4 : decide (8 < (n : Int)) = true := by simp; omega
        go_enter Try.func22, Try.ntmps22
        go_wp2
        go_ret2
        exact ⟨rfl, rfl⟩

/-- Are these shares? -/
def sharesOk (left : Int) : List Int → Bool
  | [] => true
  | x :: r => decide (0 ≤ x) && decide (x ≤ left) && sharesOk (left - x) r

theorem sharesOk_step {left x : Int} {r : List Int} (h0 : 0 ≤ x) (h1 : x ≤ left) : sharesOk left (x :: r) = sharesOk (left - x) r := by simp [sharesOk, h0, h1]
theorem sharesOk_no {left x : Int} {r : List Int} (h : x < 0 ∨ left < x) : sharesOk left (x :: r) = false := by
  simp only [sharesOk]
  rcases h with h | h
  · rw [decide_eq_false (by omega)]; rfl
  · rw [decide_eq_false (p := x ≤ left) (by omega), Bool.and_false]; rfl

def NewPost (cap : Int) (xs : List Int) (w : World) (e : Ending) (w' : World) : Prop :=
  (sharesOk cap xs = false ∧ e = .returned (.tuple #[.pointer none, .int .i64 170]) ∧ w = w') ∨
  (sharesOk cap xs = true ∧ ∃ g : Gh, e = .returned (.tuple #[ptr g.bp, .int .i64 0]) ∧ PoolIs w' g ∧ g.cap = cap ∧ g.sh = xs ∧ g.L = [] ∧ Keep (fun _ => False) w w' ∧ ∀ i, g.foot i → w.heap.size ≤ i)

theorem IntsAt.keep {w w' : World} {b off : Nat} {xs : List Int} {A : Nat → Prop} (h : IntsAt w b off xs) (k : Keep A w w') (hA : ¬ A b) : IntsAt w' b off xs := fun j x hj => k.cell (h j x hj) hA

abbrev zeros (n : Nat) : Obj := .cells (madeCells #[.int .i64 0] n) 3
theorem zeros_at (n i : Nat) (h : i < n) : (madeCells #[Value.int .i64 0] n)[i]? = some (.int .i64 0) := by
  simp [madeCells, h, Nat.mod_one]


/-- What New has made so far: the clone, the uses, the map. -/
structure NS (w : World) (n : Nat) (xs : List Int) (cl : Option (Nat × Nat)) (mk mp : Option Nat) (W : World) : Prop where
  k : Keep (fun _ => False) w W
  c : ∀ g c, cl = some (g, c) → W.ownsRow w.heap.size 3 1 (.slice (some ⟨g, 0, none⟩) n c) n (ints xs)
  s : ∀ b, mk = some b → W.heap[b]? = some (zeros n) ∧ w.heap.size ≤ b
  m : ∀ b, mp = some b → W.heap[b]? = some (.map #[] 0) ∧ w.heap.size ≤ b
  d : ∀ g c b, cl = some (g, c) → mk = some b → g ≠ b

theorem NS.start (w : World) (n : Nat) (xs : List Int) : NS w n xs none none none w.drew := ⟨(Keep.refl _ w).drew, fun _ _ h => (by cases h), fun _ h => (by cases h), fun _ h => (by cases h), fun _ _ _ h => (by cases h)⟩
theorem NS.mkS {w : World} {n : Nat} {xs : List Int} {cl : Option (Nat × Nat)} {mp : Option Nat} {W : World} (h : NS w n xs cl none mp W) : NS w n xs cl (some W.heap.size) mp (W.alloc (zeros n)) :=
  have k := (Keep.refl (fun _ => False) W).alloc (zeros n)
  ⟨h.k.trans k, fun g c e => ownsRow_keep (h.c g c e) k (fun _ _ h => h), fun b e => by cases e; exact ⟨World.alloc_heap_new _ _, h.k.size⟩, fun b e => ⟨k.heap (h.m b e).1 (fun h => h), (h.m b e).2⟩, fun g c b e1 e2 => by cases e2; have := ((h.c g c e1).lt g rfl).2; omega⟩
theorem NS.mkM {w : World} {n : Nat} {xs : List Int} {cl : Option (Nat × Nat)} {mk : Option Nat} {W : World} (h : NS w n xs cl mk none W) : NS w n xs cl mk (some W.heap.size) (W.alloc (.map #[] 0)) :=
  have k := (Keep.refl (fun _ => False) W).alloc (.map #[] 0)
  ⟨h.k.trans k, fun g c e => ownsRow_keep (h.c g c e) k (fun _ _ h => h), fun b e => ⟨k.heap (h.s b e).1 (fun h => h), (h.s b e).2⟩, fun b e => by cases e; exact ⟨World.alloc_heap_new _ _, h.k.size⟩, h.d⟩
theorem NS.mkC {w : World} {n : Nat} {xs : List Int} {mk mp : Option Nat} {W W' : World} {g c : Nat} (h : NS w n xs none mk mp W) (ho : W'.ownsRow W.heap.size 3 1 (.slice (some ⟨g, 0, none⟩) n c) n (ints xs)) (k : Keep (fun _ => False) W W') : NS w n xs (some (g, c)) mk mp W' :=
  ⟨h.k.trans k, fun g' c' e => by cases e; exact ownsRow_low ho h.k.size, fun b e => ⟨k.heap (h.s b e).1 (fun h => h), (h.s b e).2⟩, fun b e => ⟨k.heap (h.m b e).1 (fun h => h), (h.m b e).2⟩, fun g' c' b e1 e2 e3 => by
    cases e1
    have h1 := (ho.lt g rfl).1
    have h2 := (Array.getElem?_eq_some_iff.1 (h.s b e2).1).1
    omega⟩

abbrev poolO (cap : Int) (g c n b m : Nat) : Obj := .cells #[.string ⟨#[]⟩, .int .i64 0, .int .i64 0, .pointer none, .pointer none, .int .i64 cap, .slice (some ⟨g, 0, none⟩) n c, .slice (some ⟨b, 0, none⟩) n n, .map (some m), .int .i64 cap] 65

theorem NS.fin {w : World} {n : Nat} {xs : List Int} {g c b m : Nat} {W : World} (cap : Int) (h : NS w n xs (some (g, c)) (some b) (some m) W) (hn : xs.length = n) (h1 : 1 ≤ cap) (h2 : cap ≤ 1000000) (h3 : 1 ≤ n) (h4 : n ≤ 8) (hok : sharesOk cap xs = true) :
    (let W1 := W.alloc (poolO cap g c n b m)
     W1.cell? ⟨W.heap.size, 3, none⟩ = some (.pointer none) ∧ W1.cell? ⟨W.heap.size, 4, none⟩ = some (.pointer none) ∧ W1.frozen? ⟨W.heap.size, 3, none⟩ = false ∧ W1.frozen? ⟨W.heap.size, 4, none⟩ = false ∧
      ∀ k, NewPost cap xs w (.returned (.tuple #[ptr W.heap.size, .int .i64 0])) (((W1.setCell ⟨W.heap.size, 3, none⟩ (ptr W.heap.size)).setCell ⟨W.heap.size, 4, none⟩ (ptr W.heap.size)).drewN k)) := by
  intro W1
  have kW : Keep (fun _ => False) W W1 := (Keep.refl _ W).alloc _
  have hh : W1.heap[W.heap.size]? = some (poolO cap g c n b m) := World.alloc_heap_new W _
  have hc : ∀ i, W1.cell? ⟨W.heap.size, i, none⟩ = (#[.string ⟨#[]⟩, .int .i64 0, .int .i64 0, .pointer none, .pointer none, .int .i64 cap, .slice (some ⟨g, 0, none⟩) n c, .slice (some ⟨b, 0, none⟩) n n, .map (some m), .int .i64 cap] : Array Value)[i]? := fun i => by
    unfold World.cell?; rw [hh]; rfl
  have hf : ∀ i, W1.frozen? ⟨W.heap.size, i, none⟩ = false := fun i => by
    unfold World.frozen?; rw [hh]
    show (decide (0 ≤ i) && decide (i < 0)) = false
    simp
  obtain ⟨hs1, hs2⟩ := h.s b rfl
  obtain ⟨hm1, hm2⟩ := h.m m rfl
  have ho := h.c g c rfl
  have hgl := ho.lt g rfl
  have hbl := (Array.getElem?_eq_some_iff.1 hs1).1
  have hml := (Array.getElem?_eq_some_iff.1 hm1).1
  have hgb := h.d g c b rfl rfl
  have hpg : W.heap.size ≠ g := by omega
  have hpb : W.heap.size ≠ b := by omega
  have hpm : W.heap.size ≠ m := by omega
  refine ⟨hc 3, hc 4, hf 3, hf 4, fun k => ?_⟩
  obtain ⟨W2, hW2⟩ : ∃ W2, W2 = ((W1.setCell ⟨W.heap.size, 3, none⟩ (ptr W.heap.size)).setCell ⟨W.heap.size, 4, none⟩ (ptr W.heap.size)).drewN k := ⟨_, rfl⟩
  rw [← hW2]
  have k2 : Keep (fun i => i = W.heap.size) W1 W2 := by
    rw [hW2]; exact (((Keep.refl (fun i => i = W.heap.size) W1).setCell (p := ⟨W.heap.size, 3, none⟩) _ (.inl rfl)).setCell (p := ⟨W.heap.size, 4, none⟩) _ (.inl rfl)).drewN k
  have hall : Keep (fun _ => False) w W2 := (h.k.trans kW).trans' k2 (fun i e => .inr (by have := h.k.size; omega))
  have c2 : ∀ i, i ≠ 3 → i ≠ 4 → W2.cell? ⟨W.heap.size, i, none⟩ = W1.cell? ⟨W.heap.size, i, none⟩ := fun i h3 h4 => by
    rw [hW2, cell_drewN, cell_set_off (fun e => h4 e.symm), cell_set_off (fun e => h3 e.symm)]
  have c23 : W2.cell? ⟨W.heap.size, 3, none⟩ = some (ptr W.heap.size) := by rw [hW2, cell_drewN, cell_set_off (by decide)]; exact cell_set_same (hc 3)
  have c24 : W2.cell? ⟨W.heap.size, 4, none⟩ = some (ptr W.heap.size) := by rw [hW2, cell_drewN]; exact cell_set_same (by rw [cell_set_off (by decide)]; exact hc 4)
  have f2 : ∀ i, W2.frozen? ⟨W.heap.size, i, none⟩ = false := fun i => by rw [hW2, frozen_drewN, World.frozen?_setCell, World.frozen?_setCell]; exact hf i
  have hs3 : W2.heap[b]? = some (zeros n) := k2.heap (kW.heap hs1 (fun h => h)) (fun e => hpb e.symm)
  have hm3 : W2.heap[m]? = some (.map #[] 0) := k2.heap (kW.heap hm1 (fun h => h)) (fun e => hpm e.symm)
  have hbm : b ≠ m := fun e => by rw [e, hm1] at hs1; cases hs1
  have ho2 := ownsRow_keep (ownsRow_keep ho kW (fun _ _ h => h)) k2 (fun i hi e => by cases hi; exact hpg e.symm)
  have hsz := h.k.size
  have hall0 : ∀ (l : List Int) (lf : Int), sharesOk lf l = true → lf ≤ 1000000 → ∀ x ∈ l, 0 ≤ x ∧ x ≤ 1000000 := by
    intro l
    induction l with
    | nil => intro _ _ _ x hx; cases hx
    | cons y r ih =>
      intro lf hs hl x hx
      simp only [sharesOk, Bool.and_eq_true, decide_eq_true_eq] at hs
      rcases List.mem_cons.1 hx with rfl | hx
      · omega
      · exact ih (lf - y) hs.2 (by omega) x hx
  refine .inr ⟨hok, ⟨W.heap.size, g, b, m, c, n, cap, xs, []⟩, rfl, ?_, rfl, rfl, rfl, hall, ?_⟩
  · refine ⟨(c2 5 (by decide) (by decide)).trans (hc 5), ?_, ?_, (c2 8 (by decide) (by decide)).trans (hc 8), ?_, f2, ?_, ?_, ?_, ⟨⟨c24, c23⟩, trivial⟩, (fun x hx => by cases hx), ?_, ?_, by simp [Gh.es], (fun x hx => by cases hx), (fun x hx => by cases hx), by show 0 < xs.length; omega, by show xs.length ≤ 8; omega, h2, by show tot [] ≤ cap; rw [tot_nil]; omega, hall0 xs cap hok h2⟩
    · show W2.cell? ⟨W.heap.size, 6, none⟩ = some (.slice (some ⟨g, 0, none⟩) xs.length c)
      rw [hn]; exact (c2 6 (by decide) (by decide)).trans (hc 6)
    · show W2.cell? ⟨W.heap.size, 7, none⟩ = some (.slice (some ⟨b, 0, none⟩) xs.length n)
      rw [hn]; exact (c2 7 (by decide) (by decide)).trans (hc 7)
    · show W2.cell? ⟨W.heap.size, 9, none⟩ = some (.int .i64 (cap - tot []))
      rw [tot_nil, Int.sub_zero]; exact (c2 9 (by decide) (by decide)).trans (hc 9)
    · intro o
      show W2.frozen? ⟨b, o, none⟩ = false
      unfold World.frozen?; rw [hs3]
      show (decide (0 ≤ o) && decide (o < 0)) = false
      simp
    · intro i x hx
      have := ho2.cells (g := g) rfl i (.int .i64 x) (by rw [List.getElem?_map, show xs[i]? = some x from hx]; rfl)
      rw [Addr.add_lit, Nat.zero_add] at this
      exact this
    · intro i hi
      show W2.cell? ⟨b, i, none⟩ = some (.int .i64 (usedOf [] i))
      unfold World.cell?; rw [hs3]
      exact zeros_at n i (by rw [← hn]; exact hi)
    · refine ⟨#[], 0, hm3, by simp, by simp, ?_⟩
      intro k v
      constructor
      · rintro ⟨x, hx, _⟩; cases hx
      · rintro ⟨x, hx, _⟩; simp at hx
    · show ([W.heap.size, g, b] ++ []).Nodup
      simp [hpg, hpb, hgb]
  · rintro i (e | e | e | e | e)
    · have : i = W.heap.size := e; omega
    · have : i = g := e; have := hgl.1; omega
    · have : i = b := e; omega
    · have : i = m := e; omega
    · cases e

set_option maxRecDepth 100000 in
set_option maxHeartbeats 1000000 in
theorem new_walk (cap : Int) (b off n c : Nat) (xs : List Int) (w : World) (hn : xs.length = n) (h1 : 1 ≤ cap) (h2 : cap ≤ 1000000) (h3 : 1 ≤ n) (h4 : n ≤ 8) (hc : IntsAt w b off xs) :
    Calls Try.prog 22 #[.int .i64 cap, .slice (some ⟨b, off, none⟩) n c] w (NewPost cap xs w) := by
  have hd1 : decide (cap < 1) = false := by simp; omega
  have hd2 : decide (1000000 < cap) = false := by simp; omega
  have hd3 : decide ((n : Int) < 1) = false := by simp; omega
  have hd4 : decide (8 < (n : Int)) = false := by simp; omega
  have hn1 : n ≤ 9223372036854775807 := by omega
  have HC := Lib.hid hc; clear hc
  have HN := Lib.hid hn; clear hn
  have hmk := run_make_row' (P := Try.prog) 22 3 (.int .i64 0) 8 Try.underlying22 info3 rfl .i64 .i64 n (by omega) (by omega)
  have hmm := @run_makeMap Try.prog
  go_enter Try.func22, Try.ntmps22
  go_wp2
  go_loop [6, 29] (fun l i => ∃ (k : Nat) (lf : Int), k ≤ n ∧ i = .int .i64 k ∧ l = .int .i64 lf ∧ 0 ≤ lf ∧ lf ≤ cap ∧ Hid (sharesOk cap xs = sharesOk lf (xs.drop k))) (fun _ i => n - (intOf i).toNat)
  case atStart => exact ⟨0, cap, Nat.zero_le _, rfl, rfl, by omega, by omega, rfl⟩
  case round =>
    obtain ⟨k, lf, hk, rfl, rfl, hl0, hl1, HS⟩ := hrel
    by_cases hlt : k < n
    · have hkx : k < xs.length := by rw [HN.out]; exact hlt
      have hcell := HC.out k xs[k] (List.getElem?_eq_getElem hkx)
      have hdrop : xs.drop k = xs[k] :: xs.drop (k + 1) := List.drop_eq_getElem_cons hkx
      have HDR := Lib.hid hdrop; clear hdrop
      generalize xs[k] = x at hcell HDR
      clear hkx
      by_cases hx0 : x < 0
      · have hdx : decide (x < 0) = true := by simpa using hx0
        have hfin : NewPost cap xs w (.returned (.tuple #[.pointer none, .int .i64 170])) w := .inl ⟨by rw [HS.out, HDR.out, sharesOk_no (.inl hx0)], rfl, rfl⟩
        have HF := Lib.hid hfin; clear hfin
        go_wp2
        go_ret2
        exact HF.out
      · have hdx : decide (x < 0) = false := by simpa using hx0
        have hx0' : 0 ≤ x := by omega
        clear hx0
        by_cases hxl : lf < x
        · have hdl : decide (lf < x) = true := by simpa using hxl
          have hfin : NewPost cap xs w (.returned (.tuple #[.pointer none, .int .i64 170])) w := .inl ⟨by rw [HS.out, HDR.out, sharesOk_no (.inr hxl)], rfl, rfl⟩
          have HF := Lib.hid hfin; clear hfin
          go_wp2
          go_ret2
          exact HF.out
        · have hdl : decide (lf < x) = false := by simpa using hxl
          have hxl' : x ≤ lf := by omega
          clear hxl
          have hst : sharesOk cap xs = sharesOk (lf - x) (xs.drop (k + 1)) := by rw [HS.out, HDR.out, sharesOk_step hx0' hxl']
          have HST := Lib.hid hst; clear hst
          go_wp2
          go_round
          case rel => exact ⟨k + 1, lf - x, by omega, by go_num, rfl, by omega, by omega, HST⟩
          case measure => simp [intOf]; omega
    · have hkn : k = n := by omega
      have hok : sharesOk cap xs = true := by rw [HS.out, List.drop_eq_nil_of_le (by rw [HN.out]; omega)]; rfl
      have HOK := Lib.hid hok; clear hok
      have HKN := Lib.hid hkn; clear hkn
      go_wp2_with fail
      have ns0 := NS.start w n xs
      refine wp_onlyN ?_
      refine wp_region_any (by kernel_rfl) ?_
      change wpAny _ _ _ _ _ _ _ (World.drew _)
      refine wpAny_take (i := 0) (v := ?_) rfl (by kernel_rfl) (by kernel_rfl) (by kernel_rfl) (fun _ _ _ h => h) (Or.inl ⟨by rfl, ?_⟩) ?_
      rotate_left
      · intro w; go_simp; try (with_reducible rfl)
      refine wpAny_take (i := 1) (v := ?_) rfl (by kernel_rfl) (by kernel_rfl) (by kernel_rfl) (fun _ _ _ h => h) (Or.inl ⟨by rfl, ?_⟩) ?_
      rotate_left
      · intro w; go_simp; try (with_reducible rfl)
      refine wpAny_take (i := 3) (v := ?_) rfl (by kernel_rfl) (by kernel_rfl) (by kernel_rfl) (fun _ _ _ h => h) (Or.inl ⟨by rfl, ?_⟩) ?_
      rotate_left
      · intro w; go_simp; try (with_reducible rfl)
      refine wpAny_take (i := 4) (v := ?_) rfl (by kernel_rfl) (by kernel_rfl) (by kernel_rfl) (fun _ _ _ h => h) (Or.inl ⟨by rfl, ?_⟩) ?_
      rotate_left
      · intro w; go_simp; try (with_reducible rfl)
      refine wpAny_take (i := 7) (v := ?_) rfl (by kernel_rfl) (by kernel_rfl) (by kernel_rfl) (fun _ _ _ h => h) (Or.inl ⟨by rfl, ?_⟩) ?_
      rotate_left
      · intro w; go_simp; try (with_reducible rfl)
      refine wpAny_ready (rs := [2, 5, 6]) (by kernel_rfl) (by simp) ?_
      refine AllReady.cons rfl (fun K hK => ?_) ?_
      · go_simp
        refine (clone_any b off n c xs _ HN.out (by omega) (HC.out.keep ns0.k (fun h => h))).mono ?_
        rintro e WC ⟨gC, cC, rfl, hoC, hkC⟩
        have ns1 := NS.mkC ns0 hoC hkC
        refine hK _ _ ?_; clear hK K hoC hkC
        refine wpAny_ready (rs := [5, 6]) (by kernel_rfl) (by simp) ?_
        refine AllReady.cons rfl (fun K hK => ?_) ?_
        · go_simp
          refine hK _ _ ?_; clear hK K
          have ns2 := NS.mkS ns1
          refine wpAny_ready (rs := [6]) (by kernel_rfl) (by simp) ?_
          refine AllReady.cons rfl (fun K hK => ?_) AllReady.nil
          go_simp
          refine hK _ _ ?_; clear hK K
          have ns3 := NS.mkM ns2
          refine wpAny_ready (rs := [8]) (by kernel_rfl) (by simp) ?_
          refine AllReady.cons rfl (fun K hK => ?_) AllReady.nil
          go_simp
          refine hK _ _ ?_; clear hK K
          refine wpAny_ready (rs := [9]) (by kernel_rfl) (by simp) ?_
          refine AllReady.cons rfl (fun K hK => ?_) AllReady.nil
          go_simp
          refine hK _ _ ?_; clear hK K
          refine wpAny_ready (rs := [10]) (by kernel_rfl) (by simp) ?_
          refine AllReady.cons rfl (fun K hK => ?_) AllReady.nil
          go_simp
          refine hK _ _ ?_; clear hK K
          refine wpAny_done (by kernel_rfl) ?_ _
          obtain ⟨q3, q4, qf3, qf4, hfin⟩ := ns3.fin cap HN.out h1 h2 h3 h4 HOK.out
          simp only [World.size_alloc] at q3 q4 qf3 qf4 hfin
          have HFIN := Lib.hid hfin; clear hfin
          clear ns0 ns1 ns2 ns3
          refine onlyN_mk ?_
          go_wp2_with fail
          with_reducible refine (order_begin _ _ _ _ q3 q4 qf3 qf4).mono ?_
          rintro e w' ⟨rfl, k', hw'⟩
          have hnp := HFIN.out k'
          rw [← hw'] at hnp
          have HNP := Lib.hid hnp; clear hnp hw' HFIN q3 q4 qf3 qf4
          go_wp2_with fail
          go_ret2
          exact HNP.out
        refine AllReady.cons rfl (fun K hK => ?_) AllReady.nil
        go_simp
        refine hK _ _ ?_; clear hK K
        have ns2 := NS.mkM ns1
        refine wpAny_ready (rs := [5]) (by kernel_rfl) (by simp) ?_
        refine AllReady.cons rfl (fun K hK => ?_) AllReady.nil
        go_simp
        refine hK _ _ ?_; clear hK K
        have ns3 := NS.mkS ns2
        refine wpAny_ready (rs := [8]) (by kernel_rfl) (by simp) ?_
        refine AllReady.cons rfl (fun K hK => ?_) AllReady.nil
        go_simp
        refine hK _ _ ?_; clear hK K
        refine wpAny_ready (rs := [9]) (by kernel_rfl) (by simp) ?_
        refine AllReady.cons rfl (fun K hK => ?_) AllReady.nil
        go_simp
        refine hK _ _ ?_; clear hK K
        refine wpAny_ready (rs := [10]) (by kernel_rfl) (by simp) ?_
        refine AllReady.cons rfl (fun K hK => ?_) AllReady.nil
        go_simp
        refine hK _ _ ?_; clear hK K
        refine wpAny_done (by kernel_rfl) ?_ _
        obtain ⟨q3, q4, qf3, qf4, hfin⟩ := ns3.fin cap HN.out h1 h2 h3 h4 HOK.out
        simp only [World.size_alloc] at q3 q4 qf3 qf4 hfin
        have HFIN := Lib.hid hfin; clear hfin
        clear ns0 ns1 ns2 ns3
        refine onlyN_mk ?_
        go_wp2_with fail
        with_reducible refine (order_begin _ _ _ _ q3 q4 qf3 qf4).mono ?_
        rintro e w' ⟨rfl, k', hw'⟩
        have hnp := HFIN.out k'
        rw [← hw'] at hnp
        have HNP := Lib.hid hnp; clear hnp hw' HFIN q3 q4 qf3 qf4
        go_wp2_with fail
        go_ret2
        exact HNP.out
      refine AllReady.cons rfl (fun K hK => ?_) ?_
      · go_simp
        refine hK _ _ ?_; clear hK K
        have ns1 := NS.mkS ns0
        refine wpAny_ready (rs := [2, 6]) (by kernel_rfl) (by simp) ?_
        refine AllReady.cons rfl (fun K hK => ?_) ?_
        · go_simp
          refine (clone_any b off n c xs _ HN.out (by omega) (HC.out.keep ns1.k (fun h => h))).mono ?_
          rintro e WC ⟨gC, cC, rfl, hoC, hkC⟩
          have ns2 := NS.mkC ns1 hoC hkC
          refine hK _ _ ?_; clear hK K hoC hkC
          refine wpAny_ready (rs := [6]) (by kernel_rfl) (by simp) ?_
          refine AllReady.cons rfl (fun K hK => ?_) AllReady.nil
          go_simp
          refine hK _ _ ?_; clear hK K
          have ns3 := NS.mkM ns2
          refine wpAny_ready (rs := [8]) (by kernel_rfl) (by simp) ?_
          refine AllReady.cons rfl (fun K hK => ?_) AllReady.nil
          go_simp
          refine hK _ _ ?_; clear hK K
          refine wpAny_ready (rs := [9]) (by kernel_rfl) (by simp) ?_
          refine AllReady.cons rfl (fun K hK => ?_) AllReady.nil
          go_simp
          refine hK _ _ ?_; clear hK K
          refine wpAny_ready (rs := [10]) (by kernel_rfl) (by simp) ?_
          refine AllReady.cons rfl (fun K hK => ?_) AllReady.nil
          go_simp
          refine hK _ _ ?_; clear hK K
          refine wpAny_done (by kernel_rfl) ?_ _
          obtain ⟨q3, q4, qf3, qf4, hfin⟩ := ns3.fin cap HN.out h1 h2 h3 h4 HOK.out
          simp only [World.size_alloc, World.size_drew] at q3 q4 qf3 qf4 hfin
          have HFIN := Lib.hid hfin; clear hfin
          clear ns0 ns1 ns2 ns3
          refine onlyN_mk ?_
          go_wp2_with fail
          with_reducible refine (order_begin _ _ _ _ q3 q4 qf3 qf4).mono ?_
          rintro e w' ⟨rfl, k', hw'⟩
          have hnp := HFIN.out k'
          rw [← hw'] at hnp
          have HNP := Lib.hid hnp; clear hnp hw' HFIN q3 q4 qf3 qf4
          go_wp2_with fail
          go_ret2
          exact HNP.out
        refine AllReady.cons rfl (fun K hK => ?_) AllReady.nil
        go_simp
        refine hK _ _ ?_; clear hK K
        have ns2 := NS.mkM ns1
        refine wpAny_ready (rs := [2]) (by kernel_rfl) (by simp) ?_
        refine AllReady.cons rfl (fun K hK => ?_) AllReady.nil
        go_simp
        refine (clone_any b off n c xs _ HN.out (by omega) (HC.out.keep ns2.k (fun h => h))).mono ?_
        rintro e WC ⟨gC, cC, rfl, hoC, hkC⟩
        have ns3 := NS.mkC ns2 hoC hkC
        refine hK _ _ ?_; clear hK K hoC hkC
        refine wpAny_ready (rs := [8]) (by kernel_rfl) (by simp) ?_
        refine AllReady.cons rfl (fun K hK => ?_) AllReady.nil
        go_simp
        refine hK _ _ ?_; clear hK K
        refine wpAny_ready (rs := [9]) (by kernel_rfl) (by simp) ?_
        refine AllReady.cons rfl (fun K hK => ?_) AllReady.nil
        go_simp
        refine hK _ _ ?_; clear hK K
        refine wpAny_ready (rs := [10]) (by kernel_rfl) (by simp) ?_
        refine AllReady.cons rfl (fun K hK => ?_) AllReady.nil
        go_simp
        refine hK _ _ ?_; clear hK K
        refine wpAny_done (by kernel_rfl) ?_ _
        obtain ⟨q3, q4, qf3, qf4, hfin⟩ := ns3.fin cap HN.out h1 h2 h3 h4 HOK.out
        simp only [World.size_alloc, World.size_drew] at q3 q4 qf3 qf4 hfin
        have HFIN := Lib.hid hfin; clear hfin
        clear ns0 ns1 ns2 ns3
        refine onlyN_mk ?_
        go_wp2_with fail
        with_reducible refine (order_begin _ _ _ _ q3 q4 qf3 qf4).mono ?_
        rintro e w' ⟨rfl, k', hw'⟩
        have hnp := HFIN.out k'
        rw [← hw'] at hnp
        have HNP := Lib.hid hnp; clear hnp hw' HFIN q3 q4 qf3 qf4
        go_wp2_with fail
        go_ret2
        exact HNP.out
      refine AllReady.cons rfl (fun K hK => ?_) AllReady.nil
      go_simp
      refine hK _ _ ?_; clear hK K
      have ns1 := NS.mkM ns0
      refine wpAny_ready (rs := [2, 5]) (by kernel_rfl) (by simp) ?_
      refine AllReady.cons rfl (fun K hK => ?_) ?_
      · go_simp
        refine (clone_any b off n c xs _ HN.out (by omega) (HC.out.keep ns1.k (fun h => h))).mono ?_
        rintro e WC ⟨gC, cC, rfl, hoC, hkC⟩
        have ns2 := NS.mkC ns1 hoC hkC
        refine hK _ _ ?_; clear hK K hoC hkC
        refine wpAny_ready (rs := [5]) (by kernel_rfl) (by simp) ?_
        refine AllReady.cons rfl (fun K hK => ?_) AllReady.nil
        go_simp
        refine hK _ _ ?_; clear hK K
        have ns3 := NS.mkS ns2
        refine wpAny_ready (rs := [8]) (by kernel_rfl) (by simp) ?_
        refine AllReady.cons rfl (fun K hK => ?_) AllReady.nil
        go_simp
        refine hK _ _ ?_; clear hK K
        refine wpAny_ready (rs := [9]) (by kernel_rfl) (by simp) ?_
        refine AllReady.cons rfl (fun K hK => ?_) AllReady.nil
        go_simp
        refine hK _ _ ?_; clear hK K
        refine wpAny_ready (rs := [10]) (by kernel_rfl) (by simp) ?_
        refine AllReady.cons rfl (fun K hK => ?_) AllReady.nil
        go_simp
        refine hK _ _ ?_; clear hK K
        refine wpAny_done (by kernel_rfl) ?_ _
        obtain ⟨q3, q4, qf3, qf4, hfin⟩ := ns3.fin cap HN.out h1 h2 h3 h4 HOK.out
        simp only [World.size_alloc, World.size_drew] at q3 q4 qf3 qf4 hfin
        have HFIN := Lib.hid hfin; clear hfin
        clear ns0 ns1 ns2 ns3
        refine onlyN_mk ?_
        go_wp2_with fail
        with_reducible refine (order_begin _ _ _ _ q3 q4 qf3 qf4).mono ?_
        rintro e w' ⟨rfl, k', hw'⟩
        have hnp := HFIN.out k'
        rw [← hw'] at hnp
        have HNP := Lib.hid hnp; clear hnp hw' HFIN q3 q4 qf3 qf4
        go_wp2_with fail
        go_ret2
        exact HNP.out
      refine AllReady.cons rfl (fun K hK => ?_) AllReady.nil
      go_simp
      refine hK _ _ ?_; clear hK K
      have ns2 := NS.mkS ns1
      refine wpAny_ready (rs := [2]) (by kernel_rfl) (by simp) ?_
      refine AllReady.cons rfl (fun K hK => ?_) AllReady.nil
      go_simp
      refine (clone_any b off n c xs _ HN.out (by omega) (HC.out.keep ns2.k (fun h => h))).mono ?_
      rintro e WC ⟨gC, cC, rfl, hoC, hkC⟩
      have ns3 := NS.mkC ns2 hoC hkC
      refine hK _ _ ?_; clear hK K hoC hkC
      refine wpAny_ready (rs := [8]) (by kernel_rfl) (by simp) ?_
      refine AllReady.cons rfl (fun K hK => ?_) AllReady.nil
      go_simp
      refine hK _ _ ?_; clear hK K
      refine wpAny_ready (rs := [9]) (by kernel_rfl) (by simp) ?_
      refine AllReady.cons rfl (fun K hK => ?_) AllReady.nil
      go_simp
      refine hK _ _ ?_; clear hK K
      refine wpAny_ready (rs := [10]) (by kernel_rfl) (by simp) ?_
      refine AllReady.cons rfl (fun K hK => ?_) AllReady.nil
      go_simp
      refine hK _ _ ?_; clear hK K
      refine wpAny_done (by kernel_rfl) ?_ _
      obtain ⟨q3, q4, qf3, qf4, hfin⟩ := ns3.fin cap HN.out h1 h2 h3 h4 HOK.out
      simp only [World.size_alloc, World.size_drew] at q3 q4 qf3 qf4 hfin
      have HFIN := Lib.hid hfin; clear hfin
      clear ns0 ns1 ns2 ns3
      refine onlyN_mk ?_
      go_wp2_with fail
      with_reducible refine (order_begin _ _ _ _ q3 q4 qf3 qf4).mono ?_
      rintro e w' ⟨rfl, k', hw'⟩
      have hnp := HFIN.out k'
      rw [← hw'] at hnp
      have HNP := Lib.hid hnp; clear hnp hw' HFIN q3 q4 qf3 qf4
      go_wp2_with fail
      go_ret2
      exact HNP.out

end Go.Proofs.Ytigkhglgoabjaaa
