/-
  Put, Remove, Touch as functions on the pool's list.
-/
import Derived.Test.YtigkhglgoabjaaaF8
import Derived.Test.YtigkhglgoabjaaaI1
namespace Go.Proofs.Ytigkhglgoabjaaa
open Go.RowKit Go.Shelf

/-- The first one that f takes, and the list without it. -/
def takeFit (f : E → Bool) : List E → Option (E × List E)
  | [] => none
  | x :: r => if f x then some (x, r) else match takeFit f r with
    | none => none
    | some (y, r') => some (y, x :: r')

theorem takeFit_none (f : E → Bool) : ∀ (L : List E), (∀ y ∈ L, f y = false) → takeFit f L = none
  | [], _ => rfl
  | x :: r, h => by rw [takeFit, h x (by simp), if_neg (by decide), takeFit_none f r (fun y hy => h y (by simp [hy]))]
theorem takeFit_some (f : E → Bool) (x : E) (Y : List E) (hx : f x = true) : ∀ (X : List E), (∀ y ∈ X, f y = false) → takeFit f (X ++ x :: Y) = some (x, X ++ Y)
  | [], _ => by simp [takeFit, hx]
  | a :: r, h => by rw [List.cons_append, takeFit, h a (by simp), if_neg (by decide), takeFit_some f x Y hx r (fun y hy => h y (by simp [hy]))]; rfl

/-- The removals: whether there is room in the end, the removed ones, what is left. -/
def evM (S : List Int) (cap : Int) (t : Nat) (z : Int) : Nat → List E → Bool × List E × List E
  | 0, L => (false, [], L)
  | n + 1, L => if cap - tot L < z then match takeFit (fitsB S L t z) L with
    | none => (false, [], L)
    | some (x, M) => ((evM S cap t z n M).1, x :: (evM S cap t z n M).2.1, (evM S cap t z n M).2.2)
    else (true, [], L)

theorem evM_of {S : List Int} {cap : Int} {t : Nat} {z : Int} : ∀ {T L L' : List Ent} (n : Nat), Ev S cap t z L T L' → L.length < n → ∀ b, (b = true → ¬ (cap - tot (esOf L') < z)) → (b = false → cap - tot (esOf L') < z ∧ ∀ y ∈ L', fitsB S (esOf L') t z y.e = false) →
    evM S cap t z n (esOf L) = (b, esOf T, esOf L')
  | [], L, L', n, h, hn, b, h1, h2 => by
    cases h
    cases n with
    | zero => omega
    | succ n =>
      cases b with
      | true => rw [evM, if_neg (h1 rfl)]; rfl
      | false =>
        rw [evM, if_pos (h2 rfl).1, takeFit_none _ _ (fun y hy => by obtain ⟨x, hx, rfl⟩ := List.mem_map.1 hy; exact (h2 rfl).2 x hx)]; rfl
  | x :: T, L, L', n, ⟨M, ⟨hs, X, Y, eL, eM, hX, hx⟩, h⟩, hn, b, h1, h2 => by
    subst eL; subst eM
    cases n with
    | zero => omega
    | succ n =>
      have ih := evM_of n h (by simp at hn ⊢; omega) b h1 h2
      have e : esOf (X ++ x :: Y) = esOf X ++ x.e :: esOf Y := by simp [esOf]
      have e2 : takeFit (fitsB S (esOf (X ++ x :: Y)) t z) (esOf (X ++ x :: Y)) = some (x.e, esOf (X ++ Y)) := by
        have := takeFit_some (fitsB S (esOf (X ++ x :: Y)) t z) x.e (esOf Y) hx (esOf X) (fun y hy => by obtain ⟨a, ha, rfl⟩ := List.mem_map.1 hy; exact hX a ha)
        rw [← e] at this
        rw [this]; simp [esOf]
      rw [evM, if_pos hs, e2]
      simp only
      rw [ih]
      rfl

def woE (L : List E) (key : ByteArray) : List E := L.filter (fun x => decide (x.key ≠ key))
theorem esOf_wo (L : List Ent) (key : ByteArray) : esOf (wo L key) = woE (esOf L) key := by
  unfold esOf wo woE
  rw [List.filter_map]
  rfl

/-- Put: whether it is done, what it removed, what is left. -/
def putM (cap : Int) (S : List Int) (L : List E) (t : Nat) (key : ByteArray) (z : Int) : Bool × List E × List E :=
  if (evM S cap t z (L.length + 1) (woE L key)).1 then (true, (evM S cap t z (L.length + 1) (woE L key)).2.1, (evM S cap t z (L.length + 1) (woE L key)).2.2 ++ [⟨key, t, z⟩]) else (false, [], L)

def putI (cap : Int) (S : List Int) (L : List E) (t : Int) (key : ByteArray) (z : Int) : Bool × List E × List E :=
  if 0 ≤ t ∧ t < S.length ∧ 1 ≤ z then putM cap S L t.toNat key z else (false, [], L)

/-- The pool p, as plain data, and the blocks it lies in. -/
structure Pl where
  p : Nat
  cap : Int
  sh : List Int
  L : List E
  foot : Nat → Prop

def Pl.At (P : Pl) (w : World) : Prop := ∃ g : Gh, PoolIs w g ∧ g.bp = P.p ∧ g.cap = P.cap ∧ g.sh = P.sh ∧ g.es = P.L ∧ g.foot = P.foot

/-- The pool has the list L now. -/
def Turn (P : Pl) (L : List E) (w w' : World) (F : Nat → Prop) : Prop := Pl.At { P with L := L, foot := F } w' ∧ Keep P.foot w w' ∧ ∀ k, F k → P.foot k ∨ w.heap.size ≤ k

/-- Strings that lie at v, in a block of their own. -/
def Strs (w : World) (lo : Nat) (v : Value) (xs : List ByteArray) : Prop := w.ownsRow lo 9 1 v xs.length (xs.map Value.string)

theorem Ev.length {S : List Int} {cap : Int} {t : Nat} {z : Int} : ∀ {T L L' : List Ent}, Ev S cap t z L T L' → L.length = T.length + L'.length
  | [], _, _, h => by cases h; simp
  | _ :: _, _, _, ⟨_, ⟨_, X, Y, e1, e2, _⟩, h⟩ => by subst e1; subst e2; have := Ev.length h; simp at this ⊢; omega
theorem foot_low {g : Gh} {L : List Ent} {x : Ent} {n : Nat} (hs : ∀ y ∈ L, y ∈ g.L) (hx : n ≤ x.b) {k : Nat} (h : Gh.foot { g with L := L ++ [x] } k) : g.foot k ∨ n ≤ k := by
  rcases h with h | h | h | h | h
  · exact .inl (.inl h)
  · exact .inl (.inr (.inl h))
  · exact .inl (.inr (.inr (.inl h)))
  · exact .inl (.inr (.inr (.inr (.inl h))))
  · obtain ⟨y, hy, rfl⟩ := List.mem_map.1 h
    rcases List.mem_append.1 hy with hy | hy
    · exact .inl (.inr (.inr (.inr (.inr (List.mem_map_of_mem (hs y hy))))))
    · rw [List.mem_singleton] at hy; subst hy; exact .inr hx

theorem put_plain (P : Pl) (t : Int) (key : ByteArray) (z : Int) (w : World) (h : P.At w) (hks : key.size ≤ maxLen) (hz2 : z ≤ 9223372036854775807) :
    Calls Try.prog 17 #[ptr P.p, .int .i64 t, .string key, .int .i64 z] w fun e w' => ∃ vo F, e = .returned (.tuple #[vo, .bool (putI P.cap P.sh P.L t key z).1]) ∧
      Turn P (putI P.cap P.sh P.L t key z).2.2 w w' F ∧ Strs w' w.heap.size vo ((putI P.cap P.sh P.L t key z).2.1.map E.key) ∧ ∀ b, vo.ownBlock = some b → ¬ F b := by
  obtain ⟨g, h, e1, e2, e3, e4, e5⟩ := h
  rw [← e1, ← e2, ← e3, ← e4]
  have same : ∀ w', Keep g.foot w w' → PoolIs w' g → Turn P g.es w w' g.foot := fun w' k hp => ⟨⟨g, hp, e1, e2, e3, rfl, rfl⟩, e5 ▸ k, fun k hk => .inl (e5 ▸ hk)⟩
  have no : ∀ e w', e = .returned (.tuple #[.slice none 0 0, .bool false]) → Keep (fun _ => False) w w' → ∃ vo F, e = Ending.returned (.tuple #[vo, .bool false]) ∧
      Turn P g.es w w' F ∧ Strs w' w.heap.size vo (([] : List E).map E.key) ∧ ∀ b, vo.ownBlock = some b → ¬ F b := fun e w' he k =>
    ⟨_, g.foot, he, same w' ⟨k.os, k.tape, k.output, k.size, fun i hi _ => k.block i hi (fun h => h)⟩ (h.keep k (fun _ _ h => h)), World.ownsRow_nil _ _ _ _, fun b hb => by cases hb⟩
  by_cases h0 : t < 0
  · rw [putI, if_neg (by omega)]
    exact (put_neg g.bp t key z w h0).mono fun e w' ⟨a, b⟩ => no e w' a b
  · by_cases h1 : (g.sh.length : Int) ≤ t
    · rw [putI, if_neg (by omega)]
      exact (put_big g.bp g.bs _ _ t key z w h.c6 (by omega) h1).mono fun e w' ⟨a, b⟩ => no e w' a b
    · by_cases h2 : z < 1
      · rw [putI, if_neg (by omega)]
        exact (put_small g.bp g.bs _ _ t key z w h.c6 (by omega) (by omega) h2).mono fun e w' ⟨a, b⟩ => no e w' a b
      · rw [putI, if_pos (by omega)]
        obtain ⟨k, rfl⟩ := Int.eq_ofNat_of_zero_le (show 0 ≤ t by omega)
        rw [Int.toNat_natCast]
        refine (put_pool g k key z w h (by omega) hks (by omega) hz2).mono fun e w' hp => ?_
        have hl : (wo g.L key).length < g.es.length + 1 := by
          have : (wo g.L key).length ≤ g.L.length := List.length_filter_le _ _
          simp only [Gh.es, List.length_map]; omega
        rcases hp with ⟨T, L, x, vo, rfl, hev, hr, hx, hxb, hp, ho, hd, k'⟩ | ⟨T, L, hev, hr, hf, rfl, hp, k'⟩
        · have he := evM_of (g.es.length + 1) hev hl true (fun _ => hr) (fun h => by cases h)
          rw [esOf_wo] at he
          have e : putM g.cap g.sh g.es k key z = (true, esOf T, esOf L ++ [⟨key, k, z⟩]) := by
            unfold putM
            rw [show g.es = esOf g.L from rfl] at *
            rw [he, if_pos rfl]
          rw [e]
          refine ⟨vo, Gh.foot { g with L := L ++ [x] }, rfl, ⟨⟨_, hp, e1, e2, e3, ?_, rfl⟩, e5 ▸ k', fun k hk => ?_⟩, ?_, hd⟩
          · show (L ++ [x]).map Ent.e = _
            rw [List.map_append, List.map_cons, hx]; rfl
          · rw [← e5]
            exact foot_low (fun y hy => (List.mem_filter.1 (hev.sub y hy)).1) hxb hk
          · unfold Strs
            rw [List.length_map, List.length_map, List.map_map, List.map_map]
            exact ho
        · have he := evM_of (g.es.length + 1) hev hl false (fun h => by cases h) (fun _ => ⟨hr, hf⟩)
          rw [esOf_wo] at he
          have e : putM g.cap g.sh g.es k key z = (false, [], g.es) := by
            unfold putM
            rw [show g.es = esOf g.L from rfl] at *
            rw [he, if_neg (by simp)]
          rw [e]
          exact ⟨_, g.foot, rfl, same w' k' hp, World.ownsRow_nil _ _ _ _, fun b hb => by cases hb⟩

theorem Pl.At.keep {P : Pl} {w w' : World} {A : Nat → Prop} (h : P.At w) (k : Keep A w w') (hA : ∀ i, P.foot i → ¬ A i) : P.At w' := by
  obtain ⟨g, h, e1, e2, e3, e4, e5⟩ := h
  exact ⟨g, h.keep k (fun i hi => hA i (e5 ▸ hi)), e1, e2, e3, e4, e5⟩
theorem Pl.At.lt {P : Pl} {w : World} (h : P.At w) {k : Nat} (hk : P.foot k) : k < w.heap.size := by
  obtain ⟨g, h, e1, e2, e3, e4, e5⟩ := h
  exact h.foot_lt (e5 ▸ hk)

/-! ### the others -/
theorem free_plain (P : Pl) (w : World) (h : P.At w) : Calls Try.prog 18 #[ptr P.p] w fun e w' => e = .returned (.int .i64 (P.cap - tot P.L)) ∧ w = w' := by
  obtain ⟨g, h, e1, e2, e3, e4, e5⟩ := h
  rw [← e1, ← e2, ← e4]
  exact free_pool g w h

def usedI (S : List Int) (L : List E) (t : Int) : Int := if 0 ≤ t ∧ t < S.length then usedOf L t.toNat else 0
theorem used_plain (P : Pl) (t : Int) (w : World) (h : P.At w) : Calls Try.prog 19 #[ptr P.p, .int .i64 t] w fun e w' => e = .returned (.int .i64 (usedI P.sh P.L t)) ∧ w = w' := by
  obtain ⟨g, h, e1, e2, e3, e4, e5⟩ := h
  rw [← e1, ← e3, ← e4]
  exact used_pool g t w h

theorem keys_plain (P : Pl) (t : Int) (w : World) (h : P.At w) : Calls Try.prog 20 #[ptr P.p, .int .i64 t] w fun e w' => ∃ v, e = .returned v ∧ Strs w' w.heap.size v (keysOf P.L t) ∧ P.At w' ∧ Keep (fun _ => False) w w' := by
  have h' := h
  obtain ⟨g, h, e1, e2, e3, e4, e5⟩ := h
  rw [← e1, ← e4]
  exact (keys_pool g t w h).mono fun e w' ⟨v, a, b, c⟩ => ⟨v, a, b, h'.keep c (fun _ _ h => h), c⟩

/-- The entry of a key. -/
def atKey (L : List E) (key : ByteArray) : Option E := L.find? (fun x => decide (x.key = key))

theorem atKey_no {L : List E} {key : ByteArray} (h : atKey L key = none) : key ∉ L.map E.key := by
  intro hm
  obtain ⟨x, hx, rfl⟩ := List.mem_map.1 hm
  have := List.find?_eq_none.1 h x hx
  simp at this
theorem atKey_yes {L : List Ent} {key : ByteArray} {x : E} (h : atKey (L.map Ent.e) key = some x) : ∃ y ∈ L, y.e = x ∧ y.e.key = key := by
  have h1 := List.find?_some h
  obtain ⟨y, hy, rfl⟩ := List.mem_map.1 (List.mem_of_find?_eq_some h)
  exact ⟨y, hy, rfl, by simpa using h1⟩

theorem has_plain (P : Pl) (key : ByteArray) (w : World) (h : P.At w) (hks : key.size ≤ maxLen) : Calls Try.prog 21 #[ptr P.p, .string key] w fun e w' => e = .returned (.bool (atKey P.L key).isSome) ∧ w = w' := by
  obtain ⟨g, h, e1, e2, e3, e4, e5⟩ := h
  rw [← e1, ← e4]
  cases hf : atKey g.es key with
  | none => exact has_no g key w h hks (atKey_no hf)
  | some x =>
    obtain ⟨y, hy, rfl, rfl⟩ := atKey_yes hf
    exact has_yes g y w h hy

def tenI (L : List E) (key : ByteArray) : Int := match atKey L key with
  | none => -1
  | some x => x.t
theorem tenant_plain (P : Pl) (key : ByteArray) (w : World) (h : P.At w) (hks : key.size ≤ maxLen) : Calls Try.prog 13 #[ptr P.p, .string key] w fun e w' => e = .returned (.int .i64 (tenI P.L key)) ∧ w = w' := by
  obtain ⟨g, h, e1, e2, e3, e4, e5⟩ := h
  rw [← e1, ← e4]
  unfold tenI
  cases hf : atKey g.es key with
  | none => exact tenant_no g key w h hks (atKey_no hf)
  | some x =>
    obtain ⟨y, hy, rfl, rfl⟩ := atKey_yes hf
    exact tenant_yes g y w h hy

def touI (L : List E) (key : ByteArray) : List E := match atKey L key with
  | none => L
  | some x => woE L key ++ [x]

theorem es_wo {g : Gh} {w : World} (h : PoolIs w g) {X Y : List Ent} {x : Ent} (hL : g.L = X ++ x :: Y) : esOf (X ++ Y) = woE g.es x.e.key := by
  have hk := h.keys
  rw [show g.es = esOf g.L from rfl] at *
  rw [← esOf_wo, hL] at *
  rw [wo_split hk]

theorem foot_sub2 {g : Gh} {L : List Ent} (hs : ∀ y ∈ L, y ∈ g.L) {k : Nat} (h : Gh.foot { g with L := L } k) : g.foot k := by
  rcases h with h | h | h | h | h
  · exact .inl h
  · exact .inr (.inl h)
  · exact .inr (.inr (.inl h))
  · exact .inr (.inr (.inr (.inl h)))
  · obtain ⟨y, hy, rfl⟩ := List.mem_map.1 h
    exact .inr (.inr (.inr (.inr (List.mem_map_of_mem (hs y hy)))))

theorem remove_plain (P : Pl) (key : ByteArray) (w : World) (h : P.At w) (hks : key.size ≤ maxLen) : Calls Try.prog 16 #[ptr P.p, .string key] w fun e w' => ∃ F, e = .returned (.bool (atKey P.L key).isSome) ∧ Turn P (woE P.L key) w w' F := by
  obtain ⟨g, h, e1, e2, e3, e4, e5⟩ := h
  rw [← e1, ← e4]
  cases hf : atKey g.es key with
  | none =>
    refine (remove_no g key w h hks (atKey_no hf)).mono fun e w' ⟨a, b⟩ => ⟨g.foot, a, ?_⟩
    subst b
    refine ⟨⟨g, h, e1, e2, e3, ?_, rfl⟩, Keep.refl _ _, fun k hk => .inl (e5 ▸ hk)⟩
    show esOf g.L = woE (esOf g.L) key
    rw [← esOf_wo, wo_none (atKey_no hf)]
  | some x =>
    obtain ⟨y, hy, rfl, rfl⟩ := atKey_yes hf
    obtain ⟨X, Y, hL⟩ := List.append_of_mem hy
    refine (remove_yes g X Y y w h hL).mono fun e w' ⟨a, b, c⟩ => ⟨Gh.foot { g with L := X ++ Y }, a, ?_⟩
    have hs : ∀ z ∈ X ++ Y, z ∈ g.L := fun z hz => by rw [hL]; simp at hz ⊢; exact hz.elim .inl (fun h => .inr (.inr h))
    refine ⟨⟨_, b, e1, e2, e3, es_wo h hL, rfl⟩, ?_, fun k hk => .inl (e5 ▸ foot_sub2 hs hk)⟩
    exact ⟨c.os, c.tape, c.output, c.size, fun i hi hn => c.block i hi (fun hc => hn (e5 ▸ foot_sub2 hs hc))⟩

theorem touch_plain (P : Pl) (key : ByteArray) (w : World) (h : P.At w) (hks : key.size ≤ maxLen) : Calls Try.prog 15 #[ptr P.p, .string key] w fun e w' => ∃ F, e = .returned (.bool (atKey P.L key).isSome) ∧ Turn P (touI P.L key) w w' F := by
  obtain ⟨g, h, e1, e2, e3, e4, e5⟩ := h
  rw [← e1, ← e4]
  unfold touI
  cases hf : atKey g.es key with
  | none =>
    refine (touch_no g key w h hks (atKey_no hf)).mono fun e w' ⟨a, b⟩ => ⟨g.foot, a, ?_⟩
    subst b
    exact ⟨⟨g, h, e1, e2, e3, rfl, rfl⟩, Keep.refl _ _, fun k hk => .inl (e5 ▸ hk)⟩
  | some x =>
    obtain ⟨y, hy, rfl, rfl⟩ := atKey_yes hf
    obtain ⟨X, Y, hL⟩ := List.append_of_mem hy
    refine (touch_yes g X Y y w h hL).mono fun e w' ⟨a, b, c⟩ => ⟨Gh.foot { g with L := X ++ Y ++ [y] }, a, ?_⟩
    have hs : ∀ z ∈ X ++ Y ++ [y], z ∈ g.L := fun z hz => by rw [hL]; simp at hz ⊢; exact hz.elim .inl (fun h => .inr h.symm)
    refine ⟨⟨_, b, e1, e2, e3, ?_, rfl⟩, e5 ▸ c, fun k hk => .inl (e5 ▸ foot_sub2 hs hk)⟩
    show (X ++ Y ++ [y]).map Ent.e = _
    rw [List.map_append]
    rw [show (X ++ Y).map Ent.e = esOf (X ++ Y) from rfl, es_wo h hL]
    rfl
end Go.Proofs.Ytigkhglgoabjaaa
