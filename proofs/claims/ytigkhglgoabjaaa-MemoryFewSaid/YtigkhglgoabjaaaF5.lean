/-
  Put: the walk.
-/
import Derived.Test.YtigkhglgoabjaaaF4
namespace Go.Proofs.Ytigkhglgoabjaaa
open Go.RowKit Go.Shelf
attribute [local go_sem] Oper.semAt_some

/-- The entries but for one key. -/
def wo (L : List Ent) (key : ByteArray) : List Ent := L.filter (fun x => decide (x.e.key ≠ key))

theorem wo_none {L : List Ent} {key : ByteArray} (h : key ∉ (esOf L).map E.key) : wo L key = L := by
  unfold wo
  rw [List.filter_eq_self]
  intro x hx
  simp only [decide_eq_true_eq]
  rintro rfl
  exact h (List.mem_map_of_mem (List.mem_map_of_mem hx))

theorem wo_split {X Y : List Ent} {x : Ent} (h : ((esOf (X ++ x :: Y)).map E.key).Nodup) : wo (X ++ x :: Y) x.e.key = X ++ Y := by
  simp only [esOf, List.map_append, List.map_cons] at h
  rw [List.nodup_append, List.nodup_cons] at h
  obtain ⟨_, ⟨h1, _⟩, h2⟩ := h
  have e1 : wo X x.e.key = X := wo_none (fun hm => h2 _ hm _ (by simp) rfl)
  have e2 : wo Y x.e.key = Y := wo_none h1
  unfold wo at e1 e2 ⊢
  rw [List.filter_append, List.filter_cons, e1, e2]
  simp

theorem Ev.sub {S : List Int} {cap : Int} {t : Nat} {z : Int} : ∀ {T L L' : List Ent}, Ev S cap t z L T L' → ∀ x ∈ L', x ∈ L
  | [], _, _, h => by cases h; exact fun _ h => h
  | _ :: _, _, _, ⟨M, ⟨_, X, Y, h1, h2, _⟩, h3⟩ => fun x hx => by
    have := Ev.sub h3 x hx
    rw [h2] at this
    rw [h1]
    simp only [List.mem_append, List.mem_cons] at this ⊢
    exact this.imp id .inr

def PutOk (g : Gh) (t : Nat) (key : ByteArray) (z : Int) (w : World) (e : Ending) (w' : World) : Prop :=
  ∃ T L x vo, e = .returned (.tuple #[vo, .bool true]) ∧ Ev g.sh g.cap t z (wo g.L key) T L ∧ ¬ (g.cap - tot (esOf L) < z) ∧ x.e = ⟨key, t, z⟩ ∧ w.heap.size ≤ x.b ∧ PoolIs w' { g with L := L ++ [x] } ∧
    w'.ownsRow w.heap.size 9 1 vo T.length (T.map (fun x => Value.string x.e.key)) ∧ (∀ b, vo.ownBlock = some b → ¬ Gh.foot { g with L := L ++ [x] } b) ∧ Keep g.foot w w'
def PutNo (g : Gh) (t : Nat) (key : ByteArray) (z : Int) (w : World) (e : Ending) (w' : World) : Prop :=
  ∃ T L, Ev g.sh g.cap t z (wo g.L key) T L ∧ g.cap - tot (esOf L) < z ∧ (∀ y ∈ L, fitsB g.sh (esOf L) t z y.e = false) ∧ e = .returned (.tuple #[.slice none 0 0, .bool false]) ∧ PoolIs w' g ∧ Keep g.foot w w'
def PutPost (g : Gh) (t : Nat) (key : ByteArray) (z : Int) (w : World) (e : Ending) (w' : World) : Prop := PutOk g t key z w e w' ∨ PutNo g t key z w e w'

/-- At the head of each round of Put's loop. -/
def PI (w : World) (g : Gh) (t : Nat) (z : Int) (T0 L0 : List Ent) (k : Nat) (vt vo : Value) (W : World) : Prop :=
  ∃ T L, k = L.length ∧ Ev g.sh g.cap t z L0 T L ∧ Mid w g (T0 ++ T).reverse L (T0 ++ T) (T.map (fun x => x.e.key)) vt vo W

theorem mid0 (w : World) (g : Gh) (h : PoolIs w g) : Mid w g [] g.L [] [] (.slice none 0 0) (.slice none 0 0) (w.alloc (.cells #[ptr g.bp] 32)) :=
  ⟨h.alloc _, rfl, Box.new _ _ _, (Keep.refl _ _).alloc _, World.ownsRow_nil _ _ _ _, World.ownsRow_nil _ _ _ _, (fun b hb => by cases hb), by simp, fun i hi => h.foot_lt hi, fun x hx => by simpa using hx⟩

theorem Mid.lens {w : World} {g : Gh} {R L TT : List Ent} {KK : List ByteArray} {vt vo : Value} {W : World} (hg : PoolIs w g) (m : Mid w g R L TT KK vt vo W) : R.length ≤ 1000000 := by
  have h1 := m.perm.length_eq
  have h2 := hg.len
  rw [List.length_append] at h1
  omega

theorem wpList_app {P : Program} {ops : Array Oper} {rest : List Oper} {o : Oper} {a : Act} {w w' : World} {Q : Exit → Act → World → Prop} {v v2 v' : Value}
    (hg : o.guard = none) (s x : Operand) (t : TypeId) (hop : o.op = Op.call { callee := Callee.builtin Builtin.append, args := #[s, x], argTypes := #[t, t] })
    (hs : a.eval s = v) (hx : a.eval x = v2) (hrun : (Builtin.append_ #[t, t] o.type #[v, v2]).run P w = .ok v' w') (hK : wpList P ops Q rest (a.put o.dst v') w') : wpList P ops Q (o :: rest) a w := by
  refine wpList_plain hg fun K hK' => ?_
  unfold Oper.wp
  simp [execOp, hop, resolve, invoke, builtin, hs, hx, hrun, Result.andThen]
  exact hK' _ _ hK

theorem Mid.back {w : World} {g : Gh} {R X Y TT : List Ent} {x : Ent} {KK : List ByteArray} {vt vo : Value} {W W' : World} (hg : PoolIs w g) (m : Mid w g (x :: R) (X ++ Y) TT KK vt vo W) (hh : Hooks W g.bp g.L R (X ++ x :: Y))
    (hp : PoolIs W' { g with L := X ++ x :: Y }) (k : Keep (Gh.foot { g with L := X ++ Y }) W W') : Mid w g R (X ++ x :: Y) TT KK vt vo W' := by
  have hlow : ∀ i, Gh.foot { g with L := X ++ Y } i → i < w.heap.size := fun i hi => m.foot hi
  have hRout : ∀ y ∈ R, ¬ Gh.foot { g with L := X ++ Y } y.b := fun y hy => m.out hg (by simp [hy])
  refine ⟨hp, hh.keep k hRout, m.bx.keep k (fun h => by have := hlow _ h; omega), m.k.trans' k (fun i hi => .inl (foot_sub (fun y hy => m.sub y (by simp only [List.mem_append] at hy ⊢; exact .inr hy)) hi)),
    ownsRow_keep m.o1 k (fun b hb h => by have := hlow _ h; have := (m.o1.lt b hb).1; omega), ownsRow_keep m.o2 k (fun b hb h => by have := hlow _ h; have := (m.o2.lt b hb).1; omega), m.dis, Nat.le_trans m.sz k.size, m.old, ?_⟩
  intro y hy
  refine m.sub y ?_
  simp only [List.mem_append, List.mem_cons, List.cons_append] at hy ⊢
  rcases hy with hy | hy | hy | hy
  · exact .inr (.inl hy)
  · exact .inr (.inr (.inl hy))
  · exact .inl hy
  · exact .inr (.inr (.inr hy))

/-- What 'back' asks of the entry that is put back. -/
theorem Mid.can {w : World} {g : Gh} {R X Y TT : List Ent} {x : Ent} {KK : List ByteArray} {vt vo : Value} {W : World} (hg : PoolIs w g) (m : Mid w g (x :: R) (X ++ Y) TT KK vt vo W) :
    x.b ≠ g.bp ∧ x.b ≠ g.bs ∧ x.b ≠ g.bu ∧ x.b ∉ (X ++ Y).map Ent.b ∧ x.e.key ∉ (esOf (X ++ Y)).map E.key ∧ x.e.key.size ≤ maxLen ∧ x.e.t < g.sh.length ∧ 1 ≤ x.e.z ∧ tot (esOf (X ++ Y)) + x.e.z ≤ g.cap := by
  have ho := m.out hg (x := x) (by simp)
  have hxg : x ∈ g.L := m.sub x (by simp)
  have hxe : x.e ∈ g.es := List.mem_map_of_mem hxg
  have hp := m.perm
  refine ⟨fun e => ho (.inl e), fun e => ho (.inr (.inl e)), fun e => ho (.inr (.inr (.inl e))), fun e => ho (.inr (.inr (.inr (.inr e)))), ?_, hg.ks _ hxe, (hg.rng _ hxe).1, (hg.rng _ hxe).2, ?_⟩
  · have hn := ((hp.map Ent.e).map E.key).nodup_iff.1 hg.keys
    simp only [List.cons_append, List.map_cons, List.nodup_cons] at hn
    intro hm
    refine hn.1 ?_
    rw [List.map_append, List.map_append, List.mem_append]
    exact .inr hm
  · have ht := tot_perm (hp.map Ent.e)
    have hle := hg.le
    simp only [List.cons_append, List.map_cons, tot_cons, List.map_append, tot_append] at ht
    have hR : 0 ≤ tot (R.map Ent.e) := tot_nonneg _ (fun y hy => by
      obtain ⟨u, hu, rfl⟩ := List.mem_map.1 hy
      exact (hg.rng _ (List.mem_map_of_mem (m.sub u (by simp [hu])))).2)
    simp only [esOf, List.map_append, tot_append]
    simp only [Gh.es] at hle
    omega

/-- Between two rounds of the undoing. -/
def UI (w : World) (g : Gh) (R TT : List Ent) (KK : List ByteArray) (vt vo : Value) (bx : Nat) (i : Nat) (V : World) : Prop := ∃ L, Mid w g (R.drop i) L TT KK vt vo V ∧ Box V bx vt

theorem UI_own (w : World) (g : Gh) (R TT : List Ent) (KK : List ByteArray) (vt vo : Value) (bx B : Nat) (hB : w.heap.size + 1 ≤ B) (hbx : bx < B) : OwnFrom B (UI w g R TT KK vt vo bx) := by
  rintro i V V' row ⟨L, m, hb⟩ hg hr
  have k := Keep.of_grown hg
  have hrow : ∀ i, row = some i → w.heap.size + 1 ≤ i := fun i e => by have := (hr i e).1; omega
  obtain ⟨a1, a2, a3, a4, a5⟩ := m.grow k hrow
  have aux : ∀ {e n v xs}, V.ownsRow (w.heap.size + 1) e 1 v n xs → V'.ownsRow (w.heap.size + 1) e 1 v n xs := fun h => ownsRow_keep h k (fun b hb e => by
    obtain ⟨_, o, ho, hc⟩ := hr b e
    rcases h.2 with ⟨rfl, _⟩ | ⟨g', cap, cur, rfl, hb', hh, _⟩
    · cases hb
    · cases hb; rw [hh] at ho; cases ho; cases hc)
  exact ⟨L, ⟨a1, a2, a3, a4, aux m.o1, aux m.o2, m.dis, a5, m.old, m.sub⟩, hb.keep k (fun e => by have := (hr _ e).1; omega)⟩

theorem rev_getD (TT : List Ent) (i : Nat) (hi : i < TT.length) : ∃ x, TT.reverse.drop i = x :: TT.reverse.drop (i + 1) ∧ (TT.map Ent.b).getD ((TT.map Ent.b).length - 1 - i) 0 = x.b := by
  have h1 : i < TT.reverse.length := by simpa using hi
  refine ⟨TT.reverse[i], List.drop_eq_getElem_cons h1, ?_⟩
  rw [List.getElem_reverse, List.length_map, List.getD_eq_getElem?_getD, List.getElem?_map, List.getElem?_eq_getElem (by omega)]
  rfl

def revIx (xs : List Nat) (i : Nat) : Int := ((xs.length - 1 - i : Nat) : Int)
def revAt (xs : List Nat) (i : Nat) : Nat := xs.getD (xs.length - 1 - i) 0
theorem back1_iter' (bx bt c : Nat) (xs : List Nat) (hlen : xs.length ≤ 1000000000) : IterL Try.prog 39 #[.pointer (some ⟨bx, 0, none⟩)] xs.length (fun i => #[.int .i64 (revIx xs i), ptr (revAt xs i)]) (BackReads bx bt c xs) := back1_iter bx bt c xs hlen

theorem owns_reads {V : World} {lo n c b bx : Nat} {TT : List Ent} (h : V.ownsRow lo 55 1 (.slice (some ⟨b, 0, none⟩) n c) TT.length (TT.map (fun x => ptr x.b))) (hb : Box V bx (.slice (some ⟨b, 0, none⟩) n c)) : n = TT.length ∧ BackReads bx b c (TT.map Ent.b) V := by
  have hn : n = TT.length := by
    rcases h.2 with ⟨e, _⟩ | ⟨g', cap, cur, e, _⟩
    · cases e
    · cases e; rfl
  refine ⟨hn, ?_, ?_⟩
  · rw [List.length_map, ← hn]; exact hb.cell
  · intro k x hk
    have := h.cells (g := b) rfl k (ptr x) (by rw [List.getElem?_map] at hk ⊢; cases e : TT[k]? with | none => rw [e] at hk; cases hk | some y => rw [e] at hk; cases hk; rfl)
    rw [Addr.add_lit, Nat.zero_add] at this; exact this

theorem ownsRow_low {W : World} {lo lo' : Nat} {e : TypeId} {v : Value} {n : Nat} {xs : List Value} (h : W.ownsRow lo e 1 v n xs) (hl : lo' ≤ lo) : W.ownsRow lo' e 1 v n xs :=
  ⟨h.1, h.2.imp id (fun ⟨g, cap, cur, a1, a2, a3⟩ => ⟨g, cap, cur, a1, Nat.le_trans hl a2, a3⟩)⟩

/-- Put has put the entry. -/
theorem put_done {w : World} {g : Gh} {t : Nat} {key : ByteArray} {z : Int} {T L R TT : List Ent} {vt vo : Value} {W W' : World} (m : Mid w g R L TT (T.map (fun x => x.e.key)) vt vo W) (hev : Ev g.sh g.cap t z (wo g.L key) T L) (hfit : z ≤ g.cap - tot (esOf L))
    (hp : PoolIs W' { g with L := L ++ [newE W key t z] }) (k : Keep (Gh.foot { g with L := L }) W W') : PutOk g t key z w (.returned (.tuple #[vo, .bool true])) W' := by
  have hl := m.bx.lt
  refine ⟨T, L, newE W key t z, vo, rfl, hev, by omega, rfl, by show w.heap.size ≤ W.heap.size; omega, hp, ?_, ?_, m.k.trans' k (fun i hi => .inl (foot_sub (fun y hy => m.sub y (by simp [hy])) hi))⟩
  · have := ownsRow_keep m.o2 k (fun b hb h => by have := m.foot h; have := (m.o2.lt b hb).1; omega)
    rw [List.length_map, List.map_map] at this
    exact ownsRow_low this (by omega)
  · intro b hb hf
    have h1 := m.o2.lt b hb
    rcases hf with e | e | e | e | e
    · have := m.foot (i := b) (.inl e); omega
    · have := m.foot (i := b) (.inr (.inl e)); omega
    · have := m.foot (i := b) (.inr (.inr (.inl e))); omega
    · have := m.foot (i := b) (.inr (.inr (.inr (.inl e)))); omega
    · have e' : b ∈ (L ++ [newE W key t z]).map Ent.b := e
      rw [List.map_append, List.mem_append] at e'
      rcases e' with e' | e'
      · have := m.foot (i := b) (.inr (.inr (.inr (.inr e')))); omega
      · simp at e'; omega

theorem PI_step {w : World} {g : Gh} {t : Nat} {z : Int} {T0 L0 T L X1 Y1 : List Ent} {y : Ent} {vt vo : Value} {W : World} (hev : Ev g.sh g.cap t z L0 T L) (hfr : g.cap - tot (esOf L) < z) (hL1 : L = X1 ++ y :: Y1)
    (hX1 : (∀ u ∈ X1, fitsB g.sh (esOf L) t z u.e = false) ∧ fitsB g.sh (esOf L) t z y.e = true) (m : Mid w g (y :: (T0 ++ T).reverse) (X1 ++ Y1) ((T0 ++ T) ++ [y]) (T.map (fun x => x.e.key) ++ [y.e.key]) vt vo W) :
    PI w g t z T0 L0 (X1 ++ Y1).length vt vo W := by
  refine ⟨T ++ [y], X1 ++ Y1, rfl, hev.snoc ⟨hfr, X1, Y1, hL1, rfl, hX1⟩, ?_⟩
  have e1 : (T0 ++ (T ++ [y])).reverse = y :: (T0 ++ T).reverse := by rw [← List.append_assoc, List.reverse_append]; rfl
  have e2 : T0 ++ (T ++ [y]) = T0 ++ T ++ [y] := by rw [List.append_assoc]
  rw [e1, e2, List.map_append]
  exact m

/-- Left at its end alone. -/
def onlyN (Q : Exit → Act → World → Prop) : Exit → Act → World → Prop
  | .normal, a, w => Q .normal a w
  | _, _, _ => False
theorem onlyN_mk {Q : Exit → Act → World → Prop} {a : Act} {w : World} (h : Q .normal a w) : onlyN Q .normal a w := h
theorem wp_onlyN {P : Program} {c : Code} {Q : Exit → Act → World → Prop} {a : Act} {w : World} (h : c.wp P (onlyN Q) a w) : c.wp P Q a w := by
  refine wp_mono h ?_
  intro e a w h
  cases e <;> first | exact h | exact h.elim

theorem cell_new0 (W : World) (v : Value) (t : TypeId) : (W.alloc (.cells #[v] t)).cell? ⟨W.heap.size, 0, none⟩ = some v := (Box.new W t v).cell

end Go.Proofs.Ytigkhglgoabjaaa
