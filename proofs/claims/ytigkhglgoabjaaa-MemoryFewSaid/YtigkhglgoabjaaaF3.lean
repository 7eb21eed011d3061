/-
  Put: the invariant of its loop, and the step of the two appends.
-/
import Derived.Test.YtigkhglgoabjaaaF2
import Derived.Deep.RegionLaw
namespace Go.Proofs.Ytigkhglgoabjaaa
open Go.RowKit Go.Shelf

/-- What holds in Put while entries are taken: the pool, the entries that can be put back, the two slices. -/
structure Mid (w : World) (g : Gh) (R L TT : List Ent) (KK : List ByteArray) (vt vo : Value) (W : World) : Prop where
  p : PoolIs W { g with L := L }
  h : Hooks W g.bp g.L R L
  bx : Box W w.heap.size (ptr g.bp)
  k : Keep g.foot w W
  o1 : W.ownsRow (w.heap.size + 1) 55 1 vt TT.length (TT.map (fun x => ptr x.b))
  o2 : W.ownsRow (w.heap.size + 1) 9 1 vo KK.length (KK.map Value.string)
  dis : ∀ b, vt.ownBlock = some b → vo.ownBlock = some b → False
  sz : w.heap.size + 1 ≤ W.heap.size
  old : ∀ i, g.foot i → i < w.heap.size
  sub : ∀ x ∈ R ++ L, x ∈ g.L

theorem Mid.keep {w : World} {g : Gh} {R L TT : List Ent} {KK : List ByteArray} {vt vo : Value} {W W' : World} (m : Mid w g R L TT KK vt vo W) (k : Keep (fun _ => False) W W') : Mid w g R L TT KK vt vo W' :=
  ⟨m.p.keep k (fun _ _ h => h), m.h.keep k (fun _ _ h => h), m.bx.keep k (fun h => h), m.k.trans' k (fun _ h => h.elim), ownsRow_keep m.o1 k (fun _ _ h => h), ownsRow_keep m.o2 k (fun _ _ h => h), m.dis, Nat.le_trans m.sz k.size, m.old, m.sub⟩
theorem Mid.alloc {w : World} {g : Gh} {R L TT : List Ent} {KK : List ByteArray} {vt vo : Value} {W : World} (m : Mid w g R L TT KK vt vo W) (o : Obj) : Mid w g R L TT KK vt vo (W.alloc o) := m.keep ((Keep.refl _ W).alloc o)
theorem Mid.drew {w : World} {g : Gh} {R L TT : List Ent} {KK : List ByteArray} {vt vo : Value} {W : World} (m : Mid w g R L TT KK vt vo W) : Mid w g R L TT KK vt vo W.drew := m.keep (Keep.refl _ W).drew

theorem foot_sub {g : Gh} {L : List Ent} (h : ∀ x ∈ L, x ∈ g.L) {i : Nat} (hi : Gh.foot { g with L := L } i) : g.foot i := by
  rcases hi with hi | hi | hi | hi | hi
  · exact .inl hi
  · exact .inr (.inl hi)
  · exact .inr (.inr (.inl hi))
  · exact .inr (.inr (.inr (.inl hi)))
  · obtain ⟨x, hx, rfl⟩ := List.mem_map.1 hi
    exact .inr (.inr (.inr (.inr (List.mem_map_of_mem (h x hx)))))

theorem Mid.foot {w : World} {g : Gh} {R L TT : List Ent} {KK : List ByteArray} {vt vo : Value} {W : World} (m : Mid w g R L TT KK vt vo W) {i : Nat} (hi : Gh.foot { g with L := L } i) : i < w.heap.size :=
  m.old i (foot_sub (fun x hx => m.sub x (by simp [hx])) hi)
theorem Mid.hookb {w : World} {g : Gh} {R L TT : List Ent} {KK : List ByteArray} {vt vo : Value} {W : World} (m : Mid w g R L TT KK vt vo W) {x : Ent} (hx : x ∈ R) : x.b < w.heap.size :=
  m.old _ (.inr (.inr (.inr (.inr (List.mem_map_of_mem (m.sub x (by simp [hx])))))))

/-- Blocks from w's size on may turn, but for the box and the two slices. -/
theorem Mid.grow {w : World} {g : Gh} {R L TT : List Ent} {KK : List ByteArray} {vt vo : Value} {W W' : World} {A : Nat → Prop} (m : Mid w g R L TT KK vt vo W) (k : Keep A W W') (hA : ∀ i, A i → w.heap.size + 1 ≤ i) :
    PoolIs W' { g with L := L } ∧ Hooks W' g.bp g.L R L ∧ Box W' w.heap.size (ptr g.bp) ∧ Keep g.foot w W' ∧ w.heap.size + 1 ≤ W'.heap.size :=
  ⟨m.p.keep k (fun i hi ha => by have := hA i ha; have := m.foot hi; omega), m.h.keep k (fun x hx ha => by have := hA _ ha; have := m.hookb hx; omega), m.bx.keep k (fun ha => by have := hA _ ha; omega),
    m.k.trans' k (fun i ha => .inr (by have := hA i ha; omega)), Nat.le_trans m.sz k.size⟩

theorem Mid.app1 {w : World} {g : Gh} {R L TT : List Ent} {KK : List ByteArray} {vt vo : Value} {W : World} (m : Mid w g R L TT KK vt vo W) (x : Ent) (b : Nat) (hb : W.cell? ⟨b, 0, none⟩ = some (ptr x.b)) (hn : TT.length ≤ 1000000) (ty : TypeId) :
    ∃ v' w', (Builtin.append_ #[66, 66] ty #[vt, .slice (some ⟨b, 0, none⟩) 1 1]).run Try.prog W = .ok v' w' ∧ Mid w g R L (TT ++ [x]) KK v' vo w' ∧ Keep (fun k => vt.ownBlock = some k) W w' ∧ (∃ g' c, v' = .slice (some ⟨g', 0, none⟩) (TT.length + 1) c) := by
  obtain ⟨i0, hi, hz0, hz1, hz2⟩ := info_parts info55
  obtain ⟨v', w', h1, h2, h3, h4, h5⟩ := run_append_own_at (P := Try.prog) W (w.heap.size + 1) 66 ty 55 i0 (.pointer none) 1 8 Try.underlying66 hi hz0 hz1 hz2 rfl (by decide) vt TT.length _ m.o1 ⟨b, 0, none⟩ 1 1 [ptr x.b] rfl
    (by intro j u hj; cases j with
        | zero => simp at hj; subst hj; simpa [Addr.add] using hb
        | succ j => simp at hj) (by simp [Value.oneCell']) (by unfold maxLen; omega) (by omega) m.sz
  have hob : ∀ i, vt.ownBlock = some i → w.heap.size + 1 ≤ i := fun i hi => (m.o1.lt i hi).1
  obtain ⟨a1, a2, a3, a4, a5⟩ := m.grow (Keep.of_grown h3) (fun i e => hob i e)
  refine ⟨v', w', h1, ⟨a1, a2, a3, a4, ?_, ?_, ?_, a5, m.old, m.sub⟩, Keep.of_grown h3, ownsRow_succ h2⟩
  · rw [List.length_append, List.map_append]; exact h2
  · exact ownsRow_keep m.o2 (Keep.of_grown h3) (fun i hi e => m.dis i e hi)
  · intro i e1 e2
    rcases h5 with h5 | h5
    · exact m.dis i (h5 ▸ e1) e2
    · rw [h5] at e1; cases e1
      exact absurd (m.o2.lt _ e2).2 (by omega)

theorem Mid.app2 {w : World} {g : Gh} {R L TT : List Ent} {KK : List ByteArray} {vt vo : Value} {W : World} (m : Mid w g R L TT KK vt vo W) (s : ByteArray) (b : Nat) (hb : W.cell? ⟨b, 0, none⟩ = some (.string s)) (hn : KK.length ≤ 1000000) (ty : TypeId) :
    ∃ v' w', (Builtin.append_ #[38, 38] ty #[vo, .slice (some ⟨b, 0, none⟩) 1 1]).run Try.prog W = .ok v' w' ∧ Mid w g R L TT (KK ++ [s]) vt v' w' ∧ (∃ g' c, v' = .slice (some ⟨g', 0, none⟩) (KK.length + 1) c) := by
  obtain ⟨i0, hi, hz0, hz1, hz2⟩ := info_parts info9
  obtain ⟨v', w', h1, h2, h3, h4, h5⟩ := run_append_own_at (P := Try.prog) W (w.heap.size + 1) 38 ty 9 i0 (.string ⟨#[]⟩) 1 16 Try.underlying38 hi hz0 hz1 hz2 rfl (by decide) vo KK.length _ m.o2 ⟨b, 0, none⟩ 1 1 [.string s] rfl
    (by intro j u hj; cases j with
        | zero => simp at hj; subst hj; simpa [Addr.add] using hb
        | succ j => simp at hj) (by simp [Value.oneCell']) (by unfold maxLen; omega) (by omega) m.sz
  have hob : ∀ i, vo.ownBlock = some i → w.heap.size + 1 ≤ i := fun i hi => (m.o2.lt i hi).1
  obtain ⟨a1, a2, a3, a4, a5⟩ := m.grow (Keep.of_grown h3) (fun i e => hob i e)
  refine ⟨v', w', h1, ⟨a1, a2, a3, a4, ?_, ?_, ?_, a5, m.old, m.sub⟩, ownsRow_succ h2⟩
  · exact ownsRow_keep m.o1 (Keep.of_grown h3) (fun i hi e => m.dis i hi e)
  · rw [List.length_append, List.map_append]; exact h2
  · intro i e1 e2
    rcases h5 with h5 | h5
    · exact m.dis i e1 (h5 ▸ e2)
    · rw [h5] at e2; cases e2
      exact absurd (m.o1.lt _ e1).2 (by omega)

/-- An append at an operation of a drawing region, its run known. -/
theorem step_appP {P : Program} {ops : Array Oper} {o : Oper} {a : Act} {w w' : World} {K : Act → World → Prop} {Q : Exit → Act → World → Prop} {E : Prop} {v v2 v' : Value}
    (hg : o.guard = none) (s x : Operand) (t : TypeId) (hop : o.op = Op.call { callee := Callee.builtin Builtin.append, args := #[s, x], argTypes := #[t, t] })
    (hs : a.eval s = v) (hx : a.eval x = v2) (hrun : (Builtin.append_ #[t, t] o.type #[v, v2]).run P w = .ok v' w') (hK : K (a.put o.dst v') w') :
    if Region.wanted o (yielded ops a.tmps) = true then Oper.wp P o a w K Q else E := by
  have hw : Region.wanted o (yielded ops a.tmps) = true := by simp [Region.wanted, hg]
  rw [if_pos hw]
  unfold Oper.wp
  simp [execOp, hop, resolve, invoke, builtin, hs, hx, hrun, Result.andThen]
  exact hK
end Go.Proofs.Ytigkhglgoabjaaa
