/-
  Appending one element; Keys.
-/
import Derived.Test.YtigkhglgoabjaaaD3
import Derived.Maps.AppendAt
import Derived.RegionIn
import Derived.Sort.QuietIn
import Derived.RangeFuncBox
namespace Go.Proofs.Ytigkhglgoabjaaa
open Go.RowKit Go.Shelf
attribute [local go_sem] Oper.semAt_some

theorem info9 : (Try.prog.info? 9).map (fun i => (i.zero, i.size, i.bytes)) = some (some (.string ⟨#[]⟩), 1, 16) := by kernel_rfl
theorem info55 : (Try.prog.info? 55).map (fun i => (i.zero, i.size, i.bytes)) = some (some (.pointer none), 1, 8) := by kernel_rfl
theorem info3 : (Try.prog.info? 3).map (fun i => (i.zero, i.size, i.bytes)) = some (some (.int .i64 0), 1, 8) := by kernel_rfl

/-- One element more, for a slice of the call's own; the element lies in a new block. -/
theorem app_one {t e : TypeId} {z : Value} {bytes : Nat} (ht : Try.prog.underlying t = some (.slice e)) (hinfo : (Try.prog.info? e).map (fun i => (i.zero, i.size, i.bytes)) = some (some z, 1, bytes)) (hz : z.cells.size = 1)
    (W : World) (ty lo : Nat) (v : Value) (n : Nat) (xs : List Value) (x : Value) (hx : x.oneCell' = true) (hown : W.ownsRow lo e 1 v n xs) (hn : n + 1 ≤ 1000000000) (hb : bytes ≤ 1000) (hlo : lo ≤ W.heap.size) :
    ∃ v' w', (Builtin.append_ #[t, t] ty #[v, .slice (some ⟨W.heap.size, 0, none⟩) 1 1]).run Try.prog (W.alloc (.cells #[x] e)) = .ok v' w' ∧ w'.ownsRow lo e 1 v' (n + 1) (xs ++ [x]) ∧
      Keep (fun k => v.ownBlock = some k) W w' ∧ (v'.ownBlock = v.ownBlock ∨ v'.ownBlock = some (W.heap.size + 1)) ∧ ∃ g c, v' = .slice (some ⟨g, 0, none⟩) (n + 1) c := by
  obtain ⟨i0, hi, hz0, hz1, hz2⟩ := info_parts hinfo
  obtain ⟨v', w', h1, h2, h3, h4, h5⟩ := run_append_own_at (P := Try.prog) (W.alloc (.cells #[x] e)) lo t ty e i0 z 1 bytes ht hi hz0 hz1 hz2 hz (by decide) v n xs (hown.alloc _) ⟨W.heap.size, 0, none⟩ 1 1 [x] rfl (cell_one_new W x e)
    (by simpa using hx) (by unfold maxLen; omega) (by have := Nat.mul_le_mul hn hb; omega) (by rw [World.size_alloc]; omega)
  refine ⟨v', w', h1, h2, ((Keep.refl _ W).alloc _).trans (Keep.of_grown h3), by rw [World.size_alloc] at h5; exact h5, ?_⟩
  exact ownsRow_succ h2

theorem app_str (W : World) (ty lo : Nat) (v : Value) (n : Nat) (xs : List Value) (s : ByteArray) (hown : W.ownsRow lo 9 1 v n xs) (hn : n + 1 ≤ 1000000000) (hlo : lo ≤ W.heap.size) :
    ∃ v' w', (Builtin.append_ #[38, 38] ty #[v, .slice (some ⟨W.heap.size, 0, none⟩) 1 1]).run Try.prog (W.alloc (.cells #[.string s] 9)) = .ok v' w' ∧ w'.ownsRow lo 9 1 v' (n + 1) (xs ++ [.string s]) ∧
      Keep (fun k => v.ownBlock = some k) W w' ∧ (v'.ownBlock = v.ownBlock ∨ v'.ownBlock = some (W.heap.size + 1)) ∧ ∃ g c, v' = .slice (some ⟨g, 0, none⟩) (n + 1) c :=
  app_one Try.underlying38 info9 rfl W ty lo v n xs (.string s) rfl hown hn (by decide) hlo
theorem app_ptr (W : World) (ty lo : Nat) (v : Value) (n : Nat) (xs : List Value) (b : Nat) (hown : W.ownsRow lo 55 1 v n xs) (hn : n + 1 ≤ 1000000000) (hlo : lo ≤ W.heap.size) :
    ∃ v' w', (Builtin.append_ #[66, 66] ty #[v, .slice (some ⟨W.heap.size, 0, none⟩) 1 1]).run Try.prog (W.alloc (.cells #[ptr b] 55)) = .ok v' w' ∧ w'.ownsRow lo 55 1 v' (n + 1) (xs ++ [ptr b]) ∧
      Keep (fun k => v.ownBlock = some k) W w' ∧ (v'.ownBlock = v.ownBlock ∨ v'.ownBlock = some (W.heap.size + 1)) ∧ ∃ g c, v' = .slice (some ⟨g, 0, none⟩) (n + 1) c :=
  app_one Try.underlying66 info55 rfl W ty lo v n xs (ptr b) rfl hown hn (by decide) hlo
theorem app_int (W : World) (ty lo : Nat) (v : Value) (n : Nat) (xs : List Value) (b : Int) (hown : W.ownsRow lo 3 1 v n xs) (hn : n + 1 ≤ 1000000000) (hlo : lo ≤ W.heap.size) :
    ∃ v' w', (Builtin.append_ #[22, 22] ty #[v, .slice (some ⟨W.heap.size, 0, none⟩) 1 1]).run Try.prog (W.alloc (.cells #[.int .i64 b] 3)) = .ok v' w' ∧ w'.ownsRow lo 3 1 v' (n + 1) (xs ++ [.int .i64 b]) ∧
      Keep (fun k => v.ownBlock = some k) W w' ∧ (v'.ownBlock = v.ownBlock ∨ v'.ownBlock = some (W.heap.size + 1)) ∧ ∃ g c, v' = .slice (some ⟨g, 0, none⟩) (n + 1) c :=
  app_one Try.underlying22 info3 rfl W ty lo v n xs (.int .i64 b) rfl hown hn (by decide) hlo

theorem ownsRow_keep {W W' : World} {lo : Nat} {e : TypeId} {v : Value} {n : Nat} {xs : List Value} {A : Nat → Prop} (h : W.ownsRow lo e 1 v n xs) (k : Keep A W W') (hA : ∀ b, v.ownBlock = some b → ¬ A b) : W'.ownsRow lo e 1 v n xs := by
  have hlt := h.lt
  obtain ⟨h1, h2⟩ := h
  refine ⟨h1, ?_⟩
  rcases h2 with h2 | ⟨g, cap, cur, rfl, hb, hh, r⟩
  · exact .inl h2
  · exact .inr ⟨g, cap, cur, rfl, hb, k.heap hh (hA g rfl), r⟩

/-- The keys of a tenant, in their order. -/
def keysOf (L : List E) (t : Int) : List ByteArray := (L.filter (fun e => (e.t : Int) == t)).map E.key

theorem keysOf_snoc (L : List E) (x : E) (t : Int) : keysOf (L ++ [x]) t = keysOf L t ++ if ((x.t : Int) == t) then [x.key] else [] := by
  unfold keysOf
  rw [List.filter_append, List.map_append]
  by_cases h : ((x.t : Int) == t) = true
  · simp [h]
  · simp [h]
theorem keysOf_length (L : List E) (t : Int) : (keysOf L t).length ≤ L.length := by unfold keysOf; rw [List.length_map]; exact List.length_filter_le _ _

theorem length_le_tot : ∀ (L : List E), (∀ x ∈ L, 1 ≤ x.z) → (L.length : Int) ≤ tot L
  | [], _ => by simp [tot]
  | x :: r, h => by rw [tot_cons]; have := h x (by simp); have := length_le_tot r (fun y hy => h y (by simp [hy])); simp only [List.length_cons]; omega
theorem PoolIs.len {w : World} {g : Gh} (h : PoolIs w g) : g.L.length ≤ 1000000 := by
  have h1 := length_le_tot g.es (fun y hy => (h.rng y hy).2)
  have h2 := h.le; have h3 := h.cap
  simp [Gh.es] at h1 h2
  omega

/-- An append in a round, its run known. -/
theorem step_app {l n : Nat} {P : Program} {ops : Array Oper} {o : Oper} {a : Act} {w w' : World} {K : Act → World → Prop} {Q : Exit → Act → World → Prop} {E : Prop} {v v2 v' : Value}
    (hg : o.guard = none) (s x : Operand) (t : TypeId) (hop : o.op = Op.call { callee := Callee.builtin Builtin.append, args := #[s, x], argTypes := #[t, t] })
    (hs : a.eval s = v) (hx : a.eval x = v2) (hrun : (Builtin.append_ #[t, t] o.type #[v, v2]).run P w = .ok v' w') (hK : K (a.put o.dst v') w') :
    if Region.wanted o (yielded ops a.tmps) = true then Oper.wpIn (Fence.wide.inRound l) n P o a w K Q else E := by
  have hw : Region.wanted o (yielded ops a.tmps) = true := by simp [Region.wanted, hg]
  rw [if_pos hw]
  unfold Oper.wpIn
  refine ⟨fun _ _ => trivial, ?_⟩
  rw [Oper.semAt_plain _ _ _ (by rw [hop]; intro c hc'; cases hc')]
  simp [execOp, hop, resolve, invoke, builtin, hs, hx, hrun, Result.andThen]
  exact hK

/-- Between two rounds of Keys. -/
def KI (w : World) (g : Gh) (t : Int) (i : Nat) (V : World) : Prop :=
  Box V w.heap.size (.int .i64 t) ∧ Box V (w.heap.size + 1 + 1) (ptr g.bp) ∧ PoolIs V g ∧ Keep (fun _ => False) w V ∧ w.heap.size + 1 + 1 + 1 ≤ V.heap.size ∧
    ∃ v, Box V (w.heap.size + 1) v ∧ V.ownsRow (w.heap.size + 1 + 1 + 1) 9 1 v (keysOf ((g.L.take i).map Ent.e) t).length ((keysOf ((g.L.take i).map Ent.e) t).map Value.string)

theorem Keep.of_drew2 {A : Nat → Prop} {V W : World} (h : Keep A V.drew.drew W) : Keep A V W := ⟨h.os, h.tape, h.output, h.size, h.block⟩

theorem KI_own (w : World) (g : Gh) (t : Int) (h : PoolIs w g) (B : Nat) (hB : w.heap.size + 3 ≤ B) : OwnFrom B (KI w g t) := by
  rintro i V V' row ⟨h1, h2, h3, h4, hs, v, h5, h6⟩ hg hr
  have k := Keep.of_grown hg
  have hA : ∀ i, i < w.heap.size + 3 → ¬ (row = some i) := fun i hi e => by have := (hr i e).1; omega
  refine ⟨h1.keep k (hA _ (by omega)), h2.keep k (hA _ (by omega)), h3.keep k (fun i hi => hA i (by have := h.foot_lt hi; omega)), h4.trans' k (fun i e => .inr (by have := (hr i e).1; omega)), Nat.le_trans hs k.size, v, h5.keep k (hA _ (by omega)), ?_⟩
  refine ownsRow_keep h6 k (fun b hb e => ?_)
  obtain ⟨_, o, ho, hc⟩ := hr b e
  rcases h6.2 with ⟨rfl, _⟩ | ⟨g', cap, cur, rfl, hb', hh, _⟩
  · cases hb
  · cases hb
    rw [hh] at ho
    cases ho
    cases hc

set_option maxHeartbeats 400000 in
theorem keys_nil (t : Int) (w : World) : Calls Try.prog 20 #[.pointer none, .int .i64 t] w fun e w' => e = .returned (.slice none 0 0) ∧ Keep (fun _ => False) w w' := by
  go_enter Try.func20, Try.ntmps20
  go_wp2
  refine bodyPost_ret (v := .slice none 0 0) (by simp [results, Try.f20, go_sem]) rfl ⟨rfl, ?_⟩
  exact ((Keep.refl _ w).alloc _).alloc _

set_option maxRecDepth 100000 in
set_option maxHeartbeats 1000000 in
theorem keys_pool (g : Gh) (t : Int) (w : World) (h : PoolIs w g) :
    Calls Try.prog 20 #[ptr g.bp, .int .i64 t] w fun e w' => ∃ v, e = .returned v ∧ w'.ownsRow w.heap.size 9 1 v (keysOf g.es t).length ((keysOf g.es t).map Value.string) ∧ Keep (fun _ => False) w w' := by
  have H := Lib.hid h; clear h
  refine (callsIn_wide (n := 0)).1 ?_
  refine callsIn_of_wp_marks Try.func20 rfl trivial ?_ rfl
  simp only [Try.ntmps20, List.size_toArray, List.length_cons, List.length_nil, Nat.reduceAdd, Nat.reduceSub, Array.replicate_succ, Array.replicate_zero, List.push_toArray, List.append_toArray, List.nil_append, List.cons_append]
  gi_wp2_with fail
  refine ⟨trivial, rfl, (callsIn_wide.2 (all_any g.bp _)).mono ?_⟩
  rintro e w' ⟨rfl, rfl⟩
  have hb0 : Box (((w.alloc (.cells #[.int .i64 t] 3)).alloc (.cells #[.slice none 0 0] 38)).alloc (.cells #[ptr g.bp] 79)) w.heap.size (.int .i64 t) := ((Box.new w 3 _).alloc _).alloc _
  have hb1 : Box (((w.alloc (.cells #[.int .i64 t] 3)).alloc (.cells #[.slice none 0 0] 38)).alloc (.cells #[ptr g.bp] 79)) (w.heap.size + 1) (.slice none 0 0) := by
    have := Box.new (w.alloc (.cells #[.int .i64 t] 3)) 38 (.slice none 0 0)
    rw [World.size_alloc] at this
    exact this.alloc _
  have hb2 : Box (((w.alloc (.cells #[.int .i64 t] 3)).alloc (.cells #[.slice none 0 0] 38)).alloc (.cells #[ptr g.bp] 79)) (w.heap.size + 1 + 1) (ptr g.bp) := by
    have := Box.new ((w.alloc (.cells #[.int .i64 t] 3)).alloc (.cells #[.slice none 0 0] 38)) 79 (ptr g.bp)
    rw [World.size_alloc, World.size_alloc] at this
    exact this
  have hp : PoolIs (((w.alloc (.cells #[.int .i64 t] 3)).alloc (.cells #[.slice none 0 0] 38)).alloc (.cells #[ptr g.bp] 79)) g := ((H.out.alloc _).alloc _).alloc _
  have hkp := (((Keep.refl (fun _ => False) w).alloc (.cells #[.int .i64 t] 3)).alloc (.cells #[.slice none 0 0] 38)).alloc (.cells #[ptr g.bp] 79)
  have hsz : (((w.alloc (.cells #[.int .i64 t] 3)).alloc (.cells #[.slice none 0 0] 38)).alloc (.cells #[ptr g.bp] 79)).heap.size = w.heap.size + 1 + 1 + 1 := by simp
  rw [show ((w.alloc (.cells #[.int .i64 t] 3)).alloc (.cells #[.slice none 0 0] 38)).heap.size = w.heap.size + 1 + 1 by simp]
  generalize ((w.alloc (.cells #[.int .i64 t] 3)).alloc (.cells #[.slice none 0 0] 38)).alloc (.cells #[ptr g.bp] 79) = w1 at hb0 hb1 hb2 hp hkp hsz ⊢
  have HSZ := Lib.hid hsz; clear hsz
  gi_wp2_with fail
  refine range_list (gf := 41) (lb := #[.pointer (some ⟨w.heap.size + 1 + 1, 0, none⟩)]) rfl (enters_of Try.func41 (by kernel_rfl) rfl) (all1_iter _ g.bp g.bl H.out.bp_notin) (fun _ _ => rfl)
    (KI w g t) (fun _ _ _ => False) (KI_own _ _ _ H.out _ (by rw [HSZ.out]; omega)) (fun _ _ _ _ _ h _ _ => h)
    (fun i V h => h.2.2.1.reads h.2.1) ⟨hb0, hb2, hp, hkp, by rw [HSZ.out]; omega, _, hb1, World.ownsRow_nil _ _ _ _⟩
    (fun i => { tmps := #[ptr g.bp, .int .i64 t, undef, .pointer (some ⟨w.heap.size, 0, none⟩), .pointer (some ⟨w.heap.size + 1, 0, none⟩), ptr (ringAt g.bp g.bl i), ptr g.bp, .bool false, ptr g.bp, .pointer (some ⟨g.bp, 0, none⟩), .pointer (some ⟨g.bp, 0, none⟩),
      .func (.func 41) #[] #[.pointer (some ⟨w.heap.size + 1 + 1, 0, none⟩)], ptr (ringAt g.bp g.bl i), undef, undef, undef, undef, undef, undef, undef, undef, undef, undef, undef, undef, undef, undef], defers := [] }) ?assign ?body ?done ?stop
  case assign =>
    intro l i V K hi hK
    gi_wp2
    exact hK
  case body =>
    rintro l i V hi ⟨h1, h2, h3, h4, h5, v, h6, h7⟩ hs
    have hil : i < g.L.length := by simpa [Gh.bl] using hi
    have hx : g.L[i]? = some g.L[i] := List.getElem?_eq_getElem hil
    generalize g.L[i] = x at hx
    have hxm : x ∈ g.L := List.mem_of_getElem? hx
    rw [ringAt_get hx]
    have hx' := h3.ents x hxm
    have c0 := hx'.c0
    have c1 := hx'.c1
    have cb := h1.cell
    have co := h6.cell
    have fo := h6.frozen 0
    have hkl := keysOf_length ((g.L.take i).map Ent.e) t
    have hln := H.out.len
    rw [List.length_map, List.length_take] at hkl
    have hstep : keysOf ((g.L.take (i + 1)).map Ent.e) t = keysOf ((g.L.take i).map Ent.e) t ++ if ((x.e.t : Int) == t) then [x.e.key] else [] := by
      rw [take_succ_get hx, List.map_append]; exact keysOf_snoc _ _ _
    have HST := Lib.hid hstep; clear hstep
    generalize keysOf ((g.L.take i).map Ent.e) t = ks at h7 HST hkl
    have HH := Lib.hid (And.intro h1 (And.intro h2 (And.intro h3 (And.intro h4 (And.intro h5 (And.intro h6 h7)))))); clear h1 h2 h3 h4 h5 h6 h7 hx'
    have HX := Lib.hid hx; clear hx
    have HS := Lib.hid hs; clear hs
    cases hte : ((x.e.t : Int) == t) with
    | false =>
      have hte' : ((x.e.t : Int) == t) = false := hte
      have fin : roundL w1.heap.size (KI w g t) (fun _ _ _ => False) i V .normal ⟨#[], []⟩ V.drew := by
        obtain ⟨h1, h2, h3, h4, h5, h6, h7⟩ := HH.out
        refine ⟨(KeepsOthers.drew V).from _, h1.drew, h2.drew, h3.drew, h4.drew, h5, v, h6.drew, ?_⟩
        rw [HST.out, hte', if_neg (by decide), List.append_nil]
        exact h7
      have FIN := Lib.hid fin; clear fin
      gi_wp2
      gi_region
      all_goals (gi_wp2; exact FIN.out)
    | true =>
      have hte' : ((x.e.t : Int) == t) = true := hte
      obtain ⟨v', w', happ, hown', hk', hloc, gb, cc, rfl⟩ := app_str V.drew.drew 38 (w.heap.size + 1 + 1 + 1) v ks.length (ks.map Value.string) x.e.key HH.out.2.2.2.2.2.2 (by omega) HH.out.2.2.2.2.1
      have happ' : (Builtin.append_ #[38, 38] 38 #[v, .slice (some ⟨V.heap.size, 0, none⟩) 1 1]).run Try.prog ((V.alloc (.cells #[.string x.e.key] 9)).drew.drew) = .ok (.slice (some ⟨gb, 0, none⟩) (ks.length + 1) cc) w' := happ
      have hk2 : Keep (fun k => v.ownBlock = some k) V w' := hk'.of_drew2
      have hob : ∀ b, v.ownBlock = some b → w.heap.size + 1 + 1 + 1 ≤ b := fun b hb => (HH.out.2.2.2.2.2.2.lt b hb).1
      have hbx : Box w' (w.heap.size + 1) v := HH.out.2.2.2.2.2.1.keep hk2 (fun e => by have := hob _ e; omega)
      have cw := hbx.cell
      have fw := hbx.frozen 0
      have coa : (V.alloc (.cells #[.string x.e.key] 9)).cell? ⟨w.heap.size + 1, 0, none⟩ = some v := (HH.out.2.2.2.2.2.1.alloc _).cell
      have fin : roundL w1.heap.size (KI w g t) (fun _ _ _ => False) i V .normal ⟨#[], []⟩ (w'.setCell ⟨w.heap.size + 1, 0, none⟩ (.slice (some ⟨gb, 0, none⟩) (ks.length + 1) cc)) := by
        obtain ⟨h1, h2, h3, h4, h5, h6, h7⟩ := HH.out
        have hgb : w.heap.size + 1 + 1 + 1 ≤ gb := (hown'.lt gb rfl).1
        have ks1 := (Keep.refl (fun k => k = w.heap.size + 1) w').setCell (p := ⟨w.heap.size + 1, 0, none⟩) (.slice (some ⟨gb, 0, none⟩) (ks.length + 1) cc) (.inl rfl)
        have hft : ∀ i, g.foot i → i < w.heap.size := fun i hi => H.out.foot_lt hi
        have a1 := (h1.keep hk2 (fun e => by have := hob _ e; omega)).keep ks1 (by omega)
        have a2 := (h2.keep hk2 (fun e => by have := hob _ e; omega)).keep ks1 (by omega)
        have a3 := (h3.keep hk2 (fun i hi e => by have := hob _ e; have := hft i hi; omega)).keep ks1 (fun i hi e => by have := hft i hi; omega)
        refine ⟨⟨?_, ?_⟩, a1, a2, a3, ?_, ?_, _, hbx.set _, ?_⟩
        · exact Nat.le_trans hk2.size ks1.size
        · intro k o hB hk ho
          refine ks1.heap (hk2.heap hk (fun e => ?_)) (by rw [HSZ.out] at hB; omega)
          rcases h7.2 with ⟨rfl, _⟩ | ⟨g', cap, cur, rfl, hb', hh, _⟩
          · cases e
          · cases e
            rw [hh] at hk
            cases hk
            cases ho
        · exact (h4.trans' hk2 (fun i e => .inr (by have := hob _ e; omega))).trans' ks1 (fun i e => .inr (by omega))
        · exact Nat.le_trans h5 (Nat.le_trans hk2.size ks1.size)
        · rw [HST.out, hte', if_pos rfl, List.length_append, List.map_append]
          exact ownsRow_keep hown' ks1 (fun b hb e => by cases hb; have : gb = w.heap.size + 1 := e; omega)
      have FIN := Lib.hid fin; clear fin
      clear happ hk' hloc hown' hbx
      have HK2 := Lib.hid hk2; clear hk2
      have HOB := Lib.hid hob; clear hob
      gi_wp2
      gi_region
      all_goals gi_wp2
      all_goals
        refine wpIn_region_any (by kernel_rfl) ?_
        change wpAnyIn _ _ _ _ _ _ _ _ _ (World.drew _)
        refine wpAnyIn_ready (rs := [0, 1]) (by kernel_rfl) (by simp) ?_
        refine AllReadyIn.cons rfl (fun K hK => ?_) ?_
        · go_simp
          refine hK _ _ ?_; clear hK K
          refine wpAnyIn_ready (rs := [1]) (by kernel_rfl) (by simp) ?_
          refine AllReadyIn.cons rfl (fun K hK => ?_) AllReadyIn.nil
          go_simp
          refine hK _ _ ?_; clear hK K
          refine wpAnyIn_ready (rs := [2]) (by kernel_rfl) (by simp) ?_
          refine AllReadyIn.cons rfl (fun K hK => ?_) AllReadyIn.nil
          go_simp
          refine hK _ _ ?_; clear hK K
          refine wpAnyIn_ready (rs := [3]) (by kernel_rfl) (by simp) ?_
          refine AllReadyIn.cons rfl (fun K hK => ?_) AllReadyIn.nil
          go_simp
          refine hK _ _ ?_; clear hK K
          refine wpAnyIn_ready (rs := [4]) (by kernel_rfl) (by simp) ?_
          refine AllReadyIn.cons rfl (fun K hK => ?_) AllReadyIn.nil
          go_simp
          refine hK _ _ ?_; clear hK K
          refine wpAnyIn_ready (rs := [5]) (by kernel_rfl) (by simp) ?_
          refine AllReadyIn.cons rfl (fun K hK => ?_) AllReadyIn.nil
          go_simp
          refine hK _ _ ?_; clear hK K
          refine wpAnyIn_ready (rs := [6]) (by kernel_rfl) (by simp) ?_
          refine AllReadyIn.cons rfl (fun K hK => ?_) AllReadyIn.nil
          refine step_app rfl (.tmp 19) (.tmp 24) 38 rfl (v := v) (v2 := .slice (some ⟨V.heap.size, 0, none⟩) 1 1) rfl rfl happ' (hK _ _ ?_); clear hK K
          simp only [Act.put, List.setIfInBounds_toArray]
          refine wpAnyIn_ready (rs := [7]) (by kernel_rfl) (by simp) ?_
          refine AllReadyIn.cons rfl (fun K hK => ?_) AllReadyIn.nil
          go_simp
          refine hK _ _ ?_; clear hK K
          refine wpAnyIn_done (by kernel_rfl) ?_ _
          gi_wp2
          exact FIN.out
        refine AllReadyIn.cons rfl (fun K hK => ?_) AllReadyIn.nil
        go_simp
        refine hK _ _ ?_; clear hK K
        refine wpAnyIn_ready (rs := [0, 2]) (by kernel_rfl) (by simp) ?_
        refine AllReadyIn.cons rfl (fun K hK => ?_) ?_
        · go_simp
          refine hK _ _ ?_; clear hK K
          refine wpAnyIn_ready (rs := [2]) (by kernel_rfl) (by simp) ?_
          refine AllReadyIn.cons rfl (fun K hK => ?_) AllReadyIn.nil
          go_simp
          refine hK _ _ ?_; clear hK K
          refine wpAnyIn_ready (rs := [3]) (by kernel_rfl) (by simp) ?_
          refine AllReadyIn.cons rfl (fun K hK => ?_) AllReadyIn.nil
          go_simp
          refine hK _ _ ?_; clear hK K
          refine wpAnyIn_ready (rs := [4]) (by kernel_rfl) (by simp) ?_
          refine AllReadyIn.cons rfl (fun K hK => ?_) AllReadyIn.nil
          go_simp
          refine hK _ _ ?_; clear hK K
          refine wpAnyIn_ready (rs := [5]) (by kernel_rfl) (by simp) ?_
          refine AllReadyIn.cons rfl (fun K hK => ?_) AllReadyIn.nil
          go_simp
          refine hK _ _ ?_; clear hK K
          refine wpAnyIn_ready (rs := [6]) (by kernel_rfl) (by simp) ?_
          refine AllReadyIn.cons rfl (fun K hK => ?_) AllReadyIn.nil
          refine step_app rfl (.tmp 19) (.tmp 24) 38 rfl (v := v) (v2 := .slice (some ⟨V.heap.size, 0, none⟩) 1 1) rfl rfl happ' (hK _ _ ?_); clear hK K
          simp only [Act.put, List.setIfInBounds_toArray]
          refine wpAnyIn_ready (rs := [7]) (by kernel_rfl) (by simp) ?_
          refine AllReadyIn.cons rfl (fun K hK => ?_) AllReadyIn.nil
          go_simp
          refine hK _ _ ?_; clear hK K
          refine wpAnyIn_done (by kernel_rfl) ?_ _
          gi_wp2
          exact FIN.out
        refine AllReadyIn.cons rfl (fun K hK => ?_) AllReadyIn.nil
        go_simp
        refine hK _ _ ?_; clear hK K
        refine wpAnyIn_ready (rs := [0, 3]) (by kernel_rfl) (by simp) ?_
        refine AllReadyIn.cons rfl (fun K hK => ?_) ?_
        · go_simp
          refine hK _ _ ?_; clear hK K
          refine wpAnyIn_ready (rs := [3]) (by kernel_rfl) (by simp) ?_
          refine AllReadyIn.cons rfl (fun K hK => ?_) AllReadyIn.nil
          go_simp
          refine hK _ _ ?_; clear hK K
          refine wpAnyIn_ready (rs := [4]) (by kernel_rfl) (by simp) ?_
          refine AllReadyIn.cons rfl (fun K hK => ?_) AllReadyIn.nil
          go_simp
          refine hK _ _ ?_; clear hK K
          refine wpAnyIn_ready (rs := [5]) (by kernel_rfl) (by simp) ?_
          refine AllReadyIn.cons rfl (fun K hK => ?_) AllReadyIn.nil
          go_simp
          refine hK _ _ ?_; clear hK K
          refine wpAnyIn_ready (rs := [6]) (by kernel_rfl) (by simp) ?_
          refine AllReadyIn.cons rfl (fun K hK => ?_) AllReadyIn.nil
          refine step_app rfl (.tmp 19) (.tmp 24) 38 rfl (v := v) (v2 := .slice (some ⟨V.heap.size, 0, none⟩) 1 1) rfl rfl happ' (hK _ _ ?_); clear hK K
          simp only [Act.put, List.setIfInBounds_toArray]
          refine wpAnyIn_ready (rs := [7]) (by kernel_rfl) (by simp) ?_
          refine AllReadyIn.cons rfl (fun K hK => ?_) AllReadyIn.nil
          go_simp
          refine hK _ _ ?_; clear hK K
          refine wpAnyIn_done (by kernel_rfl) ?_ _
          gi_wp2
          exact FIN.out
        refine AllReadyIn.cons rfl (fun K hK => ?_) AllReadyIn.nil
        go_simp
        refine hK _ _ ?_; clear hK K
        refine wpAnyIn_ready (rs := [0, 4]) (by kernel_rfl) (by simp) ?_
        refine AllReadyIn.cons rfl (fun K hK => ?_) ?_
        · go_simp
          refine hK _ _ ?_; clear hK K
          refine wpAnyIn_ready (rs := [4]) (by kernel_rfl) (by simp) ?_
          refine AllReadyIn.cons rfl (fun K hK => ?_) AllReadyIn.nil
          go_simp
          refine hK _ _ ?_; clear hK K
          refine wpAnyIn_ready (rs := [5]) (by kernel_rfl) (by simp) ?_
          refine AllReadyIn.cons rfl (fun K hK => ?_) AllReadyIn.nil
          go_simp
          refine hK _ _ ?_; clear hK K
          refine wpAnyIn_ready (rs := [6]) (by kernel_rfl) (by simp) ?_
          refine AllReadyIn.cons rfl (fun K hK => ?_) AllReadyIn.nil
          refine step_app rfl (.tmp 19) (.tmp 24) 38 rfl (v := v) (v2 := .slice (some ⟨V.heap.size, 0, none⟩) 1 1) rfl rfl happ' (hK _ _ ?_); clear hK K
          simp only [Act.put, List.setIfInBounds_toArray]
          refine wpAnyIn_ready (rs := [7]) (by kernel_rfl) (by simp) ?_
          refine AllReadyIn.cons rfl (fun K hK => ?_) AllReadyIn.nil
          go_simp
          refine hK _ _ ?_; clear hK K
          refine wpAnyIn_done (by kernel_rfl) ?_ _
          gi_wp2
          exact FIN.out
        refine AllReadyIn.cons rfl (fun K hK => ?_) AllReadyIn.nil
        go_simp
        refine hK _ _ ?_; clear hK K
        refine wpAnyIn_ready (rs := [0, 5]) (by kernel_rfl) (by simp) ?_
        refine AllReadyIn.cons rfl (fun K hK => ?_) ?_
        · go_simp
          refine hK _ _ ?_; clear hK K
          refine wpAnyIn_ready (rs := [5]) (by kernel_rfl) (by simp) ?_
          refine AllReadyIn.cons rfl (fun K hK => ?_) AllReadyIn.nil
          go_simp
          refine hK _ _ ?_; clear hK K
          refine wpAnyIn_ready (rs := [6]) (by kernel_rfl) (by simp) ?_
          refine AllReadyIn.cons rfl (fun K hK => ?_) AllReadyIn.nil
          refine step_app rfl (.tmp 19) (.tmp 24) 38 rfl (v := v) (v2 := .slice (some ⟨V.heap.size, 0, none⟩) 1 1) rfl rfl happ' (hK _ _ ?_); clear hK K
          simp only [Act.put, List.setIfInBounds_toArray]
          refine wpAnyIn_ready (rs := [7]) (by kernel_rfl) (by simp) ?_
          refine AllReadyIn.cons rfl (fun K hK => ?_) AllReadyIn.nil
          go_simp
          refine hK _ _ ?_; clear hK K
          refine wpAnyIn_done (by kernel_rfl) ?_ _
          gi_wp2
          exact FIN.out
        refine AllReadyIn.cons rfl (fun K hK => ?_) AllReadyIn.nil
        go_simp
        refine hK _ _ ?_; clear hK K
        refine wpAnyIn_ready (rs := [0]) (by kernel_rfl) (by simp) ?_
        refine AllReadyIn.cons rfl (fun K hK => ?_) AllReadyIn.nil
        go_simp
        refine hK _ _ ?_; clear hK K
        refine wpAnyIn_ready (rs := [6]) (by kernel_rfl) (by simp) ?_
        refine AllReadyIn.cons rfl (fun K hK => ?_) AllReadyIn.nil
        refine step_app rfl (.tmp 19) (.tmp 24) 38 rfl (v := v) (v2 := .slice (some ⟨V.heap.size, 0, none⟩) 1 1) rfl rfl happ' (hK _ _ ?_); clear hK K
        simp only [Act.put, List.setIfInBounds_toArray]
        refine wpAnyIn_ready (rs := [7]) (by kernel_rfl) (by simp) ?_
        refine AllReadyIn.cons rfl (fun K hK => ?_) AllReadyIn.nil
        go_simp
        refine hK _ _ ?_; clear hK K
        refine wpAnyIn_done (by kernel_rfl) ?_ _
        gi_wp2
        exact FIN.out
  case done =>
    rintro D V hD ⟨h1, h2, h3, h4, h5, v, h6, h7⟩ hK
    have hlen : g.bl.length = g.L.length := by simp [Gh.bl]
    rw [hlen, List.take_length] at h7
    have c2 := h6.cell
    have f2 := h6.frozen 0
    have hvs : v = .slice none 0 0 ∨ ∃ b n c, v = .slice (some ⟨b, 0, none⟩) n c := by
      rcases h7.2 with ⟨rfl, _⟩ | ⟨g', cap, cur, rfl, _⟩
      · exact .inl rfl
      · exact .inr ⟨_, _, _, rfl⟩
    have hob : ∀ b, v.ownBlock = some b → w.heap.size + 1 + 1 + 1 ≤ b := fun b hb => (h7.lt b hb).1
    have ks1 := (Keep.refl (fun k => k = w.heap.size + 1) V).setCell (p := ⟨w.heap.size + 1, 0, none⟩) v (.inl rfl)
    have hown1 := ownsRow_keep h7 ks1 (fun b hb e => by have := hob b hb; omega)
    have hK1 := (KeepsOthers.setCell V ⟨w.heap.size + 1, 0, none⟩ v).same D _ hK rfl
    have hown2 := ownsRow_putObj hown1 (.deferred none) hK1 rfl
    have hb2 : Box ((V.setCell ⟨w.heap.size + 1, 0, none⟩ v).putObj D (.deferred none)) (w.heap.size + 1) v := (h6.set v).keep ((Keep.refl (fun k => k = D) _).putObj _ (.inl rfl)) (by rw [HSZ.out] at hD; omega)
    have hkk : Keep (fun _ => False) w ((V.setCell ⟨w.heap.size + 1, 0, none⟩ v).putObj D (.deferred none)) := (h4.setCell (p := ⟨w.heap.size + 1, 0, none⟩) _ (.inr (by show _ ≤ w.heap.size + 1; omega))).putObj _ (.inr (by rw [HSZ.out] at hD; omega))
    have HALL := Lib.hid (And.intro hown2 (And.intro hb2 (And.intro hkk hK1)))
    clear h1 h2 h3 h4 h5 h6 h7 hob ks1 hown1 hK1 hown2 hb2 hkk hK
    have HL := Lib.hid hlen; clear hlen
    rcases hvs with rfl | ⟨b, n, c, rfl⟩
    all_goals
      gi_wp2_with fail
      refine ⟨by simp, .inl ⟨_, _, rfl, run_takeDeferred HALL.out.2.2.2, ?_⟩⟩
      have hc5 := HALL.out.2.1.cell
      refine ⟨_, by simp [results, Try.f20, go_sem, hc5]; rfl, _, rfl, ?_, HALL.out.2.2.1⟩
      have := HALL.out.1
      exact ⟨this.1, this.2.imp id (fun ⟨g, cap, cur, a1, a2, a3⟩ => ⟨g, cap, cur, a1, by omega, a3⟩)⟩
  case stop =>
    rintro D c i V hD hi h hK
    exact h.elim
end Go.Proofs.Ytigkhglgoabjaaa
