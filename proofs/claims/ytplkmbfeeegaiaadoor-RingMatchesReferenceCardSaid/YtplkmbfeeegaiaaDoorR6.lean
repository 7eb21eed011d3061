/-
  The reference's points of members.
-/
import Derived.Test.YtplkmbfeeegaiaaDoorR5
import Derived.Test.YtplkmbfeeegaiaaDoorR0
import Derived.Test.YtplkmbfeeegaiaaDoorG9
import Derived.Test.YtplkmbfeeegaiaaDoorA7
import Derived.WideShapes
namespace Go.Proofs.YtplkmbfeeegaiaaDoor
open Go.RowKit Go.Shelf

/-- A point as the reference keeps it. -/
def encSp (x : Mk) : List Value := [.int .i64 x.point, .int .i64 x.node]
theorem encSp_len (x : Mk) : (encSp x).length = 2 := rfl
def flatS (l : List Mk) : List Value := l.flatMap encSp
theorem flatS_one (x : Mk) : flatS [x] = encSp x := by simp [flatS]
theorem flatS_append (a b : List Mk) : flatS (a ++ b) = flatS a ++ flatS b := by unfold flatS; rw [List.flatMap_append]
theorem flatS_cell (l : List Mk) : ∀ u ∈ flatS l, u.oneCell' = true := by
  intro u hu
  unfold flatS at hu
  obtain ⟨m, _, hu⟩ := List.mem_flatMap.1 hu
  simp only [encSp, List.mem_cons, List.not_mem_nil, or_false] at hu
  rcases hu with rfl | rfl <;> rfl
def OwnS (w : World) (l : List Mk) (v : Value) (W : World) : Prop := Keep (fun _ => False) w W ∧ W.ownsRow w.heap.size 77 2 v l.length (flatS l)
theorem OwnS.nil {w W : World} (k : Keep (fun _ => False) w W) : OwnS w [] (.slice none 0 0) W := ⟨k, by simpa [flatS] using World.ownsRow_nil W w.heap.size 77 2⟩
theorem OwnS.keep {w W W' : World} {l : List Mk} {v : Value} (h : OwnS w l v W) (k : Keep (fun _ => False) W W') : OwnS w l v W' := ⟨h.1.trans k, ownsRow_keep h.2 k (fun _ _ h => h)⟩
theorem OwnS.form {w W : World} {l : List Mk} {v : Value} (h : OwnS w l v W) : (v = .slice none 0 0 ∧ l = []) ∨ ∃ b c, v = .slice (some ⟨b, 0, none⟩) l.length c := by
  rcases h.2.2 with ⟨h1, h2⟩ | ⟨g, c, cur, h1, _⟩
  · exact .inl ⟨h1, List.eq_nil_of_length_eq_zero h2⟩
  · exact .inr ⟨g, c, h1⟩
theorem infoSp : (Tryd.prog.info? 77).map (fun i => (i.zero, i.size, i.bytes)) = some (some (.agg #[.int .i64 0, .int .i64 0]), 2, 16) := by kernel_rfl
theorem OwnS.snoc {w W : World} {l : List Mk} {v : Value} (h : OwnS w l v W) (x : Mk) (hl : l.length ≤ 100000) :
    ∃ g c w', (Builtin.append_ #[74, 74] 74 #[v, .slice (some ⟨W.heap.size, 0, none⟩) 1 1]).run Tryd.prog (W.alloc (.cells #[.int .i64 x.point, .int .i64 x.node] 77)) = .ok (.slice (some ⟨g, 0, none⟩) (l.length + 1) c) w' ∧ OwnS w (l ++ [x]) (.slice (some ⟨g, 0, none⟩) (l.length + 1) c) w' ∧ Keep (fun j => v.ownBlock = some j) W w' ∧ (v.ownBlock = some g ∨ g = W.heap.size + 1) := by
  obtain ⟨v', w', r1, r2, r3, r4, g, c, r5⟩ := app_one 74 77 2 16 _ Tryd.underlying74 infoSp rfl (by decide) (by decide) W 74 w.heap.size v l.length (flatS l) (encSp x) h.2 rfl (by simp [encSp, Value.oneCell']) (by omega) h.1.size
  subst r5
  refine ⟨g, c, w', r1, ⟨h.1.trans' r3 (fun j e => .inr (h.2.lt j e).1), ?_⟩, r3, ?_⟩
  · rw [flatS_append, flatS_one, List.length_append]
    exact r2
  · rcases r4 with r4 | r4
    · exact .inl r4.symm
    · exact .inr (by cases r4; rfl)
theorem two_cell (W : World) (x y : Value) (t : TypeId) : (W.alloc (.cells #[x, y] t)).cell? ⟨W.heap.size, 0, none⟩ = some x ∧ (W.alloc (.cells #[x, y] t)).cell? ⟨W.heap.size, 1, none⟩ = some y ∧ ∀ o, (W.alloc (.cells #[x, y] t)).frozen? ⟨W.heap.size, o, none⟩ = false := by
  refine ⟨?_, ?_, fun o => ?_⟩
  · exact cells_new W [x, y] t 0 x rfl
  · exact cells_new W [x, y] t 1 y rfl
  · unfold World.frozen?
    rw [World.alloc_heap_new]
    simp
/-- The text of a point. -/
theorem nodeT_ref (m i : Nat) : ((⟨#[110, 111, 100, 101, 32]⟩ : ByteArray) ++ dig m) ++ ⟨#[32]⟩ ++ dig i = nodeT (m : Int) i := by
  rw [nodeT_eq]
  apply Go.WideShapes.bytes_inj
  simp [txt, addT]

/-- A point in a block of its own. -/
structure SpotAt (w0 W : World) (z : Nat) (p n : Int) : Prop where
  k : Keep (fun _ => False) w0 W
  lo : w0.heap.size ≤ z
  c0 : W.cell? ⟨z, 0, none⟩ = some (.int .i64 p)
  c1 : W.cell? ⟨z, 1, none⟩ = some (.int .i64 n)
theorem SpotAt.mk' {w0 V : World} {z : Nat} {p n : Int} {x y : Value} (k : Keep (fun _ => False) w0 V) (lo : w0.heap.size ≤ z) (f0 : V.cell? ⟨z, 0, none⟩ = some x) (f1 : V.cell? ⟨z, 1, none⟩ = some y) (ff : ∀ o, V.frozen? ⟨z, o, none⟩ = false) :
    SpotAt w0 ((V.setCell ⟨z, 0, none⟩ (.int .i64 p)).setCell ⟨z, 1, none⟩ (.int .i64 n)) z p n :=
  ⟨(k.setCell (p := ⟨z, 0, none⟩) _ (.inr lo)).setCell (p := ⟨z, 1, none⟩) _ (.inr lo), lo, (cell_set_off (by decide)).trans (cell_set_same f0), cell_set_same ((cell_set_off (by decide)).trans f1)⟩

theorem infoSp2 : (Tryd.prog.info? 77).map (·.size) = some 2 := by kernel_rfl
theorem wp_cpy {P : Program} {o : Oper} {a : Act} {w w' : World} {K : Act → World → Prop} {Q : Exit → Act → World → Prop} {v v2 v' : Value}
    (s x : Operand) (t : TypeId) (hop : o.op = Op.call { callee := Callee.builtin Builtin.copy, args := #[s, x], argTypes := #[t, t] })
    (hs : a.eval s = v) (hx : a.eval x = v2) (hrun : (Builtin.copy_ #[t, t] o.type #[v, v2]).run P w = .ok v' w') (hK : K (a.put o.dst v') w') : o.wp P a w K Q := by
  unfold Oper.wp
  simp [execOp, hop, resolve, invoke, builtin, hs, hx, hrun, Result.andThen]
  exact hK
/-- The points that are drawn already come before the next one. -/
theorem drawK_lt {l : List Mb} (hv : VL l) {k i : Nat} {m : Mb} (h : l[k]? = some m) : ∀ y ∈ drawK l k i, dLt y ⟨PN m.node i, m.node, i⟩ := by
  intro y hy
  unfold drawK at hy
  rw [h] at hy
  rcases List.mem_append.1 hy with hy | hy
  · obtain ⟨m', hm', hy⟩ := (mem_draws PN).1 hy
    have h1 := ((mem_drawM PN).1 hy).1
    have h2 := hv.asc
    rw [← List.take_append_drop k l, List.pairwise_append] at h2
    have h3 := h2.2.2 m' hm' m (by
      have hk : k < l.length := (List.getElem?_eq_some_iff.1 h).1
      rw [List.drop_eq_getElem_cons hk]
      rw [List.getElem?_eq_getElem hk] at h
      simp only [Option.some.injEq] at h
      rw [h]; exact List.mem_cons_self)
    exact .inl (by simp only []; omega)
  · obtain ⟨j, hj⟩ := List.mem_iff_getElem?.1 hy
    have hji : j < i := by have := (List.getElem?_eq_some_iff.1 hj).1; rw [List.length_take] at this; omega
    rw [List.getElem?_take_of_lt hji] at hj
    unfold drawM at hj
    rw [List.getElem?_map] at hj
    cases hr : (List.range (4 * m.weight.toNat))[j]? with
    | none => rw [hr] at hj; simp at hj
    | some j' =>
      rw [hr] at hj
      simp only [Option.map_some, Option.some.injEq] at hj
      have hjj : j' = j := by
        have := (List.getElem?_eq_some_iff.1 hr).2
        simpa using this.symm
      subst hj
      exact .inr ⟨rfl, by simp only []; omega⟩
set_option maxRecDepth 100000 in
set_option maxHeartbeats 8000000 in
theorem spots_any (v : Value) (l : List Mb) (w : World) (h : Mbs w v l) (hv : VL l) : Calls Tryd.prog 52 #[v] w fun e w' => ∃ vo, e = .returned vo ∧ OwnS w (circ PN l) vo w' := by
  obtain ⟨hn, hbd, a, c, b, off, rfl, hc, ha, hcell⟩ := h
  have HC := Lib.hid hcell
  have HA := Lib.hid ha
  have HV := Lib.hid hv
  clear hcell ha hbd hv
  obtain ⟨n, hn'⟩ : ∃ n, l.length = n := ⟨_, rfl⟩
  have HL := Lib.hid hn'
  rw [hn'] at hn hc ⊢
  clear hn'
  go_enter Tryd.func52, Tryd.ntmps52
  go_wp2_with fail
  go_loopg [3, 4] n (fun gh v3 v wr => ∃ (k : Nat) (S : List Mk), gh + k = n ∧ v = .int .i64 k ∧ OwnS w S v3 wr ∧ Hid (S.Pairwise ltMk ∧ S.Perm (drawK l k 0)))
  case atStart => exact ⟨0, [], by omega, rfl, OwnS.nil (Keep.refl _ _), Lib.hid ⟨List.Pairwise.nil, by rw [drawK_zero]⟩⟩
  case round =>
    obtain ⟨k, S, hk, rfl, how, HS⟩ := hrel
    have HOW := Lib.hid how
    clear how
    by_cases hlt : k < n
    · obtain ⟨m, hm⟩ : ∃ m, l[k]? = some m := ⟨_, List.getElem?_eq_getElem (by have := HL.out; omega)⟩
      obtain rfl := HA.out (by have := HL.out; omega)
      have HM := Lib.hid hm
      have HCX := Lib.hid (HC.out k m hm)
      have hok := HV.out.ok m (List.mem_of_getElem? hm)
      unfold okMb at hok
      have hkz : (k : Int) < (n : Int) := by omega
      have hk0 : (0 : Int) ≤ (k : Int) := by omega
      clear hm
      obtain ⟨mn, mr, mw⟩ := m
      simp only [] at HCX hok
      obtain ⟨mq, rfl⟩ : ∃ mq : Nat, mn = mq := ⟨mn.toNat, by omega⟩
      obtain ⟨wq, rfl⟩ : ∃ wq : Nat, mw = wq := ⟨mw.toNat, by omega⟩
      have HKK := Lib.hid (And.intro hk hlt)
      clear hk hlt
      go_wp2_with fail
      go_loopg [3, 5] (4 * wq) (fun g2 v3 v wr2 => ∃ (i : Nat) (S : List Mk), g2 + i = 4 * wq ∧ v = .int .i64 i ∧ OwnS w S v3 wr2 ∧ Hid (S.Pairwise ltMk ∧ S.Perm (drawK l k i)))
      case atStart => exact ⟨0, S, by omega, rfl, HOW.out, HS⟩
      case round =>
        clear HOW HS S
        obtain ⟨i, S, hi, rfl, how, HS⟩ := hrel
        have HOW := Lib.hid how
        clear how
        have c0 := HOW.out.1.cell HCX.out.1 (fun h => h)
        have c2 := HOW.out.1.cell HCX.out.2.2 (fun h => h)
        have hw4 : IntKind.i64.wrap (4 * (wq : Int)) = 4 * (wq : Int) := wrapI (by unfold I64; omega)
        by_cases hil : i < 4 * wq
        · have hiz : (i : Int) < 4 * (wq : Int) := by omega
          have hi0 : (0 : Int) ≤ (i : Int) := by omega
          have HF := Lib.hid HOW.out.form
          have HD1 : Hid (∀ W, Calls Tryd.prog 40 #[.int .i64 (mq : Int)] W fun e w' => e = .returned (.string (dig mq)) ∧ Keep (fun _ => False) W w') := Lib.hid (fun W => digits_any mq (by omega) W)
          have HD2 : Hid (∀ W, Calls Tryd.prog 40 #[.int .i64 (i : Int)] W fun e w' => e = .returned (.string (dig i)) ∧ Keep (fun _ => False) W w') := Lib.hid (fun W => digits_any i (by omega) W)
          have HPT : Hid (∀ W, Calls Tryd.prog 33 #[.string (((⟨#[110, 111, 100, 101, 32]⟩ : ByteArray) ++ dig mq) ++ ⟨#[32]⟩ ++ dig i)] W fun e w' => e = .returned (.int .i64 (PN (mq : Int) i)) ∧ W = w') := Lib.hid (fun W => by
            rw [nodeT_ref]
            exact refPoint_any _ (nodeT_size (by rw [Int.toNat_natCast]; omega) (by omega)) W)
          have hd1 : (dig mq).size ≤ 2 := dig_size (by omega)
          have hd2 : (dig i).size ≤ 2 := dig_size (by omega)
          generalize dig mq = dm at *
          generalize dig i = di at *
          go_upto_region 8 with (fail)
          clear c0 c2
          have cz : ∀ q : KA (fun _ => False) wr, q.val.cell? ⟨b, off + k * 3, none⟩ = some (.int .i64 mq) := fun q => q.k.cell (HOW.out.1.cell HCX.out.1 (fun h => h)) (fun h => h)
          refine wp_region_walkT_join (.read 0 (.read 1 (.read 2 (.read 3 (.read 4 (.read 8 (.read 12 (.read 13 (.read 14 (.read 15 (.read 16 (.two 5 (.read 6 (.read 7 (.two 9 (.read 10 (.two 11 (.read 17 (.one 18 (.one 19 .done))) 18 (.one 11 (.read 17 (.one 19 .done))))) 18 (.one 9 (.read 10 (.one 11 (.read 17 (.one 19 .done)))))))) 18 (.one 5 (.read 6 (.read 7 (.one 9 (.read 10 (.one 11 (.read 17 (.one 19 .done)))))))))))))))))))) (inKA (fun _ => False) wr) (fun a' w' => ∃ z, SpotAt wr w' z (PN (mq : Int) i) mq ∧ a' = { tmps := #[.slice (some ⟨b, off, none⟩) n c, undef, .slice none 0 0, u3, .int .i64 (k : Int), .int .i64 (i : Int), .pointer (some ⟨z, 0, none⟩), u7, .int .i64 (k : Int), .slice (some ⟨b, off, none⟩) n c, .int .i64 (n : Int), .bool true, u12, u13, .int .i64 (i : Int), .slice (some ⟨b, off, none⟩) n c, .int .i64 (k : Int), .pointer (some ⟨b, off + k * 3, none⟩), .pointer (some ⟨b, off + k * 3 + 2, none⟩), .int .i64 (wq : Int), .int .i64 (4 * (wq : Int)), .bool true, u22, u23, .slice (some ⟨b, off, none⟩) n c, .int .i64 (k : Int), .pointer (some ⟨b, off + k * 3, none⟩), .pointer (some ⟨b, off + k * 3, none⟩), .int .i64 (mq : Int), .string dm, .string ((⟨#[110, 111, 100, 101, 32]⟩ : ByteArray) ++ dm), .string (((⟨#[110, 111, 100, 101, 32]⟩ : ByteArray) ++ dm) ++ ⟨#[32]⟩), .int .i64 (i : Int), .string di, .string ((((⟨#[110, 111, 100, 101, 32]⟩ : ByteArray) ++ dm) ++ ⟨#[32]⟩) ++ di), .int .i64 (PN (mq : Int) i), .slice (some ⟨b, off, none⟩) n c, .int .i64 (k : Int), .pointer (some ⟨b, off + k * 3, none⟩), .pointer (some ⟨b, off + k * 3, none⟩), .int .i64 (mq : Int), .agg #[.int .i64 (PN (mq : Int) i), .int .i64 (mq : Int)], u42, u43, u44, u45, u46, u47, u48, u49, u50, u51, u52, u53, u54, u55, u56, u57, u58, u59, u60, u61, u62, u63, u64, u65, u66, u67, u68, u69, u70, u71, u72, u73, u74, undef], defers := [] }) (by kernel_rfl) (by kernel_rfl) ?_ ?_
          rotate_left
          ·
            iterate 11 (refine walkT_read rfl (fun K hK => ?_); go_simp; refine hK _ ?_; clear hK K)
            clear cz
            have HKR : Hid (Keep (fun _ => False) wr wr.drew) := Lib.hid (Keep.refl _ wr).drew
            generalize wr.drew = V0 at *
            have hz1 : ¬ (9223372036854775807 < 5 + dm.size) := by omega
            have hz2 : ¬ (9223372036854775807 < 5 + dm.size + 1) := by omega
            have hz3 : ¬ (9223372036854775807 < 5 + dm.size + 1 + di.size) := by omega
            refine walkT_two rfl rfl (inKA.of HKR.out) (fun K hK => ?_) (fun K hK => ?_)
            rotate_left
            ·
              skip
              go_simp
              refine hK _ _ ?_; clear hK K
              have HK1 : Hid (Keep (fun _ => False) wr (V0.alloc (.cells #[.int .i64 0, .int .i64 0] 77))) := Lib.hid (HKR.out.alloc _)
              have G1 := Lib.hid (And.intro (two_cell V0 (.int .i64 0) (.int .i64 0) 77).1 (And.intro (two_cell V0 (.int .i64 0) (.int .i64 0) 77).2.1 (And.intro (two_cell V0 (.int .i64 0) (.int .i64 0) 77).2.2 HKR.out.size)))
              generalize V0.alloc (.cells #[.int .i64 0, .int .i64 0] 77) = V1 at *
              generalize V0.heap.size = z at *
              refine walkT_do rfl (inKA.of HK1.out) (fun K hK => ?_)
              go_simp
              refine (HD1.out _).mono ?_
              rintro e V2 ⟨rfl, kk⟩
              refine hK _ _ ?_; clear hK K
              have HK2 := Lib.hid (HK1.out.trans kk)
              have G2 := Lib.hid (And.intro (kk.cell G1.out.1 (fun h => h)) (And.intro (kk.cell G1.out.2.1 (fun h => h)) (And.intro (fun o => (kk.frozen (World.block_lt_of_cell? _ _ G1.out.1) (fun h => h) o).trans (G1.out.2.2.1 o)) G1.out.2.2.2)))
              clear kk
              refine walkT_read rfl (fun K hK => ?_); go_simp; refine hK _ ?_; clear hK K
              refine walkT_read rfl (fun K hK => ?_); go_simp; refine hK _ ?_; clear hK K
              refine walkT_do rfl (inKA.of HK2.out) (fun K hK => ?_)
              go_simp
              refine (HD2.out _).mono ?_
              rintro e V3 ⟨rfl, kk⟩
              refine hK _ _ ?_; clear hK K
              have HK3 := Lib.hid (HK2.out.trans kk)
              have G3 := Lib.hid (And.intro (kk.cell G2.out.1 (fun h => h)) (And.intro (kk.cell G2.out.2.1 (fun h => h)) (And.intro (fun o => (kk.frozen (World.block_lt_of_cell? _ _ G2.out.1) (fun h => h) o).trans (G2.out.2.2.1 o)) G2.out.2.2.2)))
              clear kk
              refine walkT_read rfl (fun K hK => ?_); go_simp; refine hK _ ?_; clear hK K
              refine walkT_do rfl (inKA.of HK3.out) (fun K hK => ?_)
              go_simp
              refine (HPT.out _).mono ?_
              rintro e w' ⟨rfl, rfl⟩
              refine hK _ _ ?_; clear hK K
              refine walkT_read rfl (fun K hK => ?_); go_simp; refine hK _ ?_; clear hK K
              have f0 := G3.out.1
              have f1 := G3.out.2.1
              have ff := G3.out.2.2.1
              refine walkT_do rfl (inKA.of HK3.out) (fun K hK => ?_)
              go_simp
              refine hK _ _ ?_; clear hK K
              have HY : Hid (SpotAt wr ((V3.setCell ⟨z, 0, none⟩ (.int .i64 (PN (mq : Int) i))).setCell ⟨z, 1, none⟩ (.int .i64 (mq : Int))) z (PN (mq : Int) i) mq) := Lib.hid (SpotAt.mk' HK3.out G3.out.2.2.2 f0 f1 ff)
              clear f0 f1 ff
              generalize (V3.setCell ⟨z, 0, none⟩ (.int .i64 (PN (mq : Int) i))).setCell ⟨z, 1, none⟩ (.int .i64 (mq : Int)) = Y at *
              refine ⟨inKA.of HY.out.k, ?_⟩
              exact ⟨z, HY.out, rfl⟩
            ·
              skip
              go_simp
              refine (HD1.out _).mono ?_
              rintro e V5 ⟨rfl, kk⟩
              refine hK _ _ ?_; clear hK K
              have HK5 := Lib.hid (HKR.out.trans kk)
              clear kk
              refine walkT_read rfl (fun K hK => ?_); go_simp; refine hK _ ?_; clear hK K
              refine walkT_read rfl (fun K hK => ?_); go_simp; refine hK _ ?_; clear hK K
              refine walkT_two rfl rfl (inKA.of HK5.out) (fun K hK => ?_) (fun K hK => ?_)
              rotate_left
              ·
                skip
                go_simp
                refine hK _ _ ?_; clear hK K
                have HK6 : Hid (Keep (fun _ => False) wr (V5.alloc (.cells #[.int .i64 0, .int .i64 0] 77))) := Lib.hid (HK5.out.alloc _)
                have G6 := Lib.hid (And.intro (two_cell V5 (.int .i64 0) (.int .i64 0) 77).1 (And.intro (two_cell V5 (.int .i64 0) (.int .i64 0) 77).2.1 (And.intro (two_cell V5 (.int .i64 0) (.int .i64 0) 77).2.2 HK5.out.size)))
                generalize V5.alloc (.cells #[.int .i64 0, .int .i64 0] 77) = V6 at *
                generalize V5.heap.size = z at *
                refine walkT_do rfl (inKA.of HK6.out) (fun K hK => ?_)
                go_simp
                refine (HD2.out _).mono ?_
                rintro e V7 ⟨rfl, kk⟩
                refine hK _ _ ?_; clear hK K
                have HK7 := Lib.hid (HK6.out.trans kk)
                have G7 := Lib.hid (And.intro (kk.cell G6.out.1 (fun h => h)) (And.intro (kk.cell G6.out.2.1 (fun h => h)) (And.intro (fun o => (kk.frozen (World.block_lt_of_cell? _ _ G6.out.1) (fun h => h) o).trans (G6.out.2.2.1 o)) G6.out.2.2.2)))
                clear kk
                refine walkT_read rfl (fun K hK => ?_); go_simp; refine hK _ ?_; clear hK K
                refine walkT_do rfl (inKA.of HK7.out) (fun K hK => ?_)
                go_simp
                refine (HPT.out _).mono ?_
                rintro e w' ⟨rfl, rfl⟩
                refine hK _ _ ?_; clear hK K
                refine walkT_read rfl (fun K hK => ?_); go_simp; refine hK _ ?_; clear hK K
                have f0 := G7.out.1
                have f1 := G7.out.2.1
                have ff := G7.out.2.2.1
                refine walkT_do rfl (inKA.of HK7.out) (fun K hK => ?_)
                go_simp
                refine hK _ _ ?_; clear hK K
                have HY : Hid (SpotAt wr ((V7.setCell ⟨z, 0, none⟩ (.int .i64 (PN (mq : Int) i))).setCell ⟨z, 1, none⟩ (.int .i64 (mq : Int))) z (PN (mq : Int) i) mq) := Lib.hid (SpotAt.mk' HK7.out G7.out.2.2.2 f0 f1 ff)
                clear f0 f1 ff
                generalize (V7.setCell ⟨z, 0, none⟩ (.int .i64 (PN (mq : Int) i))).setCell ⟨z, 1, none⟩ (.int .i64 (mq : Int)) = Y at *
                refine ⟨inKA.of HY.out.k, ?_⟩
                exact ⟨z, HY.out, rfl⟩
              ·
                skip
                go_simp
                refine (HD2.out _).mono ?_
                rintro e V9 ⟨rfl, kk⟩
                refine hK _ _ ?_; clear hK K
                have HK9 := Lib.hid (HK5.out.trans kk)
                clear kk
                refine walkT_read rfl (fun K hK => ?_); go_simp; refine hK _ ?_; clear hK K
                refine walkT_two rfl rfl (inKA.of HK9.out) (fun K hK => ?_) (fun K hK => ?_)
                rotate_left
                ·
                  skip
                  go_simp
                  refine hK _ _ ?_; clear hK K
                  have HK10 : Hid (Keep (fun _ => False) wr (V9.alloc (.cells #[.int .i64 0, .int .i64 0] 77))) := Lib.hid (HK9.out.alloc _)
                  have G10 := Lib.hid (And.intro (two_cell V9 (.int .i64 0) (.int .i64 0) 77).1 (And.intro (two_cell V9 (.int .i64 0) (.int .i64 0) 77).2.1 (And.intro (two_cell V9 (.int .i64 0) (.int .i64 0) 77).2.2 HK9.out.size)))
                  generalize V9.alloc (.cells #[.int .i64 0, .int .i64 0] 77) = V10 at *
                  generalize V9.heap.size = z at *
                  refine walkT_do rfl (inKA.of HK10.out) (fun K hK => ?_)
                  go_simp
                  refine (HPT.out _).mono ?_
                  rintro e w' ⟨rfl, rfl⟩
                  refine hK _ _ ?_; clear hK K
                  refine walkT_read rfl (fun K hK => ?_); go_simp; refine hK _ ?_; clear hK K
                  have f0 := G10.out.1
                  have f1 := G10.out.2.1
                  have ff := G10.out.2.2.1
                  refine walkT_do rfl (inKA.of HK10.out) (fun K hK => ?_)
                  go_simp
                  refine hK _ _ ?_; clear hK K
                  have HY : Hid (SpotAt wr ((V10.setCell ⟨z, 0, none⟩ (.int .i64 (PN (mq : Int) i))).setCell ⟨z, 1, none⟩ (.int .i64 (mq : Int))) z (PN (mq : Int) i) mq) := Lib.hid (SpotAt.mk' HK10.out G10.out.2.2.2 f0 f1 ff)
                  clear f0 f1 ff
                  generalize (V10.setCell ⟨z, 0, none⟩ (.int .i64 (PN (mq : Int) i))).setCell ⟨z, 1, none⟩ (.int .i64 (mq : Int)) = Y at *
                  refine ⟨inKA.of HY.out.k, ?_⟩
                  exact ⟨z, HY.out, rfl⟩
                ·
                  skip
                  go_simp
                  refine (HPT.out _).mono ?_
                  rintro e w' ⟨rfl, rfl⟩
                  refine hK _ _ ?_; clear hK K
                  refine walkT_read rfl (fun K hK => ?_); go_simp; refine hK _ ?_; clear hK K
                  refine walkT_do rfl (inKA.of HK9.out) (fun K hK => ?_)
                  go_simp
                  refine hK _ _ ?_; clear hK K
                  have HK13 : Hid (Keep (fun _ => False) wr (V9.alloc (.cells #[.int .i64 0, .int .i64 0] 77))) := Lib.hid (HK9.out.alloc _)
                  have G13 := Lib.hid (And.intro (two_cell V9 (.int .i64 0) (.int .i64 0) 77).1 (And.intro (two_cell V9 (.int .i64 0) (.int .i64 0) 77).2.1 (And.intro (two_cell V9 (.int .i64 0) (.int .i64 0) 77).2.2 HK9.out.size)))
                  generalize V9.alloc (.cells #[.int .i64 0, .int .i64 0] 77) = V13 at *
                  generalize V9.heap.size = z at *
                  have f0 := G13.out.1
                  have f1 := G13.out.2.1
                  have ff := G13.out.2.2.1
                  refine walkT_do rfl (inKA.of HK13.out) (fun K hK => ?_)
                  go_simp
                  refine hK _ _ ?_; clear hK K
                  have HY : Hid (SpotAt wr ((V13.setCell ⟨z, 0, none⟩ (.int .i64 (PN (mq : Int) i))).setCell ⟨z, 1, none⟩ (.int .i64 (mq : Int))) z (PN (mq : Int) i) mq) := Lib.hid (SpotAt.mk' HK13.out G13.out.2.2.2 f0 f1 ff)
                  clear f0 f1 ff
                  generalize (V13.setCell ⟨z, 0, none⟩ (.int .i64 (PN (mq : Int) i))).setCell ⟨z, 1, none⟩ (.int .i64 (mq : Int)) = Y at *
                  refine ⟨inKA.of HY.out.k, ?_⟩
                  exact ⟨z, HY.out, rfl⟩
          ·
            rintro a' Y ⟨z, hy, rfl⟩
            have HY := Lib.hid hy
            have HOY := Lib.hid (HOW.out.keep hy.k)
            clear hy hd1 hd2 HD1 HD2 HPT
            obtain ⟨x, hx⟩ : ∃ x : Mk, (⟨PN (mq : Int) i, (mq : Int), (i : Int)⟩ : Mk) = x := ⟨_, rfl⟩
            have HX := Lib.hid hx
            have HX0 : Hid (PN (mq : Int) i = x.point) := Lib.hid (by rw [← hx])
            have HX1 : Hid ((mq : Int) = x.node) := Lib.hid (by rw [← hx])
            clear hx
            have HXC0 : Hid (Y.cell? ⟨z, 0, none⟩ = some (.int .i64 x.point)) := Lib.hid (by rw [← HX0.out]; exact HY.out.c0)
            have HXC1 : Hid (Y.cell? ⟨z, 1, none⟩ = some (.int .i64 x.node)) := Lib.hid (by rw [← HX1.out]; exact HY.out.c1)
            have HLEN : Hid (S.length ≤ 100000) := Lib.hid (by rw [HS.out.2.length_eq]; exact drawK_len HV.out)
            obtain ⟨q, hq⟩ : ∃ q, S.length = q := ⟨_, rfl⟩
            have HQ := Lib.hid hq
            obtain ⟨ua, uc, bo, hue, hua⟩ : ∃ (a : Option Addr) (c bo : Nat), u3 = .slice a q c ∧ (0 < q → a = some ⟨bo, 0, none⟩) := by
              rcases HOY.out.form with ⟨h1, h2⟩ | ⟨bo, co, h1⟩
              · exact ⟨none, 0, 0, by rw [h1, ← hq, h2]; rfl, fun h => by rw [← hq, h2] at h; simp at h⟩
              · exact ⟨_, co, bo, by rw [h1, hq], fun _ => rfl⟩
            subst hue
            have HUA := Lib.hid hua
            have hq5 : q ≤ 100000 := by rw [← hq]; exact HLEN.out
            clear hq hua
            go_wp2_with fail
            go_loopg [7] q (fun g3 v wr3 => ∃ (m : Nat), v = .int .i64 (g3 : Int) ∧ g3 ≤ q ∧ wr3 = Y.drewN m ∧ Hid (∀ y ∈ S.drop g3, x.point < y.point))
            case atStart => exact ⟨0, rfl, Nat.le_refl _, rfl, Lib.hid (fun y hy => by rw [List.drop_of_length_le (by rw [HQ.out]; exact Nat.le_refl _)] at hy; cases hy)⟩
            case round =>
              obtain ⟨m, rfl, hjq, rfl, HDP⟩ := hrel
              generalize gk = j at *
              have xc := HXC0.out
              by_cases hj0 : j = 0
              · have HTK : Hid (∀ y ∈ S.take j, y.point ≤ x.point) := Lib.hid (by rw [hj0]; simp)
                have HJD : Hid (decide (0 < j) = false) := Lib.hid (decide_eq_false (by omega))
                clear hj0
                go_upto_region 10 with (fail)
                refine wp_region_walk [(false, 0), (false, 1), (false, 2), (true, 3), (true, 4), (true, 5), (true, 6), (true, 7), (true, 8), (false, 9), (false, 10), (false, 11), (false, 12)] (inKA (fun _ => False) (Y.drewN m)) (by kernel_rfl) (by kernel_rfl) ?_
                have HKN : Hid (Keep (fun _ => False) (Y.drewN m) (Y.drewN m).drew) := Lib.hid (Keep.refl _ _).drew
                have HKN0 : Hid (Keep (fun _ => False) Y (Y.drewN m).drew) := Lib.hid (((Keep.refl (fun _ => False) Y).drewN m).drew)
                generalize (Y.drewN m).drew = Y2 at *
                refine walkW_do rfl (inKA.of HKN.out) (fun K hK => ?_); go_simp; refine hK _ _ ?_; clear hK K
                refine walkW_do rfl (inKA.of HKN.out) (fun K hK => ?_); go_simp; refine hK _ _ ?_; clear hK K
                rw [HJD.out]
                refine walkW_do rfl (inKA.of HKN.out) (fun K hK => ?_); go_simp; refine hK _ _ ?_; clear hK K
                iterate 6 (refine walkW_read rfl (fun K hK => ?_); go_simp; refine hK _ ?_; clear hK K)
                iterate 4 (refine walkW_do rfl (inKA.of HKN.out) (fun K hK => ?_); go_simp; refine hK _ _ ?_; clear hK K)
                refine ⟨inKA.of HKN.out, ?_⟩
                clear xc
                have HOY2 := Lib.hid (HOY.out.keep HKN0.out)
                have HKY2 := HKN0
                have x0 := HKY2.out.cell HXC0.out (fun h => h)
                have x1 := HKY2.out.cell HXC1.out (fun h => h)
                obtain ⟨g, gc', Y3, hr, hown3, kp, hg⟩ := HOY2.out.snoc x HLEN.out
                rw [HQ.out] at hr hown3
                have HR := Lib.hid hr
                have HOY3 := Lib.hid hown3
                have hzu : ∀ jj, (Value.slice ua q uc).ownBlock = some jj → jj < z := fun jj e => Nat.lt_of_lt_of_le (HOW.out.2.lt jj e).2 HY.out.lo
                have hgz : g ≠ z := by
                  rcases hg with hg | hg
                  · have := hzu g hg; omega
                  · have := World.block_lt_of_cell? _ _ x0; simp only [] at this; omega
                have HX30 := Lib.hid (kp.cell x0 (fun e => by have := hzu z e; omega))
                have HX31 := Lib.hid (kp.cell x1 (fun e => by have := hzu z e; omega))
                have HKY3 := Lib.hid kp
                clear hr hown3 kp hg
                go_wp2_with (at_builtin; refine wpList_app rfl (.tmp 59) (.tmp 61) 74 rfl rfl rfl HR.out ?_)
                clear x0 x1
                have hjz0 : (0 : Int) ≤ (j : Int) := by omega
                have hjq0 : (j : Int) ≤ (q : Int) := by omega
                have hj1 : (0 : Int) ≤ (j : Int) + 1 := by omega
                have hj2 : (j : Int) ≤ (q : Int) + 1 := by omega
                have hwj : IntKind.i64.wrap ((j : Int) + 1) = (j : Int) + 1 := wrapI (by unfold I64; omega)
                go_upto_region 13 with (fail)
                refine wp_region_walk [(true, 0), (true, 1), (true, 2), (true, 3), (true, 4), (false, 5), (false, 6), (false, 7)] (inKA (fun jj => jj = g) Y3) (by kernel_rfl) (by kernel_rfl) ?_
                have HKD : Hid (Keep (fun jj => jj = g) Y3 Y3.drew) := Lib.hid (Keep.refl _ Y3).drew
                have HKD0 : Hid (Keep (fun _ => False) Y3 Y3.drew) := Lib.hid (Keep.refl _ Y3).drew
                generalize Y3.drew = Y4 at *
                iterate 5 (refine walkW_read rfl (fun K hK => ?_); go_simp; refine hK _ ?_; clear hK K)
                iterate 2 (refine walkW_do rfl (inKA.of HKD.out) (fun K hK => ?_); go_simp; refine hK _ _ ?_; clear hK K)
                have HOY4 := Lib.hid (HOY3.out.keep HKD0.out)
                have hgc : q + 1 ≤ gc' := by
                  rcases HOY4.out.2.2 with ⟨e, _⟩ | ⟨g', c', cur, e, _, _, h1, _⟩
                  · cases e
                  · obtain ⟨_, _, e3⟩ := Value.slice.inj e
                    have h2 := HQ.out
                    rw [List.length_append, h2] at h1
                    have h3 : [x].length = 1 := rfl
                    omega
                have hown4 := HOY4.out.2
                rw [List.length_append, HQ.out] at hown4
                obtain ⟨Y5, hcp, hown5, kcp⟩ := copy_within (P := Tryd.prog) hown4 (flatS_cell _) 74 74 3 77 Tryd.underlying74 infoSp2
                  (if gc' = j + 1 then some ⟨g, 0, none⟩ else some ⟨g, (j + 1) * 2, none⟩) (if gc' = j then some ⟨g, 0, none⟩ else some ⟨g, j * 2, none⟩) (q - j) (gc' - (j + 1)) (q + 1 - j) (gc' - j) ((j + 1) * 2) (j * 2) (q - j) (by show min (q + 1 - j) (q - j) = q - j; omega)
                  (fun h => ⟨if_neg (by omega), if_neg (by omega)⟩) (by omega) (by omega)
                have HCP := Lib.hid hcp
                have HOWN5 := Lib.hid hown5
                have HKCP := Lib.hid kcp
                clear hcp hown5 kcp hown4
                refine walkW_do rfl (inKA.of HKD.out) (fun K hK => ?_)
                rw [if_pos (by simp [Region.wanted])]
                refine wp_cpy (.tmp 66) (.tmp 69) 74 rfl rfl rfl HCP.out (hK _ _ ?_); clear hK K
                refine ⟨inKA.of (HKD.out.trans HKCP.out), ?_⟩
                have hS5 : (flatS (S ++ [x])).take ((j + 1) * 2) ++ (((flatS (S ++ [x])).drop (j * 2)).take ((q - j) * 2) ++ (flatS (S ++ [x])).drop ((j + 1) * 2 + (q - j) * 2)) = flatS ((S ++ [x]).take (j + 1) ++ S.drop j) := by
                  unfold flatS
                  rw [flat_take encSp_len, flat_drop encSp_len, flat_take encSp_len, show (j + 1) * 2 + (q - j) * 2 = (q + 1) * 2 by omega, flat_drop encSp_len, List.flatMap_append, ← HQ.out, moved_eq S x (by rw [HQ.out]; omega), List.drop_of_length_le (l := S ++ [x]) (by simp)]
                  simp
                rw [hS5] at HOWN5
                clear hS5
                have x0 := HKCP.out.cell (HKD0.out.cell HX30.out (fun h => h)) (fun e => hgz e.symm)
                have x1 := HKCP.out.cell (HKD0.out.cell HX31.out (fun h => h)) (fun e => hgz e.symm)
                obtain ⟨s0, hs0⟩ : ∃ y, ((S ++ [x]).take (j + 1) ++ S.drop j)[j]? = some y := ⟨_, List.getElem?_eq_getElem (by have := HQ.out; simp only [List.length_append, List.length_take, List.length_drop, List.length_cons, List.length_nil]; omega)⟩
                have HS0 := Lib.hid hs0
                have hcl5 : (S.length + [x].length) = q + 1 := by rw [HQ.out]; rfl
                have g0 : Y5.cell? ⟨g, j * 2, none⟩ = some (.int .i64 s0.point) := by
                  rw [HOWN5.out.cellAt (j * 2) (by omega)]
                  exact flat_get encSp_len _ j s0 0 hs0 (by decide)
                have g1 : Y5.cell? ⟨g, j * 2 + 1, none⟩ = some (.int .i64 s0.node) := by
                  rw [HOWN5.out.cellAt (j * 2 + 1) (by omega)]
                  exact flat_get encSp_len _ j s0 1 hs0 (by decide)
                have gf : ∀ o, Y5.frozen? ⟨g, o, none⟩ = false := fun o => HOWN5.out.frozenAt o
                clear hs0
                have hjq1 : (j : Int) < (q : Int) + 1 := by omega
                clear hcl5
                generalize (if gc' = j + 1 then (some ⟨g, 0, none⟩ : Option Addr) else some ⟨g, (j + 1) * 2, none⟩) = adp at *
                generalize (if gc' = j then (some ⟨g, 0, none⟩ : Option Addr) else some ⟨g, j * 2, none⟩) = asp at *
                go_wp2_with fail
                clear x0 x1 g0 g1 gf
                go_roundg (4 * wq - (i + 1))
                case rel =>
                  have hlen : (S.take j ++ x :: S.drop j).length = q + 1 := by
                    have := HQ.out
                    simp only [List.length_append, List.length_take, List.length_cons, List.length_drop]
                    omega
                  have hst : ((flatS ((S ++ [x]).take (j + 1) ++ S.drop j)).set (j * 2) (.int .i64 x.point)).set (j * 2 + 1) (.int .i64 x.node) = flatS (S.take j ++ x :: S.drop j) := by
                    have e1 : (((S ++ [x]).take (j + 1) ++ S.drop j).flatMap encSp).set (j * 2) (.int .i64 x.point) = (((S ++ [x]).take (j + 1) ++ S.drop j).set j ⟨x.point, s0.node, x.i⟩).flatMap encSp := flat_set encSp_len (r := 0) (u := .int .i64 x.point) (by decide) _ j s0 ⟨x.point, s0.node, x.i⟩ HS0.out rfl
                    have h2 : (((S ++ [x]).take (j + 1) ++ S.drop j).set j ⟨x.point, s0.node, x.i⟩)[j]? = some ⟨x.point, s0.node, x.i⟩ := List.getElem?_set_self (List.getElem?_eq_some_iff.1 HS0.out).1
                    have e2 := flat_set encSp_len (r := 1) (u := .int .i64 x.node) (by decide) _ j _ x h2 rfl
                    unfold flatS
                    rw [e1, e2, List.set_set, ins_moved S x (by rw [HQ.out]; exact hjq)]
                  have h1 := ((HOWN5.out.stored (j * 2) (.int .i64 x.point)).1.stored (j * 2 + 1) (.int .i64 x.node)).1
                  rw [hst] at h1
                  have hgw : w.heap.size ≤ g := (HOY3.out.2.lt g rfl).1
                  refine ⟨i + 1, S.take j ++ x :: S.drop j, by omega, by go_num, ⟨(HOY3.out.1.trans HKD0.out).trans' ((HKCP.out.setCell (p := ⟨g, j * 2, none⟩) _ (.inl rfl)).setCell (p := ⟨g, j * 2 + 1, none⟩) _ (.inl rfl)) (fun jj e => .inr (by omega)), ?_⟩, Lib.hid ⟨?_, ?_⟩⟩
                  · rw [hlen]; exact h1
                  · exact ins_at HS.out.1 (fun y hy => by rw [← HX.out]; exact drawK_lt HV.out HM.out y (HS.out.2.mem_iff.1 hy)) HTK.out HDP.out
                  · rw [drawK_succ HM.out (by simp only [Int.toNat_natCast]; exact hil), HX.out]
                    exact (ins_perm S x j).trans (HS.out.2.append_right _)
                case measure => omega
              · obtain ⟨p, hjp⟩ : ∃ p, j = p + 1 := ⟨j - 1, by omega⟩
                clear hj0
                obtain ⟨y, hy⟩ : ∃ y, S[p]? = some y := ⟨_, List.getElem?_eq_getElem (by rw [HQ.out]; omega)⟩
                have hjz : 0 < j := by omega
                have ek : (j : Int) - 1 = (p : Int) := by omega
                have hwk : IntKind.i64.wrap (p : Int) = (p : Int) := wrapI (by unfold I64; omega)
                obtain rfl := HUA.out (by omega)
                have hp0 : (0 : Int) ≤ (p : Int) := by omega
                have hpq : (p : Int) < (q : Int) := by omega
                have yc : Y.cell? ⟨bo, p * 2, none⟩ = some (.int .i64 y.point) := by
                  have h1 := HOY.out.2
                  rw [HQ.out] at h1
                  rw [h1.cellAt (p * 2) (by omega)]
                  exact flat_get encSp_len S p y 0 hy (by decide)
                have HJP := Lib.hid hjp
                have HYS := Lib.hid hy
                clear hy hjp
                by_cases hgt : x.point < y.point
                · have HDN : Hid (∀ y ∈ S.drop p, x.point < y.point) := Lib.hid (fun y' hy' => by
                    rw [List.drop_eq_getElem_cons (by rw [HQ.out]; omega)] at hy'
                    rcases List.mem_cons.1 hy' with rfl | hy'
                    · obtain ⟨_, e⟩ := List.getElem?_eq_some_iff.1 HYS.out
                      rw [e]; exact hgt
                    · rw [← HJP.out] at hy'; exact HDP.out y' hy')
                  go_wp2_with fail
                  go_quiet (fail)
                  go_wp2_with fail
                  go_roundg p
                  case rel => exact ⟨_, by go_num, by have := HJP.out; omega, by first | rfl | exact World.drewN_drewN _ _ _, HDN⟩
                  case measure => have := HJP.out; omega
                · have HTK : Hid (∀ y ∈ S.take j, y.point ≤ x.point) := Lib.hid (fun y' hy' => by
                    obtain ⟨a1, ha1⟩ := List.mem_iff_getElem?.1 hy'
                    have hlt1 : a1 < j := by have := (List.getElem?_eq_some_iff.1 ha1).1; rw [List.length_take] at this; omega
                    rw [List.getElem?_take_of_lt hlt1] at ha1
                    have := sorted_points HS.out.1 ha1 HYS.out (by have := HJP.out; omega)
                    omega)
                  go_wp2_with fail
                  go_quiet (fail)
                  clear xc
                  have HOY2 := Lib.hid (HOY.out.keep (((Keep.refl (fun _ => False) Y).drewN m).drewN nq))
                  have HKY2 : Hid (Keep (fun _ => False) Y ((Y.drewN m).drewN nq)) := Lib.hid (((Keep.refl (fun _ => False) Y).drewN m).drewN nq)
                  generalize (Y.drewN m).drewN nq = Y2 at *
                  have x0 := HKY2.out.cell HXC0.out (fun h => h)
                  have x1 := HKY2.out.cell HXC1.out (fun h => h)
                  obtain ⟨g, gc', Y3, hr, hown3, kp, hg⟩ := HOY2.out.snoc x HLEN.out
                  rw [HQ.out] at hr hown3
                  have HR := Lib.hid hr
                  have HOY3 := Lib.hid hown3
                  have hzu : ∀ jj, (Value.slice (some ⟨bo, 0, none⟩) q uc).ownBlock = some jj → jj < z := fun jj e => Nat.lt_of_lt_of_le (HOW.out.2.lt jj e).2 HY.out.lo
                  have hgz : g ≠ z := by
                    rcases hg with hg | hg
                    · have := hzu g hg; omega
                    · have := World.block_lt_of_cell? _ _ x0; simp only [] at this; omega
                  have HX30 := Lib.hid (kp.cell x0 (fun e => by have := hzu z e; omega))
                  have HX31 := Lib.hid (kp.cell x1 (fun e => by have := hzu z e; omega))
                  have HKY3 := Lib.hid kp
                  clear hr hown3 kp hg
                  go_wp2_with (at_builtin; refine wpList_app rfl (.tmp 59) (.tmp 61) 74 rfl rfl rfl HR.out ?_)
                  clear x0 x1
                  have hjz0 : (0 : Int) ≤ (j : Int) := by omega
                  have hjq0 : (j : Int) ≤ (q : Int) := by omega
                  have hj1 : (0 : Int) ≤ (j : Int) + 1 := by omega
                  have hj2 : (j : Int) ≤ (q : Int) + 1 := by omega
                  have hwj : IntKind.i64.wrap ((j : Int) + 1) = (j : Int) + 1 := wrapI (by unfold I64; omega)
                  go_upto_region 13 with (fail)
                  refine wp_region_walk [(true, 0), (true, 1), (true, 2), (true, 3), (true, 4), (false, 5), (false, 6), (false, 7)] (inKA (fun jj => jj = g) Y3) (by kernel_rfl) (by kernel_rfl) ?_
                  have HKD : Hid (Keep (fun jj => jj = g) Y3 Y3.drew) := Lib.hid (Keep.refl _ Y3).drew
                  have HKD0 : Hid (Keep (fun _ => False) Y3 Y3.drew) := Lib.hid (Keep.refl _ Y3).drew
                  generalize Y3.drew = Y4 at *
                  iterate 5 (refine walkW_read rfl (fun K hK => ?_); go_simp; refine hK _ ?_; clear hK K)
                  iterate 2 (refine walkW_do rfl (inKA.of HKD.out) (fun K hK => ?_); go_simp; refine hK _ _ ?_; clear hK K)
                  have HOY4 := Lib.hid (HOY3.out.keep HKD0.out)
                  have hgc : q + 1 ≤ gc' := by
                    rcases HOY4.out.2.2 with ⟨e, _⟩ | ⟨g', c', cur, e, _, _, h1, _⟩
                    · cases e
                    · obtain ⟨_, _, e3⟩ := Value.slice.inj e
                      have h2 := HQ.out
                      rw [List.length_append, h2] at h1
                      have h3 : [x].length = 1 := rfl
                      omega
                  have hown4 := HOY4.out.2
                  rw [List.length_append, HQ.out] at hown4
                  obtain ⟨Y5, hcp, hown5, kcp⟩ := copy_within (P := Tryd.prog) hown4 (flatS_cell _) 74 74 3 77 Tryd.underlying74 infoSp2
                    (if gc' = j + 1 then some ⟨g, 0, none⟩ else some ⟨g, (j + 1) * 2, none⟩) (if gc' = j then some ⟨g, 0, none⟩ else some ⟨g, j * 2, none⟩) (q - j) (gc' - (j + 1)) (q + 1 - j) (gc' - j) ((j + 1) * 2) (j * 2) (q - j) (by show min (q + 1 - j) (q - j) = q - j; omega)
                    (fun h => ⟨if_neg (by omega), if_neg (by omega)⟩) (by omega) (by omega)
                  have HCP := Lib.hid hcp
                  have HOWN5 := Lib.hid hown5
                  have HKCP := Lib.hid kcp
                  clear hcp hown5 kcp hown4
                  refine walkW_do rfl (inKA.of HKD.out) (fun K hK => ?_)
                  rw [if_pos (by simp [Region.wanted])]
                  refine wp_cpy (.tmp 66) (.tmp 69) 74 rfl rfl rfl HCP.out (hK _ _ ?_); clear hK K
                  refine ⟨inKA.of (HKD.out.trans HKCP.out), ?_⟩
                  have hS5 : (flatS (S ++ [x])).take ((j + 1) * 2) ++ (((flatS (S ++ [x])).drop (j * 2)).take ((q - j) * 2) ++ (flatS (S ++ [x])).drop ((j + 1) * 2 + (q - j) * 2)) = flatS ((S ++ [x]).take (j + 1) ++ S.drop j) := by
                    unfold flatS
                    rw [flat_take encSp_len, flat_drop encSp_len, flat_take encSp_len, show (j + 1) * 2 + (q - j) * 2 = (q + 1) * 2 by omega, flat_drop encSp_len, List.flatMap_append, ← HQ.out, moved_eq S x (by rw [HQ.out]; omega), List.drop_of_length_le (l := S ++ [x]) (by simp)]
                    simp
                  rw [hS5] at HOWN5
                  clear hS5
                  have x0 := HKCP.out.cell (HKD0.out.cell HX30.out (fun h => h)) (fun e => hgz e.symm)
                  have x1 := HKCP.out.cell (HKD0.out.cell HX31.out (fun h => h)) (fun e => hgz e.symm)
                  obtain ⟨s0, hs0⟩ : ∃ y, ((S ++ [x]).take (j + 1) ++ S.drop j)[j]? = some y := ⟨_, List.getElem?_eq_getElem (by have := HQ.out; simp only [List.length_append, List.length_take, List.length_drop, List.length_cons, List.length_nil]; omega)⟩
                  have HS0 := Lib.hid hs0
                  have hcl5 : (S.length + [x].length) = q + 1 := by rw [HQ.out]; rfl
                  have g0 : Y5.cell? ⟨g, j * 2, none⟩ = some (.int .i64 s0.point) := by
                    rw [HOWN5.out.cellAt (j * 2) (by omega)]
                    exact flat_get encSp_len _ j s0 0 hs0 (by decide)
                  have g1 : Y5.cell? ⟨g, j * 2 + 1, none⟩ = some (.int .i64 s0.node) := by
                    rw [HOWN5.out.cellAt (j * 2 + 1) (by omega)]
                    exact flat_get encSp_len _ j s0 1 hs0 (by decide)
                  have gf : ∀ o, Y5.frozen? ⟨g, o, none⟩ = false := fun o => HOWN5.out.frozenAt o
                  clear hs0
                  have hjq1 : (j : Int) < (q : Int) + 1 := by omega
                  clear hcl5
                  generalize (if gc' = j + 1 then (some ⟨g, 0, none⟩ : Option Addr) else some ⟨g, (j + 1) * 2, none⟩) = adp at *
                  generalize (if gc' = j then (some ⟨g, 0, none⟩ : Option Addr) else some ⟨g, j * 2, none⟩) = asp at *
                  go_wp2_with fail
                  clear x0 x1 g0 g1 gf
                  go_roundg (4 * wq - (i + 1))
                  case rel =>
                    have hlen : (S.take j ++ x :: S.drop j).length = q + 1 := by
                      have := HQ.out
                      simp only [List.length_append, List.length_take, List.length_cons, List.length_drop]
                      omega
                    have hst : ((flatS ((S ++ [x]).take (j + 1) ++ S.drop j)).set (j * 2) (.int .i64 x.point)).set (j * 2 + 1) (.int .i64 x.node) = flatS (S.take j ++ x :: S.drop j) := by
                      have e1 : (((S ++ [x]).take (j + 1) ++ S.drop j).flatMap encSp).set (j * 2) (.int .i64 x.point) = (((S ++ [x]).take (j + 1) ++ S.drop j).set j ⟨x.point, s0.node, x.i⟩).flatMap encSp := flat_set encSp_len (r := 0) (u := .int .i64 x.point) (by decide) _ j s0 ⟨x.point, s0.node, x.i⟩ HS0.out rfl
                      have h2 : (((S ++ [x]).take (j + 1) ++ S.drop j).set j ⟨x.point, s0.node, x.i⟩)[j]? = some ⟨x.point, s0.node, x.i⟩ := List.getElem?_set_self (List.getElem?_eq_some_iff.1 HS0.out).1
                      have e2 := flat_set encSp_len (r := 1) (u := .int .i64 x.node) (by decide) _ j _ x h2 rfl
                      unfold flatS
                      rw [e1, e2, List.set_set, ins_moved S x (by rw [HQ.out]; exact hjq)]
                    have h1 := ((HOWN5.out.stored (j * 2) (.int .i64 x.point)).1.stored (j * 2 + 1) (.int .i64 x.node)).1
                    rw [hst] at h1
                    have hgw : w.heap.size ≤ g := (HOY3.out.2.lt g rfl).1
                    refine ⟨i + 1, S.take j ++ x :: S.drop j, by omega, by go_num, ⟨(HOY3.out.1.trans HKD0.out).trans' ((HKCP.out.setCell (p := ⟨g, j * 2, none⟩) _ (.inl rfl)).setCell (p := ⟨g, j * 2 + 1, none⟩) _ (.inl rfl)) (fun jj e => .inr (by omega)), ?_⟩, Lib.hid ⟨?_, ?_⟩⟩
                    · rw [hlen]; exact h1
                    · exact ins_at HS.out.1 (fun y hy => by rw [← HX.out]; exact drawK_lt HV.out HM.out y (HS.out.2.mem_iff.1 hy)) HTK.out HDP.out
                    · rw [drawK_succ HM.out (by simp only [Int.toNat_natCast]; exact hil), HX.out]
                      exact (ins_perm S x j).trans (HS.out.2.append_right _)
                  case measure => omega
        · obtain rfl : i = 4 * wq := by omega
          have hig : ¬ ((4 * wq : Nat) : Int) < 4 * (wq : Int) := by omega
          go_wp2_with fail
          go_roundg (n - (k + 1))
          case rel => exact ⟨k + 1, S, by have := HKK.out; omega, by go_num, HOW.out, Lib.hid ⟨HS.out.1, by have h := HS.out.2; rw [show 4 * wq = 4 * ((wq : Int)).toNat by rw [Int.toNat_natCast], drawK_next HM.out] at h; exact h⟩⟩
          case measure => have := HKK.out; omega
    · obtain rfl : k = n := by omega
      have HE : Hid (S = circ PN l) := Lib.hid (circ_uniq PN HV.out.asc (by rw [← drawK_all (l := l) (k := k) (by have := HL.out; omega)]; exact HS.out.2) HS.out.1)
      go_wp2_with fail
      go_ret
      exact ⟨_, rfl, by rw [← HE.out]; exact HOW.out⟩
end Go.Proofs.YtplkmbfeeegaiaaDoor
