/-
  The forms of queries: maps of words and functions.
-/
import Derived.Test.YtmndjicaofciiaaGreatDoorW0
import Derived.Maps.Own
namespace Go.Proofs.YtmndjicaofciiaaGreatDoor
open Go.RowKit Go.Shelf

/-- Bytes as a string. -/
abbrev bs (l : List UInt8) : ByteArray := ⟨l.toArray⟩
theorem intKeyed : Maps.Keyed Tryz.prog 3 := Maps.int_keyed Tryz.underlying3
theorem keyInt {i : Int} (h : I64 i) : keyOf Tryz.prog 3 (.int .i64 i) = some (.int .i64 i) := Maps.keyOf_int_mk Tryz.underlying3 (WalkArith.wf_i64 h)
def fnK (k : Int) : Nat := if k = 1 then 34 else if k = 2 ∨ k = 3 then 35 else if k = 4 ∨ k = 5 ∨ k = 6 then 36 else 37
def glueV (ofb jb : Nat) (k : Int) : Value := if k = 4 ∨ k = 5 ∨ k = 6 then .map (some ofb) else if k = 7 then .map (some jb) else .map none
def formV (ofb jb : Nat) (k : Int) : Value := .agg #[.string (bs (wordK k)), .func (.func (fnK k)) #[] #[], glueV ofb jb k]
def FormR (ofb jb : Nat) (key v : Value) : Prop := ∃ k : Int, 1 ≤ k ∧ k ≤ 7 ∧ key = .int .i64 k ∧ v = formV ofb jb k
/-- Words in front of fields, in memory. -/
def GlueAt (W : World) (gv : Value) (k : Int) : Prop := (gv = .map none ∧ ∀ i, glueK k i = none) ∨ ∃ b, gv = .map (some b) ∧ MapRel Tryz.prog 3 W b (fun key v => ∃ (i : Nat) (g : List UInt8), i ≤ 9 ∧ glueK k i = some g ∧ key = .int .i64 i ∧ v = .string (bs g))
theorem MapRel.kept {P : Program} {kt : TypeId} {W W' : World} {b : Nat} {R : Value → Value → Prop} (h : MapRel P kt W b R) (k : Keep (fun _ => False) W W') : MapRel P kt W' b R := h.of_heap (k.block b h.lt (fun h => h))
theorem GlueAt.kept {W W' : World} {gv : Value} {k : Int} (h : GlueAt W gv k) (q : Keep (fun _ => False) W W') : GlueAt W' gv k := by
  rcases h with h | ⟨b, h1, h2⟩
  · exact .inl h
  · exact .inr ⟨b, h1, h2.kept q⟩
def FormsPost (w : World) (e : Ending) (w' : World) : Prop := ∃ mb ofb jb, e = .returned (.map (some mb)) ∧ MapRel Tryz.prog 3 w' mb (FormR ofb jb) ∧ (∀ k : Int, 1 ≤ k → k ≤ 7 → GlueAt w' (glueV ofb jb k) k) ∧ Keep (fun _ => False) w w'
set_option maxRecDepth 100000 in
set_option maxHeartbeats 4000000 in
theorem forms_any (w : World) : Calls Tryz.prog 21 #[] w (FormsPost w) := by
  have hmm := @run_makeMap Tryz.prog
  have KI : Hid (∀ i : Int, 1 ≤ i ∧ i ≤ 7 → keyOf Tryz.prog 3 (.int .i64 i) = some (.int .i64 i)) := Lib.hid (fun i h => keyInt (by unfold I64; omega))
  have m1 := MapRel.made Tryz.prog 3 w
  obtain ⟨e1, k1, u1, r1⟩ := m1.update intKeyed Tryz.underlying67 (KI.out 1 (by decide)) (.string ⟨#[111, 102]⟩)
  have K1 : Keep (fun _ => False) w ((w.alloc (.map #[] 0)).putObj w.heap.size (.map e1 k1)) := ((Keep.refl _ w).alloc _).putObj _ (.inr (Nat.le_refl _))
  have RO := Lib.hid r1
  have HK0 := Lib.hid K1
  clear m1 r1 K1
  go_enter Tryz.func21, Tryz.ntmps21
  go_upto_region 2 with (fail)
  clear u1
  generalize (w.alloc (.map #[] 0)).putObj w.heap.size (.map e1 k1) = V0 at *
  generalize w.heap.size = ofb at *
  have m1 := MapRel.made Tryz.prog 3 V0
  obtain ⟨e1, k1, u1, r1⟩ := m1.update intKeyed Tryz.underlying70 (KI.out 1 (by decide)) (.agg #[.string ⟨#[114, 111, 119]⟩, .func (.func 34) #[] #[], .map none])
  have K1 : Keep (fun _ => False) V0 ((V0.alloc (.map #[] 0)).putObj V0.heap.size (.map e1 k1)) := ((Keep.refl _ V0).alloc _).putObj _ (.inr (Nat.le_refl _))
  have HNE : Hid (ofb < V0.heap.size) := Lib.hid RO.out.lt
  have RO1 := Lib.hid (RO.out.kept K1)
  have HK1 := Lib.hid (HK0.out.trans K1)
  have HSW : Hid (w.heap.size ≤ V0.heap.size) := Lib.hid HK0.out.size
  have R1 := Lib.hid r1
  clear m1 r1 K1 RO HK0
  go_wp2_with fail
  clear u1
  generalize (V0.alloc (.map #[] 0)).putObj V0.heap.size (.map e1 k1) = V1 at *
  generalize V0.heap.size = mb at *
  have KM1 : Hid (Keep (fun j => j = mb) V1 V1) := Lib.hid (Keep.refl _ V1)
  obtain ⟨e2, k2, u2, r2⟩ := R1.out.update intKeyed Tryz.underlying70 (KI.out 2 (by decide)) (.agg #[.string ⟨#[114, 111, 119, 115]⟩, .func (.func 35) #[] #[], .map none])
  have R2 := Lib.hid r2
  have KM2 := Lib.hid (KM1.out.putObj (.map e2 k2) (.inl (rfl : mb = mb)))
  clear r2 R1 KM1
  rw [u2]
  simp only [Result.andThen]
  rw [Oper.upon_skip]
  go_wp2_with fail
  clear u2
  generalize V1.putObj mb (.map e2 k2) = V2 at *
  obtain ⟨e3, k3, u3, r3⟩ := R2.out.update intKeyed Tryz.underlying70 (KI.out 3 (by decide)) (.agg #[.string ⟨#[99, 111, 117, 110, 116]⟩, .func (.func 35) #[] #[], .map none])
  have R3 := Lib.hid r3
  have KM3 := Lib.hid (KM2.out.putObj (.map e3 k3) (.inl (rfl : mb = mb)))
  clear r3 R2 KM2
  rw [u3]
  simp only [Result.andThen]
  rw [Oper.upon_skip]
  go_wp2_with fail
  clear u3
  generalize V2.putObj mb (.map e3 k3) = V3 at *
  obtain ⟨e4, k4, u4, r4⟩ := R3.out.update intKeyed Tryz.underlying70 (KI.out 4 (by decide)) (.agg #[.string ⟨#[115, 117, 109]⟩, .func (.func 36) #[] #[], .map (some ofb)])
  have R4 := Lib.hid r4
  have KM4 := Lib.hid (KM3.out.putObj (.map e4 k4) (.inl (rfl : mb = mb)))
  clear r4 R3 KM3
  rw [u4]
  simp only [Result.andThen]
  rw [Oper.upon_skip]
  go_wp2_with fail
  clear u4
  generalize V3.putObj mb (.map e4 k4) = V4 at *
  obtain ⟨e5, k5, u5, r5⟩ := R4.out.update intKeyed Tryz.underlying70 (KI.out 5 (by decide)) (.agg #[.string ⟨#[109, 105, 110]⟩, .func (.func 36) #[] #[], .map (some ofb)])
  have R5 := Lib.hid r5
  have KM5 := Lib.hid (KM4.out.putObj (.map e5 k5) (.inl (rfl : mb = mb)))
  clear r5 R4 KM4
  rw [u5]
  simp only [Result.andThen]
  rw [Oper.upon_skip]
  go_wp2_with fail
  clear u5
  generalize V4.putObj mb (.map e5 k5) = V5 at *
  obtain ⟨e6, k6, u6, r6⟩ := R5.out.update intKeyed Tryz.underlying70 (KI.out 6 (by decide)) (.agg #[.string ⟨#[109, 97, 120]⟩, .func (.func 36) #[] #[], .map (some ofb)])
  have R6 := Lib.hid r6
  have KM6 := Lib.hid (KM5.out.putObj (.map e6 k6) (.inl (rfl : mb = mb)))
  clear r6 R5 KM5
  have hsz : (V5.putObj mb (.map e6 k6)).heap.size = V5.heap.size := by simp
  have HSZ := Lib.hid hsz
  clear hsz
  rw [u6]
  simp only [Result.andThen]
  rw [Oper.upon_skip]
  go_wp2_with fail
  clear u6
  generalize V5.putObj mb (.map e6 k6) = V6 at *
  rw [← HSZ.out]
  have m7 := MapRel.made Tryz.prog 3 V6
  obtain ⟨f1, g1, t1, q1⟩ := m7.update intKeyed Tryz.underlying67 (KI.out 1 (by decide)) (.string ⟨#[116, 111]⟩)
  have KA : Hid (Keep (fun _ => False) V6 (V6.alloc (.map #[] 0))) := Lib.hid ((Keep.refl _ V6).alloc _)
  obtain ⟨f2, g2, t2, q2⟩ := q1.update intKeyed Tryz.underlying67 (KI.out 2 (by decide)) (.string ⟨#[111, 102]⟩)
  have Q2 := Lib.hid q2
  have KB : Hid (Keep (fun _ => False) V6 (((V6.alloc (.map #[] 0)).putObj V6.heap.size (.map f1 g1)).putObj V6.heap.size (.map f2 g2))) := Lib.hid ((KA.out.putObj _ (.inr (Nat.le_refl _))).putObj _ (.inr (Nat.le_refl _)))
  clear m7 q1 q2
  have HJB : Hid (mb < V6.heap.size ∧ ofb < V6.heap.size) := Lib.hid (by have h1 := R6.out.lt; have h2 := HNE.out; omega)
  have R7 := Lib.hid (R6.out.kept KB.out)
  rw [t1]
  simp only [Result.andThen]
  rw [Oper.upon_skip]
  go_wp2_with fail
  clear t1 t2
  generalize ((V6.alloc (.map #[] 0)).putObj V6.heap.size (.map f1 g1)).putObj V6.heap.size (.map f2 g2) = V7 at *
  generalize V6.heap.size = jb at *
  obtain ⟨e7, k7, u7, r7⟩ := R7.out.update intKeyed Tryz.underlying70 (KI.out 7 (by decide)) (.agg #[.string ⟨#[106, 111, 105, 110]⟩, .func (.func 37) #[] #[], .map (some jb)])
  have R8 := Lib.hid r7
  have KC := Lib.hid ((Keep.refl (fun j => j = mb) V7).putObj (.map e7 k7) (.inl (rfl : mb = mb)))
  clear r7
  rw [u7]
  simp only [Result.andThen]
  rw [Oper.upon_skip]
  go_wp2_with fail
  clear u7
  generalize V7.putObj mb (.map e7 k7) = V8 at *
  go_ret
  have hne1 := HNE.out
  have hne2 := HJB.out
  have hmb : mb ≠ ofb := by omega
  have KZ : Keep (fun j => j = mb) V1 V8 := (KM6.out.trans (KB.out.mono (fun _ h => h.elim))).trans KC.out
  have hro := RO1.out.of_heap (KZ.block ofb RO1.out.lt (fun e => hmb e.symm))
  have hq := Q2.out.of_heap (KC.out.block jb Q2.out.lt (fun e => by have h5 : jb = mb := e; omega))
  refine ⟨mb, ofb, jb, rfl, ?_, ?_, ?_⟩
  · refine R8.out.congr (fun key v => ?_)
    constructor
    · rintro ⟨k, h1, h2, rfl, rfl⟩
      rcases (by omega : k = 1 ∨ k = 2 ∨ k = 3 ∨ k = 4 ∨ k = 5 ∨ k = 6 ∨ k = 7) with rfl | rfl | rfl | rfl | rfl | rfl | rfl
      · exact .inr ⟨by simp, .inr ⟨by simp, .inr ⟨by simp, .inr ⟨by simp, .inr ⟨by simp, .inr ⟨by simp, .inl ⟨rfl, rfl⟩⟩⟩⟩⟩⟩⟩
      · exact .inr ⟨by simp, .inr ⟨by simp, .inr ⟨by simp, .inr ⟨by simp, .inr ⟨by simp, .inl ⟨rfl, rfl⟩⟩⟩⟩⟩⟩
      · exact .inr ⟨by simp, .inr ⟨by simp, .inr ⟨by simp, .inr ⟨by simp, .inl ⟨rfl, rfl⟩⟩⟩⟩⟩
      · exact .inr ⟨by simp, .inr ⟨by simp, .inr ⟨by simp, .inl ⟨rfl, rfl⟩⟩⟩⟩
      · exact .inr ⟨by simp, .inr ⟨by simp, .inl ⟨rfl, rfl⟩⟩⟩
      · exact .inr ⟨by simp, .inl ⟨rfl, rfl⟩⟩
      · exact .inl ⟨rfl, rfl⟩
    · rintro (⟨rfl, rfl⟩ | ⟨-, ⟨rfl, rfl⟩ | ⟨-, ⟨rfl, rfl⟩ | ⟨-, ⟨rfl, rfl⟩ | ⟨-, ⟨rfl, rfl⟩ | ⟨-, ⟨rfl, rfl⟩ | ⟨-, ⟨rfl, rfl⟩ | ⟨-, h⟩⟩⟩⟩⟩⟩⟩)
      · exact ⟨7, by decide, by decide, rfl, rfl⟩
      · exact ⟨6, by decide, by decide, rfl, rfl⟩
      · exact ⟨5, by decide, by decide, rfl, rfl⟩
      · exact ⟨4, by decide, by decide, rfl, rfl⟩
      · exact ⟨3, by decide, by decide, rfl, rfl⟩
      · exact ⟨2, by decide, by decide, rfl, rfl⟩
      · exact ⟨1, by decide, by decide, rfl, rfl⟩
      · exact h.elim
  · intro k h1 h2
    have hof : ∀ k : Int, (k = 4 ∨ k = 5 ∨ k = 6) → GlueAt V8 (.map (some ofb)) k := fun k hk => .inr ⟨ofb, rfl, hro.congr (fun key v => by
      constructor
      · rintro ⟨i, g, -, hg, rfl, rfl⟩
        unfold glueK at hg
        rw [if_pos hk] at hg
        split at hg
        · rename_i hi
          subst hi
          cases Option.some.inj hg
          exact .inl ⟨rfl, rfl⟩
        · cases hg
      · rintro (⟨rfl, rfl⟩ | ⟨-, h⟩)
        · exact ⟨1, wOf, by decide, by unfold glueK; rw [if_pos hk, if_pos rfl], rfl, rfl⟩
        · exact h.elim)⟩
    rcases (by omega : k = 1 ∨ k = 2 ∨ k = 3 ∨ k = 4 ∨ k = 5 ∨ k = 6 ∨ k = 7) with rfl | rfl | rfl | rfl | rfl | rfl | rfl
    · exact .inl ⟨rfl, fun i => rfl⟩
    · exact .inl ⟨rfl, fun i => rfl⟩
    · exact .inl ⟨rfl, fun i => rfl⟩
    · exact hof 4 (.inl rfl)
    · exact hof 5 (.inr (.inl rfl))
    · exact hof 6 (.inr (.inr rfl))
    · refine .inr ⟨jb, rfl, hq.congr (fun key v => ?_)⟩
      constructor
      · rintro ⟨i, g, -, hg, rfl, rfl⟩
        unfold glueK at hg
        rw [if_neg (by decide), if_pos rfl] at hg
        split at hg
        · rename_i hi
          subst hi
          cases Option.some.inj hg
          exact .inr ⟨by simp, .inl ⟨rfl, rfl⟩⟩
        · split at hg
          · rename_i hi
            subst hi
            cases Option.some.inj hg
            exact .inl ⟨rfl, rfl⟩
          · cases hg
      · rintro (⟨rfl, rfl⟩ | ⟨-, ⟨rfl, rfl⟩ | ⟨-, h⟩⟩)
        · exact ⟨2, wOf, by decide, rfl, rfl, rfl⟩
        · exact ⟨1, wTo, by decide, rfl, rfl, rfl⟩
        · exact h.elim
  · exact HK1.out.trans' ((KM6.out.trans (KB.out.mono (fun _ h => h.elim))).trans KC.out) (fun j e => .inr (by have h5 : j = mb := e; have := HSW.out; omega))
end Go.Proofs.YtmndjicaofciiaaGreatDoor
