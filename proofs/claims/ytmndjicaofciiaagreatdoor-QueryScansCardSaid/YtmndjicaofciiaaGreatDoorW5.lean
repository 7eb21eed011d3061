/-
  Lookups of words and forms; Itoa; fields of every kind.
-/
import Derived.Test.YtmndjicaofciiaaGreatDoorW1
import Derived.Test.YtmndjicaofciiaaGreatDoorW2
import Derived.Test.YtmndjicaofciiaaGreatDoorW3
import Derived.Test.YtmndjicaofciiaaGreatDoorW4
import Derived.Test.YtmndjicaofciiaaGreatDoorU4
namespace Go.Proofs.YtmndjicaofciiaaGreatDoor
open Go.RowKit Go.Shelf
open Go.Sort (grow)

/-- The library's table of powers of ten. -/
def Pow (w : World) : Prop := Lib.TabIs Tryz.prog w "internal/strconv.uint64pow10" .u64 Lib.pow10Tab
theorem gPow : Tryz.prog.globalNamed "internal/strconv.uint64pow10" = some 1 := by kernel_rfl
theorem Pow.kept {w w' : World} (h : Pow w) (k : Keep (fun _ => False) w w') : Pow w' := by
  unfold Pow Lib.TabIs World.var? at h ⊢
  rw [gPow] at h ⊢
  simp only [Option.bind_some] at h ⊢
  have hlt : 1 < w.heap.size := by
    rcases Nat.lt_or_ge 1 w.heap.size with h' | h'
    · exact h'
    · rw [Array.getElem?_eq_none h'] at h; cases h
  rw [k.block _ hlt (fun h => h)]
  exact h
theorem keep_grow (w : World) (k : Nat) (os : Array Obj) : Keep (fun _ => False) w (grow (w.drewN k) os) := by
  refine ⟨rfl, rfl, rfl, ?_, fun i hi _ => ?_⟩
  · show w.heap.size ≤ (w.heap ++ os).size
    rw [Array.size_append]; omega
  · show (w.heap ++ os)[i]? = w.heap[i]?
    rw [Array.getElem?_append_left hi]
theorem itoa_any (n : Int) (h : I64 n) (w : World) (hP : Pow w) : Calls Tryz.prog 25 #[.int .i64 n] w fun e w' => e = .returned (.string (bs (Lib.itoa n))) ∧ Keep (fun _ => False) w w' :=
  (Tryz.strconv_Itoa n h.1 h.2 w hP).mono fun e w' ⟨h1, k, os, h2⟩ => ⟨h1, by rw [h2]; exact keep_grow w k os⟩
theorem Qy.ok.i64 {q : Qy} (h : q.ok) : ∀ f, I64 (q.get f) := by
  have h1 := h.near
  have h2 := h.2
  unfold Qy.near at h1
  unfold Qy.form at h2
  intro f
  unfold I64
  match f with
  | 0 => show _ ≤ q.kd ∧ q.kd ≤ _; omega
  | 1 => show _ ≤ q.tb ∧ q.tb ≤ _; omega
  | 2 => show _ ≤ q.cl ∧ q.cl ≤ _; omega
  | 3 => show _ ≤ q.lo ∧ q.lo ≤ _; omega
  | 4 => show _ ≤ q.hi ∧ q.hi ≤ _; omega
  | 5 => show _ ≤ q.bb ∧ q.bb ≤ _; omega
  | (n + 6) => show _ ≤ q.ot ∧ q.ot ≤ _; omega
theorem Qy.ok.kind {q : Qy} (h : q.ok) : 1 ≤ q.kd ∧ q.kd ≤ 7 := by
  have h2 := h.2
  unfold Qy.form at h2
  omega
/-- The fields of every kind. -/
theorem fields_any (k : Int) (hk : 1 ≤ k ∧ k ≤ 7) (z : Nat) (w : World) : Calls Tryz.prog (fnK k) #[ptr z] w (FldPost z (flds k) w) := by
  rcases (by omega : k = 1 ∨ k = 2 ∨ k = 3 ∨ k = 4 ∨ k = 5 ∨ k = 6 ∨ k = 7) with rfl | rfl | rfl | rfl | rfl | rfl | rfl
  · exact rowFields_any z w
  · exact rangeFields_any z w
  · exact rangeFields_any z w
  · exact aggFields_any z w
  · exact aggFields_any z w
  · exact aggFields_any z w
  · exact joinFields_any z w
theorem fnK_enters (k : Int) (hk : 1 ≤ k ∧ k ≤ 7) : ∀ (args : Array Value) (w : World), (callFunc (fnK k) args).run Tryz.prog w = .ok (.enter (fnK k) args) w := by
  rcases (by omega : k = 1 ∨ k = 2 ∨ k = 3 ∨ k = 4 ∨ k = 5 ∨ k = 6 ∨ k = 7) with rfl | rfl | rfl | rfl | rfl | rfl | rfl
  · exact enters_of Tryz.func34 (by kernel_rfl) rfl
  · exact enters_of Tryz.func35 (by kernel_rfl) rfl
  · exact enters_of Tryz.func35 (by kernel_rfl) rfl
  · exact enters_of Tryz.func36 (by kernel_rfl) rfl
  · exact enters_of Tryz.func36 (by kernel_rfl) rfl
  · exact enters_of Tryz.func36 (by kernel_rfl) rfl
  · exact enters_of Tryz.func37 (by kernel_rfl) rfl
theorem bs_size (l : List UInt8) : (bs l).size = l.length := by show l.toArray.size = _; simp
theorem bs_list (l : List UInt8) : (bs l).data.toList = l := by simp
theorem zeroStr (w : World) : (zeroValue 9).run Tryz.prog w = .ok (.string ⟨#[]⟩) w := by kernel_rfl
/-- A word in front of a field. -/
def glS (k : Int) (i : Nat) : ByteArray := match glueK k i with | some g => bs g | none => ⟨#[]⟩
theorem glue_look {W : World} {gv : Value} {k : Int} (h : GlueAt W gv k) (i : Nat) (hi : i ≤ 9) : (Instr.lookup 67 gv (.int .i64 i) true).run Tryz.prog W = .ok (.tuple #[.string (glS k i), .bool (glueK k i).isSome]) W := by
  unfold glS
  rcases h with ⟨rfl, hn⟩ | ⟨b, rfl, hr⟩
  · rw [hn i]
    have hkey := keyInt (i := (i : Int)) (by unfold I64; omega)
    rcases intKeyed.find W hkey [] (by simp) with ⟨h1, -⟩ | ⟨j, e0, -, h2, -⟩
    · simp [Instr.lookup, run_underlying Tryz.underlying67, intKeyed.check W _ hkey, h1, Result.andThen]
    · simp at h2
  · rcases hr.look intKeyed Tryz.underlying67 (zeroStr W) true (keyInt (i := i) (by unfold I64; omega)) with ⟨h1, h2⟩ | ⟨v, h1, h2⟩
    · rw [h2]
      cases e : glueK k i with
      | none => rfl
      | some g => exact absurd ⟨i, g, hi, e, rfl, rfl⟩ (h1 _)
    · rw [h2]
      obtain ⟨i', g, -, e, e2, rfl⟩ := h1
      have e3 : (i : Int) = i' := (Value.int.inj e2).2
      have e4 : i = i' := by omega
      subst e4
      rw [e]
      rfl
theorem zeroForm (w : World) : (zeroValue 69).run Tryz.prog w = .ok (.agg #[.string ⟨#[]⟩, .nilFunc, .map none]) w := by kernel_rfl
theorem form_look {W : World} {mb ofb jb : Nat} (h : MapRel Tryz.prog 3 W mb (FormR ofb jb)) (k : Int) (hk : 1 ≤ k ∧ k ≤ 7) : (Instr.lookup 70 (.map (some mb)) (.int .i64 k) false).run Tryz.prog W = .ok (formV ofb jb k) W := by
  rcases h.look intKeyed Tryz.underlying70 (zeroForm W) false (keyInt (i := k) (by unfold I64; omega)) with ⟨h1, h2⟩ | ⟨v, h1, h2⟩
  · exact absurd ⟨k, hk.1, hk.2, rfl, rfl⟩ (h1 _)
  · rw [h2]
    obtain ⟨k', -, -, e, rfl⟩ := h1
    obtain rfl : k = k' := (Value.int.inj e).2
    rfl
/-- A form in a box. -/
def FBox (W : World) (z : Nat) (k : Int) (gv : Value) : Prop := W.cell? ⟨z, 0, none⟩ = some (.string (bs (wordK k))) ∧ W.cell? ⟨z, 1, none⟩ = some (.func (.func (fnK k)) #[] #[]) ∧ W.cell? ⟨z, 2, none⟩ = some gv
theorem FBox.keep {A : Nat → Prop} {W W' : World} {z : Nat} {k : Int} {gv : Value} (h : FBox W z k gv) (q : Keep A W W') (hA : ¬ A z) : FBox W' z k gv := ⟨q.cell h.1 hA, q.cell h.2.1 hA, q.cell h.2.2 hA⟩
theorem glueV_map (ofb jb : Nat) (k : Int) : ∃ o, glueV ofb jb k = .map o := by
  unfold glueV
  repeat' split
  all_goals exact ⟨_, rfl⟩
end Go.Proofs.YtmndjicaofciiaaGreatDoor
