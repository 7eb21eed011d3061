/-
  The checksum, bit by bit and by half bytes.
-/
import Derived.WalkKit
namespace Go.Proofs.YtplkmbfeeegaiaaDoor
def poly : Nat := 2197175160
/-- One bit of the checksum's register. -/
def bit1 (r : Nat) : Nat := (r / 2) ^^^ (if r % 2 = 1 then poly else 0)
def tabL : List Nat := [0x00000000, 0x105EC76F, 0x20BD8EDE, 0x30E349B1, 0x417B1DBC, 0x5125DAD3, 0x61C69362, 0x7198540D, 0x82F63B78, 0x92A8FC17, 0xA24BB5A6, 0xB21572C9, 0xC38D26C4, 0xD3D3E1AB, 0xE330A81A, 0xF36E6F75]
def nib (r : Nat) : Nat := (r / 16) ^^^ (tabL.getD (r % 16) 0)
theorem xor_mod2 (a b : Nat) : (a ^^^ b) % 2 = if a % 2 = b % 2 then 0 else 1 := by
  have h := Nat.testBit_xor a b 0
  simp only [Nat.testBit_zero] at h
  have h1 := Nat.mod_two_eq_zero_or_one a
  have h2 := Nat.mod_two_eq_zero_or_one b
  have h3 := Nat.mod_two_eq_zero_or_one (a ^^^ b)
  rcases h1 with h1 | h1 <;> rcases h2 with h2 | h2 <;> rcases h3 with h3 | h3 <;> simp [h1, h2, h3] at h ⊢
theorem xor_lc (a b c : Nat) : a ^^^ (b ^^^ c) = b ^^^ (a ^^^ c) := by rw [← Nat.xor_assoc, Nat.xor_comm a b, Nat.xor_assoc]
theorem bit1_xor (a b : Nat) : bit1 (a ^^^ b) = bit1 a ^^^ bit1 b := by
  unfold bit1
  have h2 : (a ^^^ b) / 2 = a / 2 ^^^ b / 2 := by
    have := Nat.shiftRight_xor_distrib (a := a) (b := b) (i := 1)
    simpa [Nat.shiftRight_succ, Nat.shiftRight_zero] using this
  rw [h2, xor_mod2]
  have h1 := Nat.mod_two_eq_zero_or_one a
  have h2 := Nat.mod_two_eq_zero_or_one b
  rcases h1 with h1 | h1 <;> rcases h2 with h2 | h2 
  · simp [h1, h2]
  · simp [h1, h2, Nat.xor_assoc]
  · simp [h1, h2, Nat.xor_assoc, Nat.xor_comm poly]
  · simp [h1, h2, Nat.xor_assoc]; rw [xor_lc poly, Nat.xor_self, Nat.xor_zero]
theorem low_xor (q n : Nat) (hn : n < 16) : q * 16 + n = (q * 16) ^^^ n := by
  have := Nat.two_pow_add_eq_or_of_lt (i := 4) (b := n) (by omega) q
  apply Nat.eq_of_testBit_eq
  intro i
  rw [Nat.testBit_xor]
  have h1 : (2 ^ 4 * q + n).testBit i = if i < 4 then n.testBit i else q.testBit (i - 4) := Nat.testBit_two_pow_mul_add q (by omega) i
  have h2 : (2 ^ 4 * q).testBit i = (decide (i ≥ 4) && q.testBit (i - 4)) := Nat.testBit_two_pow_mul ..
  rw [show q * 16 + n = 2 ^ 4 * q + n by omega, show q * 16 = 2 ^ 4 * q by omega, h1, h2]
  by_cases hi : i < 4
  · simp [hi, Nat.not_le.2 hi]
  · have : n.testBit i = false := Nat.testBit_lt_two_pow (Nat.lt_of_lt_of_le hn (by
      have : 2 ^ 4 ≤ 2 ^ i := Nat.pow_le_pow_right (by omega) (by omega)
      omega))
    simp [hi, this, Nat.le_of_not_lt hi]
theorem bit1_even (q : Nat) : bit1 (q * 2) = q := by unfold bit1; simp
theorem nib_eq (r : Nat) : bit1 (bit1 (bit1 (bit1 r))) = nib r := by
  have hr : r = (r / 16) * 16 ^^^ (r % 16) := by rw [← low_xor _ _ (Nat.mod_lt _ (by omega))]; omega
  unfold nib
  generalize r / 16 = q at *
  have hn : r % 16 < 16 := Nat.mod_lt _ (by omega)
  generalize r % 16 = n at *
  rw [hr, bit1_xor, bit1_xor, bit1_xor, bit1_xor]
  rw [show q * 16 = ((q * 2 * 2) * 2) * 2 by omega, bit1_even, bit1_even, bit1_even, bit1_even]
  congr 1
  revert n
  have : ∀ n : Fin 16, bit1 (bit1 (bit1 (bit1 n.val))) = tabL.getD n.val 0 := by decide
  intro n _ hn
  exact this ⟨n, hn⟩
theorem nib_lt {r : Nat} (h : r < 4294967296) : nib r < 4294967296 := by
  unfold nib
  refine Nat.xor_lt_two_pow (n := 32) (by omega) ?_
  have : ∀ n : Fin 16, tabL.getD n.val 0 < 2 ^ 32 := by decide
  exact this ⟨r % 16, Nat.mod_lt _ (by omega)⟩
/-- The register behind a byte. -/
def byteN (r b : Nat) : Nat := nib (nib (r ^^^ b))
theorem byteN_lt {r b : Nat} (h : r < 4294967296) (hb : b < 256) : byteN r b < 4294967296 := nib_lt (nib_lt (Nat.xor_lt_two_pow (n := 32) h (by omega)))
def regN (l : List UInt8) : Nat := l.foldl (fun r b => byteN r b.toNat) 4294967295
theorem foldl_lt : ∀ (l : List UInt8) (r : Nat), r < 4294967296 → l.foldl (fun r b => byteN r b.toNat) r < 4294967296
  | [], _, h => h
  | b :: l, _, h => foldl_lt l _ (byteN_lt h b.toNat_lt)
theorem regN_lt (l : List UInt8) : regN l < 4294967296 := foldl_lt l _ (by decide)
/-- The checksum. -/
def sumN (l : List UInt8) : Nat := 4294967295 ^^^ regN l
theorem sumN_lt (l : List UInt8) : sumN l < 4294967296 := Nat.xor_lt_two_pow (n := 32) (by decide) (regN_lt l)
theorem regN_snoc (l : List UInt8) (b : UInt8) : regN (l ++ [b]) = byteN (regN l) b.toNat := by unfold regN; rw [List.foldl_append]; rfl
end Go.Proofs.YtplkmbfeeegaiaaDoor
