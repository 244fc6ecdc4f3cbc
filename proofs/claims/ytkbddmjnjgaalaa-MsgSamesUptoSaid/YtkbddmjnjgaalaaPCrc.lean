/-
  The sum of bytes (CRC-32C), in plain Lean: bit by bit, and by half bytes.
-/
import Derived.Test.YtkbddmjnjgaalaaQBit
namespace Go.Qd
/-- One bit. -/
def crcBit (c : Nat) : Nat := (c / 2) ^^^ ((c % 2) * 2197175160)
def crcBits : Nat → Nat → Nat
  | 0, c => c
  | k + 1, c => crcBits k (crcBit c)
def crcByte (c : Nat) (b : UInt8) : Nat := crcBits 8 (c ^^^ b.toNat)
def crcRaw (c : Nat) (l : List UInt8) : Nat := l.foldl crcByte c
def crc (l : List UInt8) : Nat := crcRaw 4294967295 l ^^^ 4294967295
theorem crcBit_odd {c : Nat} (h : c % 2 = 1) : crcBit c = (c / 2) ^^^ 2197175160 := by simp [crcBit, h]
theorem crcBit_even {c : Nat} (h : ¬ c % 2 = 1) : crcBit c = c / 2 := by
  have : c % 2 = 0 := by omega
  simp [crcBit, this]
theorem crcBit_lt {c : Nat} (h : c < 4294967296) : crcBit c < 4294967296 := by
  have h2 : c % 2 < 2 := Nat.mod_lt _ (by omega)
  exact Nat.xor_lt_two_pow (n := 32) (by omega) (by omega)
theorem crcBits_lt : ∀ (k c : Nat), c < 4294967296 → crcBits k c < 4294967296
  | 0, _, h => h
  | k + 1, _, h => crcBits_lt k _ (crcBit_lt h)
theorem crcByte_lt {c : Nat} (b : UInt8) (h : c < 4294967296) : crcByte c b < 4294967296 :=
  crcBits_lt _ _ (Nat.xor_lt_two_pow (n := 32) h (by have := b.toNat_lt; omega))
theorem crcRaw_lt : ∀ (l : List UInt8) (c : Nat), c < 4294967296 → crcRaw c l < 4294967296
  | [], _, h => h
  | b :: l, _, h => crcRaw_lt l _ (crcByte_lt b h)
theorem xor_mul (x y : Nat) (hx : x < 2) (hy : y < 2) (m : Nat) : ((x ^^^ y) * m) = (x * m) ^^^ (y * m) := by
  have h1 : x = 0 ∨ x = 1 := by omega
  have h2 : y = 0 ∨ y = 1 := by omega
  rcases h1 with rfl | rfl <;> rcases h2 with rfl | rfl <;> simp
theorem xor_mod_two (a b : Nat) : (a ^^^ b) % 2 = (a % 2) ^^^ (b % 2) := by
  have := Nat.xor_mod_two_pow (a := a) (b := b) (n := 1)
  simpa using this
theorem xor_div_two (a b : Nat) : (a ^^^ b) / 2 = (a / 2) ^^^ (b / 2) := by
  have := Nat.xor_div_two_pow (a := a) (b := b) (n := 1)
  simpa using this
theorem crcBit_xor (a b : Nat) : crcBit (a ^^^ b) = crcBit a ^^^ crcBit b := by
  unfold crcBit
  rw [xor_div_two, xor_mod_two, xor_mul _ _ (Nat.mod_lt _ (by omega)) (Nat.mod_lt _ (by omega))]
  simp only [Nat.xor_assoc]
  congr 1
  rw [← Nat.xor_assoc, Nat.xor_comm (b / 2), Nat.xor_assoc]
theorem crcBits_xor : ∀ (k a b : Nat), crcBits k (a ^^^ b) = crcBits k a ^^^ crcBits k b
  | 0, _, _ => rfl
  | k + 1, a, b => by simp only [crcBits]; rw [crcBit_xor, crcBits_xor k]
theorem crcBit_two (m : Nat) : crcBit (2 * m) = m := by
  unfold crcBit
  rw [Nat.mul_mod_right, Nat.zero_mul, Nat.xor_zero]; omega
theorem crcBits_16 (h : Nat) : crcBits 4 (16 * h) = h := by
  simp only [crcBits]
  rw [show 16 * h = 2 * (8 * h) from by omega, crcBit_two, show 8 * h = 2 * (4 * h) from by omega, crcBit_two, show 4 * h = 2 * (2 * h) from by omega, crcBit_two, crcBit_two]
theorem split_16 (c : Nat) : c = (16 * (c / 16)) ^^^ (c % 16) := by
  apply Nat.eq_of_testBit_eq
  intro i
  have hlt : c % 16 < 2 ^ 4 := Nat.mod_lt _ (by omega)
  have e : c = 2 ^ 4 * (c / 16) + c % 16 := by omega
  rw [Nat.testBit_xor]
  have h1 : (16 * (c / 16)).testBit i = if i < 4 then false else (c / 16).testBit (i - 4) := by
    have := Nat.testBit_two_pow_mul_add (c / 16) (b := 0) (i := 4) (by omega) i
    simpa using this
  rw [h1]
  conv => lhs; rw [e]
  rw [Nat.testBit_two_pow_mul_add _ hlt]
  split
  · simp
  · rename_i hi
    have : (c % 16).testBit i = false := Nat.testBit_lt_two_pow (Nat.lt_of_lt_of_le hlt (Nat.pow_le_pow_right (by omega) (by omega)))
    simp [this]
/-- Four bits at once, by what the low four do. -/
theorem crcBits_half (c : Nat) : crcBits 4 c = crcBits 4 (c % 16) ^^^ (c / 16) := by
  conv => lhs; rw [split_16 c, crcBits_xor, crcBits_16]
  rw [Nat.xor_comm]
theorem crcBits_add : ∀ (j k c : Nat), crcBits (j + k) c = crcBits k (crcBits j c)
  | 0, k, c => by rw [Nat.zero_add]; rfl
  | j + 1, k, c => by rw [Nat.succ_add]; simp only [crcBits]; exact crcBits_add j k _
theorem crcBits_succ (k c : Nat) : crcBits (k + 1) c = crcBit (crcBits k c) := crcBits_add k 1 c
theorem crcRaw_snoc (c : Nat) (l : List UInt8) (b : UInt8) : crcRaw c (l ++ [b]) = crcByte (crcRaw c l) b := by simp [crcRaw]
end Go.Qd
