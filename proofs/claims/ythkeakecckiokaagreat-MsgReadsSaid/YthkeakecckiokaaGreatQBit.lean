import Derived.Test.YthkeakecckiokaaGreatQSl
namespace Go.Qd
open Go

theorem ofInt_nat (n a : Nat) (h : a < 2 ^ n) : (BitVec.ofInt n (a : Int)).toNat = a := by
  rw [BitVec.toNat_ofInt]
  have : ((2 ^ n : Nat) : Int) ≠ 0 := by have := Nat.two_pow_pos n; omega
  rw [← Int.natCast_emod, Int.toNat_natCast, Nat.mod_eq_of_lt h]
theorem bits_xor_n (k : IntKind) (a b : Nat) (ha : a < 2 ^ k.bits) (hb : b < 2 ^ k.bits) : bits .xor k (a : Int) (b : Int) = k.wrap ((a ^^^ b : Nat) : Int) := by
  unfold bits
  simp only [BitVec.toNat_xor, ofInt_nat _ _ ha, ofInt_nat _ _ hb]
theorem bits_and_n (k : IntKind) (a b : Nat) (ha : a < 2 ^ k.bits) (hb : b < 2 ^ k.bits) : bits .and k (a : Int) (b : Int) = k.wrap ((a &&& b : Nat) : Int) := by
  unfold bits
  simp only [BitVec.toNat_and, ofInt_nat _ _ ha, ofInt_nat _ _ hb]
theorem bits_or_n (k : IntKind) (a b : Nat) (ha : a < 2 ^ k.bits) (hb : b < 2 ^ k.bits) : bits .or k (a : Int) (b : Int) = k.wrap ((a ||| b : Nat) : Int) := by
  unfold bits
  simp only [BitVec.toNat_or, ofInt_nat _ _ ha, ofInt_nat _ _ hb]
theorem xor_u32 {a b : Nat} (ha : a < 4294967296) (hb : b < 4294967296) : bits .xor .u32 (a : Int) (b : Int) = ((a ^^^ b : Nat) : Int) ∧ a ^^^ b < 4294967296 := by
  have h := Nat.xor_lt_two_pow (n := 32) (show a < 2 ^ 32 from ha) (show b < 2 ^ 32 from hb)
  rw [bits_xor_n .u32 a b ha hb, wrap_u32' (by omega)]
  exact ⟨rfl, h⟩
theorem and_u32 {a b : Nat} (ha : a < 4294967296) (hb : b < 4294967296) : bits .and .u32 (a : Int) (b : Int) = ((a &&& b : Nat) : Int) := by
  have h : a &&& b ≤ a := Nat.and_le_left
  rw [bits_and_n .u32 a b ha hb, wrap_u32' (by omega)]
theorem com_u32 {a : Nat} (ha : a < 4294967296) : bits .xor .u32 (if IntKind.u32.signed then -1 else IntKind.u32.max) (a : Int) = ((a ^^^ 4294967295 : Nat) : Int) := by
  have e : (if IntKind.u32.signed then -1 else IntKind.u32.max) = ((4294967295 : Nat) : Int) := by decide
  rw [e, (xor_u32 (by omega) ha).1, Nat.xor_comm]
/-- 'c & 15', 'c & 1' .. -/
theorem and_low (c m : Nat) : c &&& (2 ^ m - 1) = c % 2 ^ m := Nat.and_two_pow_sub_one_eq_mod c m

theorem or_u8 {a b : Nat} (ha : a < 256) (hb : b < 256) : bits .or .u8 (a : Int) (b : Int) = ((a ||| b : Nat) : Int) ∧ a ||| b < 256 := by
  have h := Nat.or_lt_two_pow (n := 8) (show a < 2 ^ 8 from ha) (show b < 2 ^ 8 from hb)
  rw [bits_or_n .u8 a b ha hb, wrap_u8' (by omega)]
  exact ⟨rfl, h⟩
theorem and_u8 {a b : Nat} (ha : a < 256) (hb : b < 256) : bits .and .u8 (a : Int) (b : Int) = ((a &&& b : Nat) : Int) := by
  have h : a &&& b ≤ a := Nat.and_le_left
  rw [bits_and_n .u8 a b ha hb, wrap_u8' (by omega)]
theorem or_u64 {a b : Nat} (ha : a < 18446744073709551616) (hb : b < 18446744073709551616) : bits .or .u64 (a : Int) (b : Int) = ((a ||| b : Nat) : Int) ∧ a ||| b < 18446744073709551616 := by
  have h := Nat.or_lt_two_pow (n := 64) (show a < 2 ^ 64 from ha) (show b < 2 ^ 64 from hb)
  rw [bits_or_n .u64 a b ha hb, wrap_u64' (by omega)]
  exact ⟨rfl, h⟩
end Go.Qd
