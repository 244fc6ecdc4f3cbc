/-
  The sum of bytes (CRC-32C), in plain Lean: bit by bit, and by half bytes.
-/
import Derived.Test.YthkeakecckiokaaGreatQBit
import Derived.Test.YthkeakecckiokaaGreatQTab
import Derived.Test.YthkeakecckiokaaGreatQU
import Derived.Test.YthkeakecckiokaaGreatQV
import Derived.Test.YthkeakecckiokaaGreatQStr
namespace Go.Qd
/-! ### The sum of bytes (CRC-32C), in plain Lean: bit by bit, and by half bytes. -/
section
/-- One bit. -/
def crcBit (c : Nat) : Nat := (c / 2) ^^^ ((c % 2) * 2197175160)
def crcBits : Nat → Nat → Nat
  | 0, c => c
  | k + 1, c => crcBits k (crcBit c)
def crcByte (c : Nat) (b : UInt8) : Nat := crcBits 8 (c ^^^ b.toNat)
def crcRaw (c : Nat) (l : List UInt8) : Nat := l.foldl crcByte c
def crc (l : List UInt8) : Nat := crcRaw 4294967295 l ^^^ 4294967295
theorem crcBit_odd {c : Nat} (h : c % 2 = 1) : crcBit c = (c / 2) ^^^ 2197175160 := by simp [crcBit, h]
theorem crcBit_even {c : Nat} (h : ¬ c % 2 = 1) : crcBit c = c / 2 := by
  have : c % 2 = 0 := by omega
  simp [crcBit, this]
theorem crcBit_lt {c : Nat} (h : c < 4294967296) : crcBit c < 4294967296 := by
  have h2 : c % 2 < 2 := Nat.mod_lt _ (by omega)
  exact Nat.xor_lt_two_pow (n := 32) (by omega) (by omega)
theorem crcBits_lt : ∀ (k c : Nat), c < 4294967296 → crcBits k c < 4294967296
  | 0, _, h => h
  | k + 1, _, h => crcBits_lt k _ (crcBit_lt h)
theorem crcByte_lt {c : Nat} (b : UInt8) (h : c < 4294967296) : crcByte c b < 4294967296 :=
  crcBits_lt _ _ (Nat.xor_lt_two_pow (n := 32) h (by have := b.toNat_lt; omega))
theorem crcRaw_lt : ∀ (l : List UInt8) (c : Nat), c < 4294967296 → crcRaw c l < 4294967296
  | [], _, h => h
  | b :: l, _, h => crcRaw_lt l _ (crcByte_lt b h)
theorem xor_mul (x y : Nat) (hx : x < 2) (hy : y < 2) (m : Nat) : ((x ^^^ y) * m) = (x * m) ^^^ (y * m) := by
  have h1 : x = 0 ∨ x = 1 := by omega
  have h2 : y = 0 ∨ y = 1 := by omega
  rcases h1 with rfl | rfl <;> rcases h2 with rfl | rfl <;> simp
theorem xor_mod_two (a b : Nat) : (a ^^^ b) % 2 = (a % 2) ^^^ (b % 2) := by
  have := Nat.xor_mod_two_pow (a := a) (b := b) (n := 1)
  simpa using this
theorem xor_div_two (a b : Nat) : (a ^^^ b) / 2 = (a / 2) ^^^ (b / 2) := by
  have := Nat.xor_div_two_pow (a := a) (b := b) (n := 1)
  simpa using this
theorem crcBit_xor (a b : Nat) : crcBit (a ^^^ b) = crcBit a ^^^ crcBit b := by
  unfold crcBit
  rw [xor_div_two, xor_mod_two, xor_mul _ _ (Nat.mod_lt _ (by omega)) (Nat.mod_lt _ (by omega))]
  simp only [Nat.xor_assoc]
  congr 1
  rw [← Nat.xor_assoc, Nat.xor_comm (b / 2), Nat.xor_assoc]
theorem crcBits_xor : ∀ (k a b : Nat), crcBits k (a ^^^ b) = crcBits k a ^^^ crcBits k b
  | 0, _, _ => rfl
  | k + 1, a, b => by simp only [crcBits]; rw [crcBit_xor, crcBits_xor k]
theorem crcBit_two (m : Nat) : crcBit (2 * m) = m := by
  unfold crcBit
  rw [Nat.mul_mod_right, Nat.zero_mul, Nat.xor_zero]; omega
theorem crcBits_16 (h : Nat) : crcBits 4 (16 * h) = h := by
  simp only [crcBits]
  rw [show 16 * h = 2 * (8 * h) from by omega, crcBit_two, show 8 * h = 2 * (4 * h) from by omega, crcBit_two, show 4 * h = 2 * (2 * h) from by omega, crcBit_two, crcBit_two]
theorem split_16 (c : Nat) : c = (16 * (c / 16)) ^^^ (c % 16) := by
  apply Nat.eq_of_testBit_eq
  intro i
  have hlt : c % 16 < 2 ^ 4 := Nat.mod_lt _ (by omega)
  have e : c = 2 ^ 4 * (c / 16) + c % 16 := by omega
  rw [Nat.testBit_xor]
  have h1 : (16 * (c / 16)).testBit i = if i < 4 then false else (c / 16).testBit (i - 4) := by
    have := Nat.testBit_two_pow_mul_add (c / 16) (b := 0) (i := 4) (by omega) i
    simpa using this
  rw [h1]
  conv => lhs; rw [e]
  rw [Nat.testBit_two_pow_mul_add _ hlt]
  split
  · simp
  · rename_i hi
    have : (c % 16).testBit i = false := Nat.testBit_lt_two_pow (Nat.lt_of_lt_of_le hlt (Nat.pow_le_pow_right (by omega) (by omega)))
    simp [this]
/-- Four bits at once, by what the low four do. -/
theorem crcBits_half (c : Nat) : crcBits 4 c = crcBits 4 (c % 16) ^^^ (c / 16) := by
  conv => lhs; rw [split_16 c, crcBits_xor, crcBits_16]
  rw [Nat.xor_comm]
theorem crcBits_add : ∀ (j k c : Nat), crcBits (j + k) c = crcBits k (crcBits j c)
  | 0, k, c => by rw [Nat.zero_add]; rfl
  | j + 1, k, c => by rw [Nat.succ_add]; simp only [crcBits]; exact crcBits_add j k _
theorem crcBits_succ (k c : Nat) : crcBits (k + 1) c = crcBit (crcBits k c) := crcBits_add k 1 c
theorem crcRaw_snoc (c : Nat) (l : List UInt8) (b : UInt8) : crcRaw c (l ++ [b]) = crcByte (crcRaw c l) b := by simp [crcRaw]
end
/-! ### What the functions of package check, and of the document's answer to it, compute. -/
section
open Go Go.Proofs

theorem ite_crc {c : Nat} (hc : c < 4294967296) (hb : bits .and .u32 (c : Int) 1 = 1) : bits .xor .u32 ((c : Int) / 2 ^ Int.toNat 1) 2197175160 = ((crcBit c : Nat) : Int) := by
  have h1 : c % 2 = 1 := by
    have := and_u32 hc (show 1 < 4294967296 by omega)
    have h2 := and_low c 1
    simp only [Nat.pow_one, Nat.add_one_sub_one] at h2
    rw [show (1 : Int) = ((1 : Nat) : Int) from rfl, this, show c &&& 1 = c % 2 from h2] at hb
    omega
  rw [crcBit_odd h1]
  have := (xor_u32 (a := c / 2) (b := 2197175160) (by omega) (by omega)).1
  rw [← this]; rfl
theorem ite_crc' {c : Nat} (hc : c < 4294967296) (hb : ¬ bits .and .u32 (c : Int) 1 = 1) : (c : Int) / 2 ^ Int.toNat 1 = ((crcBit c : Nat) : Int) := by
  have h1 : ¬ c % 2 = 1 := by
    have := and_u32 hc (show 1 < 4294967296 by omega)
    have h2 := and_low c 1
    simp only [Nat.pow_one, Nat.add_one_sub_one] at h2
    rw [show (1 : Int) = ((1 : Nat) : Int) from rfl, this, show c &&& 1 = c % 2 from h2] at hb
    omega
  rw [crcBit_even h1]
  simp

set_option maxHeartbeats 400000 in
theorem nibble_fun (c : Nat) (h0 : c < 4294967296) : Fun Tryz.prog 83 [.int .u32 c] [] [] (fun v G S => G = [] ∧ S = [] ∧ v = .int .u32 (crcBits 4 c : Nat)) := by
  refine Fun.enter Tryz.func83 (by kernel_rfl) rfl Tryz.ntmps83 rfl (fun B Gf Sf => ?_); (try simp only [List.cons_append]); (try simp only [List.nil_append]); simp only [argEnv]
  (repeat (first | refine vgo ?_ | refine ⟨_, rfl, rfl, ?_⟩ | refine ⟨_, rfl, ?_⟩ | refine ⟨rfl, ?_⟩ | intro hb | refine go2 ?_ | refine WC.seq (fun K hK => ?_) | ((first | refine hK _ _ _ ?_ | refine hK _ _ _ _ rfl ?_ | refine WX.thenExit (K := K) ?_); clear hK K) | (refine WX.thenExit (K := KL) ?_; clear hL KL)))
  refine WC.loop (I := Nat) (fun k => [(3, .int .i64 k), (0, .int .u32 (crcBits k c : Nat))]) (fun _ => Gf) (fun _ => Sf) (fun k => k ≤ 4) (fun k => 4 - k) 0 (by omega) (.cons rfl (.cons rfl .nil)) (fun w h => h) ?_
  intro k hi KL hL
  have hlt := crcBits_lt k c h0
  (repeat (first | refine vgo ?_ | refine ⟨_, rfl, rfl, ?_⟩ | refine ⟨_, rfl, ?_⟩ | refine ⟨rfl, ?_⟩ | intro hb | refine go2 ?_ | refine WC.seq (fun K hK => ?_) | ((first | refine hK _ _ _ ?_ | refine hK _ _ _ _ rfl ?_ | refine WX.thenExit (K := K) ?_); clear hK K) | (refine WX.thenExit (K := KL) ?_; clear hL KL)))
  refine dcB (fun hk => ?_) (fun hk => ?_)
  · (repeat (first | refine vgo ?_ | refine ⟨_, rfl, rfl, ?_⟩ | refine ⟨_, rfl, ?_⟩ | refine ⟨rfl, ?_⟩ | intro hb | refine go2 ?_ | refine WC.seq (fun K hK => ?_) | ((first | refine hK _ _ _ ?_ | refine hK _ _ _ _ rfl ?_ | refine WX.thenExit (K := K) ?_); clear hK K) | (refine WX.thenExit (K := KL) ?_; clear hL KL)))
    refine dcB (fun hb => ?_) (fun hb => ?_)
    · (repeat (first | refine vgo ?_ | refine ⟨_, rfl, rfl, ?_⟩ | refine ⟨_, rfl, ?_⟩ | refine ⟨rfl, ?_⟩ | intro hb | refine go2 ?_ | refine WC.seq (fun K hK => ?_) | ((first | refine hK _ _ _ ?_ | refine hK _ _ _ _ rfl ?_ | refine WX.thenExit (K := K) ?_); clear hK K) | (refine WX.thenExit (K := KL) ?_; clear hL KL)))
      refine (hL (k + 1) (by omega) (by omega)).conv (.cons rfl (.cons ?_ .nil)) (fun _ h => h)
      rw [crcBits_succ, ← ite_crc hlt hb]; rfl
    · (repeat (first | refine vgo ?_ | refine ⟨_, rfl, rfl, ?_⟩ | refine ⟨_, rfl, ?_⟩ | refine ⟨rfl, ?_⟩ | intro hb | refine go2 ?_ | refine WC.seq (fun K hK => ?_) | ((first | refine hK _ _ _ ?_ | refine hK _ _ _ _ rfl ?_ | refine WX.thenExit (K := K) ?_); clear hK K) | (refine WX.thenExit (K := KL) ?_; clear hL KL)))
      refine (hL (k + 1) (by omega) (by omega)).conv (.cons rfl (.cons ?_ .nil)) (fun _ h => h)
      rw [crcBits_succ, ← ite_crc' hlt hb]; rfl
  · (repeat (first | refine vgo ?_ | refine ⟨_, rfl, rfl, ?_⟩ | refine ⟨_, rfl, ?_⟩ | refine ⟨rfl, ?_⟩ | intro hb | refine go2 ?_ | refine WC.seq (fun K hK => ?_) | ((first | refine hK _ _ _ ?_ | refine hK _ _ _ _ rfl ?_ | refine WX.thenExit (K := K) ?_); clear hK K) | (refine WX.thenExit (K := KL) ?_; clear hL KL)))
    have : k = 4 := by omega
    subst this
    exact WX.ret1 rfl rfl (fun w sw => ⟨[], [], ⟨rfl, rfl, rfl⟩, sw⟩)

def u32s (l : List Nat) : List Value := l.map fun (m : Nat) => .int .u32 (m : Int)
def tabTo (k : Nat) : List Value := u32s ((List.range k).map (crcBits 4)) ++ List.replicate (16 - k) (.int .u32 0)
def tab16 : List Value := u32s ((List.range 16).map (crcBits 4))
theorem length_tabTo {k : Nat} (h : k ≤ 16) : (tabTo k).length = 16 := by simp [tabTo, u32s]; omega
theorem tabTo_set {k : Nat} (h : k < 16) : (tabTo k).set k (.int .u32 (crcBits 4 k : Nat)) = tabTo (k + 1) := by
  have e : 16 - k = (16 - (k + 1)) + 1 := by omega
  unfold tabTo
  rw [e, List.replicate_succ, List.set_append_right _ _ (by simp [u32s])]
  simp [u32s, List.range_succ]
theorem tabTo_16 : tabTo 16 = tab16 := by simp [tabTo, tab16]
theorem tab16_get {k : Nat} (h : k < 16) : tab16[k]? = some (.int .u32 (crcBits 4 k : Nat)) := by
  simp [tab16, u32s, h]

theorem tab16_ones : ∀ u ∈ tab16, u.oneCell' = true := by
  intro u hu
  simp only [tab16, u32s, List.mem_map] at hu
  obtain ⟨_, _, rfl⟩ := hu
  rfl

set_option maxHeartbeats 400000 in
theorem made_fun : Fun Tryz.prog 70 [] [] [] (fun v G S => G = [] ∧ S = [] ∧ v = .agg tab16.toArray) := by
  refine Fun.enter Tryz.func70 (by kernel_rfl) rfl Tryz.ntmps70 rfl (fun B Gf Sf => ?_); (try simp only [List.cons_append]); (try simp only [List.nil_append]); simp only [argEnv]
  (repeat (first | refine vgo ?_ | refine ⟨_, rfl, rfl, ?_⟩ | refine ⟨_, rfl, ?_⟩ | refine ⟨rfl, ?_⟩ | intro hb | refine go2 ?_ | refine WC.seq (fun K hK => ?_) | ((first | refine hK _ _ _ ?_ | refine hK _ _ _ _ rfl ?_ | refine WX.thenExit (K := K) ?_); clear hK K) | (refine WX.thenExit (K := KL) ?_; clear hL KL)))
  refine WL.alloc rfl ?_; intro b0
  (repeat (first | refine vgo ?_ | refine ⟨_, rfl, rfl, ?_⟩ | refine ⟨_, rfl, ?_⟩ | refine ⟨rfl, ?_⟩ | intro hb | refine go2 ?_ | refine WC.seq (fun K hK => ?_) | ((first | refine hK _ _ _ ?_ | refine hK _ _ _ _ rfl ?_ | refine WX.thenExit (K := K) ?_); clear hK K) | (refine WX.thenExit (K := KL) ?_; clear hL KL)))
  refine WL.alloc rfl ?_; intro b1
  (repeat (first | refine vgo ?_ | refine ⟨_, rfl, rfl, ?_⟩ | refine ⟨_, rfl, ?_⟩ | refine ⟨rfl, ?_⟩ | intro hb | refine go2 ?_ | refine WC.seq (fun K hK => ?_) | ((first | refine hK _ _ _ ?_ | refine hK _ _ _ _ rfl ?_ | refine WX.thenExit (K := K) ?_); clear hK K) | (refine WX.thenExit (K := KL) ?_; clear hL KL)))
  refine WC.loop (I := Nat) (fun k => [(3, .int .i64 k), (1, .pointer (some ⟨b1, 0, none⟩)), (0, .pointer (some ⟨b0, 0, none⟩))]) (fun _ => Gf) (fun k => box b1 136 (tabTo k) :: box b0 136 (tabTo 0) :: Sf) (fun k => k ≤ 16) (fun k => 16 - k) 0 (by omega) (.cons rfl (.cons rfl (.cons rfl .nil))) (fun w h => h) ?_
  intro k hi KL hL
  (repeat (first | refine vgo ?_ | refine ⟨_, rfl, rfl, ?_⟩ | refine ⟨_, rfl, ?_⟩ | refine ⟨rfl, ?_⟩ | intro hb | refine go2 ?_ | refine WC.seq (fun K hK => ?_) | ((first | refine hK _ _ _ ?_ | refine hK _ _ _ _ rfl ?_ | refine WX.thenExit (K := K) ?_); clear hK K) | (refine WX.thenExit (K := KL) ?_; clear hL KL)))
  refine dcB (fun hk => ?_) (fun hk => ?_)
  · (repeat (first | refine vgo ?_ | refine ⟨_, rfl, rfl, ?_⟩ | refine ⟨_, rfl, ?_⟩ | refine ⟨rfl, ?_⟩ | intro hb | refine go2 ?_ | refine WC.seq (fun K hK => ?_) | ((first | refine hK _ _ _ ?_ | refine hK _ _ _ _ rfl ?_ | refine WX.thenExit (K := K) ?_); clear hK K) | (refine WX.thenExit (K := KL) ?_; clear hL KL)))
    refine CallV.by' (nibble_fun k (by omega)) ?_; rintro _ _ _ ⟨rfl, rfl, rfl⟩; (try simp only [List.cons_append]); (try simp only [List.nil_append])
    (repeat (first | refine vgo ?_ | refine ⟨_, rfl, rfl, ?_⟩ | refine ⟨_, rfl, ?_⟩ | refine ⟨rfl, ?_⟩ | intro hb | refine go2 ?_ | refine WC.seq (fun K hK => ?_) | ((first | refine hK _ _ _ ?_ | refine hK _ _ _ _ rfl ?_ | refine WX.thenExit (K := K) ?_); clear hK K) | (refine WX.thenExit (K := KL) ?_; clear hL KL)))
    refine side (by rw [length_tabTo hi]; omega) ?_
    (repeat (first | refine vgo ?_ | refine ⟨_, rfl, rfl, ?_⟩ | refine ⟨_, rfl, ?_⟩ | refine ⟨rfl, ?_⟩ | intro hb | refine go2 ?_ | refine WC.seq (fun K hK => ?_) | ((first | refine hK _ _ _ ?_ | refine hK _ _ _ _ rfl ?_ | refine WX.thenExit (K := K) ?_); clear hK K) | (refine WX.thenExit (K := KL) ?_; clear hL KL)))
    refine (hL (k + 1) (by omega) (by omega)).conv (.cons rfl (.cons rfl (.cons rfl .nil))) (fun _ h => ?_)
    rw [← tabTo_set (by omega)]
    simpa using h
  · (repeat (first | refine vgo ?_ | refine ⟨_, rfl, rfl, ?_⟩ | refine ⟨_, rfl, ?_⟩ | refine ⟨rfl, ?_⟩ | intro hb | refine go2 ?_ | refine WC.seq (fun K hK => ?_) | ((first | refine hK _ _ _ ?_ | refine hK _ _ _ _ rfl ?_ | refine WX.thenExit (K := K) ?_); clear hK K) | (refine WX.thenExit (K := KL) ?_; clear hL KL)))
    have : k = 16 := by omega
    subst this
    rw [tabTo_16]
    (repeat (first | refine vgo ?_ | refine ⟨_, rfl, rfl, ?_⟩ | refine ⟨_, rfl, ?_⟩ | refine ⟨rfl, ?_⟩ | intro hb | refine go2 ?_ | refine WC.seq (fun K hK => ?_) | ((first | refine hK _ _ _ ?_ | refine hK _ _ _ _ rfl ?_ | refine WX.thenExit (K := K) ?_); clear hK K) | (refine WX.thenExit (K := KL) ?_; clear hL KL)))
    rw [show (List.take 16 (List.drop 0 tab16)) = tab16 from rfl]
    refine StV.agg (vs := tab16) SelBox.h rfl rfl rfl (fun _ _ => tab16_ones) ?_
    rw [show lset (tabTo 0) 0 tab16 = tab16 from by rfl]
    (repeat (first | refine vgo ?_ | refine ⟨_, rfl, rfl, ?_⟩ | refine ⟨_, rfl, ?_⟩ | refine ⟨rfl, ?_⟩ | intro hb | refine go2 ?_ | refine WC.seq (fun K hK => ?_) | ((first | refine hK _ _ _ ?_ | refine hK _ _ _ _ rfl ?_ | refine WX.thenExit (K := K) ?_); clear hK K) | (refine WX.thenExit (K := KL) ?_; clear hL KL)))
    refine WX.retCell rfl rfl SelBox.h rfl (fun w sw => ⟨[], [], ⟨rfl, rfl, rfl⟩, sw.drop.drop⟩)

theorem crcRaw_lt0 (l : List UInt8) : crcRaw 4294967295 l < 4294967296 := crcRaw_lt l _ (by omega)
theorem crc_lt (l : List UInt8) : crc l < 4294967296 := Nat.xor_lt_two_pow (n := 32) (crcRaw_lt0 l) (by omega)

theorem rite_crc {c : Nat} (hc : c < 4294967296) (hb : (c : Int) % 2 = 1) : bits .xor .u32 ((c : Int) / 2) 2197175160 = ((crcBit c : Nat) : Int) := by
  rw [crcBit_odd (by omega)]
  have := (xor_u32 (a := c / 2) (b := 2197175160) (by omega) (by omega)).1
  rw [← this]; rfl
theorem rite_crc' {c : Nat} (hb : ¬ (c : Int) % 2 = 1) : (c : Int) / 2 = ((crcBit c : Nat) : Int) := by
  rw [crcBit_even (by omega)]; omega
set_option maxHeartbeats 400000 in
theorem rsum_fun (l : List UInt8) (v : Value) : Fun Tryz.prog 60 [v] [rd (Ty.sl Ty.u8) l v] [] (fun r G S => G = [] ∧ S = [] ∧ r = .int .u32 (crc l : Nat)) := by
  refine Fun.enter Tryz.func60 (by kernel_rfl) rfl Tryz.ntmps60 rfl (fun B Gf Sf => ?_); (try simp only [List.cons_append]); (try simp only [List.nil_append]); simp only [argEnv]
  refine WC.ex (fun w sw => sw.len_le (RdSl.h (v := v))) (fun hl => ?_)
  (repeat (first | refine vgo ?_ | refine ⟨_, rfl, rfl, ?_⟩ | refine ⟨_, rfl, ?_⟩ | refine ⟨rfl, ?_⟩ | intro hb | refine go2 ?_ | refine WC.seq (fun K hK => ?_) | ((first | refine hK _ _ _ ?_ | refine hK _ _ _ _ rfl ?_ | refine WX.thenExit (K := K) ?_); clear hK K) | (refine WX.thenExit (K := KL) ?_; clear hL KL)))
  refine WC.loop (I := Nat) (fun k => [(4, .int .i64 k), (3, .int .u32 (crcRaw 4294967295 (l.take k) : Nat)), (0, v)]) (fun _ => rd (Ty.sl Ty.u8) l v :: Gf) (fun _ => Sf) (fun k => k ≤ l.length) (fun k => l.length - k) 0 (by omega) (.cons rfl (.cons rfl (.cons rfl .nil))) (fun w h => h) ?_
  intro k hi KL hL
  have hc := crcRaw_lt0 (l.take k)
  (repeat (first | refine vgo ?_ | refine ⟨_, rfl, rfl, ?_⟩ | refine ⟨_, rfl, ?_⟩ | refine ⟨rfl, ?_⟩ | intro hb | refine go2 ?_ | refine WC.seq (fun K hK => ?_) | ((first | refine hK _ _ _ ?_ | refine hK _ _ _ _ rfl ?_ | refine WX.thenExit (K := K) ?_); clear hK K) | (refine WX.thenExit (K := KL) ?_; clear hL KL)))
  refine dcB (fun hk => ?_) (fun hk => ?_)
  · obtain ⟨x, hx, hts⟩ := get_ex (l := l) (k := k) (by omega)
    have hx8 := x.toNat_lt
    have hxor := xor_u32 hc (b := x.toNat) (by omega)
    (repeat (first | refine vgo ?_ | refine ⟨_, rfl, rfl, ?_⟩ | refine ⟨_, rfl, ?_⟩ | refine ⟨rfl, ?_⟩ | intro hb | refine go2 ?_ | refine WC.seq (fun K hK => ?_) | ((first | refine hK _ _ _ ?_ | refine hK _ _ _ _ rfl ?_ | refine WX.thenExit (K := K) ?_); clear hK K) | (refine WX.thenExit (K := KL) ?_; clear hL KL)))
    rw [hxor.1]
    refine WC.loop (I := Nat) (fun j => [(5, .int .i64 j), (4, .int .i64 k), (3, .int .u32 (crcBits j (crcRaw 4294967295 (l.take k) ^^^ x.toNat) : Nat)), (0, v)]) (fun _ => rd (Ty.sl Ty.u8) l v :: Gf) (fun _ => Sf) (fun j => j ≤ 8) (fun j => 8 - j) 0 (by omega) (.cons rfl (.cons rfl (.cons rfl (.cons rfl .nil)))) (fun w h => h) ?_
    intro j hj KL hL
    have hlt := crcBits_lt j _ hxor.2
    (repeat (first | refine vgo ?_ | refine ⟨_, rfl, rfl, ?_⟩ | refine ⟨_, rfl, ?_⟩ | refine ⟨rfl, ?_⟩ | intro hb | refine go2 ?_ | refine WC.seq (fun K hK => ?_) | ((first | refine hK _ _ _ ?_ | refine hK _ _ _ _ rfl ?_ | refine WX.thenExit (K := K) ?_); clear hK K) | (refine WX.thenExit (K := KL) ?_; clear hL KL)))

    refine dcB (fun hj8 => ?_) (fun hj8 => ?_)
    · (repeat (first | refine vgo ?_ | refine ⟨_, rfl, rfl, ?_⟩ | refine ⟨_, rfl, ?_⟩ | refine ⟨rfl, ?_⟩ | intro hb | refine go2 ?_ | refine WC.seq (fun K hK => ?_) | ((first | refine hK _ _ _ ?_ | refine hK _ _ _ _ rfl ?_ | refine WX.thenExit (K := K) ?_); clear hK K) | (refine WX.thenExit (K := KL) ?_; clear hL KL)))
      refine dcB (fun hb => ?_) (fun hb => ?_)
      · (repeat (first | refine vgo ?_ | refine ⟨_, rfl, rfl, ?_⟩ | refine ⟨_, rfl, ?_⟩ | refine ⟨rfl, ?_⟩ | intro hb | refine go2 ?_ | refine WC.seq (fun K hK => ?_) | ((first | refine hK _ _ _ ?_ | refine hK _ _ _ _ rfl ?_ | refine WX.thenExit (K := K) ?_); clear hK K) | (refine WX.thenExit (K := KL) ?_; clear hL KL)))
        refine (hL (j + 1) (by omega) (by omega)).conv (.cons rfl (.cons rfl (.cons ?_ (.cons rfl .nil)))) (fun _ h => h)
        rw [crcBits_succ, ← rite_crc hlt hb]; rfl
      · (repeat (first | refine vgo ?_ | refine ⟨_, rfl, rfl, ?_⟩ | refine ⟨_, rfl, ?_⟩ | refine ⟨rfl, ?_⟩ | intro hb | refine go2 ?_ | refine WC.seq (fun K hK => ?_) | ((first | refine hK _ _ _ ?_ | refine hK _ _ _ _ rfl ?_ | refine WX.thenExit (K := K) ?_); clear hK K) | (refine WX.thenExit (K := KL) ?_; clear hL KL)))
        refine (hL (j + 1) (by omega) (by omega)).conv (.cons rfl (.cons rfl (.cons ?_ (.cons rfl .nil)))) (fun _ h => h)
        rw [crcBits_succ, ← rite_crc' hb]; rfl
    · (repeat (first | refine vgo ?_ | refine ⟨_, rfl, rfl, ?_⟩ | refine ⟨_, rfl, ?_⟩ | refine ⟨rfl, ?_⟩ | intro hb | refine go2 ?_ | refine WC.seq (fun K hK => ?_) | ((first | refine hK _ _ _ ?_ | refine hK _ _ _ _ rfl ?_ | refine WX.thenExit (K := K) ?_); clear hK K) | (refine WX.thenExit (K := KL) ?_; clear hL KL)))
      have : j = 8 := by omega
      subst this
      refine (hL (k + 1) (by omega) (by omega)).conv (.cons rfl (.cons ?_ (.cons rfl .nil))) (fun _ h => h)
      rw [hts, crcRaw_snoc]; rfl
  · (repeat (first | refine vgo ?_ | refine ⟨_, rfl, rfl, ?_⟩ | refine ⟨_, rfl, ?_⟩ | refine ⟨rfl, ?_⟩ | intro hb | refine go2 ?_ | refine WC.seq (fun K hK => ?_) | ((first | refine hK _ _ _ ?_ | refine hK _ _ _ _ rfl ?_ | refine WX.thenExit (K := K) ?_); clear hK K) | (refine WX.thenExit (K := KL) ?_; clear hL KL)))
    have : k = l.length := by omega
    subst this
    rw [List.take_length]
    have := (xor_u32 (crcRaw_lt0 l) (b := 4294967295) (by omega)).1
    exact WX.ret1 rfl rfl (fun w sw => ⟨[], [], ⟨rfl, rfl, by rw [crc, ← this]; rfl⟩, sw⟩)

theorem and15 {c : Nat} (hc : c < 4294967296) : bits .and .u32 (c : Int) 15 = ((c % 16 : Nat) : Int) := by
  have := and_u32 hc (b := 15) (by omega)
  rw [show c &&& 15 = c % 16 from and_low c 4] at this
  exact this
theorem half {c : Nat} (hc : c < 4294967296) : bits .xor .u32 ((crcBits 4 (c % 16) : Nat) : Int) ((c : Int) / 2 ^ Int.toNat 4) = ((crcBits 4 c : Nat) : Int) := by
  have h1 := crcBits_lt 4 (c % 16) (by omega)
  have := (xor_u32 h1 (b := c / 16) (by omega)).1
  rw [crcBits_half c, ← this]; rfl
theorem crcByte_halves (c : Nat) (b : UInt8) : crcByte c b = crcBits 4 (crcBits 4 (c ^^^ b.toNat)) := crcBits_add 4 4 _

set_option maxHeartbeats 400000 in
theorem sum_fun (ls : List (List UInt8)) (v : Value) : Fun Tryz.prog 52 [v] [rd (Ty.sl (Ty.sl Ty.u8)) ls v] [] (fun r G S => G = [] ∧ S = [] ∧ r = .int .u32 (crc ls.flatten : Nat)) := by
  refine Fun.enter Tryz.func52 (by kernel_rfl) rfl Tryz.ntmps52 rfl (fun B Gf Sf => ?_); (try simp only [List.cons_append]); (try simp only [List.nil_append]); simp only [argEnv]
  refine WC.ex (fun w sw => sw.len_le (RdSl.h (v := v))) (fun hl => ?_)
  refine WC.ex (fun w sw => sw.lens_le (RdSl.h (v := v))) (fun hl2 => ?_)
  (repeat (first | refine vgo ?_ | refine ⟨_, rfl, rfl, ?_⟩ | refine ⟨_, rfl, ?_⟩ | refine ⟨rfl, ?_⟩ | intro hb | refine go2 ?_ | refine WC.seq (fun K hK => ?_) | ((first | refine hK _ _ _ ?_ | refine hK _ _ _ _ rfl ?_ | refine WX.thenExit (K := K) ?_); clear hK K) | (refine WX.thenExit (K := KL) ?_; clear hL KL)))
  refine CallV.by' (made_fun) ?_; rintro _ _ _ ⟨rfl, rfl, rfl⟩; (try simp only [List.cons_append]); (try simp only [List.nil_append])
  (repeat (first | refine vgo ?_ | refine ⟨_, rfl, rfl, ?_⟩ | refine ⟨_, rfl, ?_⟩ | refine ⟨rfl, ?_⟩ | intro hb | refine go2 ?_ | refine WC.seq (fun K hK => ?_) | ((first | refine hK _ _ _ ?_ | refine hK _ _ _ _ rfl ?_ | refine WX.thenExit (K := K) ?_); clear hK K) | (refine WX.thenExit (K := KL) ?_; clear hL KL)))
  refine WL.alloc rfl ?_; intro bt
  (repeat (first | refine vgo ?_ | refine ⟨_, rfl, rfl, ?_⟩ | refine ⟨_, rfl, ?_⟩ | refine ⟨rfl, ?_⟩ | intro hb | refine go2 ?_ | refine WC.seq (fun K hK => ?_) | ((first | refine hK _ _ _ ?_ | refine hK _ _ _ _ rfl ?_ | refine WX.thenExit (K := K) ?_); clear hK K) | (refine WX.thenExit (K := KL) ?_; clear hL KL)))
  refine StV.agg (vs := tab16) SelBox.h rfl rfl rfl (fun _ _ => tab16_ones) ?_
  refine WL.sat (S' := box bt 136 tab16 :: Sf) (fun _ h => h) ?_
  (repeat (first | refine vgo ?_ | refine ⟨_, rfl, rfl, ?_⟩ | refine ⟨_, rfl, ?_⟩ | refine ⟨rfl, ?_⟩ | intro hb | refine go2 ?_ | refine WC.seq (fun K hK => ?_) | ((first | refine hK _ _ _ ?_ | refine hK _ _ _ _ rfl ?_ | refine WX.thenExit (K := K) ?_); clear hK K) | (refine WX.thenExit (K := KL) ?_; clear hL KL)))
  refine WC.loop (I := Nat) (fun k => [(12, .int .i64 k), (11, .int .i64 ls.length), (10, v), (4, .int .u32 (crcRaw 4294967295 (ls.take k).flatten : Nat)), (3, .pointer (some ⟨bt, 0, none⟩))]) (fun _ => rd (Ty.sl (Ty.sl Ty.u8)) ls v :: Gf) (fun _ => box bt 136 tab16 :: Sf) (fun k => k ≤ ls.length) (fun k => ls.length - k) 0 (by omega) (.cons rfl (.cons rfl (.cons rfl (.cons rfl (.cons rfl .nil))))) (fun w h => h) ?_
  intro k hi KL hL
  (repeat (first | refine vgo ?_ | refine ⟨_, rfl, rfl, ?_⟩ | refine ⟨_, rfl, ?_⟩ | refine ⟨rfl, ?_⟩ | intro hb | refine go2 ?_ | refine WC.seq (fun K hK => ?_) | ((first | refine hK _ _ _ ?_ | refine hK _ _ _ _ rfl ?_ | refine WX.thenExit (K := K) ?_); clear hK K) | (refine WX.thenExit (K := KL) ?_; clear hL KL)))
  refine dcB (fun hk => ?_) (fun hk => ?_)
  · obtain ⟨l, hx, hts⟩ := get_ex (l := ls) (k := k) (by omega)
    have hll := hl2 l (List.mem_of_getElem? hx)
    (repeat (first | refine vgo ?_ | refine ⟨_, rfl, rfl, ?_⟩ | refine ⟨_, rfl, ?_⟩ | refine ⟨rfl, ?_⟩ | intro hb | refine go2 ?_ | refine WC.seq (fun K hK => ?_) | ((first | refine hK _ _ _ ?_ | refine hK _ _ _ _ rfl ?_ | refine WX.thenExit (K := K) ?_); clear hK K) | (refine WX.thenExit (K := KL) ?_; clear hL KL)))
    refine WC.loop (I := Nat) (fun j => [(18, .int .i64 j), (17, .int .i64 l.length), (16, hb), (12, .int .i64 k), (11, .int .i64 ls.length), (10, v), (4, .int .u32 (crcRaw 4294967295 ((ls.take k).flatten ++ l.take j) : Nat)), (3, .pointer (some ⟨bt, 0, none⟩))]) (fun _ => rd (Ty.sl Ty.u8) l hb :: rd (Ty.sl (Ty.sl Ty.u8)) ls v :: Gf) (fun _ => box bt 136 tab16 :: Sf) (fun j => j ≤ l.length) (fun j => l.length - j) 0 (by omega) (.cons rfl (.cons rfl (.cons rfl (.cons rfl (.cons rfl (.cons rfl (.cons (by simp; rfl) (.cons rfl .nil)))))))) (fun w h => h) ?_
    intro j hj KL hL
    have hc := crcRaw_lt0 ((ls.take k).flatten ++ l.take j)
    (repeat (first | refine vgo ?_ | refine ⟨_, rfl, rfl, ?_⟩ | refine ⟨_, rfl, ?_⟩ | refine ⟨rfl, ?_⟩ | intro hb | refine go2 ?_ | refine WC.seq (fun K hK => ?_) | ((first | refine hK _ _ _ ?_ | refine hK _ _ _ _ rfl ?_ | refine WX.thenExit (K := K) ?_); clear hK K) | (refine WX.thenExit (K := KL) ?_; clear hL KL)))
    refine dcB (fun hjl => ?_) (fun hjl => ?_)
    · obtain ⟨x, hx, hts2⟩ := get_ex (l := l) (k := j) (by omega)
      have hx8 := x.toNat_lt
      have hxor := xor_u32 hc (b := x.toNat) (by omega)
      have h4 := crcBits_lt 4 _ hxor.2
      (repeat (first | refine vgo ?_ | refine ⟨_, rfl, rfl, ?_⟩ | refine ⟨_, rfl, ?_⟩ | refine ⟨rfl, ?_⟩ | intro hb | refine go2 ?_ | refine WC.seq (fun K hK => ?_) | ((first | refine hK _ _ _ ?_ | refine hK _ _ _ _ rfl ?_ | refine WX.thenExit (K := K) ?_); clear hK K) | (refine WX.thenExit (K := KL) ?_; clear hL KL)))
      rw [hxor.1, and15 hxor.2]
      have ht1 : tab16[(((crcRaw 4294967295 ((ls.take k).flatten ++ l.take j) ^^^ x.toNat) % 16 : Nat) : Int).toNat]? = some (.int .u32 (crcBits 4 ((crcRaw 4294967295 ((ls.take k).flatten ++ l.take j) ^^^ x.toNat) % 16) : Nat)) := tab16_get (Nat.mod_lt _ (by omega))
      refine side (by omega) ?_
      (repeat (first | refine vgo ?_ | refine ⟨_, rfl, rfl, ?_⟩ | refine ⟨_, rfl, ?_⟩ | refine ⟨rfl, ?_⟩ | intro hb | refine go2 ?_ | refine WC.seq (fun K hK => ?_) | ((first | refine hK _ _ _ ?_ | refine hK _ _ _ _ rfl ?_ | refine WX.thenExit (K := K) ?_); clear hK K) | (refine WX.thenExit (K := KL) ?_; clear hL KL)))
      rw [half hxor.2, and15 h4]
      have ht2 : tab16[((crcBits 4 (crcRaw 4294967295 ((ls.take k).flatten ++ l.take j) ^^^ x.toNat) % 16 : Nat) : Int).toNat]? = some (.int .u32 (crcBits 4 (crcBits 4 (crcRaw 4294967295 ((ls.take k).flatten ++ l.take j) ^^^ x.toNat) % 16) : Nat)) := tab16_get (Nat.mod_lt _ (by omega))
      refine side (by omega) ?_
      (repeat (first | refine vgo ?_ | refine ⟨_, rfl, rfl, ?_⟩ | refine ⟨_, rfl, ?_⟩ | refine ⟨rfl, ?_⟩ | intro hb | refine go2 ?_ | refine WC.seq (fun K hK => ?_) | ((first | refine hK _ _ _ ?_ | refine hK _ _ _ _ rfl ?_ | refine WX.thenExit (K := K) ?_); clear hK K) | (refine WX.thenExit (K := KL) ?_; clear hL KL)))
      rw [half h4]
      refine (hL (j + 1) (by omega) (by omega)).conv (.cons rfl (.cons rfl (.cons rfl (.cons rfl (.cons rfl (.cons rfl (.cons ?_ (.cons rfl .nil)))))))) (fun _ h => h)
      rw [hts2, ← List.append_assoc, crcRaw_snoc, crcByte_halves]; rfl
    · (repeat (first | refine vgo ?_ | refine ⟨_, rfl, rfl, ?_⟩ | refine ⟨_, rfl, ?_⟩ | refine ⟨rfl, ?_⟩ | intro hb | refine go2 ?_ | refine WC.seq (fun K hK => ?_) | ((first | refine hK _ _ _ ?_ | refine hK _ _ _ _ rfl ?_ | refine WX.thenExit (K := K) ?_); clear hK K) | (refine WX.thenExit (K := KL) ?_; clear hL KL)))
      have : j = l.length := by omega
      subst this
      rw [List.take_length]
      refine (hL (k + 1) (by omega) (by omega)).conv (.cons rfl (.cons rfl (.cons rfl (.cons ?_ (.cons rfl .nil))))) (fun _ h => h.sub (fun g hg => .tail _ hg))
      rw [hts, List.flatten_append]; simp; rfl
  · (repeat (first | refine vgo ?_ | refine ⟨_, rfl, rfl, ?_⟩ | refine ⟨_, rfl, ?_⟩ | refine ⟨rfl, ?_⟩ | intro hb | refine go2 ?_ | refine WC.seq (fun K hK => ?_) | ((first | refine hK _ _ _ ?_ | refine hK _ _ _ _ rfl ?_ | refine WX.thenExit (K := K) ?_); clear hK K) | (refine WX.thenExit (K := KL) ?_; clear hL KL)))
    have : k = ls.length := by omega
    subst this
    rw [List.take_length]
    exact WX.ret1 rfl rfl (fun w sw => ⟨[], [], ⟨rfl, rfl, by rw [crc, com_u32 (crcRaw_lt0 ls.flatten)]⟩, sw.drop⟩)

end
/-! ### What Seal and Open compute, of package check and of the document's answer. -/
section
open Go Go.Proofs

def word (c : Nat) : List UInt8 := [UInt8.ofNat (c / 16777216), UInt8.ofNat (c / 65536), UInt8.ofNat (c / 256), UInt8.ofNat c]
def sealB (l : List UInt8) : List UInt8 := l ++ word (crc l)
def opens (l : List UInt8) : Prop := 4 ≤ l.length ∧ sealB (l.take (l.length - 4)) = l
instance (l : List UInt8) : Decidable (opens l) := inferInstanceAs (Decidable (_ ∧ _))
def openB (l : List UInt8) : List UInt8 := if opens l then l.take (l.length - 4) else []
theorem length_sealB (l : List UInt8) : (sealB l).length = l.length + 4 := by simp [sealB, word]
theorem word_vals (c : Nat) : [Value.int .u8 (IntKind.u8.wrap ((c : Int) / 16777216)), .int .u8 (IntKind.u8.wrap ((c : Int) / 65536)), .int .u8 (IntKind.u8.wrap ((c : Int) / 256)), .int .u8 (IntKind.u8.wrap (c : Int))] = u8s (word c) := by
  have e1 : (c : Int) / 16777216 = ((c / 16777216 : Nat) : Int) := by omega
  have e2 : (c : Int) / 65536 = ((c / 65536 : Nat) : Int) := by omega
  have e3 : (c : Int) / 256 = ((c / 256 : Nat) : Int) := by omega
  rw [e1, e2, e3, wrap_u8_nat, wrap_u8_nat, wrap_u8_nat, wrap_u8_nat]; rfl

set_option maxHeartbeats 400000 in
theorem seal_fun (l : List UInt8) (v : Value) (h : l.length ≤ 2000) : Fun Tryz.prog 30 [v] [rd (Ty.sl Ty.u8) l v] [] (fun r G S => S = [] ∧ G = [rd (Ty.sl Ty.u8) (sealB l) r]) := by
  refine Fun.enter Tryz.func30 (by kernel_rfl) rfl Tryz.ntmps30 rfl (fun B Gf Sf => ?_); (try simp only [List.cons_append]); (try simp only [List.nil_append]); simp only [argEnv]
  (repeat (first | refine vgo ?_ | refine ⟨_, rfl, rfl, ?_⟩ | refine ⟨_, rfl, ?_⟩ | refine ⟨rfl, ?_⟩ | intro hb | refine go2 ?_ | refine WC.seq (fun K hK => ?_) | ((first | refine hK _ _ _ ?_ | refine hK _ _ _ _ rfl ?_ | refine WX.thenExit (K := K) ?_); clear hK K) | (refine WX.thenExit (K := KL) ?_; clear hL KL)))
  refine WL.build rfl rfl rfl rfl rfl ?_; intro va; (try dsimp only [List.cons_append, List.nil_append])
  refine WL.sat (fun w sw => sw.pubC (R := (Ty.sl Ty.u8)) (l := ([l])) (v := va) (vs := ([v])) rfl rfl rfl (allR_cons Rd.h allR_nil)) ?_
  (repeat (first | refine vgo ?_ | refine ⟨_, rfl, rfl, ?_⟩ | refine ⟨_, rfl, ?_⟩ | refine ⟨rfl, ?_⟩ | intro hb | refine go2 ?_ | refine WC.seq (fun K hK => ?_) | ((first | refine hK _ _ _ ?_ | refine hK _ _ _ _ rfl ?_ | refine WX.thenExit (K := K) ?_); clear hK K) | (refine WX.thenExit (K := KL) ?_; clear hL KL)))
  refine CallV.by' (sum_fun [l] va) ?_; rintro _ _ _ ⟨rfl, rfl, rfl⟩; (try simp only [List.cons_append]); (try simp only [List.nil_append])
  rw [show [l].flatten = l from by simp]
  (repeat (first | refine vgo ?_ | refine ⟨_, rfl, rfl, ?_⟩ | refine ⟨_, rfl, ?_⟩ | refine ⟨rfl, ?_⟩ | intro hb | refine go2 ?_ | refine WC.seq (fun K hK => ?_) | ((first | refine hK _ _ _ ?_ | refine hK _ _ _ _ rfl ?_ | refine WX.thenExit (K := K) ?_); clear hK K) | (refine WX.thenExit (K := KL) ?_; clear hL KL)))
  refine WL.build rfl rfl rfl rfl rfl ?_; intro vb; (try dsimp only [List.cons_append, List.nil_append])
  (repeat (first | refine vgo ?_ | refine ⟨_, rfl, rfl, ?_⟩ | refine ⟨_, rfl, ?_⟩ | refine ⟨rfl, ?_⟩ | intro hb | refine go2 ?_ | refine WC.seq (fun K hK => ?_) | ((first | refine hK _ _ _ ?_ | refine hK _ _ _ _ rfl ?_ | refine WX.thenExit (K := K) ?_); clear hK K) | (refine WX.thenExit (K := KL) ?_; clear hL KL)))
  refine WL.append rfl rfl rfl ?_; refine AppV.s rfl ?_ ?_; rotate_left; intro hok vc
  · (repeat (first | refine vgo ?_ | refine ⟨_, rfl, rfl, ?_⟩ | refine ⟨_, rfl, ?_⟩ | refine ⟨rfl, ?_⟩ | intro hb | refine go2 ?_ | refine WC.seq (fun K hK => ?_) | ((first | refine hK _ _ _ ?_ | refine hK _ _ _ _ rfl ?_ | refine WX.thenExit (K := K) ?_); clear hK K) | (refine WX.thenExit (K := KL) ?_; clear hL KL)))
    refine WL.build rfl rfl rfl rfl rfl ?_; intro vd; (try dsimp only [List.cons_append, List.nil_append])
    refine WL.append rfl rfl rfl ?_; refine AppV.o rfl ?_ ?_; rotate_left; intro ve
    · refine WL.sat (fun w sw => sw.pub (R := (Ty.u8)) (l := (sealB l)) (v := ve) SelOwn.h rfl (by rw [flat_u8s, flat_u8s, sealB, u8s_append, ← word_vals]; rfl) (by simp [length_sealB]) (fun _ _ => trivial)) ?_
      (repeat (first | refine vgo ?_ | refine ⟨_, rfl, rfl, ?_⟩ | refine ⟨_, rfl, ?_⟩ | refine ⟨rfl, ?_⟩ | intro hb | refine go2 ?_ | refine WC.seq (fun K hK => ?_) | ((first | refine hK _ _ _ ?_ | refine hK _ _ _ _ rfl ?_ | refine WX.thenExit (K := K) ?_); clear hK K) | (refine WX.thenExit (K := KL) ?_; clear hL KL)))
      exact WX.ret1 rfl rfl (fun w sw => ⟨[rd (Ty.sl Ty.u8) (sealB l) ve], [], ⟨rfl, rfl⟩, sw.to⟩)
    · omega
  · omega

set_option maxHeartbeats 400000 in
theorem rseal_fun (l : List UInt8) (v : Value) (h : l.length ≤ 2000) : Fun Tryz.prog 41 [v] [rd (Ty.sl Ty.u8) l v] [] (fun r G S => S = [] ∧ G = [rd (Ty.sl Ty.u8) (sealB l) r]) := by
  refine Fun.enter Tryz.func41 (by kernel_rfl) rfl Tryz.ntmps41 rfl (fun B Gf Sf => ?_); (try simp only [List.cons_append]); (try simp only [List.nil_append]); simp only [argEnv]
  (repeat (first | refine vgo ?_ | refine ⟨_, rfl, rfl, ?_⟩ | refine ⟨_, rfl, ?_⟩ | refine ⟨rfl, ?_⟩ | intro hb | refine go2 ?_ | refine WC.seq (fun K hK => ?_) | ((first | refine hK _ _ _ ?_ | refine hK _ _ _ _ rfl ?_ | refine WX.thenExit (K := K) ?_); clear hK K) | (refine WX.thenExit (K := KL) ?_; clear hL KL)))
  refine CallV.by' (rsum_fun l v) ?_; rintro _ _ _ ⟨rfl, rfl, rfl⟩; (try simp only [List.cons_append]); (try simp only [List.nil_append])
  have hc := crc_lt l
  have e : IntKind.u8.wrap ((crc l : Int) / 16777216) = (crc l : Int) / 16777216 := wrap_u8' (by omega)
  (repeat (first | refine vgo ?_ | refine ⟨_, rfl, rfl, ?_⟩ | refine ⟨_, rfl, ?_⟩ | refine ⟨rfl, ?_⟩ | intro hb | refine go2 ?_ | refine WC.seq (fun K hK => ?_) | ((first | refine hK _ _ _ ?_ | refine hK _ _ _ _ rfl ?_ | refine WX.thenExit (K := K) ?_); clear hK K) | (refine WX.thenExit (K := KL) ?_; clear hL KL)))
  refine WL.build rfl rfl rfl rfl rfl ?_; intro vb; (try dsimp only [List.cons_append, List.nil_append])
  (repeat (first | refine vgo ?_ | refine ⟨_, rfl, rfl, ?_⟩ | refine ⟨_, rfl, ?_⟩ | refine ⟨rfl, ?_⟩ | intro hb | refine go2 ?_ | refine WC.seq (fun K hK => ?_) | ((first | refine hK _ _ _ ?_ | refine hK _ _ _ _ rfl ?_ | refine WX.thenExit (K := K) ?_); clear hK K) | (refine WX.thenExit (K := KL) ?_; clear hL KL)))
  refine WL.append rfl rfl rfl ?_; refine AppV.s rfl ?_ ?_; rotate_left; intro hok vc
  · (repeat (first | refine vgo ?_ | refine ⟨_, rfl, rfl, ?_⟩ | refine ⟨_, rfl, ?_⟩ | refine ⟨rfl, ?_⟩ | intro hb | refine go2 ?_ | refine WC.seq (fun K hK => ?_) | ((first | refine hK _ _ _ ?_ | refine hK _ _ _ _ rfl ?_ | refine WX.thenExit (K := K) ?_); clear hK K) | (refine WX.thenExit (K := KL) ?_; clear hL KL)))
    refine WL.build rfl rfl rfl rfl rfl ?_; intro vd; (try dsimp only [List.cons_append, List.nil_append])
    refine WL.append rfl rfl rfl ?_; refine AppV.o rfl ?_ ?_; rotate_left; intro ve
    · refine WL.sat (fun w sw => sw.pub (R := (Ty.u8)) (l := (sealB l)) (v := ve) SelOwn.h rfl (by rw [flat_u8s, flat_u8s, sealB, u8s_append, ← word_vals, e]) (by simp [length_sealB]) (fun _ _ => trivial)) ?_
      (repeat (first | refine vgo ?_ | refine ⟨_, rfl, rfl, ?_⟩ | refine ⟨_, rfl, ?_⟩ | refine ⟨rfl, ?_⟩ | intro hb | refine go2 ?_ | refine WC.seq (fun K hK => ?_) | ((first | refine hK _ _ _ ?_ | refine hK _ _ _ _ rfl ?_ | refine WX.thenExit (K := K) ?_); clear hK K) | (refine WX.thenExit (K := KL) ?_; clear hL KL)))
      exact WX.ret1 rfl rfl (fun w sw => ⟨[rd (Ty.sl Ty.u8) (sealB l) ve], [], ⟨rfl, rfl⟩, sw.to⟩)
    · omega
  · omega

set_option maxHeartbeats 400000 in
theorem open_fun (l : List UInt8) (v : Value) (h : l.length ≤ 2000) : Fun Tryz.prog 10 [v] [rd (Ty.sl Ty.u8) l v] [] (fun r G S => S = [] ∧ ∃ x, r = .tuple #[x, .bool (decide (opens l))] ∧ G = [rd (Ty.sl Ty.u8) (openB l) x]) := by
  refine Fun.enter Tryz.func10 (by kernel_rfl) rfl Tryz.ntmps10 rfl (fun B Gf Sf => ?_); (try simp only [List.cons_append]); (try simp only [List.nil_append]); simp only [argEnv]
  (repeat (first | refine vgo ?_ | refine ⟨_, rfl, rfl, ?_⟩ | refine ⟨_, rfl, ?_⟩ | refine ⟨rfl, ?_⟩ | intro hb | refine go2 ?_ | refine WC.seq (fun K hK => ?_) | ((first | refine hK _ _ _ ?_ | refine hK _ _ _ _ rfl ?_ | refine WX.thenExit (K := K) ?_); clear hK K) | (refine WX.thenExit (K := KL) ?_; clear hL KL)))
  by_cases h0 : (l.length : Int) - 4 < 0
  · (apply WC.draw; exact rfl; focus (repeat (first | exact Wo.nil | (apply Wo.keep; exact rfl) | (apply Wo.drop; exact rfl)))); (repeat (apply Obls.cons; focus ((repeat (intro _)); (conv => whnf); (repeat (first | refine vgo ?_ | refine ⟨_, rfl, rfl, ?_⟩ | refine ⟨_, rfl, ?_⟩ | refine ⟨rfl, ?_⟩ | intro hb | refine go2 ?_ | refine WC.seq (fun K hK => ?_) | ((first | refine hK _ _ _ ?_ | refine hK _ _ _ _ rfl ?_ | refine WX.thenExit (K := K) ?_); clear hK K) | (refine WX.thenExit (K := KL) ?_; clear hL KL))); first | exact WX.pqIs rfl | exact WX.pqRd rfl | exact WX.pqCell rfl | exact WX.pqNone))); try (refine Obls.nil ?_; (repeat (intro _)); (conv => whnf))
    (repeat (first | refine vgo ?_ | refine ⟨_, rfl, rfl, ?_⟩ | refine ⟨_, rfl, ?_⟩ | refine ⟨rfl, ?_⟩ | intro hb | refine go2 ?_ | refine WC.seq (fun K hK => ?_) | ((first | refine hK _ _ _ ?_ | refine hK _ _ _ _ rfl ?_ | refine WX.thenExit (K := K) ?_); clear hK K) | (refine WX.thenExit (K := KL) ?_; clear hL KL)))
    have hn : ¬ opens l := fun hh => by have := hh.1; omega
    refine WX.sat (fun w sw => sw.rdNil (Ty.u8)) ?_
    exact WX.ret2 rfl rfl rfl (fun w sw => ⟨[rd (Ty.sl Ty.u8) (openB l) _], [], ⟨rfl, _, by rw [decide_eq_false hn], rfl⟩, by rw [openB, if_neg hn]; exact sw.to⟩)
  · (apply WC.draw; exact rfl; focus (repeat (first | exact Wo.nil | (apply Wo.keep; exact rfl) | (apply Wo.drop; exact rfl)))); (repeat (apply Obls.cons; focus ((repeat (intro _)); (conv => whnf); (repeat (first | refine vgo ?_ | refine ⟨_, rfl, rfl, ?_⟩ | refine ⟨_, rfl, ?_⟩ | refine ⟨rfl, ?_⟩ | intro hb | refine go2 ?_ | refine WC.seq (fun K hK => ?_) | ((first | refine hK _ _ _ ?_ | refine hK _ _ _ _ rfl ?_ | refine WX.thenExit (K := K) ?_); clear hK K) | (refine WX.thenExit (K := KL) ?_; clear hL KL))); first | exact WX.pqIs rfl | exact WX.pqRd rfl | exact WX.pqCell rfl | exact WX.pqNone))); try (refine Obls.nil ?_; (repeat (intro _)); (conv => whnf))
    apply Obls.cons
    · (repeat (intro _)); (conv => whnf)
      (repeat (first | refine vgo ?_ | refine ⟨_, rfl, rfl, ?_⟩ | refine ⟨_, rfl, ?_⟩ | refine ⟨rfl, ?_⟩ | intro hb | refine go2 ?_ | refine WC.seq (fun K hK => ?_) | ((first | refine hK _ _ _ ?_ | refine hK _ _ _ _ rfl ?_ | refine WX.thenExit (K := K) ?_); clear hK K) | (refine WX.thenExit (K := KL) ?_; clear hL KL)))
      refine WL.slc rfl rfl rfl rfl rfl ?_; refine SliceV.high rfl (l.length - 4) (by omega) (by omega) ?_; intro r
      (repeat (first | refine vgo ?_ | refine ⟨_, rfl, rfl, ?_⟩ | refine ⟨_, rfl, ?_⟩ | refine ⟨rfl, ?_⟩ | intro hb | refine go2 ?_ | refine WC.seq (fun K hK => ?_) | ((first | refine hK _ _ _ ?_ | refine hK _ _ _ _ rfl ?_ | refine WX.thenExit (K := K) ?_); clear hK K) | (refine WX.thenExit (K := KL) ?_; clear hL KL)))
      first | exact WX.pqIs rfl | exact WX.pqRd rfl | exact WX.pqCell rfl | exact WX.pqNone
    apply Obls.cons
    · (repeat (intro _)); (conv => whnf)
      (repeat (first | refine vgo ?_ | refine ⟨_, rfl, rfl, ?_⟩ | refine ⟨_, rfl, ?_⟩ | refine ⟨rfl, ?_⟩ | intro hb | refine go2 ?_ | refine WC.seq (fun K hK => ?_) | ((first | refine hK _ _ _ ?_ | refine hK _ _ _ _ rfl ?_ | refine WX.thenExit (K := K) ?_); clear hK K) | (refine WX.thenExit (K := KL) ?_; clear hL KL)))
      refine CallV.by' (seal_fun (l.take (l.length - 4)) _ (by simp; omega)) ?_; rintro _ _ _ ⟨rfl, rfl⟩; (try simp only [List.cons_append]); (try simp only [List.nil_append])
      (repeat (first | refine vgo ?_ | refine ⟨_, rfl, rfl, ?_⟩ | refine ⟨_, rfl, ?_⟩ | refine ⟨rfl, ?_⟩ | intro hb | refine go2 ?_ | refine WC.seq (fun K hK => ?_) | ((first | refine hK _ _ _ ?_ | refine hK _ _ _ _ rfl ?_ | refine WX.thenExit (K := K) ?_); clear hK K) | (refine WX.thenExit (K := KL) ?_; clear hL KL)))
      first | exact WX.pqIs rfl | exact WX.pqRd rfl | exact WX.pqCell rfl | exact WX.pqNone
    (repeat (apply Obls.cons; focus ((repeat (intro _)); (conv => whnf); (repeat (first | refine vgo ?_ | refine ⟨_, rfl, rfl, ?_⟩ | refine ⟨_, rfl, ?_⟩ | refine ⟨rfl, ?_⟩ | intro hb | refine go2 ?_ | refine WC.seq (fun K hK => ?_) | ((first | refine hK _ _ _ ?_ | refine hK _ _ _ _ rfl ?_ | refine WX.thenExit (K := K) ?_); clear hK K) | (refine WX.thenExit (K := KL) ?_; clear hL KL))); first | exact WX.pqIs rfl | exact WX.pqRd rfl | exact WX.pqCell rfl | exact WX.pqNone))); try (refine Obls.nil ?_; (repeat (intro _)); (conv => whnf))
    (repeat (first | refine vgo ?_ | refine ⟨_, rfl, rfl, ?_⟩ | refine ⟨_, rfl, ?_⟩ | refine ⟨rfl, ?_⟩ | intro hb | refine go2 ?_ | refine WC.seq (fun K hK => ?_) | ((first | refine hK _ _ _ ?_ | refine hK _ _ _ _ rfl ?_ | refine WX.thenExit (K := K) ?_); clear hK K) | (refine WX.thenExit (K := KL) ?_; clear hL KL)))
    refine dcB (fun hs => ?_) (fun hs => ?_)
    · (repeat (first | refine vgo ?_ | refine ⟨_, rfl, rfl, ?_⟩ | refine ⟨_, rfl, ?_⟩ | refine ⟨rfl, ?_⟩ | intro hb | refine go2 ?_ | refine WC.seq (fun K hK => ?_) | ((first | refine hK _ _ _ ?_ | refine hK _ _ _ _ rfl ?_ | refine WX.thenExit (K := K) ?_); clear hK K) | (refine WX.thenExit (K := KL) ?_; clear hL KL)))
      have hn : ¬ opens l := fun hh => hs hh.2
      refine WX.sat (fun w sw => sw.rdNil (Ty.u8)) ?_
      exact WX.ret2 rfl rfl rfl (fun w sw => ⟨[rd (Ty.sl Ty.u8) (openB l) _], [], ⟨rfl, _, by rw [decide_eq_false hn], rfl⟩, by rw [openB, if_neg hn]; exact sw.to⟩)
    · have hy : opens l := ⟨by omega, Decidable.not_not.1 hs⟩
      (repeat (first | refine vgo ?_ | refine ⟨_, rfl, rfl, ?_⟩ | refine ⟨_, rfl, ?_⟩ | refine ⟨rfl, ?_⟩ | intro hb | refine go2 ?_ | refine WC.seq (fun K hK => ?_) | ((first | refine hK _ _ _ ?_ | refine hK _ _ _ _ rfl ?_ | refine WX.thenExit (K := K) ?_); clear hK K) | (refine WX.thenExit (K := KL) ?_; clear hL KL)))
      refine WL.build rfl rfl rfl rfl rfl ?_; intro vb; (try dsimp only [List.cons_append, List.nil_append])
      (repeat (first | refine vgo ?_ | refine ⟨_, rfl, rfl, ?_⟩ | refine ⟨_, rfl, ?_⟩ | refine ⟨rfl, ?_⟩ | intro hb | refine go2 ?_ | refine WC.seq (fun K hK => ?_) | ((first | refine hK _ _ _ ?_ | refine hK _ _ _ _ rfl ?_ | refine WX.thenExit (K := K) ?_); clear hK K) | (refine WX.thenExit (K := KL) ?_; clear hL KL)))
      refine WL.slc rfl rfl rfl rfl rfl ?_; refine SliceV.high rfl (l.length - 4) (by omega) (by omega) ?_; intro r
      (repeat (first | refine vgo ?_ | refine ⟨_, rfl, rfl, ?_⟩ | refine ⟨_, rfl, ?_⟩ | refine ⟨rfl, ?_⟩ | intro hb | refine go2 ?_ | refine WC.seq (fun K hK => ?_) | ((first | refine hK _ _ _ ?_ | refine hK _ _ _ _ rfl ?_ | refine WX.thenExit (K := K) ?_); clear hK K) | (refine WX.thenExit (K := KL) ?_; clear hL KL)))
      refine WL.append rfl rfl rfl ?_; refine AppV.s rfl ?_ ?_; rotate_left; intro hok vc
      · refine WL.sat (fun w sw => sw.pub (R := (Ty.u8)) (l := (openB l)) (v := vc) SelOwn.h rfl (by rw [openB, if_pos hy]; rfl) (by rw [openB, if_pos hy]; simp) (fun _ _ => trivial)) ?_
        (repeat (first | refine vgo ?_ | refine ⟨_, rfl, rfl, ?_⟩ | refine ⟨_, rfl, ?_⟩ | refine ⟨rfl, ?_⟩ | intro hb | refine go2 ?_ | refine WC.seq (fun K hK => ?_) | ((first | refine hK _ _ _ ?_ | refine hK _ _ _ _ rfl ?_ | refine WX.thenExit (K := K) ?_); clear hK K) | (refine WX.thenExit (K := KL) ?_; clear hL KL)))
        exact WX.ret2 rfl rfl rfl (fun w sw => ⟨[rd (Ty.sl Ty.u8) (openB l) _], [], ⟨rfl, _, by rw [decide_eq_true hy], rfl⟩, sw.to⟩)
      · simp; omega

set_option maxHeartbeats 400000 in
theorem ropen_fun (l : List UInt8) (v : Value) (h : l.length ≤ 2000) : Fun Tryz.prog 17 [v] [rd (Ty.sl Ty.u8) l v] [] (fun r G S => S = [] ∧ ∃ x, r = .tuple #[x, .bool (decide (opens l))] ∧ G = [rd (Ty.sl Ty.u8) (openB l) x]) := by
  refine Fun.enter Tryz.func17 (by kernel_rfl) rfl Tryz.ntmps17 rfl (fun B Gf Sf => ?_); (try simp only [List.cons_append]); (try simp only [List.nil_append]); simp only [argEnv]
  (repeat (first | refine vgo ?_ | refine ⟨_, rfl, rfl, ?_⟩ | refine ⟨_, rfl, ?_⟩ | refine ⟨rfl, ?_⟩ | intro hb | refine go2 ?_ | refine WC.seq (fun K hK => ?_) | ((first | refine hK _ _ _ ?_ | refine hK _ _ _ _ rfl ?_ | refine WX.thenExit (K := K) ?_); clear hK K) | (refine WX.thenExit (K := KL) ?_; clear hL KL)))
  by_cases h0 : (l.length : Int) < 4
  · (apply WC.draw; exact rfl; focus (repeat (first | exact Wo.nil | (apply Wo.keep; exact rfl) | (apply Wo.drop; exact rfl)))); (repeat (apply Obls.cons; focus ((repeat (intro _)); (conv => whnf); (repeat (first | refine vgo ?_ | refine ⟨_, rfl, rfl, ?_⟩ | refine ⟨_, rfl, ?_⟩ | refine ⟨rfl, ?_⟩ | intro hb | refine go2 ?_ | refine WC.seq (fun K hK => ?_) | ((first | refine hK _ _ _ ?_ | refine hK _ _ _ _ rfl ?_ | refine WX.thenExit (K := K) ?_); clear hK K) | (refine WX.thenExit (K := KL) ?_; clear hL KL))); first | exact WX.pqIs rfl | exact WX.pqRd rfl | exact WX.pqCell rfl | exact WX.pqNone))); try (refine Obls.nil ?_; (repeat (intro _)); (conv => whnf))
    (repeat (first | refine vgo ?_ | refine ⟨_, rfl, rfl, ?_⟩ | refine ⟨_, rfl, ?_⟩ | refine ⟨rfl, ?_⟩ | intro hb | refine go2 ?_ | refine WC.seq (fun K hK => ?_) | ((first | refine hK _ _ _ ?_ | refine hK _ _ _ _ rfl ?_ | refine WX.thenExit (K := K) ?_); clear hK K) | (refine WX.thenExit (K := KL) ?_; clear hL KL)))
    have hn : ¬ opens l := fun hh => by have := hh.1; omega
    refine WX.sat (fun w sw => sw.rdNil (Ty.u8)) ?_
    exact WX.ret2 rfl rfl rfl (fun w sw => ⟨[rd (Ty.sl Ty.u8) (openB l) _], [], ⟨rfl, _, by rw [decide_eq_false hn], rfl⟩, by rw [openB, if_neg hn]; exact sw.to⟩)
  · (apply WC.draw; exact rfl; focus (repeat (first | exact Wo.nil | (apply Wo.keep; exact rfl) | (apply Wo.drop; exact rfl)))); (repeat (apply Obls.cons; focus ((repeat (intro _)); (conv => whnf); (repeat (first | refine vgo ?_ | refine ⟨_, rfl, rfl, ?_⟩ | refine ⟨_, rfl, ?_⟩ | refine ⟨rfl, ?_⟩ | intro hb | refine go2 ?_ | refine WC.seq (fun K hK => ?_) | ((first | refine hK _ _ _ ?_ | refine hK _ _ _ _ rfl ?_ | refine WX.thenExit (K := K) ?_); clear hK K) | (refine WX.thenExit (K := KL) ?_; clear hL KL))); first | exact WX.pqIs rfl | exact WX.pqRd rfl | exact WX.pqCell rfl | exact WX.pqNone))); try (refine Obls.nil ?_; (repeat (intro _)); (conv => whnf))
    apply Obls.cons
    · (repeat (intro _)); (conv => whnf)
      (repeat (first | refine vgo ?_ | refine ⟨_, rfl, rfl, ?_⟩ | refine ⟨_, rfl, ?_⟩ | refine ⟨rfl, ?_⟩ | intro hb | refine go2 ?_ | refine WC.seq (fun K hK => ?_) | ((first | refine hK _ _ _ ?_ | refine hK _ _ _ _ rfl ?_ | refine WX.thenExit (K := K) ?_); clear hK K) | (refine WX.thenExit (K := KL) ?_; clear hL KL)))
      refine WL.slc rfl rfl rfl rfl rfl ?_; refine SliceV.high rfl (l.length - 4) (by omega) (by omega) ?_; intro r
      (repeat (first | refine vgo ?_ | refine ⟨_, rfl, rfl, ?_⟩ | refine ⟨_, rfl, ?_⟩ | refine ⟨rfl, ?_⟩ | intro hb | refine go2 ?_ | refine WC.seq (fun K hK => ?_) | ((first | refine hK _ _ _ ?_ | refine hK _ _ _ _ rfl ?_ | refine WX.thenExit (K := K) ?_); clear hK K) | (refine WX.thenExit (K := KL) ?_; clear hL KL)))
      first | exact WX.pqIs rfl | exact WX.pqRd rfl | exact WX.pqCell rfl | exact WX.pqNone
    apply Obls.cons
    · (repeat (intro _)); (conv => whnf)
      (repeat (first | refine vgo ?_ | refine ⟨_, rfl, rfl, ?_⟩ | refine ⟨_, rfl, ?_⟩ | refine ⟨rfl, ?_⟩ | intro hb | refine go2 ?_ | refine WC.seq (fun K hK => ?_) | ((first | refine hK _ _ _ ?_ | refine hK _ _ _ _ rfl ?_ | refine WX.thenExit (K := K) ?_); clear hK K) | (refine WX.thenExit (K := KL) ?_; clear hL KL)))
      refine CallV.by' (rseal_fun (l.take (l.length - 4)) _ (by simp; omega)) ?_; rintro _ _ _ ⟨rfl, rfl⟩; (try simp only [List.cons_append]); (try simp only [List.nil_append])
      (repeat (first | refine vgo ?_ | refine ⟨_, rfl, rfl, ?_⟩ | refine ⟨_, rfl, ?_⟩ | refine ⟨rfl, ?_⟩ | intro hb | refine go2 ?_ | refine WC.seq (fun K hK => ?_) | ((first | refine hK _ _ _ ?_ | refine hK _ _ _ _ rfl ?_ | refine WX.thenExit (K := K) ?_); clear hK K) | (refine WX.thenExit (K := KL) ?_; clear hL KL)))
      first | exact WX.pqIs rfl | exact WX.pqRd rfl | exact WX.pqCell rfl | exact WX.pqNone
    (repeat (apply Obls.cons; focus ((repeat (intro _)); (conv => whnf); (repeat (first | refine vgo ?_ | refine ⟨_, rfl, rfl, ?_⟩ | refine ⟨_, rfl, ?_⟩ | refine ⟨rfl, ?_⟩ | intro hb | refine go2 ?_ | refine WC.seq (fun K hK => ?_) | ((first | refine hK _ _ _ ?_ | refine hK _ _ _ _ rfl ?_ | refine WX.thenExit (K := K) ?_); clear hK K) | (refine WX.thenExit (K := KL) ?_; clear hL KL))); first | exact WX.pqIs rfl | exact WX.pqRd rfl | exact WX.pqCell rfl | exact WX.pqNone))); try (refine Obls.nil ?_; (repeat (intro _)); (conv => whnf))
    (repeat (first | refine vgo ?_ | refine ⟨_, rfl, rfl, ?_⟩ | refine ⟨_, rfl, ?_⟩ | refine ⟨rfl, ?_⟩ | intro hb | refine go2 ?_ | refine WC.seq (fun K hK => ?_) | ((first | refine hK _ _ _ ?_ | refine hK _ _ _ _ rfl ?_ | refine WX.thenExit (K := K) ?_); clear hK K) | (refine WX.thenExit (K := KL) ?_; clear hL KL)))
    refine dcB (fun hs => ?_) (fun hs => ?_)
    · (repeat (first | refine vgo ?_ | refine ⟨_, rfl, rfl, ?_⟩ | refine ⟨_, rfl, ?_⟩ | refine ⟨rfl, ?_⟩ | intro hb | refine go2 ?_ | refine WC.seq (fun K hK => ?_) | ((first | refine hK _ _ _ ?_ | refine hK _ _ _ _ rfl ?_ | refine WX.thenExit (K := K) ?_); clear hK K) | (refine WX.thenExit (K := KL) ?_; clear hL KL)))
      have hn : ¬ opens l := fun hh => hs hh.2
      refine WX.sat (fun w sw => sw.rdNil (Ty.u8)) ?_
      exact WX.ret2 rfl rfl rfl (fun w sw => ⟨[rd (Ty.sl Ty.u8) (openB l) _], [], ⟨rfl, _, by rw [decide_eq_false hn], rfl⟩, by rw [openB, if_neg hn]; exact sw.to⟩)
    · have hy : opens l := ⟨by omega, Decidable.not_not.1 hs⟩
      (repeat (first | refine vgo ?_ | refine ⟨_, rfl, rfl, ?_⟩ | refine ⟨_, rfl, ?_⟩ | refine ⟨rfl, ?_⟩ | intro hb | refine go2 ?_ | refine WC.seq (fun K hK => ?_) | ((first | refine hK _ _ _ ?_ | refine hK _ _ _ _ rfl ?_ | refine WX.thenExit (K := K) ?_); clear hK K) | (refine WX.thenExit (K := KL) ?_; clear hL KL)))
      refine WL.slc rfl rfl rfl rfl rfl ?_; refine SliceV.high rfl (l.length - 4) (by omega) (by omega) ?_; intro r
      (repeat (first | refine vgo ?_ | refine ⟨_, rfl, rfl, ?_⟩ | refine ⟨_, rfl, ?_⟩ | refine ⟨rfl, ?_⟩ | intro hb | refine go2 ?_ | refine WC.seq (fun K hK => ?_) | ((first | refine hK _ _ _ ?_ | refine hK _ _ _ _ rfl ?_ | refine WX.thenExit (K := K) ?_); clear hK K) | (refine WX.thenExit (K := KL) ?_; clear hL KL)))
      exact WX.ret2 rfl rfl rfl (fun w sw => ⟨[rd (Ty.sl Ty.u8) (openB l) _], [], ⟨rfl, _, by rw [decide_eq_true hy], rfl⟩, by rw [openB, if_pos hy]; exact sw.to⟩)

end
end Go.Qd
