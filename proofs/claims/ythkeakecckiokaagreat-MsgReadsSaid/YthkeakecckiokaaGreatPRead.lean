/-
  What the reader of package wire computes.
-/
import Derived.Test.YthkeakecckiokaaGreatPWire
namespace Go.Qd
open Go Go.Proofs

def brk (k c : Nat) : Prop := (k = 9 ∧ 1 < c) ∨ (0 < k ∧ c = 0)
instance (k c : Nat) : Decidable (brk k c) := inferInstanceAs (Decidable (_ ∨ _))
def rdNum : Nat → Nat → List UInt8 → Option (Nat × List UInt8)
  | _, _, [] => none
  | i, n, c :: r => if brk i c.toNat then none else
    if c.toNat < 128 then some (n + c.toNat % 128 * 128 ^ i, r) else rdNum (i + 1) (n + c.toNat % 128 * 128 ^ i) r
def numR (l : List UInt8) (bad : Bool) : Nat × List UInt8 × Bool :=
  match rdNum 0 0 l with
  | some (n, r) => (n, r, bad)
  | none => (0, [], true)
def intR (most : Int) (l : List UInt8) (bad : Bool) : Nat × List UInt8 × Bool :=
  if most < 0 ∨ most < (numR l bad).1 then (0, [], true) else numR l bad
def bytR (l : List UInt8) (bad : Bool) : List UInt8 × List UInt8 × Bool :=
  if (intR 65536 l bad).2.1.length < (intR 65536 l bad).1 then ([], [], true) else ((intR 65536 l bad).2.1.take (intR 65536 l bad).1, (intR 65536 l bad).2.1.drop (intR 65536 l bad).1, (intR 65536 l bad).2.2)

theorem or_add (a c i : Nat) (ha : a < 128 ^ i) : a ||| (c * 128 ^ i) = a + c * 128 ^ i := by
  have e : 128 ^ i = 2 ^ (7 * i) := by rw [Nat.pow_mul]
  rw [e] at ha ⊢
  rw [Nat.or_comm, Nat.mul_comm, ← Nat.two_pow_add_eq_or_of_lt ha, Nat.add_comm]
theorem drop_get {α : Type} {l : List α} {k : Nat} {x : α} (h : l[k]? = some x) : l.drop k = x :: l.drop (k + 1) := by
  obtain ⟨hk, rfl⟩ := List.getElem?_eq_some_iff.1 h
  exact List.drop_eq_getElem_cons hk

theorem acc_next {m c k : Nat} (hm : m < 128 ^ k) : m + c % 128 * 128 ^ k < 128 ^ (k + 1) := by
  have h1 : c % 128 ≤ 127 := by omega
  have h2 : c % 128 * 128 ^ k ≤ 127 * 128 ^ k := Nat.mul_le_mul_right _ h1
  rw [Nat.pow_succ]; omega
theorem acc_part {c k : Nat} (hk : k ≤ 9) (hc9 : k = 9 → c ≤ 1) : c % 128 * 128 ^ k ≤ 9223372036854775808 := by
  have h1 : c % 128 ≤ 127 := by omega
  by_cases h : k = 9
  · subst h
    have : c % 128 ≤ 1 := by have := hc9 rfl; omega
    have := Nat.mul_le_mul_right (128 ^ 9) this
    omega
  · have h2 : 128 ^ k ≤ 128 ^ 8 := Nat.pow_le_pow_right (by omega) (by omega)
    have := Nat.mul_le_mul h1 h2
    omega
theorem acc_lt {m c k : Nat} (hm : m < 128 ^ k) (hk : k ≤ 9) (_ : c < 2 ^ 8) (hc9 : k = 9 → c ≤ 1) : m + c % 128 * 128 ^ k < 18446744073709551616 := by
  have h1 := acc_part hk hc9
  have h2 : 128 ^ k ≤ 128 ^ 9 := Nat.pow_le_pow_right (by omega) hk
  omega
theorem acc_eq {m c k : Nat} (hm : m < 128 ^ k) (hk : k ≤ 9) (hc : c < 2 ^ 8) (hc9 : k = 9 → c ≤ 1) : bits .or .u64 (m : Int) (IntKind.u64.wrap (((c % 128 : Nat) : Int) * 2 ^ (7 * (k : Int)).toNat)) = ((m + c % 128 * 128 ^ k : Nat) : Int) := by
  have h1 := acc_part hk hc9
  have h2 : 128 ^ k ≤ 128 ^ 9 := Nat.pow_le_pow_right (by omega) hk
  have e : ((c % 128 : Nat) : Int) * 2 ^ (7 * (k : Int)).toNat = ((c % 128 * 128 ^ k : Nat) : Int) := by
    have e2 : ((128 ^ k : Nat) : Int) = 2 ^ (7 * k) := by rw [show 128 = 2 ^ 7 from rfl, ← Nat.pow_mul]; exact Int.natCast_pow 2 (7 * k)
    rw [show (7 * (k : Int)).toNat = 7 * k from by omega, Int.natCast_mul, e2]
  rw [e, wrap_u64' (by omega), (or_u64 (by omega) (by omega)).1, or_add m _ k hm]

abbrev rdrBox (b : Nat) (v : Value) (bad : Bool) : Res := box b 95 [v, .bool bad]

set_option maxHeartbeats 400000 in
theorem spoil_fun (b : Nat) (v : Value) (bad : Bool) : Fun Tryz.prog 33 [.pointer (some ⟨b, 0, none⟩)] [] [rdrBox b v bad] (fun _ G S => G = [] ∧ S = [rdrBox b (.slice none 0 0) true]) := by
  refine Fun.enter Tryz.func33 (by kernel_rfl) rfl Tryz.ntmps33 rfl (fun B Gf Sf => ?_); (try simp only [List.cons_append]); (try simp only [List.nil_append]); simp only [argEnv]
  (repeat (first | refine vgo ?_ | refine ⟨_, rfl, rfl, ?_⟩ | refine ⟨_, rfl, ?_⟩ | refine ⟨rfl, ?_⟩ | intro hb | refine go2 ?_ | refine WC.seq (fun K hK => ?_) | ((first | refine hK _ _ _ ?_ | refine hK _ _ _ _ rfl ?_ | refine WX.thenExit (K := K) ?_); clear hK K) | (refine WX.thenExit (K := KL) ?_; clear hL KL)))
  exact WX.end0 rfl (fun w sw => ⟨[], [rdrBox b (.slice none 0 0) true], ⟨rfl, rfl⟩, sw⟩)

theorem dec_brk {k c : Nat} {p : Prop} [Decidable p] (h : p ↔ brk k c) : (Value.bool (decide p)) = .bool (decide (brk k c)) := by
  congr 1; exact decide_eq_decide.2 h

set_option maxHeartbeats 800000 in
theorem rdnum_fun (b : Nat) (v : Value) (l : List UInt8) (bad : Bool) : Fun Tryz.prog 32 [.pointer (some ⟨b, 0, none⟩)] [rd (Ty.sl Ty.u8) l v] [rdrBox b v bad]
    (fun r G S => r = .int .u64 (numR l bad).1 ∧ ∃ v', G = [rd (Ty.sl Ty.u8) (numR l bad).2.1 v'] ∧ S = [rdrBox b v' (numR l bad).2.2]) := by
  refine Fun.enter Tryz.func32 (by kernel_rfl) rfl Tryz.ntmps32 rfl (fun B Gf Sf => ?_); (try simp only [List.cons_append]); (try simp only [List.nil_append]); simp only [argEnv]
  refine WC.ex (fun w sw => sw.len_le (RdSl.h (v := v))) (fun hl => ?_)
  (repeat (first | refine vgo ?_ | refine ⟨_, rfl, rfl, ?_⟩ | refine ⟨_, rfl, ?_⟩ | refine ⟨rfl, ?_⟩ | intro hb | refine go2 ?_ | refine WC.seq (fun K hK => ?_) | ((first | refine hK _ _ _ ?_ | refine hK _ _ _ _ rfl ?_ | refine WX.thenExit (K := K) ?_); clear hK K) | (refine WX.thenExit (K := KL) ?_; clear hL KL)))
  refine WC.loop (I := Nat × Nat) (fun i => [(11, .int .i64 i.1), (10, .int .i64 l.length), (9, v), (3, .int .u64 i.2), (0, .pointer (some ⟨b, 0, none⟩))]) (fun _ => rd (Ty.sl Ty.u8) l v :: Gf) (fun i => rdrBox b v bad :: Sf) (fun i => i.1 ≤ l.length ∧ i.1 ≤ 9 ∧ i.2 < 128 ^ i.1 ∧ rdNum i.1 i.2 (l.drop i.1) = rdNum 0 0 l) (fun i => l.length - i.1) (0, 0) ⟨by simp, by simp, by simp, rfl⟩ (.cons rfl (.cons rfl (.cons rfl (.cons rfl (.cons rfl .nil))))) (fun w h => h) ?_
  rintro ⟨k, m⟩ ⟨hi, hk9, hm, hrd⟩ KL hL
  dsimp only at hi hk9 hm hrd ⊢
  (repeat (first | refine vgo ?_ | refine ⟨_, rfl, rfl, ?_⟩ | refine ⟨_, rfl, ?_⟩ | refine ⟨rfl, ?_⟩ | intro hb | refine go2 ?_ | refine WC.seq (fun K hK => ?_) | ((first | refine hK _ _ _ ?_ | refine hK _ _ _ _ rfl ?_ | refine WX.thenExit (K := K) ?_); clear hK K) | (refine WX.thenExit (K := KL) ?_; clear hL KL)))
  refine dcB (fun hk => ?_) (fun hk => ?_)
  · obtain ⟨c, hx, hts⟩ := get_ex (l := l) (k := k) (by omega)
    have hc8 := c.toNat_lt
    rw [drop_get hx, rdNum] at hrd
    (repeat (first | refine vgo ?_ | refine ⟨_, rfl, rfl, ?_⟩ | refine ⟨_, rfl, ?_⟩ | refine ⟨rfl, ?_⟩ | intro hb | refine go2 ?_ | ((first | refine hK _ _ _ ?_ | refine hK _ _ _ _ rfl ?_ | refine WX.thenExit (K := K) ?_); clear hK K) | (refine WX.thenExit (K := KL) ?_; clear hL KL)))
    refine WC.seq (fun K hK => ?_); (repeat (first | refine vgo ?_ | refine ⟨_, rfl, rfl, ?_⟩ | refine ⟨_, rfl, ?_⟩ | refine ⟨rfl, ?_⟩ | intro hb | refine go2 ?_ | ((first | refine hK _ _ _ ?_ | refine hK _ _ _ _ rfl ?_ | refine WX.thenExit (K := K) ?_); clear hK K) | (refine WX.thenExit (K := KL) ?_; clear hL KL)))
    refine WC.seq (fun K hK => ?_); (repeat (first | refine vgo ?_ | refine ⟨_, rfl, rfl, ?_⟩ | refine ⟨_, rfl, ?_⟩ | refine ⟨rfl, ?_⟩ | intro hb | refine go2 ?_ | ((first | refine hK _ _ _ ?_ | refine hK _ _ _ _ rfl ?_ | refine WX.thenExit (K := K) ?_); clear hK K) | (refine WX.thenExit (K := KL) ?_; clear hL KL)))
    refine WC.seq (fun K hK => ?_)
    refine WC.cut [(29, .bool (decide (brk k c.toNat))), (5, .int .u8 c.toNat), (4, .int .i64 k), (11, .int .i64 k), (10, .int .i64 l.length), (9, v), (3, .int .u64 m), (0, .pointer (some ⟨b, 0, none⟩))] (rd (Ty.sl Ty.u8) l v :: Gf) (rdrBox b v bad :: Sf) (fun K2 hC => ?_) ?_
    · by_cases h9 : (k : Int) = 9
      · by_cases hc1 : (1 : Int) < c.toNat
        · (repeat (first | refine vgo ?_ | refine ⟨_, rfl, rfl, ?_⟩ | refine ⟨_, rfl, ?_⟩ | refine ⟨rfl, ?_⟩ | intro hb | refine go2 ?_ | refine WC.seq (fun K hK => ?_) | ((first | refine hK _ _ _ ?_ | refine hK _ _ _ _ rfl ?_ | refine WX.thenExit (K := K) ?_); clear hK K) | (refine WX.thenExit (K := KL) ?_; clear hL KL)))
          refine hC.conv ?_ (fun _ h => h.to)
          exact (.cons (congrArg some (congrArg Value.bool (decide_eq_true (p := brk k c.toNat) (by unfold brk; omega)).symm)) (.cons rfl (.cons rfl (.cons rfl (.cons rfl (.cons rfl (.cons rfl (.cons rfl .nil))))))))
        · (repeat (first | refine vgo ?_ | refine ⟨_, rfl, rfl, ?_⟩ | refine ⟨_, rfl, ?_⟩ | refine ⟨rfl, ?_⟩ | intro hb | refine go2 ?_ | refine WC.seq (fun K hK => ?_) | ((first | refine hK _ _ _ ?_ | refine hK _ _ _ _ rfl ?_ | refine WX.thenExit (K := K) ?_); clear hK K) | (refine WX.thenExit (K := KL) ?_; clear hL KL)))
          refine hC.conv ?_ (fun _ h => h.to)
          exact (.cons (congrArg some (dec_brk (by unfold brk; omega))) (.cons rfl (.cons rfl (.cons rfl (.cons rfl (.cons rfl (.cons rfl (.cons rfl .nil))))))))
      · by_cases hk0 : (0 : Int) < k
        · (repeat (first | refine vgo ?_ | refine ⟨_, rfl, rfl, ?_⟩ | refine ⟨_, rfl, ?_⟩ | refine ⟨rfl, ?_⟩ | intro hb | refine go2 ?_ | refine WC.seq (fun K hK => ?_) | ((first | refine hK _ _ _ ?_ | refine hK _ _ _ _ rfl ?_ | refine WX.thenExit (K := K) ?_); clear hK K) | (refine WX.thenExit (K := KL) ?_; clear hL KL)))
          refine hC.conv ?_ (fun _ h => h.to)
          exact (.cons (congrArg some (dec_brk (by unfold brk; omega))) (.cons rfl (.cons rfl (.cons rfl (.cons rfl (.cons rfl (.cons rfl (.cons rfl .nil))))))))
        · (repeat (first | refine vgo ?_ | refine ⟨_, rfl, rfl, ?_⟩ | refine ⟨_, rfl, ?_⟩ | refine ⟨rfl, ?_⟩ | intro hb | refine go2 ?_ | refine WC.seq (fun K hK => ?_) | ((first | refine hK _ _ _ ?_ | refine hK _ _ _ _ rfl ?_ | refine WX.thenExit (K := K) ?_); clear hK K) | (refine WX.thenExit (K := KL) ?_; clear hL KL)))
          refine hC.conv ?_ (fun _ h => h.to)
          exact (.cons (congrArg some (congrArg Value.bool (decide_eq_false (p := brk k c.toNat) (by unfold brk; omega)).symm)) (.cons rfl (.cons rfl (.cons rfl (.cons rfl (.cons rfl (.cons rfl (.cons rfl .nil))))))))
    (repeat (first | refine vgo ?_ | refine ⟨_, rfl, rfl, ?_⟩ | refine ⟨_, rfl, ?_⟩ | refine ⟨rfl, ?_⟩ | intro hb | refine go2 ?_ | refine WC.seq (fun K hK => ?_) | ((first | refine hK _ _ _ ?_ | refine hK _ _ _ _ rfl ?_ | refine WX.thenExit (K := K) ?_); clear hK K) | (refine WX.thenExit (K := KL) ?_; clear hL KL)))
    refine dcB (fun hbr => ?_) (fun hbr => ?_)
    · rw [if_pos hbr] at hrd
      (repeat (first | refine vgo ?_ | refine ⟨_, rfl, rfl, ?_⟩ | refine ⟨_, rfl, ?_⟩ | refine ⟨rfl, ?_⟩ | intro hb | refine go2 ?_ | refine WC.seq (fun K hK => ?_) | ((first | refine hK _ _ _ ?_ | refine hK _ _ _ _ rfl ?_ | refine WX.thenExit (K := K) ?_); clear hK K) | (refine WX.thenExit (K := KL) ?_; clear hL KL)))
      refine CallV.by' (spoil_fun b v bad) ?_; rintro _ _ _ ⟨rfl, rfl⟩; (try simp only [List.cons_append]); (try simp only [List.nil_append])
      (repeat (first | refine vgo ?_ | refine ⟨_, rfl, rfl, ?_⟩ | refine ⟨_, rfl, ?_⟩ | refine ⟨rfl, ?_⟩ | intro hb | refine go2 ?_ | refine WC.seq (fun K hK => ?_) | ((first | refine hK _ _ _ ?_ | refine hK _ _ _ _ rfl ?_ | refine WX.thenExit (K := K) ?_); clear hK K) | (refine WX.thenExit (K := KL) ?_; clear hL KL)))
      have hr : numR l bad = (0, [], true) := by rw [numR, ← hrd]
      refine WX.sat (fun w sw => sw.rdNil (Ty.u8)) ?_
      exact WX.ret1 rfl rfl (fun w sw => ⟨[rd (Ty.sl Ty.u8) [] (.slice none 0 0)], [rdrBox b (.slice none 0 0) true], by rw [hr]; exact ⟨rfl, _, rfl, rfl⟩, sw.to⟩)
    · rw [if_neg hbr] at hrd
      (repeat (first | refine vgo ?_ | refine ⟨_, rfl, rfl, ?_⟩ | refine ⟨_, rfl, ?_⟩ | refine ⟨rfl, ?_⟩ | intro hb | refine go2 ?_ | refine WC.seq (fun K hK => ?_) | ((first | refine hK _ _ _ ?_ | refine hK _ _ _ _ rfl ?_ | refine WX.thenExit (K := K) ?_); clear hK K) | (refine WX.thenExit (K := KL) ?_; clear hL KL)))
      have e1 : bits .and .u8 (c.toNat : Int) 127 = ((c.toNat % 128 : Nat) : Int) := by
        have := and_u8 hc8 (b := 127) (by omega)
        rw [show c.toNat &&& 127 = c.toNat % 128 from and_low _ 7] at this
        exact this
      have e2 : IntKind.u64.wrap ((c.toNat % 128 : Nat) : Int) = ((c.toNat % 128 : Nat) : Int) := wrap_u64' (by omega)
      rw [e1, e2]
      (repeat (first | refine vgo ?_ | refine ⟨_, rfl, rfl, ?_⟩ | refine ⟨_, rfl, ?_⟩ | refine ⟨rfl, ?_⟩ | intro hb | refine go2 ?_ | refine WC.seq (fun K hK => ?_) | ((first | refine hK _ _ _ ?_ | refine hK _ _ _ _ rfl ?_ | refine WX.thenExit (K := K) ?_); clear hK K) | (refine WX.thenExit (K := KL) ?_; clear hL KL)))
      have hc9 : k = 9 → c.toNat ≤ 1 := fun h => by unfold brk at hbr; omega
      rw [acc_eq hm hk9 hc8 hc9]
      have hlt := acc_lt hm hk9 hc8 hc9
      refine dcB (fun h128 => ?_) (fun h128 => ?_)
      · rw [if_pos (by omega)] at hrd
        (repeat (first | refine vgo ?_ | refine ⟨_, rfl, rfl, ?_⟩ | refine ⟨_, rfl, ?_⟩ | refine ⟨rfl, ?_⟩ | intro hb | refine go2 ?_ | refine WC.seq (fun K hK => ?_) | ((first | refine hK _ _ _ ?_ | refine hK _ _ _ _ rfl ?_ | refine WX.thenExit (K := K) ?_); clear hK K) | (refine WX.thenExit (K := KL) ?_; clear hL KL)))
        refine WL.slc rfl rfl rfl rfl rfl ?_; refine SliceV.low rfl (k + 1) (by omega) (by omega) ?_; intro r
        (repeat (first | refine vgo ?_ | refine ⟨_, rfl, rfl, ?_⟩ | refine ⟨_, rfl, ?_⟩ | refine ⟨rfl, ?_⟩ | intro hb | refine go2 ?_ | refine WC.seq (fun K hK => ?_) | ((first | refine hK _ _ _ ?_ | refine hK _ _ _ _ rfl ?_ | refine WX.thenExit (K := K) ?_); clear hK K) | (refine WX.thenExit (K := KL) ?_; clear hL KL)))
        have hr : numR l bad = (m + c.toNat % 128 * 128 ^ k, l.drop (k + 1), bad) := by rw [numR, ← hrd]
        exact WX.ret1 rfl rfl (fun w sw => ⟨[rd (Ty.sl Ty.u8) (l.drop (k + 1)) r], [rdrBox b r bad], by rw [hr]; exact ⟨rfl, _, rfl, rfl⟩, sw.to⟩)
      · rw [if_neg (by omega)] at hrd
        (repeat (first | refine vgo ?_ | refine ⟨_, rfl, rfl, ?_⟩ | refine ⟨_, rfl, ?_⟩ | refine ⟨rfl, ?_⟩ | intro hb | refine go2 ?_ | refine WC.seq (fun K hK => ?_) | ((first | refine hK _ _ _ ?_ | refine hK _ _ _ _ rfl ?_ | refine WX.thenExit (K := K) ?_); clear hK K) | (refine WX.thenExit (K := KL) ?_; clear hL KL)))
        have hk8 : k ≠ 9 := fun h => by have := hc9 h; omega
        refine (hL (k + 1, m + c.toNat % 128 * 128 ^ k) ⟨by dsimp only; omega, by dsimp only; omega, acc_next hm, hrd⟩ (by dsimp only; omega)).conv (.cons rfl (.cons rfl (.cons rfl (.cons rfl (.cons rfl .nil))))) (fun _ h => h)
  · (repeat (first | refine vgo ?_ | refine ⟨_, rfl, rfl, ?_⟩ | refine ⟨_, rfl, ?_⟩ | refine ⟨rfl, ?_⟩ | intro hb | refine go2 ?_ | refine WC.seq (fun K hK => ?_) | ((first | refine hK _ _ _ ?_ | refine hK _ _ _ _ rfl ?_ | refine WX.thenExit (K := K) ?_); clear hK K) | (refine WX.thenExit (K := KL) ?_; clear hL KL)))
    have hk' : k = l.length := by omega
    rw [hk', List.drop_length, rdNum] at hrd
    refine CallV.by' (spoil_fun b v bad) ?_; rintro _ _ _ ⟨rfl, rfl⟩; (try simp only [List.cons_append]); (try simp only [List.nil_append])
    (repeat (first | refine vgo ?_ | refine ⟨_, rfl, rfl, ?_⟩ | refine ⟨_, rfl, ?_⟩ | refine ⟨rfl, ?_⟩ | intro hb | refine go2 ?_ | refine WC.seq (fun K hK => ?_) | ((first | refine hK _ _ _ ?_ | refine hK _ _ _ _ rfl ?_ | refine WX.thenExit (K := K) ?_); clear hK K) | (refine WX.thenExit (K := KL) ?_; clear hL KL)))
    have hr : numR l bad = (0, [], true) := by rw [numR, ← hrd]
    refine WX.sat (fun w sw => sw.rdNil (Ty.u8)) ?_
    exact WX.ret1 rfl rfl (fun w sw => ⟨[rd (Ty.sl Ty.u8) [] (.slice none 0 0)], [rdrBox b (.slice none 0 0) true], by rw [hr]; exact ⟨rfl, _, rfl, rfl⟩, sw.to⟩)

theorem rdNum_lt : ∀ (l : List UInt8) (k m n : Nat) (r : List UInt8), k ≤ 9 → m < 128 ^ k → rdNum k m l = some (n, r) → n < 18446744073709551616
  | [], _, _, _, _, _, _, h => by simp [rdNum] at h
  | c :: l, k, m, n, r, hk, hm, h => by
    rw [rdNum] at h
    by_cases hb : brk k c.toNat
    · rw [if_pos hb] at h; cases h
    · rw [if_neg hb] at h
      have hc9 : k = 9 → c.toNat ≤ 1 := fun h => by unfold brk at hb; omega
      by_cases h1 : c.toNat < 128
      · rw [if_pos h1] at h; cases h
        exact acc_lt hm hk c.toNat_lt hc9
      · rw [if_neg h1] at h
        exact rdNum_lt l _ _ _ _ (by have : k ≠ 9 := fun e => by have := hc9 e; omega
                                     omega) (acc_next hm) h
theorem numR_lt (l : List UInt8) (bad : Bool) : (numR l bad).1 < 18446744073709551616 := by
  unfold numR
  cases h : rdNum 0 0 l with
  | none => simp
  | some x => obtain ⟨n, r⟩ := x; exact rdNum_lt l 0 0 n r (by omega) (by simp) h
theorem intR_le (most : Int) (l : List UInt8) (bad : Bool) (hm : 0 ≤ most) : ((intR most l bad).1 : Int) ≤ most := by
  unfold intR
  split
  · exact hm
  · omega

set_option maxHeartbeats 800000 in
theorem int_fun (b : Nat) (v : Value) (l : List UInt8) (bad : Bool) (most : Int) (h63 : most ≤ 9223372036854775807) : Fun Tryz.prog 12 [.pointer (some ⟨b, 0, none⟩), .int .i64 most] [rd (Ty.sl Ty.u8) l v] [rdrBox b v bad]
    (fun r G S => r = .int .i64 (intR most l bad).1 ∧ ∃ v', G = [rd (Ty.sl Ty.u8) (intR most l bad).2.1 v'] ∧ S = [rdrBox b v' (intR most l bad).2.2]) := by
  have hlt := numR_lt l bad
  refine Fun.enter Tryz.func12 (by kernel_rfl) rfl Tryz.ntmps12 rfl (fun B Gf Sf => ?_); (try simp only [List.cons_append]); (try simp only [List.nil_append]); simp only [argEnv]
  (repeat (first | refine vgo ?_ | refine ⟨_, rfl, rfl, ?_⟩ | refine ⟨_, rfl, ?_⟩ | refine ⟨rfl, ?_⟩ | intro hb | refine go2 ?_ | refine WC.seq (fun K hK => ?_) | ((first | refine hK _ _ _ ?_ | refine hK _ _ _ _ rfl ?_ | refine WX.thenExit (K := K) ?_); clear hK K) | (refine WX.thenExit (K := KL) ?_; clear hL KL)))
  refine CallV.by' (rdnum_fun b v l bad) ?_; rintro _ _ _ ⟨rfl, v2, rfl, rfl⟩; (try simp only [List.cons_append]); (try simp only [List.nil_append])
  by_cases h0 : most < 0
  · have hr : intR most l bad = (0, [], true) := by rw [intR, if_pos (.inl h0)]
    (repeat (first | refine vgo ?_ | refine ⟨_, rfl, rfl, ?_⟩ | refine ⟨_, rfl, ?_⟩ | refine ⟨rfl, ?_⟩ | intro hb | refine go2 ?_ | refine WC.seq (fun K hK => ?_) | ((first | refine hK _ _ _ ?_ | refine hK _ _ _ _ rfl ?_ | refine WX.thenExit (K := K) ?_); clear hK K) | (refine WX.thenExit (K := KL) ?_; clear hL KL)))
    refine CallV.by' (spoil_fun b v2 (numR l bad).2.2) ?_; rintro _ _ _ ⟨rfl, rfl⟩; (try simp only [List.cons_append]); (try simp only [List.nil_append])
    (repeat (first | refine vgo ?_ | refine ⟨_, rfl, rfl, ?_⟩ | refine ⟨_, rfl, ?_⟩ | refine ⟨rfl, ?_⟩ | intro hb | refine go2 ?_ | refine WC.seq (fun K hK => ?_) | ((first | refine hK _ _ _ ?_ | refine hK _ _ _ _ rfl ?_ | refine WX.thenExit (K := K) ?_); clear hK K) | (refine WX.thenExit (K := KL) ?_; clear hL KL)))
    refine WX.sat (fun w sw => sw.rdNil (Ty.u8)) ?_
    exact WX.ret1 rfl rfl (fun w sw => ⟨[rd (Ty.sl Ty.u8) [] (.slice none 0 0)], [rdrBox b (.slice none 0 0) true], by rw [hr]; exact ⟨rfl, _, rfl, rfl⟩, sw.to⟩)
  · (repeat (first | refine vgo ?_ | refine ⟨_, rfl, rfl, ?_⟩ | refine ⟨_, rfl, ?_⟩ | refine ⟨rfl, ?_⟩ | intro hb | refine go2 ?_ | refine WC.seq (fun K hK => ?_) | ((first | refine hK _ _ _ ?_ | refine hK _ _ _ _ rfl ?_ | refine WX.thenExit (K := K) ?_); clear hK K) | (refine WX.thenExit (K := KL) ?_; clear hL KL)))
    refine dcB (fun h1 => ?_) (fun h1 => ?_)
    · have hr : intR most l bad = (0, [], true) := by rw [intR, if_pos (.inr h1)]
      (repeat (first | refine vgo ?_ | refine ⟨_, rfl, rfl, ?_⟩ | refine ⟨_, rfl, ?_⟩ | refine ⟨rfl, ?_⟩ | intro hb | refine go2 ?_ | refine WC.seq (fun K hK => ?_) | ((first | refine hK _ _ _ ?_ | refine hK _ _ _ _ rfl ?_ | refine WX.thenExit (K := K) ?_); clear hK K) | (refine WX.thenExit (K := KL) ?_; clear hL KL)))
      refine CallV.by' (spoil_fun b v2 (numR l bad).2.2) ?_; rintro _ _ _ ⟨rfl, rfl⟩; (try simp only [List.cons_append]); (try simp only [List.nil_append])
      (repeat (first | refine vgo ?_ | refine ⟨_, rfl, rfl, ?_⟩ | refine ⟨_, rfl, ?_⟩ | refine ⟨rfl, ?_⟩ | intro hb | refine go2 ?_ | refine WC.seq (fun K hK => ?_) | ((first | refine hK _ _ _ ?_ | refine hK _ _ _ _ rfl ?_ | refine WX.thenExit (K := K) ?_); clear hK K) | (refine WX.thenExit (K := KL) ?_; clear hL KL)))
      refine WX.sat (fun w sw => sw.rdNil (Ty.u8)) ?_
      exact WX.ret1 rfl rfl (fun w sw => ⟨[rd (Ty.sl Ty.u8) [] (.slice none 0 0)], [rdrBox b (.slice none 0 0) true], by rw [hr]; exact ⟨rfl, _, rfl, rfl⟩, sw.to⟩)
    · have hr : intR most l bad = numR l bad := by rw [intR, if_neg (by omega)]
      (repeat (first | refine vgo ?_ | refine ⟨_, rfl, rfl, ?_⟩ | refine ⟨_, rfl, ?_⟩ | refine ⟨rfl, ?_⟩ | intro hb | refine go2 ?_ | refine WC.seq (fun K hK => ?_) | ((first | refine hK _ _ _ ?_ | refine hK _ _ _ _ rfl ?_ | refine WX.thenExit (K := K) ?_); clear hK K) | (refine WX.thenExit (K := KL) ?_; clear hL KL)))
      exact WX.ret1 rfl rfl (fun w sw => ⟨[rd (Ty.sl Ty.u8) (numR l bad).2.1 v2], [rdrBox b v2 (numR l bad).2.2], by rw [hr]; exact ⟨rfl, _, rfl, rfl⟩, sw.to⟩)

set_option maxHeartbeats 800000 in
theorem bytes_fun (b : Nat) (v : Value) (l : List UInt8) (bad : Bool) : Fun Tryz.prog 71 [.pointer (some ⟨b, 0, none⟩)] [rd (Ty.sl Ty.u8) l v] [rdrBox b v bad]
    (fun r G S => ∃ v', G = [rd (Ty.sl Ty.u8) (bytR l bad).1 r, rd (Ty.sl Ty.u8) (bytR l bad).2.1 v'] ∧ S = [rdrBox b v' (bytR l bad).2.2]) := by
  have hle := intR_le 65536 l bad (by omega)
  refine Fun.enter Tryz.func71 (by kernel_rfl) rfl Tryz.ntmps71 rfl (fun B Gf Sf => ?_); (try simp only [List.cons_append]); (try simp only [List.nil_append]); simp only [argEnv]
  (repeat (first | refine vgo ?_ | refine ⟨_, rfl, rfl, ?_⟩ | refine ⟨_, rfl, ?_⟩ | refine ⟨rfl, ?_⟩ | intro hb | refine go2 ?_ | refine WC.seq (fun K hK => ?_) | ((first | refine hK _ _ _ ?_ | refine hK _ _ _ _ rfl ?_ | refine WX.thenExit (K := K) ?_); clear hK K) | (refine WX.thenExit (K := KL) ?_; clear hL KL)))
  refine CallV.by' (int_fun b v l bad 65536 (by omega)) ?_; rintro _ _ _ ⟨rfl, v2, rfl, rfl⟩; (try simp only [List.cons_append]); (try simp only [List.nil_append])
  obtain ⟨X, hX⟩ : ∃ X, X = bytR l bad := ⟨_, rfl⟩
  have hR := hX
  unfold bytR at hR
  generalize hE : intR 65536 l bad = E at *
  obtain ⟨N, rest, bd⟩ := E
  dsimp only at hle hR ⊢
  (repeat (first | refine vgo ?_ | refine ⟨_, rfl, rfl, ?_⟩ | refine ⟨_, rfl, ?_⟩ | refine ⟨rfl, ?_⟩ | intro hb | refine go2 ?_ | refine WC.seq (fun K hK => ?_) | ((first | refine hK _ _ _ ?_ | refine hK _ _ _ _ rfl ?_ | refine WX.thenExit (K := K) ?_); clear hK K) | (refine WX.thenExit (K := KL) ?_; clear hL KL)))
  refine dcB (fun h1 => ?_) (fun h1 => ?_)
  · rw [if_pos (by omega)] at hR
    (repeat (first | refine vgo ?_ | refine ⟨_, rfl, rfl, ?_⟩ | refine ⟨_, rfl, ?_⟩ | refine ⟨rfl, ?_⟩ | intro hb | refine go2 ?_ | refine WC.seq (fun K hK => ?_) | ((first | refine hK _ _ _ ?_ | refine hK _ _ _ _ rfl ?_ | refine WX.thenExit (K := K) ?_); clear hK K) | (refine WX.thenExit (K := KL) ?_; clear hL KL)))
    refine CallV.by' (spoil_fun b v2 bd) ?_; rintro _ _ _ ⟨rfl, rfl⟩; (try simp only [List.cons_append]); (try simp only [List.nil_append])
    (repeat (first | refine vgo ?_ | refine ⟨_, rfl, rfl, ?_⟩ | refine ⟨_, rfl, ?_⟩ | refine ⟨rfl, ?_⟩ | intro hb | refine go2 ?_ | refine WC.seq (fun K hK => ?_) | ((first | refine hK _ _ _ ?_ | refine hK _ _ _ _ rfl ?_ | refine WX.thenExit (K := K) ?_); clear hK K) | (refine WX.thenExit (K := KL) ?_; clear hL KL)))
    refine WX.sat (fun w sw => sw.rdNil (Ty.u8)) ?_
    exact WX.ret1 rfl rfl (fun w sw => ⟨[rd (Ty.sl Ty.u8) [] (.slice none 0 0), rd (Ty.sl Ty.u8) [] (.slice none 0 0)], [rdrBox b (.slice none 0 0) true], by rw [← hX, hR]; exact ⟨_, rfl, rfl⟩, sw.to⟩)
  · rw [if_neg (by omega)] at hR
    (repeat (first | refine vgo ?_ | refine ⟨_, rfl, rfl, ?_⟩ | refine ⟨_, rfl, ?_⟩ | refine ⟨rfl, ?_⟩ | intro hb | refine go2 ?_ | refine WC.seq (fun K hK => ?_) | ((first | refine hK _ _ _ ?_ | refine hK _ _ _ _ rfl ?_ | refine WX.thenExit (K := K) ?_); clear hK K) | (refine WX.thenExit (K := KL) ?_; clear hL KL)))
    refine WL.slc rfl rfl rfl rfl rfl ?_; refine SliceV.high rfl (N) (by omega) (by omega) ?_; intro r1
    (repeat (first | refine vgo ?_ | refine ⟨_, rfl, rfl, ?_⟩ | refine ⟨_, rfl, ?_⟩ | refine ⟨rfl, ?_⟩ | intro hb | refine go2 ?_ | refine WC.seq (fun K hK => ?_) | ((first | refine hK _ _ _ ?_ | refine hK _ _ _ _ rfl ?_ | refine WX.thenExit (K := K) ?_); clear hK K) | (refine WX.thenExit (K := KL) ?_; clear hL KL)))
    refine CallV.by' (clone_fun (rest.take N) r1 (by simp; omega)) ?_; rintro _ _ _ ⟨rfl, rfl⟩; (try simp only [List.cons_append]); (try simp only [List.nil_append])
    (repeat (first | refine vgo ?_ | refine ⟨_, rfl, rfl, ?_⟩ | refine ⟨_, rfl, ?_⟩ | refine ⟨rfl, ?_⟩ | intro hb | refine go2 ?_ | refine WC.seq (fun K hK => ?_) | ((first | refine hK _ _ _ ?_ | refine hK _ _ _ _ rfl ?_ | refine WX.thenExit (K := K) ?_); clear hK K) | (refine WX.thenExit (K := KL) ?_; clear hL KL)))
    refine WL.slc rfl rfl rfl rfl rfl ?_; refine SliceV.low rfl (N) (by omega) (by omega) ?_; intro r2
    (repeat (first | refine vgo ?_ | refine ⟨_, rfl, rfl, ?_⟩ | refine ⟨_, rfl, ?_⟩ | refine ⟨rfl, ?_⟩ | intro hb | refine go2 ?_ | refine WC.seq (fun K hK => ?_) | ((first | refine hK _ _ _ ?_ | refine hK _ _ _ _ rfl ?_ | refine WX.thenExit (K := K) ?_); clear hK K) | (refine WX.thenExit (K := KL) ?_; clear hL KL)))
    exact WX.ret1 rfl rfl (fun w sw => ⟨[rd (Ty.sl Ty.u8) (rest.take N) _, rd (Ty.sl Ty.u8) (rest.drop N) r2], [rdrBox b r2 bd], by rw [← hX, hR]; exact ⟨_, rfl, rfl⟩, sw.to⟩)

set_option maxHeartbeats 800000 in
theorem fine_fun (b : Nat) (v : Value) (bad : Bool) : Fun Tryz.prog 34 [.pointer (some ⟨b, 0, none⟩)] [] [rdrBox b v bad] (fun r G S => r = .bool (!bad) ∧ G = [] ∧ S = [rdrBox b v bad]) := by
  refine Fun.enter Tryz.func34 (by kernel_rfl) rfl Tryz.ntmps34 rfl (fun B Gf Sf => ?_); (try simp only [List.cons_append]); (try simp only [List.nil_append]); simp only [argEnv]
  (repeat (first | refine vgo ?_ | refine ⟨_, rfl, rfl, ?_⟩ | refine ⟨_, rfl, ?_⟩ | refine ⟨rfl, ?_⟩ | intro hb | refine go2 ?_ | refine WC.seq (fun K hK => ?_) | ((first | refine hK _ _ _ ?_ | refine hK _ _ _ _ rfl ?_ | refine WX.thenExit (K := K) ?_); clear hK K) | (refine WX.thenExit (K := KL) ?_; clear hL KL)))
  exact WX.ret1 rfl rfl (fun w sw => ⟨[], [rdrBox b v bad], ⟨rfl, rfl, rfl⟩, sw.to⟩)

set_option maxHeartbeats 800000 in
theorem end_fun (b : Nat) (v : Value) (l : List UInt8) (bad : Bool) : Fun Tryz.prog 15 [.pointer (some ⟨b, 0, none⟩)] [rd (Ty.sl Ty.u8) l v] [rdrBox b v bad] (fun r G S => r = .bool (!bad && l.isEmpty) ∧ G = [] ∧ S = [rdrBox b v bad]) := by
  refine Fun.enter Tryz.func15 (by kernel_rfl) rfl Tryz.ntmps15 rfl (fun B Gf Sf => ?_); (try simp only [List.cons_append]); (try simp only [List.nil_append]); simp only [argEnv]
  (repeat (first | refine vgo ?_ | refine ⟨_, rfl, rfl, ?_⟩ | refine ⟨_, rfl, ?_⟩ | refine ⟨rfl, ?_⟩ | intro hb | refine go2 ?_ | refine WC.seq (fun K hK => ?_) | ((first | refine hK _ _ _ ?_ | refine hK _ _ _ _ rfl ?_ | refine WX.thenExit (K := K) ?_); clear hK K) | (refine WX.thenExit (K := KL) ?_; clear hL KL)))
  refine CallV.by' (fine_fun b v bad) ?_; rintro _ _ _ ⟨rfl, rfl, rfl⟩; (try simp only [List.cons_append]); (try simp only [List.nil_append])
  cases bad with
  | true =>
    simp only [Bool.not_true]
    (repeat (first | refine vgo ?_ | refine ⟨_, rfl, rfl, ?_⟩ | refine ⟨_, rfl, ?_⟩ | refine ⟨rfl, ?_⟩ | intro hb | refine go2 ?_ | refine WC.seq (fun K hK => ?_) | ((first | refine hK _ _ _ ?_ | refine hK _ _ _ _ rfl ?_ | refine WX.thenExit (K := K) ?_); clear hK K) | (refine WX.thenExit (K := KL) ?_; clear hL KL)))
    exact WX.ret1 rfl rfl (fun w sw => ⟨[], [rdrBox b v true], ⟨rfl, rfl, rfl⟩, sw.to⟩)
  | false =>
    simp only [Bool.not_false]
    (repeat (first | refine vgo ?_ | refine ⟨_, rfl, rfl, ?_⟩ | refine ⟨_, rfl, ?_⟩ | refine ⟨rfl, ?_⟩ | intro hb | refine go2 ?_ | refine WC.seq (fun K hK => ?_) | ((first | refine hK _ _ _ ?_ | refine hK _ _ _ _ rfl ?_ | refine WX.thenExit (K := K) ?_); clear hK K) | (refine WX.thenExit (K := KL) ?_; clear hL KL)))
    exact WX.ret1 rfl rfl (fun w sw => ⟨[], [rdrBox b v false], ⟨by congr 1; cases l with | nil => simp | cons _ _ => simp; omega, rfl, rfl⟩, sw.to⟩)

set_option maxHeartbeats 800000 in
theorem read_fun (v : Value) (l : List UInt8) : Fun Tryz.prog 11 [v] [rd (Ty.sl Ty.u8) l v] [] (fun r G S => G = [] ∧ ∃ b, r = .pointer (some ⟨b, 0, none⟩) ∧ S = [rdrBox b v false]) := by
  refine Fun.enter Tryz.func11 (by kernel_rfl) rfl Tryz.ntmps11 rfl (fun B Gf Sf => ?_); (try simp only [List.cons_append]); (try simp only [List.nil_append]); simp only [argEnv]
  (repeat (first | refine vgo ?_ | refine ⟨_, rfl, rfl, ?_⟩ | refine ⟨_, rfl, ?_⟩ | refine ⟨rfl, ?_⟩ | intro hb | refine go2 ?_ | refine WC.seq (fun K hK => ?_) | ((first | refine hK _ _ _ ?_ | refine hK _ _ _ _ rfl ?_ | refine WX.thenExit (K := K) ?_); clear hK K) | (refine WX.thenExit (K := KL) ?_; clear hL KL)))
  (first | refine WL.boxA rfl rfl ?_ | refine WL.box rfl rfl rfl ?_); intro b
  (repeat (first | refine vgo ?_ | refine ⟨_, rfl, rfl, ?_⟩ | refine ⟨_, rfl, ?_⟩ | refine ⟨rfl, ?_⟩ | intro hb | refine go2 ?_ | refine WC.seq (fun K hK => ?_) | ((first | refine hK _ _ _ ?_ | refine hK _ _ _ _ rfl ?_ | refine WX.thenExit (K := K) ?_); clear hK K) | (refine WX.thenExit (K := KL) ?_; clear hL KL)))
  exact WX.ret1 rfl rfl (fun w sw => ⟨[], [rdrBox b v false], ⟨rfl, b, rfl, rfl⟩, sw.to⟩)

theorem rdNum_numB : ∀ (n k m : Nat) (r : List UInt8), n * 128 ^ k < 18446744073709551616 → m < 128 ^ k → k ≤ 9 → (0 < k → 0 < n) → rdNum k m (numB n ++ r) = some (m + n * 128 ^ k, r) := by
  intro n
  induction n using Nat.strongRecOn with
  | _ n ih =>
    intro k m r hn hm hk h0
    have hp := Nat.two_pow_pos (7 * k)
    by_cases hb : 128 ≤ n
    · have hk9 : k ≠ 9 := by rintro rfl; omega
      have hc : (UInt8.ofNat (n % 128 + 128)).toNat = n % 128 + 128 := by simp; omega
      rw [numB_big hb, List.cons_append, rdNum, hc, if_neg (by unfold brk; omega), if_neg (by omega)]
      have hnx : n / 128 * 128 ^ (k + 1) < 18446744073709551616 := by
        rw [Nat.pow_succ, Nat.mul_comm (128 ^ k) 128, ← Nat.mul_assoc]
        exact Nat.lt_of_le_of_lt (Nat.mul_le_mul_right _ (Nat.div_mul_le_self n 128)) hn
      rw [ih (n / 128) (by omega) (k + 1) _ r hnx (acc_next hm) (by omega) (by omega)]
      congr 2
      rw [Nat.pow_succ]
      have e1 : (n % 128 + 128) % 128 = n % 128 := by omega
      rw [e1, Nat.add_assoc, Nat.mul_comm (128 ^ k) 128, ← Nat.mul_assoc, ← Nat.add_mul]
      congr 2; omega
    · have hc : (UInt8.ofNat n).toNat = n := by simp; omega
      rw [numB_small hb, List.singleton_append, rdNum, hc, if_neg (by
        unfold brk
        rintro (⟨rfl, h⟩ | ⟨h, h2⟩)
        · omega
        · have := h0 h; omega), if_pos (by omega), Nat.mod_eq_of_lt (by omega)]
end Go.Qd
