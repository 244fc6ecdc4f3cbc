/-
  What the document's reader of numbers and bytes computes, and the rest of the reader's methods.
-/
import Derived.Test.YthkeakecckiokaaGreatPRead
namespace Go.Qd
open Go Go.Proofs

def valN : List UInt8 → Nat
  | [] => 0
  | c :: r => c.toNat % 128 + 128 * valN r
theorem valN_snoc : ∀ (l : List UInt8) (c : UInt8), valN (l ++ [c]) = valN l + c.toNat % 128 * 128 ^ l.length
  | [], c => by simp [valN]
  | d :: r, c => by
    rw [List.cons_append, valN, valN_snoc r c, valN, List.length_cons, Nat.pow_succ, Nat.mul_add, Nat.add_assoc]
    congr 2
    rw [Nat.mul_comm (128 ^ r.length) 128, ← Nat.mul_assoc, ← Nat.mul_assoc, Nat.mul_comm 128]
theorem valN_numB (n : Nat) : valN (numB n) = n := by
  induction n using Nat.strongRecOn with
  | _ n ih =>
    by_cases hb : 128 ≤ n
    · rw [numB_big hb, valN, ih _ (by omega)]; simp; omega
    · rw [numB_small hb]; simp [valN]; omega
theorem numB_shape (n : Nat) : ∃ p c, numB n = p ++ [c] ∧ (∀ x ∈ p, 128 ≤ x.toNat) ∧ c.toNat < 128 := by
  induction n using Nat.strongRecOn with
  | _ n ih =>
    by_cases hb : 128 ≤ n
    · obtain ⟨p, c, h1, h2, h3⟩ := ih (n / 128) (by omega)
      refine ⟨UInt8.ofNat (n % 128 + 128) :: p, c, by rw [numB_big hb, h1]; rfl, fun x hx => ?_, h3⟩
      rcases List.mem_cons.1 hx with rfl | hx
      · simp; omega
      · exact h2 x hx
    · exact ⟨[], UInt8.ofNat n, by rw [numB_small hb]; rfl, by simp, by simp; omega⟩
theorem small_first : ∀ (p q : List UInt8) (c d : UInt8) (r s : List UInt8), p ++ c :: r = q ++ d :: s → (∀ x ∈ p, 128 ≤ x.toNat) → c.toNat < 128 → (∀ x ∈ q, 128 ≤ x.toNat) → d.toNat < 128 → p = q ∧ c = d ∧ r = s
  | [], [], _, _, _, _, h, _, _, _, _ => by simpa using h
  | [], y :: q, c, d, r, s, h, _, hc, hq, _ => by
    simp at h; have := hq y (by simp); rw [← h.1] at this; omega
  | x :: p, [], c, d, r, s, h, hp, _, _, hd => by
    simp at h; have := hp x (by simp); rw [h.1] at this; omega
  | x :: p, y :: q, c, d, r, s, h, hp, hc, hq, hd => by
    simp only [List.cons_append, List.cons.injEq] at h
    obtain ⟨h1, h2, h3⟩ := small_first p q c d r s h.2 (fun z hz => hp z (by simp [hz])) hc (fun z hz => hq z (by simp [hz])) hd
    exact ⟨by rw [h.1, h1], h2, h3⟩
theorem rdNum_some : ∀ (l : List UInt8) (i m n : Nat) (r : List UInt8), rdNum i m l = some (n, r) → ∃ q, l = numB q ++ r ∧ n = m + q * 128 ^ i ∧ (0 < i → 0 < q)
  | [], _, _, _, _, h => by simp [rdNum] at h
  | c :: l, i, m, n, r, h => by
    rw [rdNum] at h
    by_cases hb : brk i c.toNat
    · rw [if_pos hb] at h; cases h
    rw [if_neg hb] at h
    have hc8 := c.toNat_lt
    by_cases h1 : c.toNat < 128
    · rw [if_pos h1] at h; cases h
      refine ⟨c.toNat, ?_, by rw [Nat.mod_eq_of_lt h1], fun hi => ?_⟩
      · rw [numB_small (by omega)]; simp
      · unfold brk at hb; omega
    · rw [if_neg h1] at h
      obtain ⟨q, h2, h3, h4⟩ := rdNum_some l (i + 1) _ n r h
      refine ⟨c.toNat % 128 + 128 * q, ?_, ?_, fun _ => by have := h4 (by omega); omega⟩
      · have hq := h4 (by omega)
        rw [numB_big (by omega), h2, show (c.toNat % 128 + 128 * q) / 128 = q from by omega, show (c.toNat % 128 + 128 * q) % 128 + 128 = c.toNat from by omega]
        simp
      · rw [h3, Nat.pow_succ, Nat.add_mul, Nat.add_assoc, Nat.mul_comm (128 ^ i) 128, ← Nat.mul_assoc, Nat.mul_comm q 128]
theorem rdNum_iff {l r : List UInt8} {n : Nat} : rdNum 0 0 l = some (n, r) ↔ l = numB n ++ r ∧ n < 18446744073709551616 := by
  constructor
  · intro h
    obtain ⟨q, h1, h2, _⟩ := rdNum_some _ _ _ _ _ h
    obtain rfl : n = q := by omega
    exact ⟨h1, rdNum_lt l 0 0 n r (by omega) (by simp) h⟩
  · rintro ⟨rfl, h⟩
    rw [rdNum_numB n 0 0 r (by omega) (by simp) (by omega) (by omega)]; simp
def takeR (l : List UInt8) : Nat × Nat :=
  match rdNum 0 0 l with
  | some (n, r) => (n, l.length - r.length)
  | none => (0, 0)
theorem takeR_hit {l : List UInt8} {k : Nat} {c : UInt8} (hk : l[k]? = some c) (hc : c.toNat < 128) (hall : ∀ x ∈ l.take k, 128 ≤ x.toNat) :
    takeR l = if numB (valN (l.take (k + 1)) % 18446744073709551616) = l.take (k + 1) then (valN (l.take (k + 1)) % 18446744073709551616, k + 1) else (0, 0) := by
  have hlt := (List.getElem?_eq_some_iff.1 hk).1
  have hl : l = l.take k ++ c :: l.drop (k + 1) := by rw [← drop_get hk, List.take_append_drop]
  have hts : l.take (k + 1) = l.take k ++ [c] := by rw [List.take_add_one, hk]; rfl
  unfold takeR
  split
  · rename_i n r h
    obtain ⟨h1, h2⟩ := rdNum_iff.1 h
    obtain ⟨p, d, h3, h4, h5⟩ := numB_shape n
    obtain ⟨e1, e2, e3⟩ := small_first (l.take k) p c d (l.drop (k + 1)) r (by rw [← hl, h1, h3]; simp) hall hc h4 h5
    have e4 : l.take (k + 1) = numB n := by rw [hts, h3, e1, e2]
    rw [e4, valN_numB, Nat.mod_eq_of_lt h2, if_pos rfl, ← e3, List.length_drop]
    congr 1; omega
  · rename_i h
    rw [if_neg]
    intro e
    have : rdNum 0 0 l = some (valN (l.take (k + 1)) % 18446744073709551616, l.drop (k + 1)) := rdNum_iff.2 ⟨by rw [e, List.take_append_drop], Nat.mod_lt _ (by omega)⟩
    rw [this] at h; cases h
theorem numB_length1 : ∀ (k n : Nat), n < 128 ^ (k + 1) → (numB n).length ≤ k + 1
  | 0, n, h => by rw [numB_small (by simp at h; omega)]; simp
  | k + 1, n, h => by
    by_cases hn : 128 ≤ n
    · rw [numB_big hn, List.length_cons]
      have := numB_length1 k (n / 128) (by rw [Nat.pow_succ] at h; omega)
      omega
    · rw [numB_small hn]; simp
theorem numB_len10 {n : Nat} (h : n < 18446744073709551616) : (numB n).length ≤ 10 := numB_length1 9 n (by omega)
theorem takeR_miss {l : List UInt8} {k : Nat} (hall : ∀ x ∈ l.take k, 128 ≤ x.toNat) (hk : l.length ≤ k ∨ 10 ≤ k) : takeR l = (0, 0) := by
  unfold takeR
  split
  · rename_i n r h
    exfalso
    obtain ⟨h1, h2⟩ := rdNum_iff.1 h
    obtain ⟨p, d, h3, h4, h5⟩ := numB_shape n
    have h6 := numB_len10 h2
    rw [h3, List.length_append, List.length_singleton] at h6
    have : d ∈ l.take k := by
      rw [h1, h3]
      have hlen : p.length < k := by
        rcases hk with hk | hk
        · rw [h1, h3] at hk; simp at hk; omega
        · omega
      refine List.mem_iff_getElem?.2 ⟨p.length, ?_⟩
      rw [List.getElem?_take_of_lt hlen]; simp
    have := hall d this
    omega
  · rfl
theorem takeR_lt (l : List UInt8) : (takeR l).1 < 18446744073709551616 := by
  unfold takeR
  split
  · rename_i n r h; exact (rdNum_iff.1 h).2
  · simp
theorem takeR_le (l : List UInt8) : (takeR l).2 ≤ l.length := by
  unfold takeR
  split
  · simp
  · simp
/-- The document's number, and the reader's. -/
theorem takeR_numR (l : List UInt8) (bad : Bool) : numR l bad = if (takeR l).2 = 0 then (0, [], true) else ((takeR l).1, l.drop (takeR l).2, bad) := by
  unfold numR takeR
  cases h : rdNum 0 0 l with
  | none => simp
  | some x =>
    obtain ⟨n, r⟩ := x
    obtain ⟨h1, h2⟩ := rdNum_iff.1 h
    have hp : 0 < (numB n).length := by obtain ⟨p, c, h3, _⟩ := numB_shape n; rw [h3]; simp
    have e : l.length - r.length = (numB n).length := by rw [h1]; simp
    simp only [e]
    rw [if_neg (by omega), h1]; simp

def runR (l : List UInt8) : List UInt8 × Nat :=
  if (takeR l).2 = 0 ∨ 65536 < (takeR l).1 ∨ l.length - (takeR l).2 < (takeR l).1 then ([], 0) else (((l.drop (takeR l).2).take (takeR l).1), (takeR l).2 + (takeR l).1)
theorem runR_bytR (l : List UInt8) (bad : Bool) : bytR l bad = if (runR l).2 = 0 then ([], [], true) else ((runR l).1, l.drop (runR l).2, bad) := by
  have hle := takeR_le l
  have hn := takeR_numR l bad
  unfold bytR intR
  by_cases h0 : (takeR l).2 = 0
  · rw [if_pos h0] at hn
    have e : runR l = ([], 0) := by rw [runR, if_pos (.inl h0)]
    rw [hn, e]; simp
  · rw [if_neg h0] at hn
    rw [hn]
    by_cases h1 : 65536 < (takeR l).1
    · have e : runR l = ([], 0) := by rw [runR, if_pos (.inr (.inl h1))]
      have e2 : ((65536 : Int) < 0 ∨ (65536 : Int) < ((takeR l).1 : Int)) := .inr (by omega)
      simp only [e, if_pos e2]; simp
    · have e2 : ¬ ((65536 : Int) < 0 ∨ (65536 : Int) < ((takeR l).1 : Int)) := by omega
      simp only [if_neg e2, List.length_drop]
      by_cases h2 : l.length - (takeR l).2 < (takeR l).1
      · have e : runR l = ([], 0) := by rw [runR, if_pos (.inr (.inr h2))]
        rw [if_pos h2, e]; simp
      · have e : runR l = (((l.drop (takeR l).2).take (takeR l).1), (takeR l).2 + (takeR l).1) := by rw [runR, if_neg (by omega)]
        rw [if_neg h2, e]
        dsimp only
        rw [if_neg (by omega), List.drop_drop]
theorem runR_le (l : List UInt8) : (runR l).2 ≤ l.length := by
  have hle := takeR_le l
  unfold runR
  split
  · simp
  · dsimp only; omega

theorem step_val {V s c : Nat} {x : Int} (h : x = ((s % 18446744073709551616 : Nat) : Int)) : IntKind.u64.wrap (((V % 18446744073709551616 : Nat) : Int) + IntKind.u64.wrap (x * ((c : Nat) : Int))) = (((V + c * s) % 18446744073709551616 : Nat) : Int) := by
  rw [h, wrap_u64, wrap_u64, ← Int.natCast_mul]
  have e : (V + c * s) % 18446744073709551616 = (V % 18446744073709551616 + (s % 18446744073709551616 * c) % 18446744073709551616) % 18446744073709551616 := by
    rw [Nat.mod_mul_mod, Nat.mul_comm s c, ← Nat.add_mod]
  rw [e]; omega
theorem step_scale {k : Nat} : IntKind.u64.wrap (((128 ^ k % 18446744073709551616 : Nat) : Int) * 128) = ((128 ^ (k + 1) % 18446744073709551616 : Nat) : Int) := by
  rw [wrap_u64, Nat.pow_succ]; omega

set_option maxHeartbeats 800000 in
theorem rtake_fun (l : List UInt8) (v : Value) : Fun Tryz.prog 18 [v] [rd (Ty.sl Ty.u8) l v] [] (fun r G S => S = [] ∧ G = [] ∧ r = .tuple #[.int .u64 (takeR l).1, .int .i64 (takeR l).2]) := by
  refine Fun.enter Tryz.func18 (by kernel_rfl) rfl Tryz.ntmps18 rfl (fun B Gf Sf => ?_); (try simp only [List.cons_append]); (try simp only [List.nil_append]); simp only [argEnv]
  refine WC.ex (fun w sw => sw.len_le (RdSl.h (v := v))) (fun hl => ?_)
  (repeat (first | refine vgo ?_ | refine ⟨_, rfl, rfl, ?_⟩ | refine ⟨_, rfl, ?_⟩ | refine ⟨rfl, ?_⟩ | intro hb | refine go2 ?_ | refine WC.seq (fun K hK => ?_) | ((first | refine hK _ _ _ ?_ | refine hK _ _ _ _ rfl ?_ | refine WX.thenExit (K := K) ?_); clear hK K) | (refine WX.thenExit (K := KL) ?_; clear hL KL)))
  refine WC.loop (I := Nat) (fun i => [(6, .int .i64 i), (5, .int .u64 ((128 ^ i % 18446744073709551616 : Nat) : Int)), (4, .int .u64 ((valN (l.take i) % 18446744073709551616 : Nat) : Int)), (0, v)]) (fun _ => rd (Ty.sl Ty.u8) l v :: Gf) (fun _ => Sf) (fun i => i ≤ l.length ∧ i ≤ 10 ∧ ∀ x ∈ l.take i, 128 ≤ x.toNat) (fun i => l.length - i) 0 (by simp) (.cons rfl (.cons rfl (.cons rfl (.cons rfl .nil)))) (fun w h => h) ?_
  rintro k ⟨hi, hk10, hall⟩ KL hL
  by_cases hk : (k : Int) < (l.length : Int)
  · (repeat (first | refine vgo ?_ | refine ⟨_, rfl, rfl, ?_⟩ | refine ⟨_, rfl, ?_⟩ | refine ⟨rfl, ?_⟩ | intro hb | refine go2 ?_ | refine WC.seq (fun K hK => ?_) | ((first | refine hK _ _ _ ?_ | refine hK _ _ _ _ rfl ?_ | refine WX.thenExit (K := K) ?_); clear hK K) | (refine WX.thenExit (K := KL) ?_; clear hL KL)))
    refine dcB (fun h10 => ?_) (fun h10 => ?_)
    · obtain ⟨c, hx, hts⟩ := get_ex (l := l) (k := k) (by omega)
      have hc8 := c.toNat_lt
      have hval : valN (l.take (k + 1)) = valN (l.take k) + c.toNat % 128 * 128 ^ k := by rw [hts, valN_snoc, List.length_take, Nat.min_eq_left (by omega)]
      (repeat (first | refine vgo ?_ | refine ⟨_, rfl, rfl, ?_⟩ | refine ⟨_, rfl, ?_⟩ | refine ⟨rfl, ?_⟩ | intro hb | refine go2 ?_ | refine WC.seq (fun K hK => ?_) | ((first | refine hK _ _ _ ?_ | refine hK _ _ _ _ rfl ?_ | refine WX.thenExit (K := K) ?_); clear hK K) | (refine WX.thenExit (K := KL) ?_; clear hL KL)))
      have e1 : ((c.toNat : Int) % 128) = ((c.toNat % 128 : Nat) : Int) := by omega
      rw [e1]
      (repeat (first | refine vgo ?_ | refine ⟨_, rfl, rfl, ?_⟩ | refine ⟨_, rfl, ?_⟩ | refine ⟨rfl, ?_⟩ | intro hb | refine go2 ?_ | refine WC.seq (fun K hK => ?_) | ((first | refine hK _ _ _ ?_ | refine hK _ _ _ _ rfl ?_ | refine WX.thenExit (K := K) ?_); clear hK K) | (refine WX.thenExit (K := KL) ?_; clear hL KL)))
      rw [step_val rfl, ← hval, step_scale]
      refine dcB (fun h128 => ?_) (fun h128 => ?_)
      · have hh := takeR_hit hx (by omega) hall
        have hM := Nat.mod_lt (valN (l.take (k + 1))) (show 18446744073709551616 > 0 by omega)
        generalize valN (l.take (k + 1)) % 18446744073709551616 = N at *
        (repeat (first | refine vgo ?_ | refine ⟨_, rfl, rfl, ?_⟩ | refine ⟨_, rfl, ?_⟩ | refine ⟨rfl, ?_⟩ | intro hb | refine go2 ?_ | refine WC.seq (fun K hK => ?_) | ((first | refine hK _ _ _ ?_ | refine hK _ _ _ _ rfl ?_ | refine WX.thenExit (K := K) ?_); clear hK K) | (refine WX.thenExit (K := KL) ?_; clear hL KL)))
        refine CallV.by' (rnum_fun N hM) ?_; rintro _ _ _ ⟨rfl, rfl⟩; (try simp only [List.cons_append]); (try simp only [List.nil_append])
        rename_i vx
        (repeat (first | refine vgo ?_ | refine ⟨_, rfl, rfl, ?_⟩ | refine ⟨_, rfl, ?_⟩ | refine ⟨rfl, ?_⟩ | intro hb | refine go2 ?_ | refine WC.seq (fun K hK => ?_) | ((first | refine hK _ _ _ ?_ | refine hK _ _ _ _ rfl ?_ | refine WX.thenExit (K := K) ?_); clear hK K) | (refine WX.thenExit (K := KL) ?_; clear hL KL)))
        refine WC.sat (fun w sw => sw.pub (R := (Ty.u8)) (l := (numB N)) (v := vx) SelOwn.h rfl (by rw [flat_u8s]) rfl (fun _ _ => trivial)) ?_
        (apply WC.draw; exact rfl; focus (repeat (first | exact Wo.nil | (apply Wo.keep; exact rfl) | (apply Wo.drop; exact rfl)))); (repeat (apply Obls.cons; focus ((repeat (intro _)); (conv => whnf); (repeat (first | refine vgo ?_ | refine ⟨_, rfl, rfl, ?_⟩ | refine ⟨_, rfl, ?_⟩ | refine ⟨rfl, ?_⟩ | intro hb | refine go2 ?_ | refine WC.seq (fun K hK => ?_) | ((first | refine hK _ _ _ ?_ | refine hK _ _ _ _ rfl ?_ | refine WX.thenExit (K := K) ?_); clear hK K) | (refine WX.thenExit (K := KL) ?_; clear hL KL))); first | exact WX.pqIs rfl | exact WX.pqRd rfl | exact WX.pqCell rfl | exact WX.pqNone))); try (refine Obls.nil ?_; (repeat (intro _)); (conv => whnf))
        apply Obls.cons
        focus
          (repeat (intro _)); (conv => whnf)
          (repeat (first | refine vgo ?_ | refine ⟨_, rfl, rfl, ?_⟩ | refine ⟨_, rfl, ?_⟩ | refine ⟨rfl, ?_⟩ | intro hb | refine go2 ?_ | refine WC.seq (fun K hK => ?_) | ((first | refine hK _ _ _ ?_ | refine hK _ _ _ _ rfl ?_ | refine WX.thenExit (K := K) ?_); clear hK K) | (refine WX.thenExit (K := KL) ?_; clear hL KL)))
          refine WL.slc rfl rfl rfl rfl rfl ?_; refine SliceV.high rfl (k + 1) (by omega) (by omega) ?_; intro r
          (repeat (first | refine vgo ?_ | refine ⟨_, rfl, rfl, ?_⟩ | refine ⟨_, rfl, ?_⟩ | refine ⟨rfl, ?_⟩ | intro hb | refine go2 ?_ | refine WC.seq (fun K hK => ?_) | ((first | refine hK _ _ _ ?_ | refine hK _ _ _ _ rfl ?_ | refine WX.thenExit (K := K) ?_); clear hK K) | (refine WX.thenExit (K := KL) ?_; clear hL KL)))
          first | exact WX.pqIs rfl | exact WX.pqRd rfl | exact WX.pqCell rfl | exact WX.pqNone
        (repeat (apply Obls.cons; focus ((repeat (intro _)); (conv => whnf); (repeat (first | refine vgo ?_ | refine ⟨_, rfl, rfl, ?_⟩ | refine ⟨_, rfl, ?_⟩ | refine ⟨rfl, ?_⟩ | intro hb | refine go2 ?_ | refine WC.seq (fun K hK => ?_) | ((first | refine hK _ _ _ ?_ | refine hK _ _ _ _ rfl ?_ | refine WX.thenExit (K := K) ?_); clear hK K) | (refine WX.thenExit (K := KL) ?_; clear hL KL))); first | exact WX.pqIs rfl | exact WX.pqRd rfl | exact WX.pqCell rfl | exact WX.pqNone))); try (refine Obls.nil ?_; (repeat (intro _)); (conv => whnf))
        (repeat (first | refine vgo ?_ | refine ⟨_, rfl, rfl, ?_⟩ | refine ⟨_, rfl, ?_⟩ | refine ⟨rfl, ?_⟩ | intro hb | refine go2 ?_ | refine WC.seq (fun K hK => ?_) | ((first | refine hK _ _ _ ?_ | refine hK _ _ _ _ rfl ?_ | refine WX.thenExit (K := K) ?_); clear hK K) | (refine WX.thenExit (K := KL) ?_; clear hL KL)))
        refine dcB (fun hne => ?_) (fun hne => ?_)
        · rw [if_neg hne] at hh
          (repeat (first | refine vgo ?_ | refine ⟨_, rfl, rfl, ?_⟩ | refine ⟨_, rfl, ?_⟩ | refine ⟨rfl, ?_⟩ | intro hb | refine go2 ?_ | refine WC.seq (fun K hK => ?_) | ((first | refine hK _ _ _ ?_ | refine hK _ _ _ _ rfl ?_ | refine WX.thenExit (K := K) ?_); clear hK K) | (refine WX.thenExit (K := KL) ?_; clear hL KL)))
          exact WX.ret2 rfl rfl rfl (fun w sw => ⟨[], [], ⟨rfl, rfl, by rw [hh]; rfl⟩, sw.to⟩)
        · rw [if_pos (by simpa using hne)] at hh
          (repeat (first | refine vgo ?_ | refine ⟨_, rfl, rfl, ?_⟩ | refine ⟨_, rfl, ?_⟩ | refine ⟨rfl, ?_⟩ | intro hb | refine go2 ?_ | refine WC.seq (fun K hK => ?_) | ((first | refine hK _ _ _ ?_ | refine hK _ _ _ _ rfl ?_ | refine WX.thenExit (K := K) ?_); clear hK K) | (refine WX.thenExit (K := KL) ?_; clear hL KL)))
          exact WX.ret2 rfl rfl rfl (fun w sw => ⟨[], [], ⟨rfl, rfl, by rw [hh]; rfl⟩, sw.to⟩)
      · (repeat (first | refine vgo ?_ | refine ⟨_, rfl, rfl, ?_⟩ | refine ⟨_, rfl, ?_⟩ | refine ⟨rfl, ?_⟩ | intro hb | refine go2 ?_ | refine WC.seq (fun K hK => ?_) | ((first | refine hK _ _ _ ?_ | refine hK _ _ _ _ rfl ?_ | refine WX.thenExit (K := K) ?_); clear hK K) | (refine WX.thenExit (K := KL) ?_; clear hL KL)))
        refine (hL (k + 1) ⟨by omega, by omega, ?_⟩ (by omega)).conv (.cons rfl (.cons rfl (.cons rfl (.cons rfl .nil)))) (fun _ h => h.to)
        rw [hts]
        intro x hx
        rcases List.mem_append.1 hx with hx | hx
        · exact hall x hx
        · simp at hx; subst hx; omega
    · have hh := takeR_miss hall (.inr (by omega))
      (repeat (first | refine vgo ?_ | refine ⟨_, rfl, rfl, ?_⟩ | refine ⟨_, rfl, ?_⟩ | refine ⟨rfl, ?_⟩ | intro hb | refine go2 ?_ | refine WC.seq (fun K hK => ?_) | ((first | refine hK _ _ _ ?_ | refine hK _ _ _ _ rfl ?_ | refine WX.thenExit (K := K) ?_); clear hK K) | (refine WX.thenExit (K := KL) ?_; clear hL KL)))
      exact WX.ret2 rfl rfl rfl (fun w sw => ⟨[], [], ⟨rfl, rfl, by rw [hh]; rfl⟩, sw.to⟩)
  · have hh := takeR_miss hall (.inl (by omega))
    (repeat (first | refine vgo ?_ | refine ⟨_, rfl, rfl, ?_⟩ | refine ⟨_, rfl, ?_⟩ | refine ⟨rfl, ?_⟩ | intro hb | refine go2 ?_ | refine WC.seq (fun K hK => ?_) | ((first | refine hK _ _ _ ?_ | refine hK _ _ _ _ rfl ?_ | refine WX.thenExit (K := K) ?_); clear hK K) | (refine WX.thenExit (K := KL) ?_; clear hL KL)))
    exact WX.ret2 rfl rfl rfl (fun w sw => ⟨[], [], ⟨rfl, rfl, by rw [hh]; rfl⟩, sw.to⟩)

set_option maxHeartbeats 800000 in
theorem rrun_fun (l : List UInt8) (v : Value) : Fun Tryz.prog 61 [v] [rd (Ty.sl Ty.u8) l v] [] (fun r G S => S = [] ∧ ∃ u, G = [rd (Ty.sl Ty.u8) (runR l).1 u] ∧ r = .tuple #[u, .int .i64 (runR l).2]) := by
  have hlt := takeR_lt l
  have hle := takeR_le l
  refine Fun.enter Tryz.func61 (by kernel_rfl) rfl Tryz.ntmps61 rfl (fun B Gf Sf => ?_); (try simp only [List.cons_append]); (try simp only [List.nil_append]); simp only [argEnv]
  refine WC.ex (fun w sw => sw.len_le (RdSl.h (v := v))) (fun hl => ?_)
  (repeat (first | refine vgo ?_ | refine ⟨_, rfl, rfl, ?_⟩ | refine ⟨_, rfl, ?_⟩ | refine ⟨rfl, ?_⟩ | intro hb | refine go2 ?_ | refine WC.seq (fun K hK => ?_) | ((first | refine hK _ _ _ ?_ | refine hK _ _ _ _ rfl ?_ | refine WX.thenExit (K := K) ?_); clear hK K) | (refine WX.thenExit (K := KL) ?_; clear hL KL)))
  refine CallV.by' (rtake_fun l v) ?_; rintro _ _ _ ⟨rfl, rfl, rfl⟩; (try simp only [List.cons_append]); (try simp only [List.nil_append])
  have hrun : runR l = if (takeR l).2 = 0 ∨ 65536 < (takeR l).1 ∨ l.length - (takeR l).2 < (takeR l).1 then ([], 0) else (((l.drop (takeR l).2).take (takeR l).1), (takeR l).2 + (takeR l).1) := rfl
  generalize takeR l = T at *
  obtain ⟨n, k⟩ := T
  dsimp only at hlt hle hrun ⊢
  by_cases h0 : (k : Int) = 0
  · rw [if_pos (by omega)] at hrun
    (repeat (first | refine vgo ?_ | refine ⟨_, rfl, rfl, ?_⟩ | refine ⟨_, rfl, ?_⟩ | refine ⟨rfl, ?_⟩ | intro hb | refine go2 ?_ | refine WC.seq (fun K hK => ?_) | ((first | refine hK _ _ _ ?_ | refine hK _ _ _ _ rfl ?_ | refine WX.thenExit (K := K) ?_); clear hK K) | (refine WX.thenExit (K := KL) ?_; clear hL KL)))
    refine WX.sat (fun w sw => sw.rdNil (Ty.u8)) ?_
    exact WX.ret2 rfl rfl rfl (fun w sw => ⟨[rd (Ty.sl Ty.u8) [] (.slice none 0 0)], [], ⟨rfl, _, by rw [hrun], by rw [hrun]; rfl⟩, sw.to⟩)
  · by_cases h1 : (65536 : Int) < (n : Int)
    · rw [if_pos (by omega)] at hrun
      (repeat (first | refine vgo ?_ | refine ⟨_, rfl, rfl, ?_⟩ | refine ⟨_, rfl, ?_⟩ | refine ⟨rfl, ?_⟩ | intro hb | refine go2 ?_ | refine WC.seq (fun K hK => ?_) | ((first | refine hK _ _ _ ?_ | refine hK _ _ _ _ rfl ?_ | refine WX.thenExit (K := K) ?_); clear hK K) | (refine WX.thenExit (K := KL) ?_; clear hL KL)))
      refine WX.sat (fun w sw => sw.rdNil (Ty.u8)) ?_
      exact WX.ret2 rfl rfl rfl (fun w sw => ⟨[rd (Ty.sl Ty.u8) [] (.slice none 0 0)], [], ⟨rfl, _, by rw [hrun], by rw [hrun]; rfl⟩, sw.to⟩)
    · (repeat (first | refine vgo ?_ | refine ⟨_, rfl, rfl, ?_⟩ | refine ⟨_, rfl, ?_⟩ | refine ⟨rfl, ?_⟩ | intro hb | refine go2 ?_ | refine WC.seq (fun K hK => ?_) | ((first | refine hK _ _ _ ?_ | refine hK _ _ _ _ rfl ?_ | refine WX.thenExit (K := K) ?_); clear hK K) | (refine WX.thenExit (K := KL) ?_; clear hL KL)))
      refine dcB (fun h2 => ?_) (fun h2 => ?_)
      · rw [if_pos (by omega)] at hrun
        (repeat (first | refine vgo ?_ | refine ⟨_, rfl, rfl, ?_⟩ | refine ⟨_, rfl, ?_⟩ | refine ⟨rfl, ?_⟩ | intro hb | refine go2 ?_ | refine WC.seq (fun K hK => ?_) | ((first | refine hK _ _ _ ?_ | refine hK _ _ _ _ rfl ?_ | refine WX.thenExit (K := K) ?_); clear hK K) | (refine WX.thenExit (K := KL) ?_; clear hL KL)))
        refine WX.sat (fun w sw => sw.rdNil (Ty.u8)) ?_
        exact WX.ret2 rfl rfl rfl (fun w sw => ⟨[rd (Ty.sl Ty.u8) [] (.slice none 0 0)], [], ⟨rfl, _, by rw [hrun], by rw [hrun]; rfl⟩, sw.to⟩)
      · rw [if_neg (by omega)] at hrun
        (repeat (first | refine vgo ?_ | refine ⟨_, rfl, rfl, ?_⟩ | refine ⟨_, rfl, ?_⟩ | refine ⟨rfl, ?_⟩ | intro hb | refine go2 ?_ | refine WC.seq (fun K hK => ?_) | ((first | refine hK _ _ _ ?_ | refine hK _ _ _ _ rfl ?_ | refine WX.thenExit (K := K) ?_); clear hK K) | (refine WX.thenExit (K := KL) ?_; clear hL KL)))
        refine WL.slc rfl rfl rfl rfl rfl ?_; refine SliceV.both rfl (k) (k + n) (by omega) (by omega) (by omega) (by omega) ?_; intro r
        (repeat (first | refine vgo ?_ | refine ⟨_, rfl, rfl, ?_⟩ | refine ⟨_, rfl, ?_⟩ | refine ⟨rfl, ?_⟩ | intro hb | refine go2 ?_ | refine WC.seq (fun K hK => ?_) | ((first | refine hK _ _ _ ?_ | refine hK _ _ _ _ rfl ?_ | refine WX.thenExit (K := K) ?_); clear hK K) | (refine WX.thenExit (K := KL) ?_; clear hL KL)))
        refine WX.ret2 rfl rfl rfl (fun w sw => ⟨[rd (Ty.sl Ty.u8) (runR l).1 r], [], ⟨rfl, r, rfl, by rw [hrun]; congr 3⟩, ?_⟩)
        have e : (l.take (k + n)).drop k = (runR l).1 := by rw [hrun, List.drop_take]; congr 1; omega
        rw [e] at sw
        exact sw.to

set_option maxHeartbeats 800000 in
theorem text_fun (b : Nat) (v : Value) (l : List UInt8) (bad : Bool) : Fun Tryz.prog 54 [.pointer (some ⟨b, 0, none⟩)] [rd (Ty.sl Ty.u8) l v] [rdrBox b v bad]
    (fun r G S => r = .string (bs (bytR l bad).1) ∧ ∃ v', G = [rd (Ty.sl Ty.u8) (bytR l bad).2.1 v'] ∧ S = [rdrBox b v' (bytR l bad).2.2]) := by
  refine Fun.enter Tryz.func54 (by kernel_rfl) rfl Tryz.ntmps54 rfl (fun B Gf Sf => ?_); (try simp only [List.cons_append]); (try simp only [List.nil_append]); simp only [argEnv]
  (repeat (first | refine vgo ?_ | refine ⟨_, rfl, rfl, ?_⟩ | refine ⟨_, rfl, ?_⟩ | refine ⟨rfl, ?_⟩ | intro hb | refine go2 ?_ | refine WC.seq (fun K hK => ?_) | ((first | refine hK _ _ _ ?_ | refine hK _ _ _ _ rfl ?_ | refine WX.thenExit (K := K) ?_); clear hK K) | (refine WX.thenExit (K := KL) ?_; clear hL KL)))
  refine CallV.by' (bytes_fun b v l bad) ?_; rintro _ _ _ ⟨v2, rfl, rfl⟩; (try simp only [List.cons_append]); (try simp only [List.nil_append])
  (repeat (first | refine vgo ?_ | refine ⟨_, rfl, rfl, ?_⟩ | refine ⟨_, rfl, ?_⟩ | refine ⟨rfl, ?_⟩ | intro hb | refine go2 ?_ | refine WC.seq (fun K hK => ?_) | ((first | refine hK _ _ _ ?_ | refine hK _ _ _ _ rfl ?_ | refine WX.thenExit (K := K) ?_); clear hK K) | (refine WX.thenExit (K := KL) ?_; clear hL KL)))
  exact WX.ret1 rfl rfl (fun w sw => ⟨[rd (Ty.sl Ty.u8) (bytR l bad).2.1 v2], [rdrBox b v2 (bytR l bad).2.2], ⟨rfl, _, rfl, rfl⟩, sw.to⟩)

end Go.Qd
