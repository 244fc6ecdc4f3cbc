/-
  A whole number as a text (the document's).
-/
import Derived.Test.YtkpblibaddjcgaaDoorPA1
namespace Go.Qd
open Go Go.Proofs

/-! ### A whole number as a text (the document's) -/
def decZ (m : Nat) : List UInt8 := if m = 0 then [] else decB m
theorem decB_step (m : Nat) : decB m = decZ (m / 10) ++ [UInt8.ofNat (48 + m % 10)] := by
  by_cases h : m < 10
  · rw [decB_small h, decZ, if_pos (by omega), Nat.mod_eq_of_lt h]; rfl
  · rw [decB_big h, decZ, if_neg (by omega)]
theorem tdiv_abs (k : Int) : (k.tdiv 10).natAbs = k.natAbs / 10 := by rw [Int.natAbs_tdiv]; rfl
theorem tmod_abs (k : Int) : (k.tmod 10).natAbs = k.natAbs % 10 := by rw [Int.natAbs_tmod]; rfl
set_option maxHeartbeats 1600000 in
theorem digits_fun (n : Int) (hn : -9223372036854775808 ≤ n ∧ n ≤ 9223372036854775807) : Fun Tryd.prog 18 [.int .i64 n] [] [] (fun r G S => r = .string (bs (intB n)) ∧ G = [] ∧ S = []) := by
  have hle := decB_le (n := n.natAbs) (by omega)
  refine Fun.enter Tryd.func18 (by kernel_rfl) rfl Tryd.ntmps18 rfl (fun B Gf Sf => ?_); (try simp only [List.cons_append]); (try simp only [List.nil_append]); simp only [argEnv]
  (repeat (first | refine vgo ?_ | refine ⟨_, rfl, rfl, ?_⟩ | refine ⟨_, rfl, ?_⟩ | refine ⟨rfl, ?_⟩ | intro hb | refine altA ?_ | refine altR ?_ | refine sideA ?_ | refine decTA ?_ | refine decFA ?_ | refine decNA ?_ | refine decBTA ?_ | refine decBFA ?_ | refine ⟨_, by assumption, ?_⟩ | refine ⟨_, _, _, rfl, ?_⟩ | refine WC.seq (fun K hK => ?_) | (refine hK _ _ _ ?_; clear hK K) | (refine hK _ _ _ _ rfl ?_; clear hK K) | (refine WX.thenExit (K := K) ?_; clear hK K) | (refine WX.thenExit (K := KL) ?_; clear hL KL)))
  refine WC.loop (I := Int × List UInt8) (fun i => [(4, .int .i64 i.1), (3, .string (bs i.2)), (0, .int .i64 n)]) (fun _ => Gf) (fun _ => Sf) (fun i => (-9223372036854775808 ≤ i.1 ∧ i.1 ≤ 9223372036854775807) ∧ i.2.length ≤ 20 ∧ (i.1 = n ∧ i.2 = [] ∨ i.2 ≠ [] ∧ decB n.natAbs = decZ i.1.natAbs ++ i.2)) (fun i => i.1.natAbs + (if i.2 = [] then 1 else 0)) (n, []) ⟨hn, by simp, .inl ⟨rfl, rfl⟩⟩ (.cons rfl (.cons rfl (.cons rfl .nil))) (fun w h => h) ?_
  rintro ⟨k, s⟩ ⟨hk1, hs, hinv⟩ KL hL
  dsimp only at hk1 hs hinv ⊢
  have step : (¬ k = 0 ∨ s = []) → decB n.natAbs = decZ (k.tdiv 10).natAbs ++ (UInt8.ofNat (48 + k.natAbs % 10) :: s) := by
    intro h
    rw [tdiv_abs]
    rcases hinv with ⟨rfl, rfl⟩ | ⟨h1, h2⟩
    · exact decB_step _
    · rw [h2, decZ, if_neg (by rcases h with h | h; omega; exact absurd h h1), decB_step]; simp
  have slen : (¬ k = 0 ∨ s = []) → s.length + 1 ≤ 20 := by
    intro h
    have := congrArg List.length (step h)
    simp at this; omega
  have next : (¬ k = 0 ∨ s = []) → WK 33 KL B [(4, .int .i64 (k.tdiv 10)), (3, .string (bs (UInt8.ofNat (48 + k.natAbs % 10) :: s))), (0, .int .i64 n)] Gf Sf := by
    intro h
    refine hL (k.tdiv 10, UInt8.ofNat (48 + k.natAbs % 10) :: s) ⟨?_, ?_, .inr ⟨by simp, step h⟩⟩ ?_
    · have := tdiv_abs k; dsimp only; omega
    · have := slen h; simp; omega
    · dsimp only
      rw [if_neg (by simp)]
      have := tdiv_abs k
      rcases h with h | h
      · omega
      · rw [if_pos h]; omega
  have hm := tmod_abs k
  have hd := tdiv_abs k
  (repeat (first | refine vgo ?_ | refine ⟨_, rfl, rfl, ?_⟩ | refine ⟨_, rfl, ?_⟩ | refine ⟨rfl, ?_⟩ | intro hb | refine altA ?_ | refine altR ?_ | refine sideA ?_ | refine decTA ?_ | refine decFA ?_ | refine decNA ?_ | refine decBTA ?_ | refine decBFA ?_ | refine ⟨_, by assumption, ?_⟩ | refine ⟨_, _, _, rfl, ?_⟩ | refine WC.seq (fun K hK => ?_) | (refine hK _ _ _ ?_; clear hK K) | (refine hK _ _ _ _ rfl ?_; clear hK K) | (refine WX.thenExit (K := K) ?_; clear hK K) | (refine WX.thenExit (K := KL) ?_; clear hL KL)))
  refine dcB (fun hk => ?_) (fun hk => ?_)
  · have sl := slen (.inl hk)
    have nx := next (.inl hk)
    (repeat (first | refine vgo ?_ | refine ⟨_, rfl, rfl, ?_⟩ | refine ⟨_, rfl, ?_⟩ | refine ⟨rfl, ?_⟩ | intro hb | refine altA ?_ | refine altR ?_ | refine sideA ?_ | refine decTA ?_ | refine decFA ?_ | refine decNA ?_ | refine decBTA ?_ | refine decBFA ?_ | refine ⟨_, by assumption, ?_⟩ | refine ⟨_, _, _, rfl, ?_⟩ | refine WC.seq (fun K hK => ?_) | (refine hK _ _ _ ?_; clear hK K) | (refine hK _ _ _ _ rfl ?_; clear hK K) | (refine WX.thenExit (K := K) ?_; clear hK K) | (refine WX.thenExit (K := KL) ?_; clear hL KL)))
    refine dcB (fun h0 => ?_) (fun h0 => ?_)
    · (repeat (first | refine vgo ?_ | refine ⟨_, rfl, rfl, ?_⟩ | refine ⟨_, rfl, ?_⟩ | refine ⟨rfl, ?_⟩ | intro hb | refine altA ?_ | refine altR ?_ | refine sideA ?_ | refine decTA ?_ | refine decFA ?_ | refine decNA ?_ | refine decBTA ?_ | refine decBFA ?_ | refine ⟨_, by assumption, ?_⟩ | refine ⟨_, _, _, rfl, ?_⟩ | refine WC.seq (fun K hK => ?_) | (refine hK _ _ _ ?_; clear hK K) | (refine hK _ _ _ _ rfl ?_; clear hK K) | (refine WX.thenExit (K := K) ?_; clear hK K) | (refine WX.thenExit (K := KL) ?_; clear hL KL)))
      refine WL.build rfl rfl rfl rfl rfl ?_; intro va; (try dsimp only [List.cons_append, List.nil_append])
      rw [u8i (a := 48 + (0 - k.tmod 10)) (m := 48 + k.natAbs % 10) (by omega) (by omega)]
      refine WL.sat (fun w sw => sw.pub (R := (Ty.u8)) (l := ([UInt8.ofNat (48 + k.natAbs % 10)])) (v := va) SelOwn.h rfl rfl rfl (fun _ _ => trivial)) ?_
      (repeat (first | refine vgo ?_ | refine ⟨_, rfl, rfl, ?_⟩ | refine ⟨_, rfl, ?_⟩ | refine ⟨rfl, ?_⟩ | intro hb | refine altA ?_ | refine altR ?_ | refine sideA ?_ | refine decTA ?_ | refine decFA ?_ | refine decNA ?_ | refine decBTA ?_ | refine decBFA ?_ | refine ⟨_, by assumption, ?_⟩ | refine ⟨_, _, _, rfl, ?_⟩ | refine WC.seq (fun K hK => ?_) | (refine hK _ _ _ ?_; clear hK K) | (refine hK _ _ _ _ rfl ?_; clear hK K) | (refine WX.thenExit (K := K) ?_; clear hK K) | (refine WX.thenExit (K := KL) ?_; clear hL KL)))
      rw [wrap_i64 (by omega)]
      exact nx.conv (.cons rfl (.cons rfl (.cons rfl .nil))) (fun _ h => h.to)
    · (repeat (first | refine vgo ?_ | refine ⟨_, rfl, rfl, ?_⟩ | refine ⟨_, rfl, ?_⟩ | refine ⟨rfl, ?_⟩ | intro hb | refine altA ?_ | refine altR ?_ | refine sideA ?_ | refine decTA ?_ | refine decFA ?_ | refine decNA ?_ | refine decBTA ?_ | refine decBFA ?_ | refine ⟨_, by assumption, ?_⟩ | refine ⟨_, _, _, rfl, ?_⟩ | refine WC.seq (fun K hK => ?_) | (refine hK _ _ _ ?_; clear hK K) | (refine hK _ _ _ _ rfl ?_; clear hK K) | (refine WX.thenExit (K := K) ?_; clear hK K) | (refine WX.thenExit (K := KL) ?_; clear hL KL)))
      refine WL.build rfl rfl rfl rfl rfl ?_; intro va; (try dsimp only [List.cons_append, List.nil_append])
      rw [u8i (a := 48 + k.tmod 10) (m := 48 + k.natAbs % 10) (by omega) (by omega)]
      refine WL.sat (fun w sw => sw.pub (R := (Ty.u8)) (l := ([UInt8.ofNat (48 + k.natAbs % 10)])) (v := va) SelOwn.h rfl rfl rfl (fun _ _ => trivial)) ?_
      (repeat (first | refine vgo ?_ | refine ⟨_, rfl, rfl, ?_⟩ | refine ⟨_, rfl, ?_⟩ | refine ⟨rfl, ?_⟩ | intro hb | refine altA ?_ | refine altR ?_ | refine sideA ?_ | refine decTA ?_ | refine decFA ?_ | refine decNA ?_ | refine decBTA ?_ | refine decBFA ?_ | refine ⟨_, by assumption, ?_⟩ | refine ⟨_, _, _, rfl, ?_⟩ | refine WC.seq (fun K hK => ?_) | (refine hK _ _ _ ?_; clear hK K) | (refine hK _ _ _ _ rfl ?_; clear hK K) | (refine WX.thenExit (K := K) ?_; clear hK K) | (refine WX.thenExit (K := KL) ?_; clear hL KL)))
      rw [wrap_i64 (by omega)]
      exact nx.conv (.cons rfl (.cons rfl (.cons rfl .nil))) (fun _ h => h.to)
  · (repeat (first | refine vgo ?_ | refine ⟨_, rfl, rfl, ?_⟩ | refine ⟨_, rfl, ?_⟩ | refine ⟨rfl, ?_⟩ | intro hb | refine altA ?_ | refine altR ?_ | refine sideA ?_ | refine decTA ?_ | refine decFA ?_ | refine decNA ?_ | refine decBTA ?_ | refine decBFA ?_ | refine ⟨_, by assumption, ?_⟩ | refine ⟨_, _, _, rfl, ?_⟩ | refine WC.seq (fun K hK => ?_) | (refine hK _ _ _ ?_; clear hK K) | (refine hK _ _ _ _ rfl ?_; clear hK K) | (refine WX.thenExit (K := K) ?_; clear hK K) | (refine WX.thenExit (K := KL) ?_; clear hL KL)))
    refine dcB (fun he => ?_) (fun he => ?_)
    · have sl := slen (.inr he)
      have nx := next (.inr he)
      have e0 : k.tdiv 10 = k / 10 := by rw [show k = 0 from by omega]; rfl
      rw [e0] at nx
      (repeat (first | refine vgo ?_ | refine ⟨_, rfl, rfl, ?_⟩ | refine ⟨_, rfl, ?_⟩ | refine ⟨rfl, ?_⟩ | intro hb | refine altA ?_ | refine altR ?_ | refine sideA ?_ | refine decTA ?_ | refine decFA ?_ | refine decNA ?_ | refine decBTA ?_ | refine decBFA ?_ | refine ⟨_, by assumption, ?_⟩ | refine ⟨_, _, _, rfl, ?_⟩ | refine WC.seq (fun K hK => ?_) | (refine hK _ _ _ ?_; clear hK K) | (refine hK _ _ _ _ rfl ?_; clear hK K) | (refine WX.thenExit (K := K) ?_; clear hK K) | (refine WX.thenExit (K := KL) ?_; clear hL KL)))
      refine WL.build rfl rfl rfl rfl rfl ?_; intro va; (try dsimp only [List.cons_append, List.nil_append])
      rw [u8i (a := 48 + k % 10) (m := 48 + k.natAbs % 10) (by omega) (by omega)]
      refine WL.sat (fun w sw => sw.pub (R := (Ty.u8)) (l := ([UInt8.ofNat (48 + k.natAbs % 10)])) (v := va) SelOwn.h rfl rfl rfl (fun _ _ => trivial)) ?_
      (repeat (first | refine vgo ?_ | refine ⟨_, rfl, rfl, ?_⟩ | refine ⟨_, rfl, ?_⟩ | refine ⟨rfl, ?_⟩ | intro hb | refine altA ?_ | refine altR ?_ | refine sideA ?_ | refine decTA ?_ | refine decFA ?_ | refine decNA ?_ | refine decBTA ?_ | refine decBFA ?_ | refine ⟨_, by assumption, ?_⟩ | refine ⟨_, _, _, rfl, ?_⟩ | refine WC.seq (fun K hK => ?_) | (refine hK _ _ _ ?_; clear hK K) | (refine hK _ _ _ _ rfl ?_; clear hK K) | (refine WX.thenExit (K := K) ?_; clear hK K) | (refine WX.thenExit (K := KL) ?_; clear hL KL)))
      exact nx.conv (.cons rfl (.cons rfl (.cons rfl .nil))) (fun _ h => h.to)
    · clear next
      have hf : decB n.natAbs = s := by
        rcases hinv with ⟨_, h⟩ | ⟨_, h⟩
        · exact absurd h he
        · rw [h, decZ, if_pos (by omega)]; rfl
      (repeat (first | refine vgo ?_ | refine ⟨_, rfl, rfl, ?_⟩ | refine ⟨_, rfl, ?_⟩ | refine ⟨rfl, ?_⟩ | intro hb | refine altA ?_ | refine altR ?_ | refine sideA ?_ | refine decTA ?_ | refine decFA ?_ | refine decNA ?_ | refine decBTA ?_ | refine decBFA ?_ | refine ⟨_, by assumption, ?_⟩ | refine ⟨_, _, _, rfl, ?_⟩ | refine WC.seq (fun K hK => ?_) | (refine hK _ _ _ ?_; clear hK K) | (refine hK _ _ _ _ rfl ?_; clear hK K) | (refine WX.thenExit (K := K) ?_; clear hK K) | (refine WX.thenExit (K := KL) ?_; clear hL KL)))
      refine dcB (fun hn0 => ?_) (fun hn0 => ?_)
      · (repeat (first | refine vgo ?_ | refine ⟨_, rfl, rfl, ?_⟩ | refine ⟨_, rfl, ?_⟩ | refine ⟨rfl, ?_⟩ | intro hb | refine altA ?_ | refine altR ?_ | refine sideA ?_ | refine decTA ?_ | refine decFA ?_ | refine decNA ?_ | refine decBTA ?_ | refine decBFA ?_ | refine ⟨_, by assumption, ?_⟩ | refine ⟨_, _, _, rfl, ?_⟩ | refine WC.seq (fun K hK => ?_) | (refine hK _ _ _ ?_; clear hK K) | (refine hK _ _ _ _ rfl ?_; clear hK K) | (refine WX.thenExit (K := K) ?_; clear hK K) | (refine WX.thenExit (K := KL) ?_; clear hL KL)))
        exact WX.ret1 rfl rfl (fun w sw => ⟨[], [], ⟨by rw [intB, if_pos hn0, hf]; rfl, rfl, rfl⟩, sw.to⟩)
      · (repeat (first | refine vgo ?_ | refine ⟨_, rfl, rfl, ?_⟩ | refine ⟨_, rfl, ?_⟩ | refine ⟨rfl, ?_⟩ | intro hb | refine altA ?_ | refine altR ?_ | refine sideA ?_ | refine decTA ?_ | refine decFA ?_ | refine decNA ?_ | refine decBTA ?_ | refine decBFA ?_ | refine ⟨_, by assumption, ?_⟩ | refine ⟨_, _, _, rfl, ?_⟩ | refine WC.seq (fun K hK => ?_) | (refine hK _ _ _ ?_; clear hK K) | (refine hK _ _ _ _ rfl ?_; clear hK K) | (refine WX.thenExit (K := K) ?_; clear hK K) | (refine WX.thenExit (K := KL) ?_; clear hL KL)))
        exact WX.ret1 rfl rfl (fun w sw => ⟨[], [], ⟨by rw [intB, if_neg hn0, hf], rfl, rfl⟩, sw.to⟩)
end Go.Qd
