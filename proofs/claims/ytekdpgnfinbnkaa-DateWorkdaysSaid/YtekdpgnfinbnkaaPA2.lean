/-
  What the functions on cells' names compute, a1's and the document's; numbers read and written.
-/
import Derived.Test.YtekdpgnfinbnkaaPA1
namespace Go.Qd
open Go Go.Proofs

/-! ### A whole number as a text (the document's) -/
def decZ (m : Nat) : List UInt8 := if m = 0 then [] else decB m
theorem decB_step (m : Nat) : decB m = decZ (m / 10) ++ [UInt8.ofNat (48 + m % 10)] := by
  by_cases h : m < 10
  · rw [decB_small h, decZ, if_pos (by omega), Nat.mod_eq_of_lt h]; rfl
  · rw [decB_big h, decZ, if_neg (by omega)]
theorem tdiv_abs (k : Int) : (k.tdiv 10).natAbs = k.natAbs / 10 := by rw [Int.natAbs_tdiv]; rfl
theorem tmod_abs (k : Int) : (k.tmod 10).natAbs = k.natAbs % 10 := by rw [Int.natAbs_tmod]; rfl
set_option maxHeartbeats 1600000 in
theorem digits_fun (n : Int) (hn : -9223372036854775808 ≤ n ∧ n ≤ 9223372036854775807) : Fun Try.prog 58 [.int .i64 n] [] [] (fun r G S => r = .string (bs (intB n)) ∧ G = [] ∧ S = []) := by
  have hle := decB_le (n := n.natAbs) (by omega)
  refine Fun.enter Try.func58 (by kernel_rfl) rfl Try.ntmps58 rfl (fun B Gf Sf => ?_); (try simp only [List.cons_append]); (try simp only [List.nil_append]); simp only [argEnv]
  (repeat (first | refine vgo ?_ | refine ⟨_, rfl, rfl, ?_⟩ | refine ⟨_, rfl, ?_⟩ | refine ⟨rfl, ?_⟩ | intro hb | (refine altL ?_ ?_; omega) | refine altR ?_ | (refine side ?_ ?_; first | omega | exact True.intro | ((try simp only [List.length_append, List.length_cons, List.length_nil, List.length_map, List.length_replicate, List.length_set, and_true, true_and]); omega) | assumption | (and_intros <;> first | omega | assumption) | decide) | (refine decT ?_ ?_; first | with_reducible assumption | with_reducible rfl | (refine not_not_intro ?_; with_reducible first | assumption | rfl) | omega | decide) | (refine decF ?_ ?_; first | with_reducible assumption | with_reducible rfl | (refine not_not_intro ?_; with_reducible first | assumption | rfl) | omega | decide) | (refine decBT ?_ ?_; with_reducible first | assumption | rfl) | (refine decBF ?_ ?_; with_reducible first | assumption | rfl) | refine ⟨_, by assumption, ?_⟩ | refine ⟨_, _, _, rfl, ?_⟩ | refine WC.seq (fun K hK => ?_) | (refine hK _ _ _ ?_; clear hK K) | (refine WX.thenExit (K := K) ?_; clear hK K) | (refine WX.thenExit (K := KL) ?_; clear hL KL)))
  refine WC.loop (I := Int × List UInt8) (fun i => [(4, .int .i64 i.1), (3, .string (bs i.2)), (0, .int .i64 n)]) (fun _ => Gf) (fun _ => Sf) (fun i => (-9223372036854775808 ≤ i.1 ∧ i.1 ≤ 9223372036854775807) ∧ i.2.length ≤ 20 ∧ (i.1 = n ∧ i.2 = [] ∨ i.2 ≠ [] ∧ decB n.natAbs = decZ i.1.natAbs ++ i.2)) (fun i => i.1.natAbs + (if i.2 = [] then 1 else 0)) (n, []) ⟨hn, by simp, .inl ⟨rfl, rfl⟩⟩ (.cons rfl (.cons rfl (.cons rfl .nil))) (fun w h => h) ?_
  rintro ⟨k, s⟩ ⟨hk1, hs, hinv⟩ KL hL
  dsimp only at hk1 hs hinv ⊢
  have step : (¬ k = 0 ∨ s = []) → decB n.natAbs = decZ (k.tdiv 10).natAbs ++ (UInt8.ofNat (48 + k.natAbs % 10) :: s) := by
    intro h
    rw [tdiv_abs]
    rcases hinv with ⟨rfl, rfl⟩ | ⟨h1, h2⟩
    · exact decB_step _
    · rw [h2, decZ, if_neg (by rcases h with h | h; omega; exact absurd h h1), decB_step]; simp
  have slen : (¬ k = 0 ∨ s = []) → s.length + 1 ≤ 20 := by
    intro h
    have := congrArg List.length (step h)
    simp at this; omega
  have next : (¬ k = 0 ∨ s = []) → WK 33 KL B [(4, .int .i64 (k.tdiv 10)), (3, .string (bs (UInt8.ofNat (48 + k.natAbs % 10) :: s))), (0, .int .i64 n)] Gf Sf := by
    intro h
    refine hL (k.tdiv 10, UInt8.ofNat (48 + k.natAbs % 10) :: s) ⟨?_, ?_, .inr ⟨by simp, step h⟩⟩ ?_
    · have := tdiv_abs k; dsimp only; omega
    · have := slen h; simp; omega
    · dsimp only
      rw [if_neg (by simp)]
      have := tdiv_abs k
      rcases h with h | h
      · omega
      · rw [if_pos h]; omega
  have hm := tmod_abs k
  have hd := tdiv_abs k
  (repeat (first | refine vgo ?_ | refine ⟨_, rfl, rfl, ?_⟩ | refine ⟨_, rfl, ?_⟩ | refine ⟨rfl, ?_⟩ | intro hb | (refine altL ?_ ?_; omega) | refine altR ?_ | (refine side ?_ ?_; first | omega | exact True.intro | ((try simp only [List.length_append, List.length_cons, List.length_nil, List.length_map, List.length_replicate, List.length_set, and_true, true_and]); omega) | assumption | (and_intros <;> first | omega | assumption) | decide) | (refine decT ?_ ?_; first | with_reducible assumption | with_reducible rfl | (refine not_not_intro ?_; with_reducible first | assumption | rfl) | omega | decide) | (refine decF ?_ ?_; first | with_reducible assumption | with_reducible rfl | (refine not_not_intro ?_; with_reducible first | assumption | rfl) | omega | decide) | (refine decBT ?_ ?_; with_reducible first | assumption | rfl) | (refine decBF ?_ ?_; with_reducible first | assumption | rfl) | refine ⟨_, by assumption, ?_⟩ | refine ⟨_, _, _, rfl, ?_⟩ | refine WC.seq (fun K hK => ?_) | (refine hK _ _ _ ?_; clear hK K) | (refine WX.thenExit (K := K) ?_; clear hK K) | (refine WX.thenExit (K := KL) ?_; clear hL KL)))
  refine dcB (fun hk => ?_) (fun hk => ?_)
  · have sl := slen (.inl hk)
    have nx := next (.inl hk)
    (repeat (first | refine vgo ?_ | refine ⟨_, rfl, rfl, ?_⟩ | refine ⟨_, rfl, ?_⟩ | refine ⟨rfl, ?_⟩ | intro hb | (refine altL ?_ ?_; omega) | refine altR ?_ | (refine side ?_ ?_; first | omega | exact True.intro | ((try simp only [List.length_append, List.length_cons, List.length_nil, List.length_map, List.length_replicate, List.length_set, and_true, true_and]); omega) | assumption | (and_intros <;> first | omega | assumption) | decide) | (refine decT ?_ ?_; first | with_reducible assumption | with_reducible rfl | (refine not_not_intro ?_; with_reducible first | assumption | rfl) | omega | decide) | (refine decF ?_ ?_; first | with_reducible assumption | with_reducible rfl | (refine not_not_intro ?_; with_reducible first | assumption | rfl) | omega | decide) | (refine decBT ?_ ?_; with_reducible first | assumption | rfl) | (refine decBF ?_ ?_; with_reducible first | assumption | rfl) | refine ⟨_, by assumption, ?_⟩ | refine ⟨_, _, _, rfl, ?_⟩ | refine WC.seq (fun K hK => ?_) | (refine hK _ _ _ ?_; clear hK K) | (refine WX.thenExit (K := K) ?_; clear hK K) | (refine WX.thenExit (K := KL) ?_; clear hL KL)))
    refine dcB (fun h0 => ?_) (fun h0 => ?_)
    · (repeat (first | refine vgo ?_ | refine ⟨_, rfl, rfl, ?_⟩ | refine ⟨_, rfl, ?_⟩ | refine ⟨rfl, ?_⟩ | intro hb | (refine altL ?_ ?_; omega) | refine altR ?_ | (refine side ?_ ?_; first | omega | exact True.intro | ((try simp only [List.length_append, List.length_cons, List.length_nil, List.length_map, List.length_replicate, List.length_set, and_true, true_and]); omega) | assumption | (and_intros <;> first | omega | assumption) | decide) | (refine decT ?_ ?_; first | with_reducible assumption | with_reducible rfl | (refine not_not_intro ?_; with_reducible first | assumption | rfl) | omega | decide) | (refine decF ?_ ?_; first | with_reducible assumption | with_reducible rfl | (refine not_not_intro ?_; with_reducible first | assumption | rfl) | omega | decide) | (refine decBT ?_ ?_; with_reducible first | assumption | rfl) | (refine decBF ?_ ?_; with_reducible first | assumption | rfl) | refine ⟨_, by assumption, ?_⟩ | refine ⟨_, _, _, rfl, ?_⟩ | refine WC.seq (fun K hK => ?_) | (refine hK _ _ _ ?_; clear hK K) | (refine WX.thenExit (K := K) ?_; clear hK K) | (refine WX.thenExit (K := KL) ?_; clear hL KL)))
      refine WL.build rfl rfl rfl rfl rfl ?_; intro va; (try dsimp only [List.cons_append, List.nil_append])
      rw [u8i (a := 48 + (0 - k.tmod 10)) (m := 48 + k.natAbs % 10) (by omega) (by omega)]
      refine WL.sat (fun w sw => sw.pub (R := (Ty.u8)) (l := ([UInt8.ofNat (48 + k.natAbs % 10)])) (v := va) SelOwn.h rfl rfl rfl (fun _ _ => trivial)) ?_
      (repeat (first | refine vgo ?_ | refine ⟨_, rfl, rfl, ?_⟩ | refine ⟨_, rfl, ?_⟩ | refine ⟨rfl, ?_⟩ | intro hb | (refine altL ?_ ?_; omega) | refine altR ?_ | (refine side ?_ ?_; first | omega | exact True.intro | ((try simp only [List.length_append, List.length_cons, List.length_nil, List.length_map, List.length_replicate, List.length_set, and_true, true_and]); omega) | assumption | (and_intros <;> first | omega | assumption) | decide) | (refine decT ?_ ?_; first | with_reducible assumption | with_reducible rfl | (refine not_not_intro ?_; with_reducible first | assumption | rfl) | omega | decide) | (refine decF ?_ ?_; first | with_reducible assumption | with_reducible rfl | (refine not_not_intro ?_; with_reducible first | assumption | rfl) | omega | decide) | (refine decBT ?_ ?_; with_reducible first | assumption | rfl) | (refine decBF ?_ ?_; with_reducible first | assumption | rfl) | refine ⟨_, by assumption, ?_⟩ | refine ⟨_, _, _, rfl, ?_⟩ | refine WC.seq (fun K hK => ?_) | (refine hK _ _ _ ?_; clear hK K) | (refine WX.thenExit (K := K) ?_; clear hK K) | (refine WX.thenExit (K := KL) ?_; clear hL KL)))
      rw [wrap_i64 (by omega)]
      exact nx.conv (.cons rfl (.cons rfl (.cons rfl .nil))) (fun _ h => h.to)
    · (repeat (first | refine vgo ?_ | refine ⟨_, rfl, rfl, ?_⟩ | refine ⟨_, rfl, ?_⟩ | refine ⟨rfl, ?_⟩ | intro hb | (refine altL ?_ ?_; omega) | refine altR ?_ | (refine side ?_ ?_; first | omega | exact True.intro | ((try simp only [List.length_append, List.length_cons, List.length_nil, List.length_map, List.length_replicate, List.length_set, and_true, true_and]); omega) | assumption | (and_intros <;> first | omega | assumption) | decide) | (refine decT ?_ ?_; first | with_reducible assumption | with_reducible rfl | (refine not_not_intro ?_; with_reducible first | assumption | rfl) | omega | decide) | (refine decF ?_ ?_; first | with_reducible assumption | with_reducible rfl | (refine not_not_intro ?_; with_reducible first | assumption | rfl) | omega | decide) | (refine decBT ?_ ?_; with_reducible first | assumption | rfl) | (refine decBF ?_ ?_; with_reducible first | assumption | rfl) | refine ⟨_, by assumption, ?_⟩ | refine ⟨_, _, _, rfl, ?_⟩ | refine WC.seq (fun K hK => ?_) | (refine hK _ _ _ ?_; clear hK K) | (refine WX.thenExit (K := K) ?_; clear hK K) | (refine WX.thenExit (K := KL) ?_; clear hL KL)))
      refine WL.build rfl rfl rfl rfl rfl ?_; intro va; (try dsimp only [List.cons_append, List.nil_append])
      rw [u8i (a := 48 + k.tmod 10) (m := 48 + k.natAbs % 10) (by omega) (by omega)]
      refine WL.sat (fun w sw => sw.pub (R := (Ty.u8)) (l := ([UInt8.ofNat (48 + k.natAbs % 10)])) (v := va) SelOwn.h rfl rfl rfl (fun _ _ => trivial)) ?_
      (repeat (first | refine vgo ?_ | refine ⟨_, rfl, rfl, ?_⟩ | refine ⟨_, rfl, ?_⟩ | refine ⟨rfl, ?_⟩ | intro hb | (refine altL ?_ ?_; omega) | refine altR ?_ | (refine side ?_ ?_; first | omega | exact True.intro | ((try simp only [List.length_append, List.length_cons, List.length_nil, List.length_map, List.length_replicate, List.length_set, and_true, true_and]); omega) | assumption | (and_intros <;> first | omega | assumption) | decide) | (refine decT ?_ ?_; first | with_reducible assumption | with_reducible rfl | (refine not_not_intro ?_; with_reducible first | assumption | rfl) | omega | decide) | (refine decF ?_ ?_; first | with_reducible assumption | with_reducible rfl | (refine not_not_intro ?_; with_reducible first | assumption | rfl) | omega | decide) | (refine decBT ?_ ?_; with_reducible first | assumption | rfl) | (refine decBF ?_ ?_; with_reducible first | assumption | rfl) | refine ⟨_, by assumption, ?_⟩ | refine ⟨_, _, _, rfl, ?_⟩ | refine WC.seq (fun K hK => ?_) | (refine hK _ _ _ ?_; clear hK K) | (refine WX.thenExit (K := K) ?_; clear hK K) | (refine WX.thenExit (K := KL) ?_; clear hL KL)))
      rw [wrap_i64 (by omega)]
      exact nx.conv (.cons rfl (.cons rfl (.cons rfl .nil))) (fun _ h => h.to)
  · (repeat (first | refine vgo ?_ | refine ⟨_, rfl, rfl, ?_⟩ | refine ⟨_, rfl, ?_⟩ | refine ⟨rfl, ?_⟩ | intro hb | (refine altL ?_ ?_; omega) | refine altR ?_ | (refine side ?_ ?_; first | omega | exact True.intro | ((try simp only [List.length_append, List.length_cons, List.length_nil, List.length_map, List.length_replicate, List.length_set, and_true, true_and]); omega) | assumption | (and_intros <;> first | omega | assumption) | decide) | (refine decT ?_ ?_; first | with_reducible assumption | with_reducible rfl | (refine not_not_intro ?_; with_reducible first | assumption | rfl) | omega | decide) | (refine decF ?_ ?_; first | with_reducible assumption | with_reducible rfl | (refine not_not_intro ?_; with_reducible first | assumption | rfl) | omega | decide) | (refine decBT ?_ ?_; with_reducible first | assumption | rfl) | (refine decBF ?_ ?_; with_reducible first | assumption | rfl) | refine ⟨_, by assumption, ?_⟩ | refine ⟨_, _, _, rfl, ?_⟩ | refine WC.seq (fun K hK => ?_) | (refine hK _ _ _ ?_; clear hK K) | (refine WX.thenExit (K := K) ?_; clear hK K) | (refine WX.thenExit (K := KL) ?_; clear hL KL)))
    refine dcB (fun he => ?_) (fun he => ?_)
    · have sl := slen (.inr he)
      have nx := next (.inr he)
      have e0 : k.tdiv 10 = k / 10 := by rw [show k = 0 from by omega]; rfl
      rw [e0] at nx
      (repeat (first | refine vgo ?_ | refine ⟨_, rfl, rfl, ?_⟩ | refine ⟨_, rfl, ?_⟩ | refine ⟨rfl, ?_⟩ | intro hb | (refine altL ?_ ?_; omega) | refine altR ?_ | (refine side ?_ ?_; first | omega | exact True.intro | ((try simp only [List.length_append, List.length_cons, List.length_nil, List.length_map, List.length_replicate, List.length_set, and_true, true_and]); omega) | assumption | (and_intros <;> first | omega | assumption) | decide) | (refine decT ?_ ?_; first | with_reducible assumption | with_reducible rfl | (refine not_not_intro ?_; with_reducible first | assumption | rfl) | omega | decide) | (refine decF ?_ ?_; first | with_reducible assumption | with_reducible rfl | (refine not_not_intro ?_; with_reducible first | assumption | rfl) | omega | decide) | (refine decBT ?_ ?_; with_reducible first | assumption | rfl) | (refine decBF ?_ ?_; with_reducible first | assumption | rfl) | refine ⟨_, by assumption, ?_⟩ | refine ⟨_, _, _, rfl, ?_⟩ | refine WC.seq (fun K hK => ?_) | (refine hK _ _ _ ?_; clear hK K) | (refine WX.thenExit (K := K) ?_; clear hK K) | (refine WX.thenExit (K := KL) ?_; clear hL KL)))
      refine WL.build rfl rfl rfl rfl rfl ?_; intro va; (try dsimp only [List.cons_append, List.nil_append])
      rw [u8i (a := 48 + k % 10) (m := 48 + k.natAbs % 10) (by omega) (by omega)]
      refine WL.sat (fun w sw => sw.pub (R := (Ty.u8)) (l := ([UInt8.ofNat (48 + k.natAbs % 10)])) (v := va) SelOwn.h rfl rfl rfl (fun _ _ => trivial)) ?_
      (repeat (first | refine vgo ?_ | refine ⟨_, rfl, rfl, ?_⟩ | refine ⟨_, rfl, ?_⟩ | refine ⟨rfl, ?_⟩ | intro hb | (refine altL ?_ ?_; omega) | refine altR ?_ | (refine side ?_ ?_; first | omega | exact True.intro | ((try simp only [List.length_append, List.length_cons, List.length_nil, List.length_map, List.length_replicate, List.length_set, and_true, true_and]); omega) | assumption | (and_intros <;> first | omega | assumption) | decide) | (refine decT ?_ ?_; first | with_reducible assumption | with_reducible rfl | (refine not_not_intro ?_; with_reducible first | assumption | rfl) | omega | decide) | (refine decF ?_ ?_; first | with_reducible assumption | with_reducible rfl | (refine not_not_intro ?_; with_reducible first | assumption | rfl) | omega | decide) | (refine decBT ?_ ?_; with_reducible first | assumption | rfl) | (refine decBF ?_ ?_; with_reducible first | assumption | rfl) | refine ⟨_, by assumption, ?_⟩ | refine ⟨_, _, _, rfl, ?_⟩ | refine WC.seq (fun K hK => ?_) | (refine hK _ _ _ ?_; clear hK K) | (refine WX.thenExit (K := K) ?_; clear hK K) | (refine WX.thenExit (K := KL) ?_; clear hL KL)))
      exact nx.conv (.cons rfl (.cons rfl (.cons rfl .nil))) (fun _ h => h.to)
    · clear next
      have hf : decB n.natAbs = s := by
        rcases hinv with ⟨_, h⟩ | ⟨_, h⟩
        · exact absurd h he
        · rw [h, decZ, if_pos (by omega)]; rfl
      (repeat (first | refine vgo ?_ | refine ⟨_, rfl, rfl, ?_⟩ | refine ⟨_, rfl, ?_⟩ | refine ⟨rfl, ?_⟩ | intro hb | (refine altL ?_ ?_; omega) | refine altR ?_ | (refine side ?_ ?_; first | omega | exact True.intro | ((try simp only [List.length_append, List.length_cons, List.length_nil, List.length_map, List.length_replicate, List.length_set, and_true, true_and]); omega) | assumption | (and_intros <;> first | omega | assumption) | decide) | (refine decT ?_ ?_; first | with_reducible assumption | with_reducible rfl | (refine not_not_intro ?_; with_reducible first | assumption | rfl) | omega | decide) | (refine decF ?_ ?_; first | with_reducible assumption | with_reducible rfl | (refine not_not_intro ?_; with_reducible first | assumption | rfl) | omega | decide) | (refine decBT ?_ ?_; with_reducible first | assumption | rfl) | (refine decBF ?_ ?_; with_reducible first | assumption | rfl) | refine ⟨_, by assumption, ?_⟩ | refine ⟨_, _, _, rfl, ?_⟩ | refine WC.seq (fun K hK => ?_) | (refine hK _ _ _ ?_; clear hK K) | (refine WX.thenExit (K := K) ?_; clear hK K) | (refine WX.thenExit (K := KL) ?_; clear hL KL)))
      refine dcB (fun hn0 => ?_) (fun hn0 => ?_)
      · (repeat (first | refine vgo ?_ | refine ⟨_, rfl, rfl, ?_⟩ | refine ⟨_, rfl, ?_⟩ | refine ⟨rfl, ?_⟩ | intro hb | (refine altL ?_ ?_; omega) | refine altR ?_ | (refine side ?_ ?_; first | omega | exact True.intro | ((try simp only [List.length_append, List.length_cons, List.length_nil, List.length_map, List.length_replicate, List.length_set, and_true, true_and]); omega) | assumption | (and_intros <;> first | omega | assumption) | decide) | (refine decT ?_ ?_; first | with_reducible assumption | with_reducible rfl | (refine not_not_intro ?_; with_reducible first | assumption | rfl) | omega | decide) | (refine decF ?_ ?_; first | with_reducible assumption | with_reducible rfl | (refine not_not_intro ?_; with_reducible first | assumption | rfl) | omega | decide) | (refine decBT ?_ ?_; with_reducible first | assumption | rfl) | (refine decBF ?_ ?_; with_reducible first | assumption | rfl) | refine ⟨_, by assumption, ?_⟩ | refine ⟨_, _, _, rfl, ?_⟩ | refine WC.seq (fun K hK => ?_) | (refine hK _ _ _ ?_; clear hK K) | (refine WX.thenExit (K := K) ?_; clear hK K) | (refine WX.thenExit (K := KL) ?_; clear hL KL)))
        exact WX.ret1 rfl rfl (fun w sw => ⟨[], [], ⟨by rw [intB, if_pos hn0, hf]; rfl, rfl, rfl⟩, sw.to⟩)
      · (repeat (first | refine vgo ?_ | refine ⟨_, rfl, rfl, ?_⟩ | refine ⟨_, rfl, ?_⟩ | refine ⟨rfl, ?_⟩ | intro hb | (refine altL ?_ ?_; omega) | refine altR ?_ | (refine side ?_ ?_; first | omega | exact True.intro | ((try simp only [List.length_append, List.length_cons, List.length_nil, List.length_map, List.length_replicate, List.length_set, and_true, true_and]); omega) | assumption | (and_intros <;> first | omega | assumption) | decide) | (refine decT ?_ ?_; first | with_reducible assumption | with_reducible rfl | (refine not_not_intro ?_; with_reducible first | assumption | rfl) | omega | decide) | (refine decF ?_ ?_; first | with_reducible assumption | with_reducible rfl | (refine not_not_intro ?_; with_reducible first | assumption | rfl) | omega | decide) | (refine decBT ?_ ?_; with_reducible first | assumption | rfl) | (refine decBF ?_ ?_; with_reducible first | assumption | rfl) | refine ⟨_, by assumption, ?_⟩ | refine ⟨_, _, _, rfl, ?_⟩ | refine WC.seq (fun K hK => ?_) | (refine hK _ _ _ ?_; clear hK K) | (refine WX.thenExit (K := K) ?_; clear hK K) | (refine WX.thenExit (K := KL) ?_; clear hL KL)))
        exact WX.ret1 rfl rfl (fun w sw => ⟨[], [], ⟨by rw [intB, if_neg hn0, hf], rfl, rfl⟩, sw.to⟩)
instance digits_pure {G : List Pers} {n : Int} : PureF Try.prog 58 [.int .i64 n] G (-9223372036854775808 ≤ n ∧ n ≤ 9223372036854775807) (.string (bs (intB n))) := ⟨fun h => PureF.of0 (digits_fun n h)⟩

/-! ### A number read -/
def numS (most : Int) (v : Int) : List UInt8 → Option Int
  | [] => some v
  | b :: r => if (b.toNat : Int) - 48 < 0 ∨ 9 < (b.toNat : Int) - 48 ∨ most / 10 < v ∨ most - ((b.toNat : Int) - 48) < 10 * v then none else numS most (10 * v + ((b.toNat : Int) - 48)) r
def numO (most : Int) (l : List UInt8) : Option Int := if l = [] ∨ (1 < l.length ∧ l[0]? = some 48) ∨ most < 0 then none else numS most 0 l
theorem numS_b (most : Int) : ∀ (l : List UInt8) (v : Int), 0 ≤ v → v ≤ most → ∀ m, numS most v l = some m → 0 ≤ m ∧ m ≤ most
  | [], v, h1, h2, m, h => by cases h; exact ⟨h1, h2⟩
  | b :: r, v, h1, h2, m, h => by
    rw [numS] at h
    split at h
    · cases h
    · exact numS_b most r _ (by omega) (by omega) m h
theorem numO_b {most : Int} {l : List UInt8} {m : Int} (h : numO most l = some m) : 0 ≤ m ∧ m ≤ most := by
  unfold numO at h
  split at h
  · cases h
  · exact numS_b most l 0 (by omega) (by omega) m h
abbrev numV (o : Option Int) : Value := .tuple #[.int .i64 (o.getD 0), .bool o.isSome]
theorem numS_no {most v : Int} {b : UInt8} {r : List UInt8} (h : (b.toNat : Int) - 48 < 0 ∨ 9 < (b.toNat : Int) - 48 ∨ most / 10 < v ∨ most - ((b.toNat : Int) - 48) < 10 * v) : numS most v (b :: r) = none := by rw [numS, if_pos h]
theorem numS_yes {most v : Int} {b : UInt8} {r : List UInt8} (h : ¬ ((b.toNat : Int) - 48 < 0 ∨ 9 < (b.toNat : Int) - 48 ∨ most / 10 < v ∨ most - ((b.toNat : Int) - 48) < 10 * v)) : numS most v (b :: r) = numS most (10 * v + ((b.toNat : Int) - 48)) r := by rw [numS, if_neg h]
/-! ### Cells -/
abbrev cellV (c : Int × Int) : Value := .agg #[.int .i64 c.1, .int .i64 c.2]
def cellOk (p : Int × Int) : Prop := 1 ≤ p.1 ∧ p.1 ≤ 702 ∧ 1 ≤ p.2 ∧ p.2 ≤ 9999
instance (p : Int × Int) : Decidable (cellOk p) := inferInstanceAs (Decidable (_ ∧ _))
def textB (p : Int × Int) : List UInt8 := if cellOk p then colB p.1 ++ intB p.2 else []
theorem textB_le (p : Int × Int) : (textB p).length ≤ 30 := by
  unfold textB
  split
  · rename_i h
    unfold cellOk at h
    have h1 := colB_le p.1
    have h2 := intB_le (n := p.2) (by omega)
    simp; omega
  · simp
/-! ### A cell's name read -/
def pNum (l : List UInt8) : Option Int := numO 9999 (l.drop (letN l))
def pCol (l : List UInt8) : Int := colOf (l.take (letN l))
def pCell (l : List UInt8) : Option (Int × Int) := if (pNum l).isSome = true ∧ cellOk (pCol l, (pNum l).getD 0) then some (pCol l, (pNum l).getD 0) else none
abbrev errI (o : Option (Int × Int)) : Int := if o.isSome then 0 else 20
def rowF (l : List UInt8) : Int := l.foldl (fun v b => v * 10 + (b.toNat : Int) - 48) 0
theorem rowF_take {l : List UInt8} {k : Nat} {x : UInt8} (h : l[k]? = some x) : rowF (l.take (k + 1)) = rowF (l.take k) * 10 + (x.toNat : Int) - 48 := by
  rw [List.take_add_one, h, rowF, List.foldl_append]; rfl
def rRow (l : List UInt8) : Int := rowF ((l.drop (letN l)).take 5)
def rCell (l : List UInt8) : Option (Int × Int) := if letN l = 0 ∨ 2 < letN l ∨ ¬ textB (pCol l, rRow l) = l then none else some (pCol l, rRow l)
end Go.Qd
