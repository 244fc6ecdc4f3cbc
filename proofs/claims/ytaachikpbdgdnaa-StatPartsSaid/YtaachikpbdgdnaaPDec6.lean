/-
  The document's sum of two numbers, and the program's.
-/
import Derived.Test.YtaachikpbdgdnaaPDec5
namespace Go.Qd
open Go Go.Proofs
abbrev addR (a b : Int) : Value := if inI (a + b) = true then .tuple #[.int .i64 (a + b), .int .i64 0] else .tuple #[.int .i64 0, .int .i64 31]
theorem sg_sum (a b : Int) : sgI (if decide (a < 0) = decide (b < 0) then decide (a < 0) else if a.natAbs < b.natAbs then decide (b < 0) else decide (a < 0)) (if decide (a < 0) = decide (b < 0) then a.natAbs + b.natAbs else if a.natAbs < b.natAbs then b.natAbs - a.natAbs else a.natAbs - b.natAbs) = a + b := by
  unfold sgI
  by_cases h1 : a < 0 <;> by_cases h2 : b < 0 <;> by_cases h3 : a.natAbs < b.natAbs
  all_goals simp [h1, h2, h3]
  all_goals omega
theorem to_add (a b : Int) : toR (if decide (a < 0) = decide (b < 0) then decide (a < 0) else if a.natAbs < b.natAbs then decide (b < 0) else decide (a < 0)) (if decide (a < 0) = decide (b < 0) then a.natAbs + b.natAbs else if a.natAbs < b.natAbs then b.natAbs - a.natAbs else a.natAbs - b.natAbs) = addR a b := by
  unfold toR addR
  rw [sg_sum]
theorem wrapI64 (x : Int) : IntKind.i64.wrap x = (x + 9223372036854775808) % 18446744073709551616 - 9223372036854775808 := by
  simp [IntKind.wrap, IntKind.bits, IntKind.signed]
  split <;> omega
set_option maxHeartbeats 1600000 in
theorem dadd_fun (a b : Int) (ha : -9223372036854775808 ≤ a ∧ a ≤ 9223372036854775807) (hb' : -9223372036854775808 ≤ b ∧ b ≤ 9223372036854775807) : Fun Try.prog 54 [.int .i64 a, .int .i64 b] [] [] (fun r G S => r = addR a b ∧ G = [] ∧ S = []) := by
  refine Fun.enter Try.func54 (by kernel_rfl) rfl Try.ntmps54 rfl (fun B Gf Sf => ?_); (try simp only [List.cons_append]); (try simp only [List.nil_append]); simp only [argEnv]
  by_cases hin : -9223372036854775808 ≤ a + b ∧ a + b ≤ 9223372036854775807
  · have hr : addR a b = .tuple #[.int .i64 (a + b), .int .i64 0] := by
      have hi : inI (a + b) = true := decide_eq_true hin
      rw [addR, if_pos hi]
    have hw : IntKind.i64.wrap (a + b) = a + b := wrap_i64 hin
    by_cases hs : decide (a < 0) = decide (b < 0)
    · have hs2 : (a < 0 ↔ b < 0) := decide_eq_decide.1 hs
      have hd : ¬ ¬ (decide (a + b < 0) = decide (a < 0)) := by refine not_not_intro ?_; rw [decide_eq_decide]; omega
      (repeat (first | refine vgo ?_ | refine ⟨_, rfl, rfl, ?_⟩ | refine ⟨_, rfl, ?_⟩ | refine ⟨rfl, ?_⟩ | intro hb | (refine altL ?_ ?_; omega) | refine altR ?_ | (refine side ?_ ?_; first | omega | exact True.intro | ((try simp only [List.length_append, List.length_cons, List.length_nil, List.length_map, List.length_replicate, List.length_set, and_true, true_and]); omega) | assumption | (and_intros <;> first | omega | assumption) | decide) | (refine decT ?_ ?_; first | with_reducible assumption | with_reducible rfl | (refine not_not_intro ?_; with_reducible first | assumption | rfl) | omega | decide) | (refine decF ?_ ?_; first | with_reducible assumption | with_reducible rfl | (refine not_not_intro ?_; with_reducible first | assumption | rfl) | omega | decide) | (refine decBT ?_ ?_; with_reducible first | assumption | rfl | exact Bool.not_false) | (refine decBF ?_ ?_; with_reducible first | assumption | rfl | exact Bool.not_true) | refine ⟨_, by assumption, ?_⟩ | refine ⟨_, _, _, rfl, ?_⟩ | refine WC.seq (fun K hK => ?_) | (refine hK _ _ _ ?_; clear hK K) | (refine hK _ _ _ _ rfl ?_; clear hK K) | (refine WX.thenExit (K := K) ?_; clear hK K) | (refine WX.thenExit (K := KL) ?_; clear hL KL)))
      exact WX.ret2 rfl rfl rfl (fun w sw => ⟨[], [], ⟨by rw [hr], rfl, rfl⟩, sw.to⟩)
    · (repeat (first | refine vgo ?_ | refine ⟨_, rfl, rfl, ?_⟩ | refine ⟨_, rfl, ?_⟩ | refine ⟨rfl, ?_⟩ | intro hb | (refine altL ?_ ?_; omega) | refine altR ?_ | (refine side ?_ ?_; first | omega | exact True.intro | ((try simp only [List.length_append, List.length_cons, List.length_nil, List.length_map, List.length_replicate, List.length_set, and_true, true_and]); omega) | assumption | (and_intros <;> first | omega | assumption) | decide) | (refine decT ?_ ?_; first | with_reducible assumption | with_reducible rfl | (refine not_not_intro ?_; with_reducible first | assumption | rfl) | omega | decide) | (refine decF ?_ ?_; first | with_reducible assumption | with_reducible rfl | (refine not_not_intro ?_; with_reducible first | assumption | rfl) | omega | decide) | (refine decBT ?_ ?_; with_reducible first | assumption | rfl | exact Bool.not_false) | (refine decBF ?_ ?_; with_reducible first | assumption | rfl | exact Bool.not_true) | refine ⟨_, by assumption, ?_⟩ | refine ⟨_, _, _, rfl, ?_⟩ | refine WC.seq (fun K hK => ?_) | (refine hK _ _ _ ?_; clear hK K) | (refine hK _ _ _ _ rfl ?_; clear hK K) | (refine WX.thenExit (K := K) ?_; clear hK K) | (refine WX.thenExit (K := KL) ?_; clear hL KL)))
      exact WX.ret2 rfl rfl rfl (fun w sw => ⟨[], [], ⟨by rw [hr], rfl, rfl⟩, sw.to⟩)
  · have hr : addR a b = .tuple #[.int .i64 0, .int .i64 31] := by
      have hi : ¬ inI (a + b) = true := fun h => hin (of_decide_eq_true h)
      rw [addR, if_neg hi]
    have hs : decide (a < 0) = decide (b < 0) := by rw [decide_eq_decide]; omega
    have hd : ¬ (decide (IntKind.i64.wrap (a + b) < 0) = decide (a < 0)) := by
      rw [decide_eq_decide, wrapI64]; omega
    (repeat (first | refine vgo ?_ | refine ⟨_, rfl, rfl, ?_⟩ | refine ⟨_, rfl, ?_⟩ | refine ⟨rfl, ?_⟩ | intro hb | (refine altL ?_ ?_; omega) | refine altR ?_ | (refine side ?_ ?_; first | omega | exact True.intro | ((try simp only [List.length_append, List.length_cons, List.length_nil, List.length_map, List.length_replicate, List.length_set, and_true, true_and]); omega) | assumption | (and_intros <;> first | omega | assumption) | decide) | (refine decT ?_ ?_; first | with_reducible assumption | with_reducible rfl | (refine not_not_intro ?_; with_reducible first | assumption | rfl) | omega | decide) | (refine decF ?_ ?_; first | with_reducible assumption | with_reducible rfl | (refine not_not_intro ?_; with_reducible first | assumption | rfl) | omega | decide) | (refine decBT ?_ ?_; with_reducible first | assumption | rfl | exact Bool.not_false) | (refine decBF ?_ ?_; with_reducible first | assumption | rfl | exact Bool.not_true) | refine ⟨_, by assumption, ?_⟩ | refine ⟨_, _, _, rfl, ?_⟩ | refine WC.seq (fun K hK => ?_) | (refine hK _ _ _ ?_; clear hK K) | (refine hK _ _ _ _ rfl ?_; clear hK K) | (refine WX.thenExit (K := K) ?_; clear hK K) | (refine WX.thenExit (K := KL) ?_; clear hL KL)))
    exact WX.ret2 rfl rfl rfl (fun w sw => ⟨[], [], ⟨by rw [hr], rfl, rfl⟩, sw.to⟩)
end Go.Qd
