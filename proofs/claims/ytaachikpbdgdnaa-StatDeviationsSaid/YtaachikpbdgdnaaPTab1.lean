/-
  Tables: values, what stands in a row, and which of two values is told first.
-/
import Derived.Test.YtaachikpbdgdnaaPStamp
import Derived.Test.YtaachikpbdgdnaaPMat2
import Derived.Lib.Bytealg
namespace Go.Qd
open Go Go.Proofs
abbrev VT := Int × Int × List UInt8
abbrev valT : Ty VT := Ty.pair Ty.i64 (Ty.pair Ty.i64 (Ty.rec1 Ty.str))
abbrev vV (a : VT) : Value := .agg #[.int .i64 a.1, .int .i64 a.2.1, .string (bs a.2.2)]
abbrev okV (a : VT) : Prop := (-9223372036854775808 ≤ a.1 ∧ a.1 ≤ 9223372036854775807) ∧ (-9223372036854775808 ≤ a.2.1 ∧ a.2.1 ≤ 9223372036854775807) ∧ a.2.2.length ≤ maxLen
instance : Ty.Is valT (fun a => vV a) okV := ⟨fun a v h => ⟨by
  rintro ⟨x1, y1, rfl, ⟨rfl, h1⟩, x2, y2, rfl, ⟨rfl, h2⟩, z, rfl, rfl, h3⟩
  exact ⟨rfl, h1, h2, h3⟩, by
  rintro ⟨rfl, h1, h2, h3⟩
  exact ⟨.int .i64 a.1, _, rfl, ⟨rfl, h1⟩, .int .i64 a.2.1, _, rfl, ⟨rfl, h2⟩, .string (bs a.2.2), rfl, rfl, h3⟩⟩⟩
instance : FlG (fun a : VT => vV a) := ⟨fun a c hc => by simp only [vV, agg_cells, List.mem_cons, List.not_mem_nil, or_false] at hc; rcases hc with rfl | rfl | rfl <;> rfl⟩
theorem nanD_fun (a : Int) : Fun Try.prog 105 [.int .i64 a] [] [] (fun r G S => r = .bool false ∧ G = [] ∧ S = []) := by
  refine Fun.enter Try.func105 (by kernel_rfl) rfl Try.ntmps105 rfl (fun B Gf Sf => ?_); (try simp only [List.cons_append]); (try simp only [List.nil_append]); simp only [argEnv]
  (repeat (first | refine vgo ?_ | refine ⟨_, rfl, rfl, ?_⟩ | refine ⟨_, rfl, ?_⟩ | refine ⟨rfl, ?_⟩ | intro hb | (refine altL ?_ ?_; omega) | refine altR ?_ | (refine side ?_ ?_; first | omega | exact True.intro | ((try simp only [List.length_append, List.length_cons, List.length_nil, List.length_map, List.length_replicate, List.length_set, and_true, true_and]); omega) | assumption | (and_intros <;> first | omega | assumption) | decide) | (refine decT ?_ ?_; first | with_reducible assumption | with_reducible rfl | (refine not_not_intro ?_; with_reducible first | assumption | rfl) | omega | decide) | (refine decF ?_ ?_; first | with_reducible assumption | with_reducible rfl | (refine not_not_intro ?_; with_reducible first | assumption | rfl) | omega | decide) | (refine decBT ?_ ?_; with_reducible first | assumption | rfl | exact Bool.not_false) | (refine decBF ?_ ?_; with_reducible first | assumption | rfl | exact Bool.not_true) | refine ⟨_, by assumption, ?_⟩ | refine ⟨_, _, _, rfl, ?_⟩ | refine WC.seq (fun K hK => ?_) | (refine hK _ _ _ ?_; clear hK K) | (refine hK _ _ _ _ rfl ?_; clear hK K) | (refine WX.thenExit (K := K) ?_; clear hK K) | (refine WX.thenExit (K := KL) ?_; clear hL KL)))
  exact WX.ret1 rfl rfl (fun w sw => ⟨[], [], ⟨by simp, rfl, rfl⟩, sw.to⟩)
instance nanD_pure {G : List Pers} {a : Int} : PureF Try.prog 105 [.int .i64 a] G True (.bool false) := ⟨fun _ => PureF.of0 (nanD_fun a)⟩
end Go.Qd
