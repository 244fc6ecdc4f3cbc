/-
  What any changes make of a grid: the document's answer.
-/
import Derived.Test.YticbfcngepfecaaPDif8
namespace Go.Qd
open Go Go.Proofs
def txI (l : Row) (k : Int) : List UInt8 := if 0 ≤ k then tx l k.toNat else []
theorem rtextI_fun (l : Row) (v : Value) (k : Int) : Fun Try.prog 41 [v, .int .i64 k] [rd (Ty.sl Ty.str) l v] [] (fun r G S => r = .string (bs (txI l k)) ∧ G = [] ∧ S = []) := by
  by_cases h : 0 ≤ k
  · obtain ⟨i, rfl⟩ : ∃ i : Nat, k = i := ⟨k.toNat, by omega⟩
    have e : txI l ((i : Nat) : Int) = tx l i := by unfold txI; rw [if_pos h, Int.toNat_natCast]
    rw [e]; exact rtext_fun l v i
  · have e : txI l k = [] := if_neg h
    refine Fun.enter Try.func41 (by kernel_rfl) rfl Try.ntmps41 rfl (fun B Gf Sf => ?_); (try simp only [List.cons_append]); (try simp only [List.nil_append]); simp only [argEnv]
    (repeat (first | refine vgo ?_ | refine ⟨_, rfl, rfl, ?_⟩ | refine ⟨_, rfl, ?_⟩ | refine ⟨rfl, ?_⟩ | intro hb | (refine altL ?_ ?_; omega) | refine altR ?_ | (refine side ?_ ?_; first | omega | exact True.intro | ((try simp only [List.length_append, List.length_cons, List.length_nil, List.length_map, List.length_replicate, List.length_set, and_true, true_and]); omega) | assumption | (and_intros <;> first | omega | assumption) | decide) | (refine decT ?_ ?_; first | with_reducible assumption | with_reducible rfl | (refine not_not_intro ?_; with_reducible first | assumption | rfl) | omega | decide) | (refine decF ?_ ?_; first | with_reducible assumption | with_reducible rfl | (refine not_not_intro ?_; with_reducible first | assumption | rfl) | omega | decide) | (refine decBT ?_ ?_; with_reducible first | assumption | rfl | exact Bool.not_false) | (refine decBF ?_ ?_; with_reducible first | assumption | rfl | exact Bool.not_true) | refine ⟨_, by assumption, ?_⟩ | refine ⟨_, _, _, rfl, ?_⟩ | refine WC.seq (fun K hK => ?_) | (refine hK _ _ _ ?_; clear hK K) | (refine WX.thenExit (K := K) ?_; clear hK K) | (refine WX.thenExit (K := KL) ?_; clear hL KL)))
    exact WX.ret1 rfl rfl (fun w sw => ⟨[], [], ⟨by rw [e], rfl, rfl⟩, sw.to⟩)
instance (priority := 50) rtextI_pure {G : List Pers} {l : Row} {v : Value} {k : Int} [i : RdSl v G Ty.str l] : PureF Try.prog 41 [v, .int .i64 k] G True (.string (bs (txI l k))) := ⟨fun _ => ⟨[rd (Ty.sl Ty.str) l v], by simpa using i.h, rtextI_fun l v k⟩⟩
end Go.Qd
