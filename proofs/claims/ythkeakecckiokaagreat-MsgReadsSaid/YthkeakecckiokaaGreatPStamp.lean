/-
  What the functions of package stamp, and of the document's answer to it, compute: the order of stamps.
-/
import Derived.Test.YthkeakecckiokaaGreatQTab
import Derived.Test.YthkeakecckiokaaGreatQV
namespace Go.Qd
open Go Go.Proofs

abbrev idV (t : Nat) (r : Int) : Value := .agg #[.int .u64 (t : Int), .int .i64 r]
abbrev idT : Ty (Nat × Int) := Ty.pair Ty.u64 (Ty.rec1 Ty.i64)
theorem idT_is {a : Nat × Int} {v : Value} {h : Hp} (x : idT.rel a v h) : v = idV a.1 a.2 ∧ a.1 < 18446744073709551616 ∧ -9223372036854775808 ≤ a.2 ∧ a.2 ≤ 9223372036854775807 := by
  obtain ⟨p, q, rfl, ⟨rfl, h1⟩, y, rfl, rfl, h2⟩ := x
  exact ⟨rfl, h1, h2⟩
def idLess (a b : Nat × Int) : Prop := a.1 < b.1 ∨ a.1 = b.1 ∧ a.2 < b.2
instance (a b : Nat × Int) : Decidable (idLess a b) := inferInstanceAs (Decidable (_ ∨ _))
def idRight (a : Nat × Int) : Prop := a.1 ≤ 1099511627776 ∧ 0 ≤ a.2 ∧ a.2 ≤ 64 ∧ (0 < a.1 ∨ 0 < a.2)
instance (a : Nat × Int) : Decidable (idRight a) := inferInstanceAs (Decidable (_ ∧ _))
set_option maxHeartbeats 800000 in
theorem sright_fun (a : Nat × Int) : Fun Tryz.prog 76 [idV a.1 a.2] [] [] (fun r G S => r = .bool (decide (idRight a)) ∧ G = [] ∧ S = []) := by
  refine Fun.enter Tryz.func76 (by kernel_rfl) rfl Tryz.ntmps76 rfl (fun B Gf Sf => ?_); (try simp only [List.cons_append]); (try simp only [List.nil_append]); simp only [argEnv]
  (repeat' (first | refine vgo ?_ | refine ⟨_, rfl, rfl, ?_⟩ | refine ⟨_, rfl, ?_⟩ | refine ⟨rfl, ?_⟩ | intro hb | refine go2 ?_ | refine WC.seq (fun K hK => ?_) | ((first | refine hK _ _ _ ?_ | refine hK _ _ _ _ rfl ?_ | refine WX.thenExit (K := K) ?_); clear hK K) | (refine WX.thenExit (K := KL) ?_; clear hL KL) | ((first | refine WL.boxA rfl rfl ?_ | refine WL.box rfl rfl rfl ?_); intro bx) | (refine WL.alloc rfl ?_; intro bx) | refine dcB (fun hg => ?_) (fun hg => ?_) | refine dcBB (fun hg => ?_) (fun hg => ?_)))
  all_goals exact WX.ret1 rfl rfl (fun w sw => ⟨[], [], ⟨by ((first | rfl | (congr 1; rw [decide_eq_decide]; (try unfold idRight); omega) | (congr 1; symm; simp only [decide_eq_true_eq, decide_eq_false_iff_not]; (try unfold idRight); omega))), rfl, rfl⟩, sw.to⟩)
instance sright_pure {G : List Pers} {t : Nat} {r : Int} : PureF Tryz.prog 76 [idV t r] G True (.bool (decide (idRight (t, r)))) := ⟨fun _ => PureF.of0 (sright_fun (t, r))⟩
set_option maxHeartbeats 800000 in
theorem rright_fun (a : Nat × Int) : Fun Tryz.prog 64 [idV a.1 a.2] [] [] (fun r G S => r = .bool (decide (idRight a)) ∧ G = [] ∧ S = []) := by
  refine Fun.enter Tryz.func64 (by kernel_rfl) rfl Tryz.ntmps64 rfl (fun B Gf Sf => ?_); (try simp only [List.cons_append]); (try simp only [List.nil_append]); simp only [argEnv]
  (repeat' (first | refine vgo ?_ | refine ⟨_, rfl, rfl, ?_⟩ | refine ⟨_, rfl, ?_⟩ | refine ⟨rfl, ?_⟩ | intro hb | refine go2 ?_ | refine WC.seq (fun K hK => ?_) | ((first | refine hK _ _ _ ?_ | refine hK _ _ _ _ rfl ?_ | refine WX.thenExit (K := K) ?_); clear hK K) | (refine WX.thenExit (K := KL) ?_; clear hL KL) | ((first | refine WL.boxA rfl rfl ?_ | refine WL.box rfl rfl rfl ?_); intro bx) | (refine WL.alloc rfl ?_; intro bx) | refine dcB (fun hg => ?_) (fun hg => ?_) | refine dcBB (fun hg => ?_) (fun hg => ?_)))
  all_goals exact WX.ret1 rfl rfl (fun w sw => ⟨[], [], ⟨by ((first | rfl | (congr 1; rw [decide_eq_decide]; (try unfold idRight); omega) | (congr 1; symm; simp only [decide_eq_true_eq, decide_eq_false_iff_not]; (try unfold idRight); omega))), rfl, rfl⟩, sw.to⟩)
instance rright_pure {G : List Pers} {t : Nat} {r : Int} : PureF Tryz.prog 64 [idV t r] G True (.bool (decide (idRight (t, r)))) := ⟨fun _ => PureF.of0 (rright_fun (t, r))⟩

/-! ### Numbers as texts -/
end Go.Qd
