/-
  Stamps as bytes: what stamp.Put and stamp.Take compute, and the statement's function.
-/
import Derived.Test.YthkeakecckiokaaPWv
import Derived.Test.YthkeakecckiokaaPStamp
namespace Go.Qd
open Go Go.Proofs
set_option maxHeartbeats 800000 in
theorem stake_fun (b : Nat) (v : Value) (l : List UInt8) (bad : Bool) : Fun Try.prog 34 [.pointer (some ⟨b, 0, none⟩)] [rd (Ty.sl Ty.u8) l v] [rdrBox b v bad]
    (fun r G S => r = .agg #[.int .u64 (numR l bad).1, .int .i64 (intR 64 (numR l bad).2.1 (numR l bad).2.2).1] ∧ ∃ v', G = [rd (Ty.sl Ty.u8) (intR 64 (numR l bad).2.1 (numR l bad).2.2).2.1 v'] ∧ S = [rdrBox b v' (intR 64 (numR l bad).2.1 (numR l bad).2.2).2.2]) := by
  refine Fun.enter Try.func34 (by kernel_rfl) rfl Try.ntmps34 rfl (fun B Gf Sf => ?_); (try simp only [List.cons_append]); (try simp only [List.nil_append]); simp only [argEnv]
  (repeat (first | refine vgo ?_ | refine ⟨_, rfl, rfl, ?_⟩ | refine ⟨_, rfl, ?_⟩ | refine ⟨rfl, ?_⟩ | intro hb | refine altA ?_ | refine altR ?_ | refine sideA ?_ | refine decTA ?_ | refine decFA ?_ | refine decNA ?_ | refine decBTA ?_ | refine decBFA ?_ | refine ⟨_, by assumption, ?_⟩ | refine ⟨_, _, _, rfl, ?_⟩ | refine WC.seq (fun K hK => ?_) | (refine hK _ _ _ ?_; clear hK K) | (refine hK _ _ _ _ rfl ?_; clear hK K) | (refine WX.thenExit (K := K) ?_; clear hK K) | (refine WX.thenExit (K := KL) ?_; clear hL KL) | ((first | refine WL.boxA rfl rfl ?_ | refine WL.box rfl rfl rfl ?_); intro bx) | (refine WL.alloc rfl ?_; intro bx)))
  refine WX.retCell rfl rfl (SelBox.h (b := bx)) rfl (fun w sw => ⟨[_], [_], ⟨rfl, hb, rfl, rfl⟩, sw.to⟩)
section
variable {n : Nat} {Q : Exit → Act → World → Prop} {B : Base} {env : Env} {G : List Pers} {S S' S1 S2 : List Res} {L rest : List Oper}
variable {d b : Nat} {v : Value} {l : List UInt8} {bad : Bool}
instance stake_v [hm : SelBox b S 86 [v, .bool bad] S'] [hr : RdSl v G Ty.u8 l] : V (CallV Try.prog n L Q rest B env G S (some d) 34 [.pointer (some ⟨b, 0, none⟩)]) (∀ v', WL Try.prog n L Q rest B ((d, .agg #[.int .u64 ((numR l bad).1 : Int), .int .i64 ((intR 64 (numR l bad).2.1 (numR l bad).2.2).1 : Int)]) :: env) (rd (Ty.sl Ty.u8) (intR 64 (numR l bad).2.1 (numR l bad).2.2).2.1 v' :: G) (rdrBox b v' (intR 64 (numR l bad).2.1 (numR l bad).2.2).2.2 :: S')) := ⟨fun h => by
  refine .by (stake_fun b v l bad) (fun g hg => by simp only [List.mem_singleton] at hg; subst hg; exact hr.h) (.cons hm.h .nil) ?_
  rintro _ _ _ ⟨rfl, v', rfl, rfl⟩
  exact h v'⟩
end
end Go.Qd
