/-
  Stamps as bytes: what stamp.Put and stamp.Take compute, and the statement's function.
-/
import Derived.Test.YthkeakecckiokaaGreatPWv
import Derived.Test.YthkeakecckiokaaGreatPStamp
namespace Go.Qd
open Go Go.Proofs
set_option maxHeartbeats 800000 in
theorem sput_fun (b : Nat) (v : Value) (l : List UInt8) (t r : Nat) (ht : t < 18446744073709551616) (hr : r ≤ 9223372036854775807) (hl : l.length ≤ 900000) : Fun Tryz.prog 50 [.pointer (some ⟨b, 0, none⟩), .agg #[.int .u64 t, .int .i64 r]] [] [wrB b v, wrO v l]
    (fun _ G S => G = [] ∧ ∃ v', S = [wrB b v', wrO v' (l ++ numB t ++ numB r)]) := by
  refine Fun.enter Tryz.func50 (by kernel_rfl) rfl Tryz.ntmps50 rfl (fun B Gf Sf => ?_); (try simp only [List.cons_append]); (try simp only [List.nil_append]); simp only [argEnv]
  have h1 := numB_le ht
  have hm : max (r : Int) 0 = (r : Int) := by omega
  have hl2 : (l ++ numB t).length ≤ 1000000 := by rw [List.length_append]; omega
  (repeat (first | refine vgo ?_ | refine ⟨_, rfl, rfl, ?_⟩ | refine ⟨_, rfl, ?_⟩ | refine ⟨rfl, ?_⟩ | intro hb | refine go2 ?_ | refine WC.seq (fun K hK => ?_) | ((first | refine hK _ _ _ ?_ | refine hK _ _ _ _ rfl ?_ | refine WX.thenExit (K := K) ?_); clear hK K) | (refine WX.thenExit (K := KL) ?_; clear hL KL) | ((first | refine WL.boxA rfl rfl ?_ | refine WL.box rfl rfl rfl ?_); intro bx) | (refine WL.alloc rfl ?_; intro bx)))
  rw [hm]
  (repeat (first | refine vgo ?_ | refine ⟨_, rfl, rfl, ?_⟩ | refine ⟨_, rfl, ?_⟩ | refine ⟨rfl, ?_⟩ | intro hb | refine go2 ?_ | refine WC.seq (fun K hK => ?_) | ((first | refine hK _ _ _ ?_ | refine hK _ _ _ _ rfl ?_ | refine WX.thenExit (K := K) ?_); clear hK K) | (refine WX.thenExit (K := KL) ?_; clear hL KL)))
  exact WX.end0 rfl (fun w sw => ⟨[], _, ⟨rfl, hb, rfl⟩, sw.to⟩)
set_option maxHeartbeats 800000 in
theorem stake_fun (b : Nat) (v : Value) (l : List UInt8) (bad : Bool) : Fun Tryz.prog 35 [.pointer (some ⟨b, 0, none⟩)] [rd (Ty.sl Ty.u8) l v] [rdrBox b v bad]
    (fun r G S => r = .agg #[.int .u64 (numR l bad).1, .int .i64 (intR 64 (numR l bad).2.1 (numR l bad).2.2).1] ∧ ∃ v', G = [rd (Ty.sl Ty.u8) (intR 64 (numR l bad).2.1 (numR l bad).2.2).2.1 v'] ∧ S = [rdrBox b v' (intR 64 (numR l bad).2.1 (numR l bad).2.2).2.2]) := by
  refine Fun.enter Tryz.func35 (by kernel_rfl) rfl Tryz.ntmps35 rfl (fun B Gf Sf => ?_); (try simp only [List.cons_append]); (try simp only [List.nil_append]); simp only [argEnv]
  (repeat (first | refine vgo ?_ | refine ⟨_, rfl, rfl, ?_⟩ | refine ⟨_, rfl, ?_⟩ | refine ⟨rfl, ?_⟩ | intro hb | refine go2 ?_ | refine WC.seq (fun K hK => ?_) | ((first | refine hK _ _ _ ?_ | refine hK _ _ _ _ rfl ?_ | refine WX.thenExit (K := K) ?_); clear hK K) | (refine WX.thenExit (K := KL) ?_; clear hL KL) | ((first | refine WL.boxA rfl rfl ?_ | refine WL.box rfl rfl rfl ?_); intro bx) | (refine WL.alloc rfl ?_; intro bx)))
  refine WX.retCell rfl rfl (SelBox.h (b := bx)) rfl (fun w sw => ⟨[_], [_], ⟨rfl, hb, rfl, rfl⟩, sw.to⟩)
section
variable {n : Nat} {Q : Exit → Act → World → Prop} {B : Base} {env : Env} {G : List Pers} {S S' S1 S2 : List Res} {L rest : List Oper}
variable {d b : Nat} {v : Value} {l : List UInt8} {bad : Bool}
instance sput_v {t r : Nat} [hm : SelBox b S 87 [v] S1] [ho : SelOwn v S1 5 1 l.length (u8s l) S2] : V (CallV Tryz.prog n L Q rest B env G S (some d) 50 [.pointer (some ⟨b, 0, none⟩), .agg #[.int .u64 (t : Int), .int .i64 (r : Int)]]) (Side (t < 18446744073709551616 ∧ r ≤ 9223372036854775807 ∧ l.length ≤ 900000) (∀ u v', WL Tryz.prog n L Q rest B ((d, u) :: env) G (wrB b v' :: wrO v' (l ++ numB t ++ numB r) :: S2))) := ⟨fun h => by
  refine .by (sput_fun b v l t r h.c.1 h.c.2.1 h.c.2.2) GSub.nil (.cons hm.h (.cons ho.h .nil)) ?_
  rintro u _ _ ⟨rfl, v', rfl⟩
  exact h.p u v'⟩
instance sput_v0 {t r : Nat} [hm : SelBox b S 87 [v] S1] [ho : SelOwn v S1 5 1 l.length (u8s l) S2] : V (CallV Tryz.prog n L Q rest B env G S none 50 [.pointer (some ⟨b, 0, none⟩), .agg #[.int .u64 (t : Int), .int .i64 (r : Int)]]) (Side (t < 18446744073709551616 ∧ r ≤ 9223372036854775807 ∧ l.length ≤ 900000) (∀ (u : Value) v', WL Tryz.prog n L Q rest B env G (wrB b v' :: wrO v' (l ++ numB t ++ numB r) :: S2))) := ⟨fun h => by
  refine .by (sput_fun b v l t r h.c.1 h.c.2.1 h.c.2.2) GSub.nil (.cons hm.h (.cons ho.h .nil)) ?_
  rintro u _ _ ⟨rfl, v', rfl⟩
  exact h.p u v'⟩
instance stake_v [hm : SelBox b S 95 [v, .bool bad] S'] [hr : RdSl v G Ty.u8 l] : V (CallV Tryz.prog n L Q rest B env G S (some d) 35 [.pointer (some ⟨b, 0, none⟩)]) (∀ v', WL Tryz.prog n L Q rest B ((d, .agg #[.int .u64 ((numR l bad).1 : Int), .int .i64 ((intR 64 (numR l bad).2.1 (numR l bad).2.2).1 : Int)]) :: env) (rd (Ty.sl Ty.u8) (intR 64 (numR l bad).2.1 (numR l bad).2.2).2.1 v' :: G) (rdrBox b v' (intR 64 (numR l bad).2.1 (numR l bad).2.2).2.2 :: S')) := ⟨fun h => by
  refine .by (stake_fun b v l bad) (fun g hg => by simp only [List.mem_singleton] at hg; subst hg; exact hr.h) (.cons hm.h .nil) ?_
  rintro _ _ _ ⟨rfl, v', rfl, rfl⟩
  exact h v'⟩
end
end Go.Qd
