/-
  What the functions of package stamp, and of the document's answer to it, compute: the order of stamps.
-/
import Derived.Test.YtkpblibaddjcgaaDoorQTab
import Derived.Test.YtkpblibaddjcgaaDoorQV
namespace Go.Qd
open Go Go.Proofs

def idLess (a b : Nat × Int) : Prop := a.1 < b.1 ∨ a.1 = b.1 ∧ a.2 < b.2
instance (a b : Nat × Int) : Decidable (idLess a b) := inferInstanceAs (Decidable (_ ∨ _))
def idRight (a : Nat × Int) : Prop := a.1 ≤ 1099511627776 ∧ 0 ≤ a.2 ∧ a.2 ≤ 64 ∧ (0 < a.1 ∨ 0 < a.2)
instance (a : Nat × Int) : Decidable (idRight a) := inferInstanceAs (Decidable (_ ∧ _))
/-! ### Numbers as texts -/
def decB (n : Nat) : List UInt8 := if h : n < 10 then [UInt8.ofNat (48 + n)] else decB (n / 10) ++ [UInt8.ofNat (48 + n % 10)]
termination_by n
decreasing_by omega
theorem decB_small {n : Nat} (h : n < 10) : decB n = [UInt8.ofNat (48 + n)] := by rw [decB, dif_pos h]
theorem decB_big {n : Nat} (h : ¬ n < 10) : decB n = decB (n / 10) ++ [UInt8.ofNat (48 + n % 10)] := by rw [decB, dif_neg h]
theorem decB_length : ∀ (k n : Nat), n < 10 ^ (k + 1) → (decB n).length ≤ k + 1
  | 0, n, h => by rw [decB_small (by omega)]; simp
  | k + 1, n, h => by
    by_cases hn : n < 10
    · rw [decB_small hn]; simp
    · rw [decB_big hn, List.length_append]
      have := decB_length k (n / 10) (by rw [Nat.pow_succ] at h; omega)
      simp; omega
theorem decB_le {n : Nat} (h : n < 18446744073709551616) : (decB n).length ≤ 20 := decB_length 19 n (by omega)
set_option maxHeartbeats 800000 in
theorem decimal_fun (n : Nat) : n < 18446744073709551616 → Fun Tryd.prog 22 [.int .u64 n] [] [] (fun r G S => r = .string (bs (decB n)) ∧ G = [] ∧ S = []) := by
  induction n using Nat.strongRecOn with
  | _ n ih =>
    intro hn
    refine Fun.enter Tryd.func22 (by kernel_rfl) rfl Tryd.ntmps22 rfl (fun B Gf Sf => ?_); (try simp only [List.cons_append]); (try simp only [List.nil_append]); simp only [argEnv]
    (repeat (first | refine vgo ?_ | refine ⟨_, rfl, rfl, ?_⟩ | refine ⟨_, rfl, ?_⟩ | refine ⟨rfl, ?_⟩ | intro hb | refine altA ?_ | refine altR ?_ | refine sideA ?_ | refine decTA ?_ | refine decFA ?_ | refine decNA ?_ | refine decBTA ?_ | refine decBFA ?_ | refine ⟨_, by assumption, ?_⟩ | refine ⟨_, _, _, rfl, ?_⟩ | refine WC.seq (fun K hK => ?_) | (refine hK _ _ _ ?_; clear hK K) | (refine hK _ _ _ _ rfl ?_; clear hK K) | (refine WX.thenExit (K := K) ?_; clear hK K) | (refine WX.thenExit (K := KL) ?_; clear hL KL)))
    refine dcB (fun h10 => ?_) (fun h10 => ?_)
    · (repeat (first | refine vgo ?_ | refine ⟨_, rfl, rfl, ?_⟩ | refine ⟨_, rfl, ?_⟩ | refine ⟨rfl, ?_⟩ | intro hb | refine altA ?_ | refine altR ?_ | refine sideA ?_ | refine decTA ?_ | refine decFA ?_ | refine decNA ?_ | refine decBTA ?_ | refine decBFA ?_ | refine ⟨_, by assumption, ?_⟩ | refine ⟨_, _, _, rfl, ?_⟩ | refine WC.seq (fun K hK => ?_) | (refine hK _ _ _ ?_; clear hK K) | (refine hK _ _ _ _ rfl ?_; clear hK K) | (refine WX.thenExit (K := K) ?_; clear hK K) | (refine WX.thenExit (K := KL) ?_; clear hL KL)))
      refine WL.build rfl rfl rfl rfl rfl ?_; intro va; (try dsimp only [List.cons_append, List.nil_append])
      rw [show ((48 : Int) + (n : Int)) = ((UInt8.ofNat (48 + n)).toNat : Int) from by simp; omega]
      refine WL.sat (fun w sw => sw.pub (R := (Ty.u8)) (l := ([UInt8.ofNat (48 + n)])) (v := va) SelOwn.h rfl rfl rfl (fun _ _ => trivial)) ?_
      (repeat (first | refine vgo ?_ | refine ⟨_, rfl, rfl, ?_⟩ | refine ⟨_, rfl, ?_⟩ | refine ⟨rfl, ?_⟩ | intro hb | refine altA ?_ | refine altR ?_ | refine sideA ?_ | refine decTA ?_ | refine decFA ?_ | refine decNA ?_ | refine decBTA ?_ | refine decBFA ?_ | refine ⟨_, by assumption, ?_⟩ | refine ⟨_, _, _, rfl, ?_⟩ | refine WC.seq (fun K hK => ?_) | (refine hK _ _ _ ?_; clear hK K) | (refine hK _ _ _ _ rfl ?_; clear hK K) | (refine WX.thenExit (K := K) ?_; clear hK K) | (refine WX.thenExit (K := KL) ?_; clear hL KL)))
      exact WX.ret1 rfl rfl (fun w sw => ⟨[], [], ⟨by rw [decB_small (by omega)], rfl, rfl⟩, sw.to⟩)
    · (repeat (first | refine vgo ?_ | refine ⟨_, rfl, rfl, ?_⟩ | refine ⟨_, rfl, ?_⟩ | refine ⟨rfl, ?_⟩ | intro hb | refine altA ?_ | refine altR ?_ | refine sideA ?_ | refine decTA ?_ | refine decFA ?_ | refine decNA ?_ | refine decBTA ?_ | refine decBFA ?_ | refine ⟨_, by assumption, ?_⟩ | refine ⟨_, _, _, rfl, ?_⟩ | refine WC.seq (fun K hK => ?_) | (refine hK _ _ _ ?_; clear hK K) | (refine hK _ _ _ _ rfl ?_; clear hK K) | (refine WX.thenExit (K := K) ?_; clear hK K) | (refine WX.thenExit (K := KL) ?_; clear hL KL)))
      have hl := decB_length 18 (n / 10) (by omega)
      have e1 : ((n : Int) / 10) = ((n / 10 : Nat) : Int) := by omega
      (apply WC.draw; exact rfl; focus (repeat (first | exact Wo.nil | (apply Wo.keep; exact rfl) | (apply Wo.drop; exact rfl)))); (repeat (apply Obls.cons; focus ((repeat (intro _)); (conv => whnf); (repeat (first | refine vgo ?_ | refine ⟨_, rfl, rfl, ?_⟩ | refine ⟨_, rfl, ?_⟩ | refine ⟨rfl, ?_⟩ | intro hb | refine altA ?_ | refine altR ?_ | refine sideA ?_ | refine decTA ?_ | refine decFA ?_ | refine decNA ?_ | refine decBTA ?_ | refine decBFA ?_ | refine ⟨_, by assumption, ?_⟩ | refine ⟨_, _, _, rfl, ?_⟩ | refine WC.seq (fun K hK => ?_) | (refine hK _ _ _ ?_; clear hK K) | (refine hK _ _ _ _ rfl ?_; clear hK K) | (refine WX.thenExit (K := K) ?_; clear hK K) | (refine WX.thenExit (K := KL) ?_; clear hL KL))); first | exact WX.pqIs rfl | exact WX.pqRd rfl | exact WX.pqCell rfl | exact WX.pqNone))); try (refine Obls.nil ?_; (repeat (intro _)); (conv => whnf))
      rw [e1]
      apply Obls.cons
      focus
        (repeat (intro _)); (conv => whnf)
        (repeat (first | refine vgo ?_ | refine ⟨_, rfl, rfl, ?_⟩ | refine ⟨_, rfl, ?_⟩ | refine ⟨rfl, ?_⟩ | intro hb | refine altA ?_ | refine altR ?_ | refine sideA ?_ | refine decTA ?_ | refine decFA ?_ | refine decNA ?_ | refine decBTA ?_ | refine decBFA ?_ | refine ⟨_, by assumption, ?_⟩ | refine ⟨_, _, _, rfl, ?_⟩ | refine WC.seq (fun K hK => ?_) | (refine hK _ _ _ ?_; clear hK K) | (refine hK _ _ _ _ rfl ?_; clear hK K) | (refine WX.thenExit (K := K) ?_; clear hK K) | (refine WX.thenExit (K := KL) ?_; clear hL KL)))
        refine CallV.by' (ih (n / 10) (by omega) (by omega)) ?_; rintro _ _ _ ⟨rfl, rfl, rfl⟩; (try simp only [List.cons_append]); (try simp only [List.nil_append])
        (repeat (first | refine vgo ?_ | refine ⟨_, rfl, rfl, ?_⟩ | refine ⟨_, rfl, ?_⟩ | refine ⟨rfl, ?_⟩ | intro hb | refine altA ?_ | refine altR ?_ | refine sideA ?_ | refine decTA ?_ | refine decFA ?_ | refine decNA ?_ | refine decBTA ?_ | refine decBFA ?_ | refine ⟨_, by assumption, ?_⟩ | refine ⟨_, _, _, rfl, ?_⟩ | refine WC.seq (fun K hK => ?_) | (refine hK _ _ _ ?_; clear hK K) | (refine hK _ _ _ _ rfl ?_; clear hK K) | (refine WX.thenExit (K := K) ?_; clear hK K) | (refine WX.thenExit (K := KL) ?_; clear hL KL)))
        first | exact WX.pqIs rfl | exact WX.pqRd rfl | exact WX.pqCell rfl | exact WX.pqNone
      (repeat (apply Obls.cons; focus ((repeat (intro _)); (conv => whnf); (repeat (first | refine vgo ?_ | refine ⟨_, rfl, rfl, ?_⟩ | refine ⟨_, rfl, ?_⟩ | refine ⟨rfl, ?_⟩ | intro hb | refine altA ?_ | refine altR ?_ | refine sideA ?_ | refine decTA ?_ | refine decFA ?_ | refine decNA ?_ | refine decBTA ?_ | refine decBFA ?_ | refine ⟨_, by assumption, ?_⟩ | refine ⟨_, _, _, rfl, ?_⟩ | refine WC.seq (fun K hK => ?_) | (refine hK _ _ _ ?_; clear hK K) | (refine hK _ _ _ _ rfl ?_; clear hK K) | (refine WX.thenExit (K := K) ?_; clear hK K) | (refine WX.thenExit (K := KL) ?_; clear hL KL))); first | exact WX.pqIs rfl | exact WX.pqRd rfl | exact WX.pqCell rfl | exact WX.pqNone))); try (refine Obls.nil ?_; (repeat (intro _)); (conv => whnf))
      apply Obls.cons
      focus
        (repeat (intro _)); (conv => whnf)
        (repeat (first | refine vgo ?_ | refine ⟨_, rfl, rfl, ?_⟩ | refine ⟨_, rfl, ?_⟩ | refine ⟨rfl, ?_⟩ | intro hb | refine altA ?_ | refine altR ?_ | refine sideA ?_ | refine decTA ?_ | refine decFA ?_ | refine decNA ?_ | refine decBTA ?_ | refine decBFA ?_ | refine ⟨_, by assumption, ?_⟩ | refine ⟨_, _, _, rfl, ?_⟩ | refine WC.seq (fun K hK => ?_) | (refine hK _ _ _ ?_; clear hK K) | (refine hK _ _ _ _ rfl ?_; clear hK K) | (refine WX.thenExit (K := K) ?_; clear hK K) | (refine WX.thenExit (K := KL) ?_; clear hL KL)))
        refine WL.build rfl rfl rfl rfl rfl ?_; intro va; (try dsimp only [List.cons_append, List.nil_append])
        rw [show ((48 : Int) + (n : Int) % 10) = ((UInt8.ofNat (48 + n % 10)).toNat : Int) from by simp; omega]
        refine WL.sat (fun w sw => sw.pub (R := (Ty.u8)) (l := ([UInt8.ofNat (48 + n % 10)])) (v := va) SelOwn.h rfl rfl rfl (fun _ _ => trivial)) ?_
        (repeat (first | refine vgo ?_ | refine ⟨_, rfl, rfl, ?_⟩ | refine ⟨_, rfl, ?_⟩ | refine ⟨rfl, ?_⟩ | intro hb | refine altA ?_ | refine altR ?_ | refine sideA ?_ | refine decTA ?_ | refine decFA ?_ | refine decNA ?_ | refine decBTA ?_ | refine decBFA ?_ | refine ⟨_, by assumption, ?_⟩ | refine ⟨_, _, _, rfl, ?_⟩ | refine WC.seq (fun K hK => ?_) | (refine hK _ _ _ ?_; clear hK K) | (refine hK _ _ _ _ rfl ?_; clear hK K) | (refine WX.thenExit (K := K) ?_; clear hK K) | (refine WX.thenExit (K := KL) ?_; clear hL KL)))
        first | exact WX.pqIs rfl | exact WX.pqRd rfl | exact WX.pqCell rfl | exact WX.pqNone
      (repeat (apply Obls.cons; focus ((repeat (intro _)); (conv => whnf); (repeat (first | refine vgo ?_ | refine ⟨_, rfl, rfl, ?_⟩ | refine ⟨_, rfl, ?_⟩ | refine ⟨rfl, ?_⟩ | intro hb | refine altA ?_ | refine altR ?_ | refine sideA ?_ | refine decTA ?_ | refine decFA ?_ | refine decNA ?_ | refine decBTA ?_ | refine decBFA ?_ | refine ⟨_, by assumption, ?_⟩ | refine ⟨_, _, _, rfl, ?_⟩ | refine WC.seq (fun K hK => ?_) | (refine hK _ _ _ ?_; clear hK K) | (refine hK _ _ _ _ rfl ?_; clear hK K) | (refine WX.thenExit (K := K) ?_; clear hK K) | (refine WX.thenExit (K := KL) ?_; clear hL KL))); first | exact WX.pqIs rfl | exact WX.pqRd rfl | exact WX.pqCell rfl | exact WX.pqNone))); try (refine Obls.nil ?_; (repeat (intro _)); (conv => whnf))
      (repeat (first | refine vgo ?_ | refine ⟨_, rfl, rfl, ?_⟩ | refine ⟨_, rfl, ?_⟩ | refine ⟨rfl, ?_⟩ | intro hb | refine altA ?_ | refine altR ?_ | refine sideA ?_ | refine decTA ?_ | refine decFA ?_ | refine decNA ?_ | refine decBTA ?_ | refine decBFA ?_ | refine ⟨_, by assumption, ?_⟩ | refine ⟨_, _, _, rfl, ?_⟩ | refine WC.seq (fun K hK => ?_) | (refine hK _ _ _ ?_; clear hK K) | (refine hK _ _ _ _ rfl ?_; clear hK K) | (refine WX.thenExit (K := K) ?_; clear hK K) | (refine WX.thenExit (K := KL) ?_; clear hL KL)))
      exact WX.ret1 rfl rfl (fun w sw => ⟨[], [], ⟨by rw [decB_big (n := n) (by omega)], rfl, rfl⟩, sw.to⟩)
def intB (n : Int) : List UInt8 := if n < 0 then 45 :: decB n.natAbs else decB n.natAbs
theorem intB_le {n : Int} (h : -9223372036854775808 ≤ n ∧ n ≤ 9223372036854775807) : (intB n).length ≤ 21 := by
  have := decB_le (n := n.natAbs) (by omega)
  unfold intB; split <;> simp <;> omega
instance decimal_pure {G : List Pers} {n : Nat} : PureF Tryd.prog 22 [.int .u64 (n : Int)] G (n < 18446744073709551616) (.string (bs (decB n))) := ⟨fun h => PureF.of0 (decimal_fun n h)⟩
set_option maxHeartbeats 800000 in
theorem sdecimal_fun (n : Int) (hn : -9223372036854775808 ≤ n ∧ n ≤ 9223372036854775807) : Fun Tryd.prog 12 [.int .i64 n] [] [] (fun r G S => r = .string (bs (intB n)) ∧ G = [] ∧ S = []) := by
  have hl := decB_le (n := n.natAbs) (by omega)
  refine Fun.enter Tryd.func12 (by kernel_rfl) rfl Tryd.ntmps12 rfl (fun B Gf Sf => ?_); (try simp only [List.cons_append]); (try simp only [List.nil_append]); simp only [argEnv]
  (repeat (first | refine vgo ?_ | refine ⟨_, rfl, rfl, ?_⟩ | refine ⟨_, rfl, ?_⟩ | refine ⟨rfl, ?_⟩ | intro hb | refine altA ?_ | refine altR ?_ | refine sideA ?_ | refine decTA ?_ | refine decFA ?_ | refine decNA ?_ | refine decBTA ?_ | refine decBFA ?_ | refine ⟨_, by assumption, ?_⟩ | refine ⟨_, _, _, rfl, ?_⟩ | refine WC.seq (fun K hK => ?_) | (refine hK _ _ _ ?_; clear hK K) | (refine hK _ _ _ _ rfl ?_; clear hK K) | (refine WX.thenExit (K := K) ?_; clear hK K) | (refine WX.thenExit (K := KL) ?_; clear hL KL)))
  refine dcB (fun h0 => ?_) (fun h0 => ?_)
  · (repeat (first | refine vgo ?_ | refine ⟨_, rfl, rfl, ?_⟩ | refine ⟨_, rfl, ?_⟩ | refine ⟨rfl, ?_⟩ | intro hb | refine altA ?_ | refine altR ?_ | refine sideA ?_ | refine decTA ?_ | refine decFA ?_ | refine decNA ?_ | refine decBTA ?_ | refine decBFA ?_ | refine ⟨_, by assumption, ?_⟩ | refine ⟨_, _, _, rfl, ?_⟩ | refine WC.seq (fun K hK => ?_) | (refine hK _ _ _ ?_; clear hK K) | (refine hK _ _ _ _ rfl ?_; clear hK K) | (refine WX.thenExit (K := K) ?_; clear hK K) | (refine WX.thenExit (K := KL) ?_; clear hL KL)))
    rw [show IntKind.u64.wrap (-(IntKind.u64.wrap n)) = ((n.natAbs : Nat) : Int) from by rw [wrap_u64, wrap_u64]; omega]
    (repeat (first | refine vgo ?_ | refine ⟨_, rfl, rfl, ?_⟩ | refine ⟨_, rfl, ?_⟩ | refine ⟨rfl, ?_⟩ | intro hb | refine altA ?_ | refine altR ?_ | refine sideA ?_ | refine decTA ?_ | refine decFA ?_ | refine decNA ?_ | refine decBTA ?_ | refine decBFA ?_ | refine ⟨_, by assumption, ?_⟩ | refine ⟨_, _, _, rfl, ?_⟩ | refine WC.seq (fun K hK => ?_) | (refine hK _ _ _ ?_; clear hK K) | (refine hK _ _ _ _ rfl ?_; clear hK K) | (refine WX.thenExit (K := K) ?_; clear hK K) | (refine WX.thenExit (K := KL) ?_; clear hL KL)))
    exact WX.ret1 rfl rfl (fun w sw => ⟨[], [], ⟨by rw [intB, if_pos h0]; rfl, rfl, rfl⟩, sw.to⟩)
  · (repeat (first | refine vgo ?_ | refine ⟨_, rfl, rfl, ?_⟩ | refine ⟨_, rfl, ?_⟩ | refine ⟨rfl, ?_⟩ | intro hb | refine altA ?_ | refine altR ?_ | refine sideA ?_ | refine decTA ?_ | refine decFA ?_ | refine decNA ?_ | refine decBTA ?_ | refine decBFA ?_ | refine ⟨_, by assumption, ?_⟩ | refine ⟨_, _, _, rfl, ?_⟩ | refine WC.seq (fun K hK => ?_) | (refine hK _ _ _ ?_; clear hK K) | (refine hK _ _ _ _ rfl ?_; clear hK K) | (refine WX.thenExit (K := K) ?_; clear hK K) | (refine WX.thenExit (K := KL) ?_; clear hL KL)))
    rw [show n = ((n.natAbs : Nat) : Int) from by omega]
    (repeat (first | refine vgo ?_ | refine ⟨_, rfl, rfl, ?_⟩ | refine ⟨_, rfl, ?_⟩ | refine ⟨rfl, ?_⟩ | intro hb | refine altA ?_ | refine altR ?_ | refine sideA ?_ | refine decTA ?_ | refine decFA ?_ | refine decNA ?_ | refine decBTA ?_ | refine decBFA ?_ | refine ⟨_, by assumption, ?_⟩ | refine ⟨_, _, _, rfl, ?_⟩ | refine WC.seq (fun K hK => ?_) | (refine hK _ _ _ ?_; clear hK K) | (refine hK _ _ _ _ rfl ?_; clear hK K) | (refine WX.thenExit (K := K) ?_; clear hK K) | (refine WX.thenExit (K := KL) ?_; clear hL KL)))
    exact WX.ret1 rfl rfl (fun w sw => ⟨[], [], ⟨by rw [intB, if_neg (by omega)], rfl, rfl⟩, sw.to⟩)
instance sdecimal_pure {G : List Pers} {n : Int} : PureF Tryd.prog 12 [.int .i64 n] G (-9223372036854775808 ≤ n ∧ n ≤ 9223372036854775807) (.string (bs (intB n))) := ⟨fun h => PureF.of0 (sdecimal_fun n h)⟩
end Go.Qd
