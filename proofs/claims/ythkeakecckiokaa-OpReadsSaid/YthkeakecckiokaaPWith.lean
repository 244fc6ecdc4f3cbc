/-
  A clock with another number of a replica.
-/
import Derived.Test.YthkeakecckiokaaPClock
import Derived.Test.YthkeakecckiokaaQCopy
namespace Go.Qd
open Go Go.Proofs
def withL (c : List Nat) (r : Int) (x : Nat) : List Nat := (c ++ List.replicate (r.toNat - c.length) 0).set (r - 1).toNat x
theorem withL_ok {c : List Nat} {r : Int} {x : Nat} (hc : ∀ a ∈ c, a < 18446744073709551616) (hx : x < 18446744073709551616) : ∀ a ∈ withL c r x, a < 18446744073709551616 := fun a ha => by
  rcases List.mem_or_eq_of_mem_set ha with h | h
  · rcases List.mem_append.1 h with h | h
    · exact hc a h
    · have := List.eq_of_mem_replicate h; omega
  · rw [h]; exact hx
set_option maxHeartbeats 800000 in
theorem with_fun (c : List Nat) (v : Value) (r : Int) (x : Nat) (h1 : 1 ≤ r) (h64 : r ≤ 64) (hc : c.length ≤ 1048576) (hx : x < 18446744073709551616) : Fun Try.prog 52 [v, .int .i64 r, .int .u64 (x : Nat)] [rd (Ty.sl Ty.u64) c v] [] (fun u G S => G = [rd (Ty.sl Ty.u64) (trimL (withL c r x)) u] ∧ S = []) := by
  have hm : max ((c.length : Nat) : Int) r = ((c.length + (r.toNat - c.length) : Nat) : Int) := by omega
  obtain ⟨m, hmm⟩ : ∃ m, m = c.length + (r.toNat - c.length) := ⟨_, rfl⟩
  rw [← hmm] at hm
  refine Fun.enter Try.func52 (by kernel_rfl) rfl Try.ntmps52 rfl (fun B Gf Sf => ?_); (try simp only [List.cons_append]); (try simp only [List.nil_append]); simp only [argEnv]
  (repeat (first | refine vgo ?_ | refine ⟨_, rfl, rfl, ?_⟩ | refine ⟨_, rfl, ?_⟩ | refine ⟨rfl, ?_⟩ | intro hb | refine altA ?_ | refine altR ?_ | refine sideA ?_ | refine decTA ?_ | refine decFA ?_ | refine decNA ?_ | refine decBTA ?_ | refine decBFA ?_ | refine ⟨_, by assumption, ?_⟩ | refine ⟨_, _, _, rfl, ?_⟩ | refine WC.seq (fun K hK => ?_) | (refine hK _ _ _ ?_; clear hK K) | (refine hK _ _ _ _ rfl ?_; clear hK K) | (refine WX.thenExit (K := K) ?_; clear hK K) | (refine WX.thenExit (K := KL) ?_; clear hL KL)))
  refine WL.makeB (m) rfl rfl (by omega) (by omega) (by simp only [maxLen]; omega) rfl ?_; intro b
  (repeat (first | refine vgo ?_ | refine ⟨_, rfl, rfl, ?_⟩ | refine ⟨_, rfl, ?_⟩ | refine ⟨rfl, ?_⟩ | intro hb | refine altA ?_ | refine altR ?_ | refine sideA ?_ | refine decTA ?_ | refine decFA ?_ | refine decNA ?_ | refine decBTA ?_ | refine decBFA ?_ | refine ⟨_, by assumption, ?_⟩ | refine ⟨_, _, _, rfl, ?_⟩ | refine WC.seq (fun K hK => ?_) | (refine hK _ _ _ ?_; clear hK K) | (refine hK _ _ _ _ rfl ?_; clear hK K) | (refine WX.thenExit (K := K) ?_; clear hK K) | (refine WX.thenExit (K := KL) ?_; clear hL KL)))
  refine WL.copyB rfl rfl (fun _ => rfl) rfl (by omega) (by rw [List.length_replicate]; exact Nat.le_refl _) rfl ?_
  intro okc
  have e : c.map (fun m : Nat => (.int .u64 (m : Int) : Value)) ++ (List.replicate m (Value.int .u64 0)).drop c.length = (c ++ List.replicate (r.toNat - c.length) 0).map uV := by
    rw [List.map_append, List.map_replicate, List.drop_replicate, hmm, Nat.add_sub_cancel_left]; rfl
  rw [e]
  have hl : (c ++ List.replicate (r.toNat - c.length) 0).length = m := by rw [List.length_append, List.length_replicate, hmm]
  have hl2 : (withL c r x).length = m := by unfold withL; rw [List.length_set, hl]
  (repeat (first | refine vgo ?_ | refine ⟨_, rfl, rfl, ?_⟩ | refine ⟨_, rfl, ?_⟩ | refine ⟨rfl, ?_⟩ | intro hb | refine altA ?_ | refine altR ?_ | refine sideA ?_ | refine decTA ?_ | refine decFA ?_ | refine decNA ?_ | refine decBTA ?_ | refine decBFA ?_ | refine ⟨_, by assumption, ?_⟩ | refine ⟨_, _, _, rfl, ?_⟩ | refine WC.seq (fun K hK => ?_) | (refine hK _ _ _ ?_; clear hK K) | (refine hK _ _ _ _ rfl ?_; clear hK K) | (refine WX.thenExit (K := K) ?_; clear hK K) | (refine WX.thenExit (K := KL) ?_; clear hL KL)))
  refine CallV.sat (fun w sw => sw.pubBox (R := (Ty.u64)) (l := (withL c r x)) (b := b) rfl inferInstance hl2.symm (by simp only [maxLen]; omega) (withL_ok okc hx)) ?_
  (repeat (first | refine vgo ?_ | refine ⟨_, rfl, rfl, ?_⟩ | refine ⟨_, rfl, ?_⟩ | refine ⟨rfl, ?_⟩ | intro hb | refine altA ?_ | refine altR ?_ | refine sideA ?_ | refine decTA ?_ | refine decFA ?_ | refine decNA ?_ | refine decBTA ?_ | refine decBFA ?_ | refine ⟨_, by assumption, ?_⟩ | refine ⟨_, _, _, rfl, ?_⟩ | refine WC.seq (fun K hK => ?_) | (refine hK _ _ _ ?_; clear hK K) | (refine hK _ _ _ _ rfl ?_; clear hK K) | (refine WX.thenExit (K := K) ?_; clear hK K) | (refine WX.thenExit (K := KL) ?_; clear hL KL)))
  exact WX.ret1 rfl rfl (fun w sw => ⟨_, [], ⟨rfl, rfl⟩, sw.to⟩)
end Go.Qd
