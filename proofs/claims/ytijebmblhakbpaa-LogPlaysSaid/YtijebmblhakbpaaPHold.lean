/-
  What waits: slices of operations, copied and cut.
-/
import Derived.Test.YtijebmblhakbpaaPMat
import Derived.Test.YtijebmblhakbpaaQDel
namespace Go.Qd
open Go Go.Proofs
theorem hclone_fun (v : Value) (m : Nat) (xs : List Value) (h1 : ∀ u ∈ xs, u.oneCell' = true) (hm : m ≤ 100000) : Fun Try.prog 68 [v] [] [own 56 24 v m xs]
    (fun r G S => G = [] ∧ S = [own 56 24 v m xs, own 56 24 r m xs]) := by
  refine Fun.enter Try.func68 (by kernel_rfl) rfl Try.ntmps68 rfl (fun B Gf Sf => ?_); (try simp only [List.cons_append]); (try simp only [List.nil_append]); simp only [argEnv]
  refine WC.ex (fun w sw => sw.own_cases.1) (fun hxl => ?_)
  refine WC.openOwn (v := v) (fun e m0 => ?_) (fun b cp cs e hmc hcp hcl hct => ?_)
  · subst e
    subst m0
    obtain rfl : xs = [] := List.eq_nil_of_length_eq_zero hxl
    (repeat (first | refine vgo ?_ | refine ⟨_, rfl, rfl, ?_⟩ | refine ⟨_, rfl, ?_⟩ | refine ⟨rfl, ?_⟩ | intro hb | (refine altL ?_ ?_; omega) | refine altR ?_ | (refine side ?_ ?_; first | omega | exact True.intro | ((try simp only [List.length_append, List.length_cons, List.length_nil, List.length_map, List.length_replicate, List.length_set, and_true, true_and]); omega) | assumption | (and_intros <;> first | omega | assumption) | decide) | (refine decT ?_ ?_; first | with_reducible assumption | with_reducible rfl | (refine not_not_intro ?_; with_reducible first | assumption | rfl) | omega | decide) | (refine decF ?_ ?_; first | with_reducible assumption | with_reducible rfl | (refine not_not_intro ?_; with_reducible first | assumption | rfl) | omega | decide) | (refine decBT ?_ ?_; with_reducible first | assumption | rfl | exact Bool.not_false) | (refine decBF ?_ ?_; with_reducible first | assumption | rfl | exact Bool.not_true) | refine ⟨_, by assumption, ?_⟩ | refine ⟨_, _, _, rfl, ?_⟩ | refine WC.seq (fun K hK => ?_) | (refine hK _ _ _ ?_; clear hK K) | (refine hK _ _ _ _ rfl ?_; clear hK K) | (refine WX.thenExit (K := K) ?_; clear hK K) | (refine WX.thenExit (K := KL) ?_; clear hL KL)))
    exact WX.ret1 rfl rfl (fun w sw => ⟨_, _, ⟨rfl, rfl⟩, (sw.ownNil 56 24).to⟩)
  · subst e
    have hmx : m * 24 ≤ cp * 24 := Nat.mul_le_mul_right _ hmc
    (repeat (first | refine vgo ?_ | refine ⟨_, rfl, rfl, ?_⟩ | refine ⟨_, rfl, ?_⟩ | refine ⟨rfl, ?_⟩ | intro hb | (refine altL ?_ ?_; omega) | refine altR ?_ | (refine side ?_ ?_; first | omega | exact True.intro | ((try simp only [List.length_append, List.length_cons, List.length_nil, List.length_map, List.length_replicate, List.length_set, and_true, true_and]); omega) | assumption | (and_intros <;> first | omega | assumption) | decide) | (refine decT ?_ ?_; first | with_reducible assumption | with_reducible rfl | (refine not_not_intro ?_; with_reducible first | assumption | rfl) | omega | decide) | (refine decF ?_ ?_; first | with_reducible assumption | with_reducible rfl | (refine not_not_intro ?_; with_reducible first | assumption | rfl) | omega | decide) | (refine decBT ?_ ?_; with_reducible first | assumption | rfl | exact Bool.not_false) | (refine decBF ?_ ?_; with_reducible first | assumption | rfl | exact Bool.not_true) | refine ⟨_, by assumption, ?_⟩ | refine ⟨_, _, _, rfl, ?_⟩ | refine WC.seq (fun K hK => ?_) | (refine hK _ _ _ ?_; clear hK K) | (refine hK _ _ _ _ rfl ?_; clear hK K) | (refine WX.thenExit (K := K) ?_; clear hK K) | (refine WX.thenExit (K := KL) ?_; clear hL KL)))
    refine AppV.bx (o := 0) (b := b) (E' := 56) (cs := cs) (.inr rfl) (by omega) (by rw [List.drop_zero, hct]; exact h1) rfl (by omega) (by simp only [maxLen]; omega) (fun v' => ?_)
    rw [Nat.zero_add, List.nil_append, List.drop_zero, hct]
    (repeat (first | refine vgo ?_ | refine ⟨_, rfl, rfl, ?_⟩ | refine ⟨_, rfl, ?_⟩ | refine ⟨rfl, ?_⟩ | intro hb | (refine altL ?_ ?_; omega) | refine altR ?_ | (refine side ?_ ?_; first | omega | exact True.intro | ((try simp only [List.length_append, List.length_cons, List.length_nil, List.length_map, List.length_replicate, List.length_set, and_true, true_and]); omega) | assumption | (and_intros <;> first | omega | assumption) | decide) | (refine decT ?_ ?_; first | with_reducible assumption | with_reducible rfl | (refine not_not_intro ?_; with_reducible first | assumption | rfl) | omega | decide) | (refine decF ?_ ?_; first | with_reducible assumption | with_reducible rfl | (refine not_not_intro ?_; with_reducible first | assumption | rfl) | omega | decide) | (refine decBT ?_ ?_; with_reducible first | assumption | rfl | exact Bool.not_false) | (refine decBF ?_ ?_; with_reducible first | assumption | rfl | exact Bool.not_true) | refine ⟨_, by assumption, ?_⟩ | refine ⟨_, _, _, rfl, ?_⟩ | refine WC.seq (fun K hK => ?_) | (refine hK _ _ _ ?_; clear hK K) | (refine hK _ _ _ _ rfl ?_; clear hK K) | (refine WX.thenExit (K := K) ?_; clear hK K) | (refine WX.thenExit (K := KL) ?_; clear hL KL)))
    refine WX.ret1 rfl rfl (fun w sw => ⟨_, _, ⟨rfl, rfl⟩, ?_⟩)
    have sw2 := sw.closeOwn (b := b) (cp := cp) 24 m hcl hmc hcp
    rw [hct] at sw2
    exact sw2.to
/-- An operation of the program, of those that the statements make: nobody's but its origin's, numbers, and what is known. -/
abbrev oTail : List Value := [.int .u64 0, .int .i64 0, .int .u64 0, .int .i64 0, .int .i64 0, .int .i64 0, .string .empty, .int .i64 0, .int .i64 0, .string .empty, .int .u64 0, .int .i64 0, .int .u64 0, .int .i64 0, .int .u64 0, .int .i64 0, .int .u64 0, .int .i64 0, .slice none 0 0]
abbrev opC (o : Int) (n t : Nat) (d : Value) (k : Int) : List Value := .int .i64 o :: .int .u64 n :: .int .u64 t :: d :: .int .i64 k :: oTail
abbrev opV (o : Int) (n t : Nat) (d : Value) (k : Int) : Value := .agg (opC o n t d k).toArray
structure OpT where
  o : Int
  n : Nat
  t : Nat
  c : List Nat
  d : Value
  k : Int
abbrev OpT.C (x : OpT) : List Value := opC x.o x.n x.t x.d x.k
abbrev OpT.V (x : OpT) : Value := opV x.o x.n x.t x.d x.k
def opsC (l : List OpT) : List Value := l.flatMap OpT.C
theorem opsC_len : ∀ l : List OpT, (opsC l).length = l.length * 24
  | [] => rfl
  | x :: l => by
    have := opsC_len l
    unfold opsC at this ⊢
    have e : (OpT.C x).length = 24 := rfl
    rw [List.flatMap_cons, List.length_append, this, e]
    show 24 + l.length * 24 = (l.length + 1) * 24
    omega
theorem opsC_seg : ∀ {l : List OpT} {i : Nat} {x : OpT}, l[i]? = some x → ((opsC l).drop (i * 24)).take 24 = x.C
  | [], _, _, h => by simp at h
  | y :: l, 0, x, h => by
    simp only [List.getElem?_cons_zero, Option.some.injEq] at h; subst h
    unfold opsC
    rw [List.flatMap_cons, Nat.zero_mul, List.drop_zero]
    exact List.take_left' rfl
  | y :: l, i + 1, x, h => by
    rw [List.getElem?_cons_succ] at h
    have e := opsC_seg h
    unfold opsC at e ⊢
    rw [List.flatMap_cons, show (i + 1) * 24 = 24 + i * 24 from by omega, ← List.drop_drop, List.drop_left' (show (OpT.C y).length = 24 from rfl), e]
abbrev hG (l : List OpT) : Pers := rdAll (Ty.sl Ty.u64) (l.map OpT.c) (l.map OpT.d)
end Go.Qd
