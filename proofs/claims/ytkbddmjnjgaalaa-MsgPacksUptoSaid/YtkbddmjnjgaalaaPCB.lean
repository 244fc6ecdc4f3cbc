/-
  Clocks as bytes: what clock.Put and the document's Put compute.
-/
import Derived.Test.YtkbddmjnjgaalaaPClockR
import Derived.Test.YtkbddmjnjgaalaaPWv
namespace Go.Qd
open Go Go.Proofs

def numsB (l : List Nat) : List UInt8 := l.flatMap numB
def putB (l : List Nat) : List UInt8 := numB l.length ++ numsB l
theorem numsB_take {l : List Nat} {k x : Nat} (h : l[k]? = some x) : numsB (l.take (k + 1)) = numsB (l.take k) ++ numB x := by
  rw [List.take_add_one, h, numsB, List.flatMap_append]; simp [numsB]
theorem numsB_le : ∀ {l : List Nat}, (∀ x ∈ l, x < 18446744073709551616) → (numsB l).length ≤ 11 * l.length
  | [], _ => by simp [numsB]
  | x :: r, h => by
    have h1 := numB_le (h x (.head _))
    have h2 := numsB_le (l := r) fun y hy => h y (.tail _ hy)
    simp only [numsB, List.flatMap_cons, List.length_append, List.length_cons] at h2 ⊢
    omega
theorem trimL_mem : ∀ (n : Nat) (l : List Nat), l.length = n → ∀ x ∈ trimL l, x ∈ l
  | 0, l, h, x, hx => by
    have := trimL_length l
    rw [List.eq_nil_of_length_eq_zero (show (trimL l).length = 0 by omega)] at hx; cases hx
  | n + 1, l, h, x, hx => by
    by_cases h0 : l.getLast? = some 0
    · rw [trimL_zero h0] at hx
      exact List.dropLast_subset l (trimL_mem n l.dropLast (by simp; omega) x hx)
    · rw [trimL_done h0] at hx; exact hx
set_option maxHeartbeats 1600000 in
theorem cput_fun (b : Nat) (v0 : Value) (l : List Nat) (v : Value) (w0 : List UInt8) (hl : l.length ≤ 1000) (hw0 : w0.length ≤ 800000) (hok : ∀ x ∈ l, x < 18446744073709551616) : Fun Try.prog 24 [.pointer (some ⟨b, 0, none⟩), v] [rd (Ty.sl Ty.u64) l v] [wrB b v0, wrO v0 w0]
    (fun _ G S => G = [] ∧ ∃ v', S = [wrB b v', wrO v' (w0 ++ putB (trimL l))]) := by
  have htl := trimL_length l
  have hx : ∀ x ∈ trimL l, x < 18446744073709551616 := fun x h => hok x (trimL_mem _ l rfl x h)
  have hL0 := numB_le (n := (trimL l).length) (by omega)
  refine Fun.enter Try.func24 (by kernel_rfl) rfl Try.ntmps24 rfl (fun B Gf Sf => ?_); (try simp only [List.cons_append]); (try simp only [List.nil_append]); simp only [argEnv]
  (repeat (first | refine vgo ?_ | refine ⟨_, rfl, rfl, ?_⟩ | refine ⟨_, rfl, ?_⟩ | refine ⟨rfl, ?_⟩ | intro hb | (refine altL ?_ ?_; omega) | refine altR ?_ | (refine side ?_ ?_; first | omega | exact True.intro | ((try simp only [List.length_append, List.length_cons, List.length_nil, List.length_map, List.length_replicate, List.length_set, and_true, true_and]); omega) | assumption | (and_intros <;> first | omega | assumption) | decide) | (refine decT ?_ ?_; first | with_reducible assumption | with_reducible rfl | (refine not_not_intro ?_; with_reducible first | assumption | rfl) | omega | decide) | (refine decF ?_ ?_; first | with_reducible assumption | with_reducible rfl | (refine not_not_intro ?_; with_reducible first | assumption | rfl) | omega | decide) | (refine decBT ?_ ?_; with_reducible first | assumption | rfl | exact Bool.not_false) | (refine decBF ?_ ?_; with_reducible first | assumption | rfl | exact Bool.not_true) | refine ⟨_, by assumption, ?_⟩ | refine ⟨_, _, _, rfl, ?_⟩ | refine WC.seq (fun K hK => ?_) | (refine hK _ _ _ ?_; clear hK K) | (refine hK _ _ _ _ rfl ?_; clear hK K) | (refine WX.thenExit (K := K) ?_; clear hK K) | (refine WX.thenExit (K := KL) ?_; clear hL KL)))
  rename_i u
  have hl2 : (w0 ++ numB (trimL l).length).length ≤ 800011 := by rw [List.length_append]; omega
  refine WC.loop (I := Nat × Value) (fun i => [(0, .pointer (some ⟨b, 0, none⟩)), (13, u), (14, .int .i64 (trimL l).length), (15, .int .i64 (i.1 : Nat))]) (fun _ => rd (Ty.sl Ty.u64) (trimL l) u :: rd (Ty.sl Ty.u64) l v :: Gf) (fun i => wrB b i.2 :: wrO i.2 (w0 ++ numB (trimL l).length ++ numsB ((trimL l).take i.1)) :: Sf) (fun i => i.1 ≤ (trimL l).length) (fun i => (trimL l).length - i.1) (0, hb) (Nat.zero_le _) (.cons rfl (.cons rfl (.cons rfl (.cons rfl .nil)))) (fun w h => by simp only [List.take_zero, numsB, List.flatMap_nil, List.append_nil]; exact h.to) ?_
  rintro ⟨k, ov⟩ hk KL hL
  dsimp only at hk ⊢
  (repeat (first | refine vgo ?_ | refine ⟨_, rfl, rfl, ?_⟩ | refine ⟨_, rfl, ?_⟩ | refine ⟨rfl, ?_⟩ | intro hb | (refine altL ?_ ?_; omega) | refine altR ?_ | (refine side ?_ ?_; first | omega | exact True.intro | ((try simp only [List.length_append, List.length_cons, List.length_nil, List.length_map, List.length_replicate, List.length_set, and_true, true_and]); omega) | assumption | (and_intros <;> first | omega | assumption) | decide) | (refine decT ?_ ?_; first | with_reducible assumption | with_reducible rfl | (refine not_not_intro ?_; with_reducible first | assumption | rfl) | omega | decide) | (refine decF ?_ ?_; first | with_reducible assumption | with_reducible rfl | (refine not_not_intro ?_; with_reducible first | assumption | rfl) | omega | decide) | (refine decBT ?_ ?_; with_reducible first | assumption | rfl | exact Bool.not_false) | (refine decBF ?_ ?_; with_reducible first | assumption | rfl | exact Bool.not_true) | refine ⟨_, by assumption, ?_⟩ | refine ⟨_, _, _, rfl, ?_⟩ | refine WC.seq (fun K hK => ?_) | (refine hK _ _ _ ?_; clear hK K) | (refine hK _ _ _ _ rfl ?_; clear hK K) | (refine WX.thenExit (K := K) ?_; clear hK K) | (refine WX.thenExit (K := KL) ?_; clear hL KL)))
  refine dcB (fun g1 => ?_) (fun g1 => ?_)
  · obtain ⟨x, hxk, hts⟩ := get_ex (l := trimL l) (k := k) (by omega)
    have hx1 := hx x (List.mem_of_getElem? hxk)
    have hsub := numsB_le (l := (trimL l).take k) (fun y hy => hx y (List.mem_of_mem_take hy))
    rw [List.length_take] at hsub
    have hlen : (w0 ++ numB (trimL l).length ++ numsB ((trimL l).take k)).length ≤ 900000 := by rw [List.length_append]; omega
    have hne := numsB_take hxk
    (repeat (first | refine vgo ?_ | refine ⟨_, rfl, rfl, ?_⟩ | refine ⟨_, rfl, ?_⟩ | refine ⟨rfl, ?_⟩ | intro hb | (refine altL ?_ ?_; omega) | refine altR ?_ | (refine side ?_ ?_; first | omega | exact True.intro | ((try simp only [List.length_append, List.length_cons, List.length_nil, List.length_map, List.length_replicate, List.length_set, and_true, true_and]); omega) | assumption | (and_intros <;> first | omega | assumption) | decide) | (refine decT ?_ ?_; first | with_reducible assumption | with_reducible rfl | (refine not_not_intro ?_; with_reducible first | assumption | rfl) | omega | decide) | (refine decF ?_ ?_; first | with_reducible assumption | with_reducible rfl | (refine not_not_intro ?_; with_reducible first | assumption | rfl) | omega | decide) | (refine decBT ?_ ?_; with_reducible first | assumption | rfl | exact Bool.not_false) | (refine decBF ?_ ?_; with_reducible first | assumption | rfl | exact Bool.not_true) | refine ⟨_, by assumption, ?_⟩ | refine ⟨_, _, _, rfl, ?_⟩ | refine WC.seq (fun K hK => ?_) | (refine hK _ _ _ ?_; clear hK K) | (refine hK _ _ _ _ rfl ?_; clear hK K) | (refine WX.thenExit (K := K) ?_; clear hK K) | (refine WX.thenExit (K := KL) ?_; clear hL KL)))
    refine (hL (k + 1, hb) (by dsimp only; omega) (by dsimp only; omega)).conv (.cons rfl (.cons rfl (.cons rfl (.cons rfl .nil)))) (fun _ h => ?_)
    dsimp only
    rw [hne, ← List.append_assoc]
    exact h.to
  · rw [List.take_of_length_le (by omega)]
    (repeat (first | refine vgo ?_ | refine ⟨_, rfl, rfl, ?_⟩ | refine ⟨_, rfl, ?_⟩ | refine ⟨rfl, ?_⟩ | intro hb | (refine altL ?_ ?_; omega) | refine altR ?_ | (refine side ?_ ?_; first | omega | exact True.intro | ((try simp only [List.length_append, List.length_cons, List.length_nil, List.length_map, List.length_replicate, List.length_set, and_true, true_and]); omega) | assumption | (and_intros <;> first | omega | assumption) | decide) | (refine decT ?_ ?_; first | with_reducible assumption | with_reducible rfl | (refine not_not_intro ?_; with_reducible first | assumption | rfl) | omega | decide) | (refine decF ?_ ?_; first | with_reducible assumption | with_reducible rfl | (refine not_not_intro ?_; with_reducible first | assumption | rfl) | omega | decide) | (refine decBT ?_ ?_; with_reducible first | assumption | rfl | exact Bool.not_false) | (refine decBF ?_ ?_; with_reducible first | assumption | rfl | exact Bool.not_true) | refine ⟨_, by assumption, ?_⟩ | refine ⟨_, _, _, rfl, ?_⟩ | refine WC.seq (fun K hK => ?_) | (refine hK _ _ _ ?_; clear hK K) | (refine hK _ _ _ _ rfl ?_; clear hK K) | (refine WX.thenExit (K := K) ?_; clear hK K) | (refine WX.thenExit (K := KL) ?_; clear hL KL)))
    exact WX.end0 rfl (fun w sw => ⟨[], _, ⟨rfl, ov, by rw [putB, ← List.append_assoc]⟩, sw.to⟩)
section
variable {n : Nat} {Q : Exit → Act → World → Prop} {B : Base} {env : Env} {G : List Pers} {S S' S1 S2 : List Res} {L rest : List Oper}
variable {d b : Nat} {v : Value} {w0 : List UInt8} {l : List Nat} {bad : Bool}
instance cput_v {u : Value} [hm : SelBox b S 76 [v] S1] [ho : SelOwn v S1 5 1 w0.length (u8s w0) S2] [hr : RdSl u G Ty.u64 l] : V (CallV Try.prog n L Q rest B env G S (some d) 24 [.pointer (some ⟨b, 0, none⟩), u]) (Side (l.length ≤ 1000 ∧ w0.length ≤ 800000 ∧ ∀ x ∈ l, x < 18446744073709551616) (∀ (r : Value) v', WL Try.prog n L Q rest B ((d, r) :: env) G (wrB b v' :: wrO v' (w0 ++ putB (trimL l)) :: S2))) := ⟨fun h => by
  refine .by (cput_fun b v l u w0 h.c.1 h.c.2.1 h.c.2.2) (fun g hg => by simp only [List.mem_singleton] at hg; subst hg; exact hr.h) (.cons hm.h (.cons ho.h .nil)) ?_
  rintro r _ _ ⟨rfl, v', rfl⟩
  exact h.p r v'⟩
end
/-! Taken again -/
section
variable {n : Nat} {Q : Exit → Act → World → Prop} {B : Base} {env : Env} {G : List Pers} {S S' S1 S2 : List Res} {L rest : List Oper}
variable {d b : Nat} {v : Value} {l : List UInt8} {bad : Bool}
end
/-! The document's clocks taken -/
end Go.Qd
