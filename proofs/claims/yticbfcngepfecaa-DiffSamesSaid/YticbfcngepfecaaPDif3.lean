/-
  Grids with the same texts: what the functions compute, and the statement's function.
-/
import Derived.Test.YticbfcngepfecaaPDif2
namespace Go.Qd
open Go Go.Proofs
def trimS (l : Row) : Row := if h : l.getLast? = some [] then trimS l.dropLast else l
termination_by l.length
decreasing_by
  cases l with
  | nil => simp at h
  | cons a r => simp
theorem trimS_zero {l : Row} (h : l.getLast? = some []) : trimS l = trimS l.dropLast := by rw [trimS, dif_pos h]
theorem trimS_done {l : Row} (h : ¬ l.getLast? = some []) : trimS l = l := by rw [trimS, dif_neg h]
theorem getDS_take (l : Row) (k i : Nat) : (l.take k).getD i [] = if i < k then l.getD i [] else [] := by
  simp only [List.getD_eq_getElem?_getD, List.getElem?_take]
  split <;> simp
theorem trimS_getD (l : Row) (i : Nat) : (trimS l).getD i [] = l.getD i [] := by
  induction h : l.length using Nat.strongRecOn generalizing l with
  | _ n ih =>
    by_cases hz : l.getLast? = some []
    · have hne : l ≠ [] := by rintro rfl; simp at hz
      have hp : 0 < l.length := List.length_pos_iff.2 hne
      rw [trimS_zero hz, ih l.dropLast.length (by simp; omega) l.dropLast rfl, List.dropLast_eq_take, getDS_take]
      split
      · rfl
      · rename_i h1
        rw [List.getLast?_eq_getElem?] at hz
        by_cases h2 : i = l.length - 1
        · subst h2; simp [List.getD_eq_getElem?_getD, hz]
        · simp [List.getD_eq_getElem?_getD, List.getElem?_eq_none (show l.length ≤ i by omega)]
    · rw [trimS_done hz]
theorem trimS_last (l : Row) : ¬ (trimS l).getLast? = some [] := by
  induction h : l.length using Nat.strongRecOn generalizing l with
  | _ n ih =>
    by_cases hz : l.getLast? = some []
    · have hne : l ≠ [] := by rintro rfl; simp at hz
      have hp : 0 < l.length := List.length_pos_iff.2 hne
      rw [trimS_zero hz]
      exact ih l.dropLast.length (by simp; omega) l.dropLast rfl
    · rw [trimS_done hz]; exact hz
theorem trimS_length (l : Row) : (trimS l).length ≤ l.length := by
  induction h : l.length using Nat.strongRecOn generalizing l with
  | _ n ih =>
    by_cases hz : l.getLast? = some []
    · have hne : l ≠ [] := by rintro rfl; simp at hz
      have hp : 0 < l.length := List.length_pos_iff.2 hne
      rw [trimS_zero hz]
      have := ih l.dropLast.length (by simp; omega) l.dropLast rfl
      simp at this; omega
    · rw [trimS_done hz]; omega
/-- Two lists without noughts at their ends that tell the same are the same. -/
theorem normalS_ext {l m : Row} (hl : ¬ l.getLast? = some []) (hm : ¬ m.getLast? = some []) (h : ∀ i, l.getD i [] = m.getD i []) : l = m := by
  have key : ∀ {a b : Row}, ¬ a.getLast? = some [] → (∀ i, a.getD i [] = b.getD i []) → a.length ≤ b.length := by
    intro a b ha hab
    rcases Nat.lt_or_ge b.length a.length with hlt | hge
    · exfalso
      have h1 := hab (a.length - 1)
      rw [List.getD_eq_getElem?_getD, List.getD_eq_getElem?_getD, List.getElem?_eq_none (show b.length ≤ a.length - 1 by omega)] at h1
      rw [List.getLast?_eq_getElem?, List.getElem?_eq_getElem (show a.length - 1 < a.length by omega)] at ha
      rw [List.getElem?_eq_getElem (show a.length - 1 < a.length by omega)] at h1
      simp at h1 ha; exact ha h1
    · exact hge
  have h1 := key hl h
  have h2 := key hm (fun i => (h i).symm)
  apply List.ext_getElem (by omega)
  intro i hi hj
  have := h i
  simpa [List.getD_eq_getElem?_getD, hi, hj] using this
theorem trimS_ext {l m : Row} (h : ∀ i, l.getD i [] = m.getD i []) : trimS l = trimS m :=
  normalS_ext (trimS_last l) (trimS_last m) (fun i => by rw [trimS_getD, trimS_getD, h])
set_option maxHeartbeats 800000 in
theorem trimmedS_fun (l : Row) (v : Value) : Fun Try.prog 69 [v] [rd (Ty.sl Ty.str) l v] [] (fun r G S => G = [rd (Ty.sl Ty.str) (trimS l) r] ∧ S = []) := by
  refine Fun.enter Try.func69 (by kernel_rfl) rfl Try.ntmps69 rfl (fun B Gf Sf => ?_); (try simp only [List.cons_append]); (try simp only [List.nil_append]); simp only [argEnv]
  (repeat (first | refine vgo ?_ | refine ⟨_, rfl, rfl, ?_⟩ | refine ⟨_, rfl, ?_⟩ | refine ⟨rfl, ?_⟩ | intro hb | (refine altL ?_ ?_; omega) | refine altR ?_ | (refine side ?_ ?_; first | omega | exact True.intro | ((try simp only [List.length_append, List.length_cons, List.length_nil, List.length_map, List.length_replicate, List.length_set, and_true, true_and]); omega) | assumption | (and_intros <;> first | omega | assumption) | decide) | (refine decT ?_ ?_; first | with_reducible assumption | with_reducible rfl | (refine not_not_intro ?_; with_reducible first | assumption | rfl) | omega | decide) | (refine decF ?_ ?_; first | with_reducible assumption | with_reducible rfl | (refine not_not_intro ?_; with_reducible first | assumption | rfl) | omega | decide) | (refine decBT ?_ ?_; with_reducible first | assumption | rfl | exact Bool.not_false) | (refine decBF ?_ ?_; with_reducible first | assumption | rfl | exact Bool.not_true) | refine ⟨_, by assumption, ?_⟩ | refine ⟨_, _, _, rfl, ?_⟩ | refine WC.seq (fun K hK => ?_) | (refine hK _ _ _ ?_; clear hK K) | (refine WX.thenExit (K := K) ?_; clear hK K) | (refine WX.thenExit (K := KL) ?_; clear hL KL)))
  refine WC.loop (I := Row × Value) (fun i => [(0, i.2)]) (fun i => rd (Ty.sl Ty.str) i.1 i.2 :: rd (Ty.sl Ty.str) l v :: Gf) (fun _ => Sf) (fun i => trimS l = trimS i.1) (fun i => i.1.length) (l, v) rfl (.cons rfl .nil) (fun w h => h.to) ?_
  rintro ⟨c, vc⟩ hc KL hL
  dsimp only at hc ⊢
  refine WC.ex (fun w sw => sw.len_le (RdSl.h (v := vc))) (fun hlc => ?_)
  by_cases h0 : (0 : Int) < (c.length : Int)
  · have hx : c[((c.length : Int) - 1).toNat]? = some (c[c.length - 1]'(by omega)) := by
      rw [show ((c.length : Int) - 1).toNat = c.length - 1 from by omega]; exact List.getElem?_eq_getElem _
    generalize hX : (c[c.length - 1]'(by omega)) = X at hx
    have hlast : c.getLast? = some X := by rw [List.getLast?_eq_getElem?, List.getElem?_eq_getElem (by omega), hX]
    (repeat (first | refine vgo ?_ | refine ⟨_, rfl, rfl, ?_⟩ | refine ⟨_, rfl, ?_⟩ | refine ⟨rfl, ?_⟩ | intro hb | (refine altL ?_ ?_; omega) | refine altR ?_ | (refine side ?_ ?_; first | omega | exact True.intro | ((try simp only [List.length_append, List.length_cons, List.length_nil, List.length_map, List.length_replicate, List.length_set, and_true, true_and]); omega) | assumption | (and_intros <;> first | omega | assumption) | decide) | (refine decT ?_ ?_; first | with_reducible assumption | with_reducible rfl | (refine not_not_intro ?_; with_reducible first | assumption | rfl) | omega | decide) | (refine decF ?_ ?_; first | with_reducible assumption | with_reducible rfl | (refine not_not_intro ?_; with_reducible first | assumption | rfl) | omega | decide) | (refine decBT ?_ ?_; with_reducible first | assumption | rfl | exact Bool.not_false) | (refine decBF ?_ ?_; with_reducible first | assumption | rfl | exact Bool.not_true) | refine ⟨_, by assumption, ?_⟩ | refine ⟨_, _, _, rfl, ?_⟩ | refine WC.seq (fun K hK => ?_) | (refine hK _ _ _ ?_; clear hK K) | (refine WX.thenExit (K := K) ?_; clear hK K) | (refine WX.thenExit (K := KL) ?_; clear hL KL)))
    refine dcB (fun hX0 => ?_) (fun hX0 => ?_)
    · rw [hX0] at hlast
      rw [trimS_zero hlast, List.dropLast_eq_take] at hc
      (repeat (first | refine vgo ?_ | refine ⟨_, rfl, rfl, ?_⟩ | refine ⟨_, rfl, ?_⟩ | refine ⟨rfl, ?_⟩ | intro hb | (refine altL ?_ ?_; omega) | refine altR ?_ | (refine side ?_ ?_; first | omega | exact True.intro | ((try simp only [List.length_append, List.length_cons, List.length_nil, List.length_map, List.length_replicate, List.length_set, and_true, true_and]); omega) | assumption | (and_intros <;> first | omega | assumption) | decide) | (refine decT ?_ ?_; first | with_reducible assumption | with_reducible rfl | (refine not_not_intro ?_; with_reducible first | assumption | rfl) | omega | decide) | (refine decF ?_ ?_; first | with_reducible assumption | with_reducible rfl | (refine not_not_intro ?_; with_reducible first | assumption | rfl) | omega | decide) | (refine decBT ?_ ?_; with_reducible first | assumption | rfl | exact Bool.not_false) | (refine decBF ?_ ?_; with_reducible first | assumption | rfl | exact Bool.not_true) | refine ⟨_, by assumption, ?_⟩ | refine ⟨_, _, _, rfl, ?_⟩ | refine WC.seq (fun K hK => ?_) | (refine hK _ _ _ ?_; clear hK K) | (refine WX.thenExit (K := K) ?_; clear hK K) | (refine WX.thenExit (K := KL) ?_; clear hL KL)))
      refine WL.slc rfl rfl rfl rfl rfl ?_; refine SliceV.high rfl (c.length - 1) (by omega) (by omega) ?_; intro r
      (repeat (first | refine vgo ?_ | refine ⟨_, rfl, rfl, ?_⟩ | refine ⟨_, rfl, ?_⟩ | refine ⟨rfl, ?_⟩ | intro hb | (refine altL ?_ ?_; omega) | refine altR ?_ | (refine side ?_ ?_; first | omega | exact True.intro | ((try simp only [List.length_append, List.length_cons, List.length_nil, List.length_map, List.length_replicate, List.length_set, and_true, true_and]); omega) | assumption | (and_intros <;> first | omega | assumption) | decide) | (refine decT ?_ ?_; first | with_reducible assumption | with_reducible rfl | (refine not_not_intro ?_; with_reducible first | assumption | rfl) | omega | decide) | (refine decF ?_ ?_; first | with_reducible assumption | with_reducible rfl | (refine not_not_intro ?_; with_reducible first | assumption | rfl) | omega | decide) | (refine decBT ?_ ?_; with_reducible first | assumption | rfl | exact Bool.not_false) | (refine decBF ?_ ?_; with_reducible first | assumption | rfl | exact Bool.not_true) | refine ⟨_, by assumption, ?_⟩ | refine ⟨_, _, _, rfl, ?_⟩ | refine WC.seq (fun K hK => ?_) | (refine hK _ _ _ ?_; clear hK K) | (refine WX.thenExit (K := K) ?_; clear hK K) | (refine WX.thenExit (K := KL) ?_; clear hL KL)))
      exact (hL (c.take (c.length - 1), r) hc (by dsimp only; simp; omega)).conv (.cons rfl .nil) (fun _ h => h.to)
    · rw [trimS_done (l := c) (by rw [hlast]; simpa using hX0)] at hc
      (repeat (first | refine vgo ?_ | refine ⟨_, rfl, rfl, ?_⟩ | refine ⟨_, rfl, ?_⟩ | refine ⟨rfl, ?_⟩ | intro hb | (refine altL ?_ ?_; omega) | refine altR ?_ | (refine side ?_ ?_; first | omega | exact True.intro | ((try simp only [List.length_append, List.length_cons, List.length_nil, List.length_map, List.length_replicate, List.length_set, and_true, true_and]); omega) | assumption | (and_intros <;> first | omega | assumption) | decide) | (refine decT ?_ ?_; first | with_reducible assumption | with_reducible rfl | (refine not_not_intro ?_; with_reducible first | assumption | rfl) | omega | decide) | (refine decF ?_ ?_; first | with_reducible assumption | with_reducible rfl | (refine not_not_intro ?_; with_reducible first | assumption | rfl) | omega | decide) | (refine decBT ?_ ?_; with_reducible first | assumption | rfl | exact Bool.not_false) | (refine decBF ?_ ?_; with_reducible first | assumption | rfl | exact Bool.not_true) | refine ⟨_, by assumption, ?_⟩ | refine ⟨_, _, _, rfl, ?_⟩ | refine WC.seq (fun K hK => ?_) | (refine hK _ _ _ ?_; clear hK K) | (refine WX.thenExit (K := K) ?_; clear hK K) | (refine WX.thenExit (K := KL) ?_; clear hL KL)))
      exact WX.ret1 rfl rfl (fun w sw => ⟨[rd (Ty.sl Ty.str) (trimS l) vc], [], ⟨rfl, rfl⟩, by rw [hc]; exact sw.to⟩)
  · have hn : c = [] := List.eq_nil_of_length_eq_zero (by omega)
    subst hn
    rw [trimS_done (l := []) (by simp)] at hc
    (repeat (first | refine vgo ?_ | refine ⟨_, rfl, rfl, ?_⟩ | refine ⟨_, rfl, ?_⟩ | refine ⟨rfl, ?_⟩ | intro hb | (refine altL ?_ ?_; omega) | refine altR ?_ | (refine side ?_ ?_; first | omega | exact True.intro | ((try simp only [List.length_append, List.length_cons, List.length_nil, List.length_map, List.length_replicate, List.length_set, and_true, true_and]); omega) | assumption | (and_intros <;> first | omega | assumption) | decide) | (refine decT ?_ ?_; first | with_reducible assumption | with_reducible rfl | (refine not_not_intro ?_; with_reducible first | assumption | rfl) | omega | decide) | (refine decF ?_ ?_; first | with_reducible assumption | with_reducible rfl | (refine not_not_intro ?_; with_reducible first | assumption | rfl) | omega | decide) | (refine decBT ?_ ?_; with_reducible first | assumption | rfl | exact Bool.not_false) | (refine decBF ?_ ?_; with_reducible first | assumption | rfl | exact Bool.not_true) | refine ⟨_, by assumption, ?_⟩ | refine ⟨_, _, _, rfl, ?_⟩ | refine WC.seq (fun K hK => ?_) | (refine hK _ _ _ ?_; clear hK K) | (refine WX.thenExit (K := K) ?_; clear hK K) | (refine WX.thenExit (K := KL) ?_; clear hL KL)))
    exact WX.ret1 rfl rfl (fun w sw => ⟨[rd (Ty.sl Ty.str) (trimS l) vc], [], ⟨rfl, rfl⟩, by rw [hc]; exact sw.to⟩)
instance trimmedS_ret {G : List Pers} {l : Row} {v : Value} [i : RdSl v G Ty.str l] : RetF Try.prog 69 [v] G True (Ty.sl Ty.str) (trimS l) := ⟨fun _ => ⟨_, by simpa using i.h, trimmedS_fun l v⟩⟩

theorem tx_ext {x y : Row} : trimS x = trimS y ↔ ∀ k, tx x k = tx y k :=
  ⟨fun h k => by have := trimS_getD x k; rw [h, trimS_getD] at this; exact this.symm, fun h => trimS_ext h⟩
theorem costP_zero {x y : Row} : ∀ n, costP x y n = 0 ↔ ∀ k, k < n → tx x k = tx y k
  | 0 => by simp [costP]
  | n + 1 => by
    have ih := costP_zero (x := x) (y := y) n
    rw [costP]
    constructor
    · intro h k hk
      by_cases e : k = n
      · subst e; refine Decidable.byContradiction fun hn => ?_
        rw [if_neg hn] at h; omega
      · exact ih.1 (by omega) k (by omega)
    · intro h
      rw [if_pos (h n (by omega)), ih.2 (fun k hk => h k (by omega))]
theorem cost_trim {x y : Row} : costL x y = 0 ↔ trimS x = trimS y := by
  rw [tx_ext, costL, costP_zero]
  refine ⟨fun h k => ?_, fun h k _ => h k⟩
  by_cases hk : k < max x.length y.length
  · exact h k hk
  · rw [tx_out (by omega), tx_out (by omega)]
set_option maxHeartbeats 800000 in
theorem equalS_fun (a b : Row) (va vb : Value) : Fun Try.prog 68 [va, vb] [rd (Ty.sl Ty.str) a va, rd (Ty.sl Ty.str) b vb] [] (fun r G S => r = .bool (decide (a = b)) ∧ G = [] ∧ S = []) := by
  refine Fun.enter Try.func68 (by kernel_rfl) rfl Try.ntmps68 rfl (fun B Gf Sf => ?_); (try simp only [List.cons_append]); (try simp only [List.nil_append]); simp only [argEnv]
  refine WC.ex (fun w sw => sw.len_le (RdSl.h (v := va))) (fun hla => ?_)
  by_cases hlen : a.length = b.length
  · (repeat (first | refine vgo ?_ | refine ⟨_, rfl, rfl, ?_⟩ | refine ⟨_, rfl, ?_⟩ | refine ⟨rfl, ?_⟩ | intro hb | (refine altL ?_ ?_; omega) | refine altR ?_ | (refine side ?_ ?_; first | omega | exact True.intro | ((try simp only [List.length_append, List.length_cons, List.length_nil, List.length_map, List.length_replicate, List.length_set, and_true, true_and]); omega) | assumption | (and_intros <;> first | omega | assumption) | decide) | (refine decT ?_ ?_; first | with_reducible assumption | with_reducible rfl | (refine not_not_intro ?_; with_reducible first | assumption | rfl) | omega | decide) | (refine decF ?_ ?_; first | with_reducible assumption | with_reducible rfl | (refine not_not_intro ?_; with_reducible first | assumption | rfl) | omega | decide) | (refine decBT ?_ ?_; with_reducible first | assumption | rfl | exact Bool.not_false) | (refine decBF ?_ ?_; with_reducible first | assumption | rfl | exact Bool.not_true) | refine ⟨_, by assumption, ?_⟩ | refine ⟨_, _, _, rfl, ?_⟩ | refine WC.seq (fun K hK => ?_) | (refine hK _ _ _ ?_; clear hK K) | (refine WX.thenExit (K := K) ?_; clear hK K) | (refine WX.thenExit (K := KL) ?_; clear hL KL)))
    refine WC.loop (I := Nat) (fun k => [(0, va), (1, vb), (4, .bool false), (12, .int .i64 (a.length : Nat)), (13, .int .i64 (k : Nat))]) (fun _ => rd (Ty.sl Ty.str) a va :: rd (Ty.sl Ty.str) b vb :: Gf) (fun _ => Sf) (fun k => k ≤ a.length ∧ a.take k = b.take k) (fun k => a.length - k) 0 ⟨Nat.zero_le _, rfl⟩ (.cons rfl (.cons rfl (.cons rfl (.cons rfl (.cons rfl .nil))))) (fun w h => h.to) ?_
    rintro k ⟨hk, he⟩ KL hL
    by_cases g : k < a.length
    · obtain ⟨x, hx, hx2⟩ := get_ex (l := a) (k := k) g
      obtain ⟨y, hy, hy2⟩ := get_ex (l := b) (k := k) (by omega)
      by_cases hxy : x = y
      · (repeat (first | refine vgo ?_ | refine ⟨_, rfl, rfl, ?_⟩ | refine ⟨_, rfl, ?_⟩ | refine ⟨rfl, ?_⟩ | intro hb | (refine altL ?_ ?_; omega) | refine altR ?_ | (refine side ?_ ?_; first | omega | exact True.intro | ((try simp only [List.length_append, List.length_cons, List.length_nil, List.length_map, List.length_replicate, List.length_set, and_true, true_and]); omega) | assumption | (and_intros <;> first | omega | assumption) | decide) | (refine decT ?_ ?_; first | with_reducible assumption | with_reducible rfl | (refine not_not_intro ?_; with_reducible first | assumption | rfl) | omega | decide) | (refine decF ?_ ?_; first | with_reducible assumption | with_reducible rfl | (refine not_not_intro ?_; with_reducible first | assumption | rfl) | omega | decide) | (refine decBT ?_ ?_; with_reducible first | assumption | rfl | exact Bool.not_false) | (refine decBF ?_ ?_; with_reducible first | assumption | rfl | exact Bool.not_true) | refine ⟨_, by assumption, ?_⟩ | refine ⟨_, _, _, rfl, ?_⟩ | refine WC.seq (fun K hK => ?_) | (refine hK _ _ _ ?_; clear hK K) | (refine WX.thenExit (K := K) ?_; clear hK K) | (refine WX.thenExit (K := KL) ?_; clear hL KL)))
        (apply WC.drawE; exact rfl; focus (repeat (first | exact Wo.nil | (apply Wo.keep; exact rfl) | (apply Wo.drop; exact rfl)))); (repeat (apply ObP3.cons0; focus ((repeat (intro _)); (conv => whnf); (repeat (first | refine vgo ?_ | refine ⟨_, rfl, rfl, ?_⟩ | refine ⟨_, rfl, ?_⟩ | refine ⟨rfl, ?_⟩ | intro hb | (refine altL ?_ ?_; omega) | refine altR ?_ | (refine side ?_ ?_; first | omega | exact True.intro | ((try simp only [List.length_append, List.length_cons, List.length_nil, List.length_map, List.length_replicate, List.length_set, and_true, true_and]); omega) | assumption | (and_intros <;> first | omega | assumption) | decide) | (refine decT ?_ ?_; first | with_reducible assumption | with_reducible rfl | (refine not_not_intro ?_; with_reducible first | assumption | rfl) | omega | decide) | (refine decF ?_ ?_; first | with_reducible assumption | with_reducible rfl | (refine not_not_intro ?_; with_reducible first | assumption | rfl) | omega | decide) | (refine decBT ?_ ?_; with_reducible first | assumption | rfl | exact Bool.not_false) | (refine decBF ?_ ?_; with_reducible first | assumption | rfl | exact Bool.not_true) | refine ⟨_, by assumption, ?_⟩ | refine ⟨_, _, _, rfl, ?_⟩ | refine WC.seq (fun K hK => ?_) | (refine hK _ _ _ ?_; clear hK K) | (refine WX.thenExit (K := K) ?_; clear hK K) | (refine WX.thenExit (K := KL) ?_; clear hL KL))); first | exact WX.pgIs rfl | exact WX.pgRd rfl | exact WX.pgCell rfl | exact WX.pgNone | exact WX.pgOwn rfl))); try (refine ObP3.nil ?_; (repeat (intro _)); (conv => whnf); (try dsimp only [envO, List.cons_append, List.nil_append]))
        (repeat (first | refine vgo ?_ | refine ⟨_, rfl, rfl, ?_⟩ | refine ⟨_, rfl, ?_⟩ | refine ⟨rfl, ?_⟩ | intro hb | (refine altL ?_ ?_; omega) | refine altR ?_ | (refine side ?_ ?_; first | omega | exact True.intro | ((try simp only [List.length_append, List.length_cons, List.length_nil, List.length_map, List.length_replicate, List.length_set, and_true, true_and]); omega) | assumption | (and_intros <;> first | omega | assumption) | decide) | (refine decT ?_ ?_; first | with_reducible assumption | with_reducible rfl | (refine not_not_intro ?_; with_reducible first | assumption | rfl) | omega | decide) | (refine decF ?_ ?_; first | with_reducible assumption | with_reducible rfl | (refine not_not_intro ?_; with_reducible first | assumption | rfl) | omega | decide) | (refine decBT ?_ ?_; with_reducible first | assumption | rfl | exact Bool.not_false) | (refine decBF ?_ ?_; with_reducible first | assumption | rfl | exact Bool.not_true) | refine ⟨_, by assumption, ?_⟩ | refine ⟨_, _, _, rfl, ?_⟩ | refine WC.seq (fun K hK => ?_) | (refine hK _ _ _ ?_; clear hK K) | (refine WX.thenExit (K := K) ?_; clear hK K) | (refine WX.thenExit (K := KL) ?_; clear hL KL)))
        exact (hL (k + 1) ⟨g, by rw [hx2, hy2, he, hxy]⟩ (by omega)).conv (.cons rfl (.cons rfl (.cons rfl (.cons rfl (.cons rfl .nil))))) (fun w h => h.to)
      · have hne : ¬ a = b := by intro e; subst e; rw [hx] at hy; exact hxy (Option.some.inj hy)
        (repeat (first | refine vgo ?_ | refine ⟨_, rfl, rfl, ?_⟩ | refine ⟨_, rfl, ?_⟩ | refine ⟨rfl, ?_⟩ | intro hb | (refine altL ?_ ?_; omega) | refine altR ?_ | (refine side ?_ ?_; first | omega | exact True.intro | ((try simp only [List.length_append, List.length_cons, List.length_nil, List.length_map, List.length_replicate, List.length_set, and_true, true_and]); omega) | assumption | (and_intros <;> first | omega | assumption) | decide) | (refine decT ?_ ?_; first | with_reducible assumption | with_reducible rfl | (refine not_not_intro ?_; with_reducible first | assumption | rfl) | omega | decide) | (refine decF ?_ ?_; first | with_reducible assumption | with_reducible rfl | (refine not_not_intro ?_; with_reducible first | assumption | rfl) | omega | decide) | (refine decBT ?_ ?_; with_reducible first | assumption | rfl | exact Bool.not_false) | (refine decBF ?_ ?_; with_reducible first | assumption | rfl | exact Bool.not_true) | refine ⟨_, by assumption, ?_⟩ | refine ⟨_, _, _, rfl, ?_⟩ | refine WC.seq (fun K hK => ?_) | (refine hK _ _ _ ?_; clear hK K) | (refine WX.thenExit (K := K) ?_; clear hK K) | (refine WX.thenExit (K := KL) ?_; clear hL KL)))
        (apply WC.drawE; exact rfl; focus (repeat (first | exact Wo.nil | (apply Wo.keep; exact rfl) | (apply Wo.drop; exact rfl)))); (repeat (apply ObP3.cons0; focus ((repeat (intro _)); (conv => whnf); (repeat (first | refine vgo ?_ | refine ⟨_, rfl, rfl, ?_⟩ | refine ⟨_, rfl, ?_⟩ | refine ⟨rfl, ?_⟩ | intro hb | (refine altL ?_ ?_; omega) | refine altR ?_ | (refine side ?_ ?_; first | omega | exact True.intro | ((try simp only [List.length_append, List.length_cons, List.length_nil, List.length_map, List.length_replicate, List.length_set, and_true, true_and]); omega) | assumption | (and_intros <;> first | omega | assumption) | decide) | (refine decT ?_ ?_; first | with_reducible assumption | with_reducible rfl | (refine not_not_intro ?_; with_reducible first | assumption | rfl) | omega | decide) | (refine decF ?_ ?_; first | with_reducible assumption | with_reducible rfl | (refine not_not_intro ?_; with_reducible first | assumption | rfl) | omega | decide) | (refine decBT ?_ ?_; with_reducible first | assumption | rfl | exact Bool.not_false) | (refine decBF ?_ ?_; with_reducible first | assumption | rfl | exact Bool.not_true) | refine ⟨_, by assumption, ?_⟩ | refine ⟨_, _, _, rfl, ?_⟩ | refine WC.seq (fun K hK => ?_) | (refine hK _ _ _ ?_; clear hK K) | (refine WX.thenExit (K := K) ?_; clear hK K) | (refine WX.thenExit (K := KL) ?_; clear hL KL))); first | exact WX.pgIs rfl | exact WX.pgRd rfl | exact WX.pgCell rfl | exact WX.pgNone | exact WX.pgOwn rfl))); try (refine ObP3.nil ?_; (repeat (intro _)); (conv => whnf); (try dsimp only [envO, List.cons_append, List.nil_append]))
        (repeat (first | refine vgo ?_ | refine ⟨_, rfl, rfl, ?_⟩ | refine ⟨_, rfl, ?_⟩ | refine ⟨rfl, ?_⟩ | intro hb | (refine altL ?_ ?_; omega) | refine altR ?_ | (refine side ?_ ?_; first | omega | exact True.intro | ((try simp only [List.length_append, List.length_cons, List.length_nil, List.length_map, List.length_replicate, List.length_set, and_true, true_and]); omega) | assumption | (and_intros <;> first | omega | assumption) | decide) | (refine decT ?_ ?_; first | with_reducible assumption | with_reducible rfl | (refine not_not_intro ?_; with_reducible first | assumption | rfl) | omega | decide) | (refine decF ?_ ?_; first | with_reducible assumption | with_reducible rfl | (refine not_not_intro ?_; with_reducible first | assumption | rfl) | omega | decide) | (refine decBT ?_ ?_; with_reducible first | assumption | rfl | exact Bool.not_false) | (refine decBF ?_ ?_; with_reducible first | assumption | rfl | exact Bool.not_true) | refine ⟨_, by assumption, ?_⟩ | refine ⟨_, _, _, rfl, ?_⟩ | refine WC.seq (fun K hK => ?_) | (refine hK _ _ _ ?_; clear hK K) | (refine WX.thenExit (K := K) ?_; clear hK K) | (refine WX.thenExit (K := KL) ?_; clear hL KL)))
        exact WX.ret1 rfl rfl (fun w sw => ⟨[], [], ⟨by rw [decide_eq_false hne], rfl, rfl⟩, sw.to⟩)
    · have hab : a = b := by rw [List.take_of_length_le (by omega), List.take_of_length_le (by omega)] at he; exact he
      (repeat (first | refine vgo ?_ | refine ⟨_, rfl, rfl, ?_⟩ | refine ⟨_, rfl, ?_⟩ | refine ⟨rfl, ?_⟩ | intro hb | (refine altL ?_ ?_; omega) | refine altR ?_ | (refine side ?_ ?_; first | omega | exact True.intro | ((try simp only [List.length_append, List.length_cons, List.length_nil, List.length_map, List.length_replicate, List.length_set, and_true, true_and]); omega) | assumption | (and_intros <;> first | omega | assumption) | decide) | (refine decT ?_ ?_; first | with_reducible assumption | with_reducible rfl | (refine not_not_intro ?_; with_reducible first | assumption | rfl) | omega | decide) | (refine decF ?_ ?_; first | with_reducible assumption | with_reducible rfl | (refine not_not_intro ?_; with_reducible first | assumption | rfl) | omega | decide) | (refine decBT ?_ ?_; with_reducible first | assumption | rfl | exact Bool.not_false) | (refine decBF ?_ ?_; with_reducible first | assumption | rfl | exact Bool.not_true) | refine ⟨_, by assumption, ?_⟩ | refine ⟨_, _, _, rfl, ?_⟩ | refine WC.seq (fun K hK => ?_) | (refine hK _ _ _ ?_; clear hK K) | (refine WX.thenExit (K := K) ?_; clear hK K) | (refine WX.thenExit (K := KL) ?_; clear hL KL)))
      exact WX.ret1 rfl rfl (fun w sw => ⟨[], [], ⟨by rw [decide_eq_true hab], rfl, rfl⟩, sw.to⟩)
  · have hne : ¬ a = b := fun e => hlen (by rw [e])
    (repeat (first | refine vgo ?_ | refine ⟨_, rfl, rfl, ?_⟩ | refine ⟨_, rfl, ?_⟩ | refine ⟨rfl, ?_⟩ | intro hb | (refine altL ?_ ?_; omega) | refine altR ?_ | (refine side ?_ ?_; first | omega | exact True.intro | ((try simp only [List.length_append, List.length_cons, List.length_nil, List.length_map, List.length_replicate, List.length_set, and_true, true_and]); omega) | assumption | (and_intros <;> first | omega | assumption) | decide) | (refine decT ?_ ?_; first | with_reducible assumption | with_reducible rfl | (refine not_not_intro ?_; with_reducible first | assumption | rfl) | omega | decide) | (refine decF ?_ ?_; first | with_reducible assumption | with_reducible rfl | (refine not_not_intro ?_; with_reducible first | assumption | rfl) | omega | decide) | (refine decBT ?_ ?_; with_reducible first | assumption | rfl | exact Bool.not_false) | (refine decBF ?_ ?_; with_reducible first | assumption | rfl | exact Bool.not_true) | refine ⟨_, by assumption, ?_⟩ | refine ⟨_, _, _, rfl, ?_⟩ | refine WC.seq (fun K hK => ?_) | (refine hK _ _ _ ?_; clear hK K) | (refine WX.thenExit (K := K) ?_; clear hK K) | (refine WX.thenExit (K := KL) ?_; clear hL KL)))
    exact WX.ret1 rfl rfl (fun w sw => ⟨[], [], ⟨by rw [decide_eq_false hne], rfl, rfl⟩, sw.to⟩)
instance equalS_pure {G : List Pers} {a b : Row} {va vb : Value} [i : RdSl va G Ty.str a] [j : RdSl vb G Ty.str b] : PureF Try.prog 68 [va, vb] G True (.bool (decide (a = b))) := ⟨fun _ => ⟨[rd (Ty.sl Ty.str) a va, rd (Ty.sl Ty.str) b vb], by simpa using ⟨i.h, j.h⟩, equalS_fun a b va vb⟩⟩
theorem same1_fun (x y : Row) (va vb : Value) : Fun Try.prog 67 [va, vb] [rd (Ty.sl Ty.str) x va, rd (Ty.sl Ty.str) y vb] [] (fun r G S => r = .bool (decide (trimS x = trimS y)) ∧ G = [] ∧ S = []) := by
  refine Fun.enter Try.func67 (by kernel_rfl) rfl Try.ntmps67 rfl (fun B Gf Sf => ?_); (try simp only [List.cons_append]); (try simp only [List.nil_append]); simp only [argEnv]
  (repeat (first | refine vgo ?_ | refine ⟨_, rfl, rfl, ?_⟩ | refine ⟨_, rfl, ?_⟩ | refine ⟨rfl, ?_⟩ | intro hb | (refine altL ?_ ?_; omega) | refine altR ?_ | (refine side ?_ ?_; first | omega | exact True.intro | ((try simp only [List.length_append, List.length_cons, List.length_nil, List.length_map, List.length_replicate, List.length_set, and_true, true_and]); omega) | assumption | (and_intros <;> first | omega | assumption) | decide) | (refine decT ?_ ?_; first | with_reducible assumption | with_reducible rfl | (refine not_not_intro ?_; with_reducible first | assumption | rfl) | omega | decide) | (refine decF ?_ ?_; first | with_reducible assumption | with_reducible rfl | (refine not_not_intro ?_; with_reducible first | assumption | rfl) | omega | decide) | (refine decBT ?_ ?_; with_reducible first | assumption | rfl | exact Bool.not_false) | (refine decBF ?_ ?_; with_reducible first | assumption | rfl | exact Bool.not_true) | refine ⟨_, by assumption, ?_⟩ | refine ⟨_, _, _, rfl, ?_⟩ | refine WC.seq (fun K hK => ?_) | (refine hK _ _ _ ?_; clear hK K) | (refine WX.thenExit (K := K) ?_; clear hK K) | (refine WX.thenExit (K := KL) ?_; clear hL KL)))
  exact WX.ret1 rfl rfl (fun w sw => ⟨[], [], ⟨rfl, rfl, rfl⟩, sw.to⟩)
instance same1_pure {G : List Pers} {a b : Row} {va vb : Value} [i : RdSl va G Ty.str a] [j : RdSl vb G Ty.str b] : PureF Try.prog 67 [va, vb] G True (.bool (decide (trimS a = trimS b))) := ⟨fun _ => ⟨[rd (Ty.sl Ty.str) a va, rd (Ty.sl Ty.str) b vb], by simpa using ⟨i.h, j.h⟩, same1_fun a b va vb⟩⟩
theorem sameG_len : ∀ {a b : List Row}, sameG a b = true → a.length = b.length
  | [], [], _ => rfl
  | [], _ :: _, h => by cases h
  | _ :: _, [], h => by cases h
  | x :: a, y :: b, h => by
    rw [sameG, Bool.and_eq_true] at h
    simp [sameG_len h.2]
theorem sameG_drop {a b : List Row} {k : Nat} {x y : Row} (hx : a[k]? = some x) (hy : b[k]? = some y) : sameG (a.drop k) (b.drop k) = (decide (costL x y = 0) && sameG (a.drop (k + 1)) (b.drop (k + 1))) := by
  rw [drop_cons41 hx, drop_cons41 hy, sameG]
set_option maxHeartbeats 800000 in
theorem equalF_fun (a b : List Row) (va vb : Value) : Fun Try.prog 66 [va, vb, .func (.func 67) #[] #[]] [rd (Ty.sl (Ty.sl Ty.str)) a va, rd (Ty.sl (Ty.sl Ty.str)) b vb] [] (fun r G S => r = .bool (sameG a b) ∧ G = [] ∧ S = []) := by
  refine Fun.enter Try.func66 (by kernel_rfl) rfl Try.ntmps66 rfl (fun B Gf Sf => ?_); (try simp only [List.cons_append]); (try simp only [List.nil_append]); simp only [argEnv]
  refine WC.ex (fun w sw => sw.len_le (RdSl.h (v := va))) (fun hla => ?_)
  by_cases hlen : a.length = b.length
  · (repeat (first | refine vgo ?_ | refine ⟨_, rfl, rfl, ?_⟩ | refine ⟨_, rfl, ?_⟩ | refine ⟨rfl, ?_⟩ | intro hb | (refine altL ?_ ?_; omega) | refine altR ?_ | (refine side ?_ ?_; first | omega | exact True.intro | ((try simp only [List.length_append, List.length_cons, List.length_nil, List.length_map, List.length_replicate, List.length_set, and_true, true_and]); omega) | assumption | (and_intros <;> first | omega | assumption) | decide) | (refine decT ?_ ?_; first | with_reducible assumption | with_reducible rfl | (refine not_not_intro ?_; with_reducible first | assumption | rfl) | omega | decide) | (refine decF ?_ ?_; first | with_reducible assumption | with_reducible rfl | (refine not_not_intro ?_; with_reducible first | assumption | rfl) | omega | decide) | (refine decBT ?_ ?_; with_reducible first | assumption | rfl | exact Bool.not_false) | (refine decBF ?_ ?_; with_reducible first | assumption | rfl | exact Bool.not_true) | refine ⟨_, by assumption, ?_⟩ | refine ⟨_, _, _, rfl, ?_⟩ | refine WC.seq (fun K hK => ?_) | (refine hK _ _ _ ?_; clear hK K) | (refine WX.thenExit (K := K) ?_; clear hK K) | (refine WX.thenExit (K := KL) ?_; clear hL KL)))
    refine WC.loop (I := Nat) (fun k => [(1, vb), (2, .func (.func 67) #[] #[]), (15, va), (16, .int .i64 (a.length : Nat)), (17, .int .i64 (k : Nat))]) (fun _ => rd (Ty.sl (Ty.sl Ty.str)) a va :: rd (Ty.sl (Ty.sl Ty.str)) b vb :: Gf) (fun _ => Sf) (fun k => k ≤ a.length ∧ sameG a b = sameG (a.drop k) (b.drop k)) (fun k => a.length - k) 0 ⟨Nat.zero_le _, rfl⟩ (.cons rfl (.cons rfl (.cons rfl (.cons rfl (.cons rfl .nil))))) (fun w h => h.to) ?_
    rintro k ⟨hk, he⟩ KL hL
    by_cases g : k < a.length
    · obtain ⟨x, hx⟩ : ∃ x, a[k]? = some x := ⟨_, List.getElem?_eq_getElem g⟩
      obtain ⟨y, hy⟩ : ∃ y, b[k]? = some y := ⟨_, List.getElem?_eq_getElem (by omega)⟩
      rw [sameG_drop hx hy] at he
      by_cases hxy : trimS x = trimS y
      · rw [decide_eq_true (cost_trim.2 hxy), Bool.true_and] at he
        (repeat (first | refine vgo ?_ | refine ⟨_, rfl, rfl, ?_⟩ | refine ⟨_, rfl, ?_⟩ | refine ⟨rfl, ?_⟩ | intro hb | (refine altL ?_ ?_; omega) | refine altR ?_ | (refine side ?_ ?_; first | omega | exact True.intro | ((try simp only [List.length_append, List.length_cons, List.length_nil, List.length_map, List.length_replicate, List.length_set, and_true, true_and]); omega) | assumption | (and_intros <;> first | omega | assumption) | decide) | (refine decT ?_ ?_; first | with_reducible assumption | with_reducible rfl | (refine not_not_intro ?_; with_reducible first | assumption | rfl) | omega | decide) | (refine decF ?_ ?_; first | with_reducible assumption | with_reducible rfl | (refine not_not_intro ?_; with_reducible first | assumption | rfl) | omega | decide) | (refine decBT ?_ ?_; with_reducible first | assumption | rfl | exact Bool.not_false) | (refine decBF ?_ ?_; with_reducible first | assumption | rfl | exact Bool.not_true) | refine ⟨_, by assumption, ?_⟩ | refine ⟨_, _, _, rfl, ?_⟩ | refine WC.seq (fun K hK => ?_) | (refine hK _ _ _ ?_; clear hK K) | (refine WX.thenExit (K := K) ?_; clear hK K) | (refine WX.thenExit (K := KL) ?_; clear hL KL)))
        exact (hL (k + 1) ⟨g, he⟩ (by omega)).conv (.cons rfl (.cons rfl (.cons rfl (.cons rfl (.cons rfl .nil))))) (fun w h => h.to)
      · rw [decide_eq_false (fun h => hxy (cost_trim.1 h)), Bool.false_and] at he
        (repeat (first | refine vgo ?_ | refine ⟨_, rfl, rfl, ?_⟩ | refine ⟨_, rfl, ?_⟩ | refine ⟨rfl, ?_⟩ | intro hb | (refine altL ?_ ?_; omega) | refine altR ?_ | (refine side ?_ ?_; first | omega | exact True.intro | ((try simp only [List.length_append, List.length_cons, List.length_nil, List.length_map, List.length_replicate, List.length_set, and_true, true_and]); omega) | assumption | (and_intros <;> first | omega | assumption) | decide) | (refine decT ?_ ?_; first | with_reducible assumption | with_reducible rfl | (refine not_not_intro ?_; with_reducible first | assumption | rfl) | omega | decide) | (refine decF ?_ ?_; first | with_reducible assumption | with_reducible rfl | (refine not_not_intro ?_; with_reducible first | assumption | rfl) | omega | decide) | (refine decBT ?_ ?_; with_reducible first | assumption | rfl | exact Bool.not_false) | (refine decBF ?_ ?_; with_reducible first | assumption | rfl | exact Bool.not_true) | refine ⟨_, by assumption, ?_⟩ | refine ⟨_, _, _, rfl, ?_⟩ | refine WC.seq (fun K hK => ?_) | (refine hK _ _ _ ?_; clear hK K) | (refine WX.thenExit (K := K) ?_; clear hK K) | (refine WX.thenExit (K := KL) ?_; clear hL KL)))
        exact WX.ret1 rfl rfl (fun w sw => ⟨[], [], ⟨by rw [he], rfl, rfl⟩, sw.to⟩)
    · rw [List.drop_of_length_le (by omega), List.drop_of_length_le (by omega)] at he
      (repeat (first | refine vgo ?_ | refine ⟨_, rfl, rfl, ?_⟩ | refine ⟨_, rfl, ?_⟩ | refine ⟨rfl, ?_⟩ | intro hb | (refine altL ?_ ?_; omega) | refine altR ?_ | (refine side ?_ ?_; first | omega | exact True.intro | ((try simp only [List.length_append, List.length_cons, List.length_nil, List.length_map, List.length_replicate, List.length_set, and_true, true_and]); omega) | assumption | (and_intros <;> first | omega | assumption) | decide) | (refine decT ?_ ?_; first | with_reducible assumption | with_reducible rfl | (refine not_not_intro ?_; with_reducible first | assumption | rfl) | omega | decide) | (refine decF ?_ ?_; first | with_reducible assumption | with_reducible rfl | (refine not_not_intro ?_; with_reducible first | assumption | rfl) | omega | decide) | (refine decBT ?_ ?_; with_reducible first | assumption | rfl | exact Bool.not_false) | (refine decBF ?_ ?_; with_reducible first | assumption | rfl | exact Bool.not_true) | refine ⟨_, by assumption, ?_⟩ | refine ⟨_, _, _, rfl, ?_⟩ | refine WC.seq (fun K hK => ?_) | (refine hK _ _ _ ?_; clear hK K) | (refine WX.thenExit (K := K) ?_; clear hK K) | (refine WX.thenExit (K := KL) ?_; clear hL KL)))
      exact WX.ret1 rfl rfl (fun w sw => ⟨[], [], ⟨by rw [he]; rfl, rfl, rfl⟩, sw.to⟩)
  · have hne : sameG a b = false := by
      cases h : sameG a b with
      | false => rfl
      | true => exact absurd (sameG_len h) hlen
    (repeat (first | refine vgo ?_ | refine ⟨_, rfl, rfl, ?_⟩ | refine ⟨_, rfl, ?_⟩ | refine ⟨rfl, ?_⟩ | intro hb | (refine altL ?_ ?_; omega) | refine altR ?_ | (refine side ?_ ?_; first | omega | exact True.intro | ((try simp only [List.length_append, List.length_cons, List.length_nil, List.length_map, List.length_replicate, List.length_set, and_true, true_and]); omega) | assumption | (and_intros <;> first | omega | assumption) | decide) | (refine decT ?_ ?_; first | with_reducible assumption | with_reducible rfl | (refine not_not_intro ?_; with_reducible first | assumption | rfl) | omega | decide) | (refine decF ?_ ?_; first | with_reducible assumption | with_reducible rfl | (refine not_not_intro ?_; with_reducible first | assumption | rfl) | omega | decide) | (refine decBT ?_ ?_; with_reducible first | assumption | rfl | exact Bool.not_false) | (refine decBF ?_ ?_; with_reducible first | assumption | rfl | exact Bool.not_true) | refine ⟨_, by assumption, ?_⟩ | refine ⟨_, _, _, rfl, ?_⟩ | refine WC.seq (fun K hK => ?_) | (refine hK _ _ _ ?_; clear hK K) | (refine WX.thenExit (K := K) ?_; clear hK K) | (refine WX.thenExit (K := KL) ?_; clear hL KL)))
    exact WX.ret1 rfl rfl (fun w sw => ⟨[], [], ⟨by rw [hne], rfl, rfl⟩, sw.to⟩)
instance equalF_pure {G : List Pers} {a b : List Row} {va vb : Value} [i : RdSl va G (Ty.sl Ty.str) a] [j : RdSl vb G (Ty.sl Ty.str) b] : PureF Try.prog 66 [va, vb, .func (.func 67) #[] #[]] G True (.bool (sameG a b)) := ⟨fun _ => ⟨[rd (Ty.sl (Ty.sl Ty.str)) a va, rd (Ty.sl (Ty.sl Ty.str)) b vb], by simpa using ⟨i.h, j.h⟩, equalF_fun a b va vb⟩⟩
theorem dsame_fun (a b : List Row) (va vb : Value) : Fun Try.prog 15 [va, vb] [rd (Ty.sl (Ty.sl Ty.str)) a va, rd (Ty.sl (Ty.sl Ty.str)) b vb] [] (fun r G S => r = .bool (sameG a b) ∧ G = [] ∧ S = []) := by
  refine Fun.enter Try.func15 (by kernel_rfl) rfl Try.ntmps15 rfl (fun B Gf Sf => ?_); (try simp only [List.cons_append]); (try simp only [List.nil_append]); simp only [argEnv]
  (repeat (first | refine vgo ?_ | refine ⟨_, rfl, rfl, ?_⟩ | refine ⟨_, rfl, ?_⟩ | refine ⟨rfl, ?_⟩ | intro hb | (refine altL ?_ ?_; omega) | refine altR ?_ | (refine side ?_ ?_; first | omega | exact True.intro | ((try simp only [List.length_append, List.length_cons, List.length_nil, List.length_map, List.length_replicate, List.length_set, and_true, true_and]); omega) | assumption | (and_intros <;> first | omega | assumption) | decide) | (refine decT ?_ ?_; first | with_reducible assumption | with_reducible rfl | (refine not_not_intro ?_; with_reducible first | assumption | rfl) | omega | decide) | (refine decF ?_ ?_; first | with_reducible assumption | with_reducible rfl | (refine not_not_intro ?_; with_reducible first | assumption | rfl) | omega | decide) | (refine decBT ?_ ?_; with_reducible first | assumption | rfl | exact Bool.not_false) | (refine decBF ?_ ?_; with_reducible first | assumption | rfl | exact Bool.not_true) | refine ⟨_, by assumption, ?_⟩ | refine ⟨_, _, _, rfl, ?_⟩ | refine WC.seq (fun K hK => ?_) | (refine hK _ _ _ ?_; clear hK K) | (refine WX.thenExit (K := K) ?_; clear hK K) | (refine WX.thenExit (K := KL) ?_; clear hL KL)))
  exact WX.ret1 rfl rfl (fun w sw => ⟨[], [], ⟨rfl, rfl, rfl⟩, sw.to⟩)
instance dsame_pure {G : List Pers} {a b : List Row} {va vb : Value} [i : RdSl va G (Ty.sl Ty.str) a] [j : RdSl vb G (Ty.sl Ty.str) b] : PureF Try.prog 15 [va, vb] G True (.bool (sameG a b)) := ⟨fun _ => ⟨[rd (Ty.sl (Ty.sl Ty.str)) a va, rd (Ty.sl (Ty.sl Ty.str)) b vb], by simpa using ⟨i.h, j.h⟩, dsame_fun a b va vb⟩⟩
end Go.Qd
