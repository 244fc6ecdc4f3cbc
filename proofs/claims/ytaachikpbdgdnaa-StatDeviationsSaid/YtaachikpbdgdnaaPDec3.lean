/-
  Numbers as decimal digits: which is less, differences.
-/
import Derived.Test.YtaachikpbdgdnaaPDec2
namespace Go.Qd
open Go Go.Proofs
theorem dg_drop (n : Nat) : ∀ i, (dg n).drop i = dg (n / 10 ^ i)
  | 0 => by rw [Nat.pow_zero, Nat.div_one]; rfl
  | i + 1 => by
    rw [dg_step (dg_drop n i), Nat.div_div_eq_div_mul, Nat.pow_succ]
theorem dg_ub : ∀ (f n : Nat), n ≤ f → n < 10 ^ (dg n).length
  | 0, n, h => by
    have : n = 0 := by omega
    subst this; rw [dg_zero]; decide
  | f + 1, n, h => by
    by_cases h0 : n = 0
    · subst h0; rw [dg_zero]; decide
    · have ih := dg_ub f (n / 10) (by omega)
      rw [dg_pos (by omega), List.length_cons, Nat.pow_succ]
      omega
theorem dg_lb : ∀ (f n : Nat), n ≤ f → 0 < n → 10 ^ ((dg n).length - 1) ≤ n
  | 0, n, h, h0 => by omega
  | f + 1, n, h, h0 => by
    rw [dg_pos h0, List.length_cons, Nat.add_sub_cancel]
    by_cases h1 : n / 10 = 0
    · rw [h1, dg_zero]; exact h0
    · have ih := dg_lb f (n / 10) (by omega) (by omega)
      have hl : 0 < (dg (n / 10)).length := by rw [dg_pos (by omega)]; exact Nat.succ_pos _
      obtain ⟨k, hk⟩ : ∃ k, (dg (n / 10)).length = k + 1 := ⟨(dg (n / 10)).length - 1, by omega⟩
      rw [hk, Nat.add_sub_cancel] at ih
      rw [hk, Nat.pow_succ]
      omega
theorem dg_len_lt {a b : Nat} (h : (dg a).length < (dg b).length) : a < b := by
  have h1 := dg_ub a a (Nat.le_refl _)
  have hb : 0 < b := by
    by_cases h0 : b = 0
    · subst h0; rw [dg_zero] at h; exact absurd h (Nat.not_lt_zero _)
    · omega
  have h2 := dg_lb b b (Nat.le_refl _) hb
  have h3 : 10 ^ (dg a).length ≤ 10 ^ ((dg b).length - 1) := Nat.pow_le_pow_right (by decide) (by omega)
  omega
theorem dg_digit {n i : Nat} (h : i < (dg n).length) : (dg n)[i]? = some (UInt8.ofNat (n / 10 ^ i % 10)) := (dg_in (dg_drop n i) h).2
theorem pow_split (n i : Nat) : n / 10 ^ i = 10 * (n / 10 ^ (i + 1)) + n / 10 ^ i % 10 := by
  rw [Nat.pow_succ, ← Nat.div_div_eq_div_mul]; omega
theorem lt_of_div {a b k : Nat} (h : a / 10 ^ k < b / 10 ^ k) : a < b := by
  by_cases g : a < b
  · exact g
  · have := Nat.div_le_div_right (c := 10 ^ k) (show b ≤ a by omega)
    omega
set_option maxHeartbeats 3200000 in
theorem less_fun01 (a b : Nat) (va vb : Value) : Fun Try.prog 39 [va, vb] [rd (Ty.sl Ty.u8) (dg a) va, rd (Ty.sl Ty.u8) (dg b) vb] [] (fun r G S => r = .bool (decide (a < b)) ∧ G = [] ∧ S = []) := by
  refine Fun.enter Try.func39 (by kernel_rfl) rfl Try.ntmps39 rfl (fun B Gf Sf => ?_); (try simp only [List.cons_append]); (try simp only [List.nil_append]); simp only [argEnv]
  refine WC.ex (fun w sw => sw.len_le (RdSl.h (v := va))) (fun hla => ?_)
  refine WC.ex (fun w sw => sw.len_le (RdSl.h (v := vb))) (fun hlb => ?_)
  by_cases hl : (dg a).length = (dg b).length
  case neg =>
    have hd : decide (((dg a).length : Int) < ((dg b).length : Int)) = decide (a < b) := by
      rw [decide_eq_decide]
      constructor
      · intro h; exact dg_len_lt (by omega)
      · intro h
        by_cases g : (dg a).length < (dg b).length
        · omega
        · have := dg_len_lt (a := b) (b := a) (by omega); omega
    (repeat (first | refine vgo ?_ | refine ⟨_, rfl, rfl, ?_⟩ | refine ⟨_, rfl, ?_⟩ | refine ⟨rfl, ?_⟩ | intro hb | (refine altL ?_ ?_; omega) | refine altR ?_ | (refine side ?_ ?_; first | omega | exact True.intro | ((try simp only [List.length_append, List.length_cons, List.length_nil, List.length_map, List.length_replicate, List.length_set, and_true, true_and]); omega) | assumption | (and_intros <;> first | omega | assumption) | decide) | (refine decT ?_ ?_; first | with_reducible assumption | with_reducible rfl | (refine not_not_intro ?_; with_reducible first | assumption | rfl) | omega | decide) | (refine decF ?_ ?_; first | with_reducible assumption | with_reducible rfl | (refine not_not_intro ?_; with_reducible first | assumption | rfl) | omega | decide) | (refine decBT ?_ ?_; with_reducible first | assumption | rfl | exact Bool.not_false) | (refine decBF ?_ ?_; with_reducible first | assumption | rfl | exact Bool.not_true) | refine ⟨_, by assumption, ?_⟩ | refine ⟨_, _, _, rfl, ?_⟩ | refine WC.seq (fun K hK => ?_) | (refine hK _ _ _ ?_; clear hK K) | (refine hK _ _ _ _ rfl ?_; clear hK K) | (refine WX.thenExit (K := K) ?_; clear hK K) | (refine WX.thenExit (K := KL) ?_; clear hL KL)))
    exact WX.ret1 rfl rfl (fun w sw => ⟨[], [], ⟨by rw [hd], rfl, rfl⟩, sw.to⟩)
  (repeat (first | refine vgo ?_ | refine ⟨_, rfl, rfl, ?_⟩ | refine ⟨_, rfl, ?_⟩ | refine ⟨rfl, ?_⟩ | intro hb | (refine altL ?_ ?_; omega) | refine altR ?_ | (refine side ?_ ?_; first | omega | exact True.intro | ((try simp only [List.length_append, List.length_cons, List.length_nil, List.length_map, List.length_replicate, List.length_set, and_true, true_and]); omega) | assumption | (and_intros <;> first | omega | assumption) | decide) | (refine decT ?_ ?_; first | with_reducible assumption | with_reducible rfl | (refine not_not_intro ?_; with_reducible first | assumption | rfl) | omega | decide) | (refine decF ?_ ?_; first | with_reducible assumption | with_reducible rfl | (refine not_not_intro ?_; with_reducible first | assumption | rfl) | omega | decide) | (refine decBT ?_ ?_; with_reducible first | assumption | rfl | exact Bool.not_false) | (refine decBF ?_ ?_; with_reducible first | assumption | rfl | exact Bool.not_true) | refine ⟨_, by assumption, ?_⟩ | refine ⟨_, _, _, rfl, ?_⟩ | refine WC.seq (fun K hK => ?_) | (refine hK _ _ _ ?_; clear hK K) | (refine hK _ _ _ _ rfl ?_; clear hK K) | (refine WX.thenExit (K := K) ?_; clear hK K) | (refine WX.thenExit (K := KL) ?_; clear hL KL)))
  refine WC.loop (I := Nat) (fun j => [(0, va), (1, vb), (5, .int .i64 ((j : Int) - 1))]) (fun _ => rd (Ty.sl Ty.u8) (dg a) va :: rd (Ty.sl Ty.u8) (dg b) vb :: Gf) (fun _ => Sf) (fun j => j ≤ (dg a).length ∧ a / 10 ^ j = b / 10 ^ j) (fun j => j) (dg a).length ⟨Nat.le_refl _, by rw [Nat.div_eq_of_lt (dg_ub a a (Nat.le_refl _)), hl, Nat.div_eq_of_lt (dg_ub b b (Nat.le_refl _))]⟩ (.cons rfl (.cons rfl (.cons rfl .nil))) (fun w h => h.to) ?_
  rintro j ⟨hj, he⟩ KL hL
  rcases j with _ | j
  · have hab : a = b := by simpa using he
    have hd : decide (a < b) = false := decide_eq_false (by omega)
    (repeat (first | refine vgo ?_ | refine ⟨_, rfl, rfl, ?_⟩ | refine ⟨_, rfl, ?_⟩ | refine ⟨rfl, ?_⟩ | intro hb | (refine altL ?_ ?_; omega) | refine altR ?_ | (refine side ?_ ?_; first | omega | exact True.intro | ((try simp only [List.length_append, List.length_cons, List.length_nil, List.length_map, List.length_replicate, List.length_set, and_true, true_and]); omega) | assumption | (and_intros <;> first | omega | assumption) | decide) | (refine decT ?_ ?_; first | with_reducible assumption | with_reducible rfl | (refine not_not_intro ?_; with_reducible first | assumption | rfl) | omega | decide) | (refine decF ?_ ?_; first | with_reducible assumption | with_reducible rfl | (refine not_not_intro ?_; with_reducible first | assumption | rfl) | omega | decide) | (refine decBT ?_ ?_; with_reducible first | assumption | rfl | exact Bool.not_false) | (refine decBF ?_ ?_; with_reducible first | assumption | rfl | exact Bool.not_true) | refine ⟨_, by assumption, ?_⟩ | refine ⟨_, _, _, rfl, ?_⟩ | refine WC.seq (fun K hK => ?_) | (refine hK _ _ _ ?_; clear hK K) | (refine hK _ _ _ _ rfl ?_; clear hK K) | (refine WX.thenExit (K := K) ?_; clear hK K) | (refine WX.thenExit (K := KL) ?_; clear hL KL)))
    exact WX.ret1 rfl rfl (fun w sw => ⟨[], [], ⟨by rw [hd], rfl, rfl⟩, sw.to⟩)
  · obtain ⟨x, hx⟩ : ∃ x, x = a / 10 ^ j % 10 := ⟨_, rfl⟩
    obtain ⟨y, hy⟩ : ∃ y, y = b / 10 ^ j % 10 := ⟨_, rfl⟩
    have ga := dg_digit (n := a) (i := j) (by omega)
    have gb := dg_digit (n := b) (i := j) (by omega)
    have ux := u8_10 (a / 10 ^ j)
    have uy := u8_10 (b / 10 ^ j)
    have sa := pow_split a j
    have sb := pow_split b j
    rw [← hx] at ga ux sa
    rw [← hy] at gb uy sb
    have hj1 : (((j + 1 : Nat) : Int) - 1).toNat = j := by omega
    have ga2 : (dg a)[(((j + 1 : Nat) : Int) - 1).toNat]? = some (UInt8.ofNat x) := by rw [hj1]; exact ga
    have gb2 : (dg b)[(((j + 1 : Nat) : Int) - 1).toNat]? = some (UInt8.ofNat y) := by rw [hj1]; exact gb
    by_cases hxy : x = y
    · have hxy2 : (((UInt8.ofNat x).toNat : Int)) = ((UInt8.ofNat y).toNat : Int) := by rw [hxy]
      (repeat (first | refine vgo ?_ | refine ⟨_, rfl, rfl, ?_⟩ | refine ⟨_, rfl, ?_⟩ | refine ⟨rfl, ?_⟩ | intro hb | (refine altL ?_ ?_; omega) | refine altR ?_ | (refine side ?_ ?_; first | omega | exact True.intro | ((try simp only [List.length_append, List.length_cons, List.length_nil, List.length_map, List.length_replicate, List.length_set, and_true, true_and]); omega) | assumption | (and_intros <;> first | omega | assumption) | decide) | (refine decT ?_ ?_; first | with_reducible assumption | with_reducible rfl | (refine not_not_intro ?_; with_reducible first | assumption | rfl) | omega | decide) | (refine decF ?_ ?_; first | with_reducible assumption | with_reducible rfl | (refine not_not_intro ?_; with_reducible first | assumption | rfl) | omega | decide) | (refine decBT ?_ ?_; with_reducible first | assumption | rfl | exact Bool.not_false) | (refine decBF ?_ ?_; with_reducible first | assumption | rfl | exact Bool.not_true) | refine ⟨_, by assumption, ?_⟩ | refine ⟨_, _, _, rfl, ?_⟩ | refine WC.seq (fun K hK => ?_) | (refine hK _ _ _ ?_; clear hK K) | (refine hK _ _ _ _ rfl ?_; clear hK K) | (refine WX.thenExit (K := K) ?_; clear hK K) | (refine WX.thenExit (K := KL) ?_; clear hL KL)))
      (apply WC.drawE; exact rfl; focus (repeat (first | exact Wo.nil | (apply Wo.keep; exact rfl) | (apply Wo.drop; exact rfl)))); (repeat (apply ObP3.cons0; focus ((repeat (intro _)); (conv => whnf); (repeat (first | refine vgo ?_ | refine ⟨_, rfl, rfl, ?_⟩ | refine ⟨_, rfl, ?_⟩ | refine ⟨rfl, ?_⟩ | intro hb | (refine altL ?_ ?_; omega) | refine altR ?_ | (refine side ?_ ?_; first | omega | exact True.intro | ((try simp only [List.length_append, List.length_cons, List.length_nil, List.length_map, List.length_replicate, List.length_set, and_true, true_and]); omega) | assumption | (and_intros <;> first | omega | assumption) | decide) | (refine decT ?_ ?_; first | with_reducible assumption | with_reducible rfl | (refine not_not_intro ?_; with_reducible first | assumption | rfl) | omega | decide) | (refine decF ?_ ?_; first | with_reducible assumption | with_reducible rfl | (refine not_not_intro ?_; with_reducible first | assumption | rfl) | omega | decide) | (refine decBT ?_ ?_; with_reducible first | assumption | rfl | exact Bool.not_false) | (refine decBF ?_ ?_; with_reducible first | assumption | rfl | exact Bool.not_true) | refine ⟨_, by assumption, ?_⟩ | refine ⟨_, _, _, rfl, ?_⟩ | refine WC.seq (fun K hK => ?_) | (refine hK _ _ _ ?_; clear hK K) | (refine hK _ _ _ _ rfl ?_; clear hK K) | (refine WX.thenExit (K := K) ?_; clear hK K) | (refine WX.thenExit (K := KL) ?_; clear hL KL))); first | exact WX.pgIs rfl | exact WX.pgRd rfl | exact WX.pgCell rfl | exact WX.pgNone | exact WX.pgOwn rfl))); try (refine ObP3.nil ?_; (repeat (intro _)); (conv => whnf); (try dsimp only [envO, List.cons_append, List.nil_append]))
      (repeat (first | refine vgo ?_ | refine ⟨_, rfl, rfl, ?_⟩ | refine ⟨_, rfl, ?_⟩ | refine ⟨rfl, ?_⟩ | intro hb | (refine altL ?_ ?_; omega) | refine altR ?_ | (refine side ?_ ?_; first | omega | exact True.intro | ((try simp only [List.length_append, List.length_cons, List.length_nil, List.length_map, List.length_replicate, List.length_set, and_true, true_and]); omega) | assumption | (and_intros <;> first | omega | assumption) | decide) | (refine decT ?_ ?_; first | with_reducible assumption | with_reducible rfl | (refine not_not_intro ?_; with_reducible first | assumption | rfl) | omega | decide) | (refine decF ?_ ?_; first | with_reducible assumption | with_reducible rfl | (refine not_not_intro ?_; with_reducible first | assumption | rfl) | omega | decide) | (refine decBT ?_ ?_; with_reducible first | assumption | rfl | exact Bool.not_false) | (refine decBF ?_ ?_; with_reducible first | assumption | rfl | exact Bool.not_true) | refine ⟨_, by assumption, ?_⟩ | refine ⟨_, _, _, rfl, ?_⟩ | refine WC.seq (fun K hK => ?_) | (refine hK _ _ _ ?_; clear hK K) | (refine hK _ _ _ _ rfl ?_; clear hK K) | (refine WX.thenExit (K := K) ?_; clear hK K) | (refine WX.thenExit (K := KL) ?_; clear hL KL)))
      exact (hL j ⟨by omega, by omega⟩ (by omega)).conv (.cons rfl (.cons rfl (.cons (by rw [show ((j : Nat) : Int) - 1 = ((j + 1 : Nat) : Int) - 1 - 1 from by omega]; rfl) .nil))) (fun w h => h.to)
    · have hxy2 : ¬ (((UInt8.ofNat x).toNat : Int)) = ((UInt8.ofNat y).toNat : Int) := by omega
      have hd : decide (((UInt8.ofNat x).toNat : Int) < ((UInt8.ofNat y).toNat : Int)) = decide (a < b) := by
        rw [decide_eq_decide]
        constructor
        · intro h; exact lt_of_div (k := j) (by omega)
        · intro h
          by_cases g : y < x
          · have := lt_of_div (a := b) (b := a) (k := j) (by omega); omega
          · omega
      (repeat (first | refine vgo ?_ | refine ⟨_, rfl, rfl, ?_⟩ | refine ⟨_, rfl, ?_⟩ | refine ⟨rfl, ?_⟩ | intro hb | (refine altL ?_ ?_; omega) | refine altR ?_ | (refine side ?_ ?_; first | omega | exact True.intro | ((try simp only [List.length_append, List.length_cons, List.length_nil, List.length_map, List.length_replicate, List.length_set, and_true, true_and]); omega) | assumption | (and_intros <;> first | omega | assumption) | decide) | (refine decT ?_ ?_; first | with_reducible assumption | with_reducible rfl | (refine not_not_intro ?_; with_reducible first | assumption | rfl) | omega | decide) | (refine decF ?_ ?_; first | with_reducible assumption | with_reducible rfl | (refine not_not_intro ?_; with_reducible first | assumption | rfl) | omega | decide) | (refine decBT ?_ ?_; with_reducible first | assumption | rfl | exact Bool.not_false) | (refine decBF ?_ ?_; with_reducible first | assumption | rfl | exact Bool.not_true) | refine ⟨_, by assumption, ?_⟩ | refine ⟨_, _, _, rfl, ?_⟩ | refine WC.seq (fun K hK => ?_) | (refine hK _ _ _ ?_; clear hK K) | (refine hK _ _ _ _ rfl ?_; clear hK K) | (refine WX.thenExit (K := K) ?_; clear hK K) | (refine WX.thenExit (K := KL) ?_; clear hL KL)))
      (apply WC.drawE; exact rfl; focus (repeat (first | exact Wo.nil | (apply Wo.keep; exact rfl) | (apply Wo.drop; exact rfl)))); (repeat (apply ObP3.cons0; focus ((repeat (intro _)); (conv => whnf); (repeat (first | refine vgo ?_ | refine ⟨_, rfl, rfl, ?_⟩ | refine ⟨_, rfl, ?_⟩ | refine ⟨rfl, ?_⟩ | intro hb | (refine altL ?_ ?_; omega) | refine altR ?_ | (refine side ?_ ?_; first | omega | exact True.intro | ((try simp only [List.length_append, List.length_cons, List.length_nil, List.length_map, List.length_replicate, List.length_set, and_true, true_and]); omega) | assumption | (and_intros <;> first | omega | assumption) | decide) | (refine decT ?_ ?_; first | with_reducible assumption | with_reducible rfl | (refine not_not_intro ?_; with_reducible first | assumption | rfl) | omega | decide) | (refine decF ?_ ?_; first | with_reducible assumption | with_reducible rfl | (refine not_not_intro ?_; with_reducible first | assumption | rfl) | omega | decide) | (refine decBT ?_ ?_; with_reducible first | assumption | rfl | exact Bool.not_false) | (refine decBF ?_ ?_; with_reducible first | assumption | rfl | exact Bool.not_true) | refine ⟨_, by assumption, ?_⟩ | refine ⟨_, _, _, rfl, ?_⟩ | refine WC.seq (fun K hK => ?_) | (refine hK _ _ _ ?_; clear hK K) | (refine hK _ _ _ _ rfl ?_; clear hK K) | (refine WX.thenExit (K := K) ?_; clear hK K) | (refine WX.thenExit (K := KL) ?_; clear hL KL))); first | exact WX.pgIs rfl | exact WX.pgRd rfl | exact WX.pgCell rfl | exact WX.pgNone | exact WX.pgOwn rfl))); try (refine ObP3.nil ?_; (repeat (intro _)); (conv => whnf); (try dsimp only [envO, List.cons_append, List.nil_append]))
      (repeat (first | refine vgo ?_ | refine ⟨_, rfl, rfl, ?_⟩ | refine ⟨_, rfl, ?_⟩ | refine ⟨rfl, ?_⟩ | intro hb | (refine altL ?_ ?_; omega) | refine altR ?_ | (refine side ?_ ?_; first | omega | exact True.intro | ((try simp only [List.length_append, List.length_cons, List.length_nil, List.length_map, List.length_replicate, List.length_set, and_true, true_and]); omega) | assumption | (and_intros <;> first | omega | assumption) | decide) | (refine decT ?_ ?_; first | with_reducible assumption | with_reducible rfl | (refine not_not_intro ?_; with_reducible first | assumption | rfl) | omega | decide) | (refine decF ?_ ?_; first | with_reducible assumption | with_reducible rfl | (refine not_not_intro ?_; with_reducible first | assumption | rfl) | omega | decide) | (refine decBT ?_ ?_; with_reducible first | assumption | rfl | exact Bool.not_false) | (refine decBF ?_ ?_; with_reducible first | assumption | rfl | exact Bool.not_true) | refine ⟨_, by assumption, ?_⟩ | refine ⟨_, _, _, rfl, ?_⟩ | refine WC.seq (fun K hK => ?_) | (refine hK _ _ _ ?_; clear hK K) | (refine hK _ _ _ _ rfl ?_; clear hK K) | (refine WX.thenExit (K := K) ?_; clear hK K) | (refine WX.thenExit (K := KL) ?_; clear hL KL)))
      (apply WC.drawE; exact rfl; focus (repeat (first | exact Wo.nil | (apply Wo.keep; exact rfl) | (apply Wo.drop; exact rfl)))); (repeat (apply ObP3.cons0; focus ((repeat (intro _)); (conv => whnf); (repeat (first | refine vgo ?_ | refine ⟨_, rfl, rfl, ?_⟩ | refine ⟨_, rfl, ?_⟩ | refine ⟨rfl, ?_⟩ | intro hb | (refine altL ?_ ?_; omega) | refine altR ?_ | (refine side ?_ ?_; first | omega | exact True.intro | ((try simp only [List.length_append, List.length_cons, List.length_nil, List.length_map, List.length_replicate, List.length_set, and_true, true_and]); omega) | assumption | (and_intros <;> first | omega | assumption) | decide) | (refine decT ?_ ?_; first | with_reducible assumption | with_reducible rfl | (refine not_not_intro ?_; with_reducible first | assumption | rfl) | omega | decide) | (refine decF ?_ ?_; first | with_reducible assumption | with_reducible rfl | (refine not_not_intro ?_; with_reducible first | assumption | rfl) | omega | decide) | (refine decBT ?_ ?_; with_reducible first | assumption | rfl | exact Bool.not_false) | (refine decBF ?_ ?_; with_reducible first | assumption | rfl | exact Bool.not_true) | refine ⟨_, by assumption, ?_⟩ | refine ⟨_, _, _, rfl, ?_⟩ | refine WC.seq (fun K hK => ?_) | (refine hK _ _ _ ?_; clear hK K) | (refine hK _ _ _ _ rfl ?_; clear hK K) | (refine WX.thenExit (K := K) ?_; clear hK K) | (refine WX.thenExit (K := KL) ?_; clear hL KL))); first | exact WX.pgIs rfl | exact WX.pgRd rfl | exact WX.pgCell rfl | exact WX.pgNone | exact WX.pgOwn rfl))); try (refine ObP3.nil ?_; (repeat (intro _)); (conv => whnf); (try dsimp only [envO, List.cons_append, List.nil_append]))
      (repeat (first | refine vgo ?_ | refine ⟨_, rfl, rfl, ?_⟩ | refine ⟨_, rfl, ?_⟩ | refine ⟨rfl, ?_⟩ | intro hb | (refine altL ?_ ?_; omega) | refine altR ?_ | (refine side ?_ ?_; first | omega | exact True.intro | ((try simp only [List.length_append, List.length_cons, List.length_nil, List.length_map, List.length_replicate, List.length_set, and_true, true_and]); omega) | assumption | (and_intros <;> first | omega | assumption) | decide) | (refine decT ?_ ?_; first | with_reducible assumption | with_reducible rfl | (refine not_not_intro ?_; with_reducible first | assumption | rfl) | omega | decide) | (refine decF ?_ ?_; first | with_reducible assumption | with_reducible rfl | (refine not_not_intro ?_; with_reducible first | assumption | rfl) | omega | decide) | (refine decBT ?_ ?_; with_reducible first | assumption | rfl | exact Bool.not_false) | (refine decBF ?_ ?_; with_reducible first | assumption | rfl | exact Bool.not_true) | refine ⟨_, by assumption, ?_⟩ | refine ⟨_, _, _, rfl, ?_⟩ | refine WC.seq (fun K hK => ?_) | (refine hK _ _ _ ?_; clear hK K) | (refine hK _ _ _ _ rfl ?_; clear hK K) | (refine WX.thenExit (K := K) ?_; clear hK K) | (refine WX.thenExit (K := KL) ?_; clear hL KL)))
      exact WX.ret1 rfl rfl (fun w sw => ⟨[], [], ⟨by rw [hd], rfl, rfl⟩, sw.to⟩)
instance less_pure01 {G : List Pers} {a b : Nat} {va vb : Value} [i : RdSl va G Ty.u8 (dg a)] [j : RdSl vb G Ty.u8 (dg b)] : PureF Try.prog 39 [va, vb] G True (.bool (decide (a < b))) := ⟨fun _ => ⟨[rd (Ty.sl Ty.u8) (dg a) va, rd (Ty.sl Ty.u8) (dg b) vb], by simpa using ⟨i.h, j.h⟩, less_fun01 a b va vb⟩⟩
end Go.Qd
