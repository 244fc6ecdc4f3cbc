/-
  Numbers as decimal digits, the least one first (chapter 01's own reckoning).
-/
import Derived.Test.YtaachikpbdgdnaaPMat2
import Derived.Test.YtaachikpbdgdnaaQApp
namespace Go.Qd
open Go Go.Proofs
def dg (n : Nat) : List UInt8 := if h : n = 0 then [] else UInt8.ofNat (n % 10) :: dg (n / 10)
termination_by n
decreasing_by omega
theorem dg_zero : dg 0 = [] := by rw [dg]; rfl
theorem dg_pos {n : Nat} (h : 0 < n) : dg n = UInt8.ofNat (n % 10) :: dg (n / 10) := by rw [dg, dif_neg (by omega)]
theorem dg_tail (n : Nat) : (dg n).tail = dg (n / 10) := by
  by_cases h : n = 0
  · subst h; rw [dg_zero]; rfl
  · rw [dg_pos (by omega)]; rfl
theorem dg_nil {n : Nat} (h : dg n = []) : n = 0 := by
  by_cases h0 : n = 0
  · exact h0
  · rw [dg_pos (by omega)] at h; cases h
theorem drop_succ_tail {α : Type} (l : List α) (i : Nat) : l.drop (i + 1) = (l.drop i).tail := by
  rw [List.tail_drop]
theorem dg_step {l : List UInt8} {i A : Nat} (h : l.drop i = dg A) : l.drop (i + 1) = dg (A / 10) := by rw [drop_succ_tail, h, dg_tail]
theorem dg_in {l : List UInt8} {i A : Nat} (h : l.drop i = dg A) (hi : i < l.length) : 0 < A ∧ l[i]? = some (UInt8.ofNat (A % 10)) := by
  have hA : 0 < A := by
    by_cases h0 : A = 0
    · subst h0
      rw [dg_zero] at h
      have := congrArg List.length h
      rw [List.length_drop] at this
      simp at this; omega
    · omega
  refine ⟨hA, ?_⟩
  rw [dg_pos hA] at h
  have := congrArg (fun l => l[0]?) h
  simpa using this
theorem dg_out {l : List UInt8} {i A : Nat} (h : l.drop i = dg A) (hi : l.length ≤ i) : A = 0 := by
  rw [List.drop_of_length_le hi] at h
  exact dg_nil h.symm
theorem u8_10 (n : Nat) : (UInt8.ofNat (n % 10)).toNat = n % 10 := by
  rw [UInt8.toNat_ofNat']; omega
theorem dg_len : ∀ (k n : Nat), n < 10 ^ k → (dg n).length ≤ k
  | 0, n, h => by
    have : n = 0 := by simpa using h
    subst this; rw [dg_zero]; exact Nat.le_refl _
  | k + 1, n, h => by
    by_cases h0 : n = 0
    · subst h0; rw [dg_zero]; exact Nat.zero_le _
    · rw [dg_pos (by omega), List.length_cons]
      have := dg_len k (n / 10) (by rw [Nat.pow_succ] at h; omega)
      omega
theorem u8s_snoc (l : List UInt8) (k : Nat) : u8s (l ++ [UInt8.ofNat (k % 10)]) = u8s l ++ [.int .u8 ((k : Int) % 10)] := by
  rw [u8s_append]
  show u8s l ++ [Value.int .u8 ((UInt8.ofNat (k % 10)).toNat : Int)] = _
  rw [u8_10, show ((k % 10 : Nat) : Int) = (k : Int) % 10 from by omega]
theorem digit_fun (l : List UInt8) (v : Value) (i A : Nat) (h : l.drop i = dg A) : Fun Try.prog 62 [v, .int .i64 i] [rd (Ty.sl Ty.u8) l v] [] (fun r G S => r = .int .u8 ((A % 10 : Nat) : Int) ∧ G = [] ∧ S = []) := by
  refine Fun.enter Try.func62 (by kernel_rfl) rfl Try.ntmps62 rfl (fun B Gf Sf => ?_); (try simp only [List.cons_append]); (try simp only [List.nil_append]); simp only [argEnv]
  by_cases hi : i < l.length
  · obtain ⟨_, hg⟩ := dg_in h hi
    have hu := u8_10 A
    (repeat (first | refine vgo ?_ | refine ⟨_, rfl, rfl, ?_⟩ | refine ⟨_, rfl, ?_⟩ | refine ⟨rfl, ?_⟩ | intro hb | (refine altL ?_ ?_; omega) | refine altR ?_ | (refine side ?_ ?_; first | omega | exact True.intro | ((try simp only [List.length_append, List.length_cons, List.length_nil, List.length_map, List.length_replicate, List.length_set, and_true, true_and]); omega) | assumption | (and_intros <;> first | omega | assumption) | decide) | (refine decT ?_ ?_; first | with_reducible assumption | with_reducible rfl | (refine not_not_intro ?_; with_reducible first | assumption | rfl) | omega | decide) | (refine decF ?_ ?_; first | with_reducible assumption | with_reducible rfl | (refine not_not_intro ?_; with_reducible first | assumption | rfl) | omega | decide) | (refine decBT ?_ ?_; with_reducible first | assumption | rfl | exact Bool.not_false) | (refine decBF ?_ ?_; with_reducible first | assumption | rfl | exact Bool.not_true) | refine ⟨_, by assumption, ?_⟩ | refine ⟨_, _, _, rfl, ?_⟩ | refine WC.seq (fun K hK => ?_) | (refine hK _ _ _ ?_; clear hK K) | (refine hK _ _ _ _ rfl ?_; clear hK K) | (refine WX.thenExit (K := K) ?_; clear hK K) | (refine WX.thenExit (K := KL) ?_; clear hL KL)))
    exact WX.ret1 rfl rfl (fun w sw => ⟨[], [], ⟨by rw [hu], rfl, rfl⟩, sw.to⟩)
  · have hA := dg_out h (by omega)
    subst hA
    (repeat (first | refine vgo ?_ | refine ⟨_, rfl, rfl, ?_⟩ | refine ⟨_, rfl, ?_⟩ | refine ⟨rfl, ?_⟩ | intro hb | (refine altL ?_ ?_; omega) | refine altR ?_ | (refine side ?_ ?_; first | omega | exact True.intro | ((try simp only [List.length_append, List.length_cons, List.length_nil, List.length_map, List.length_replicate, List.length_set, and_true, true_and]); omega) | assumption | (and_intros <;> first | omega | assumption) | decide) | (refine decT ?_ ?_; first | with_reducible assumption | with_reducible rfl | (refine not_not_intro ?_; with_reducible first | assumption | rfl) | omega | decide) | (refine decF ?_ ?_; first | with_reducible assumption | with_reducible rfl | (refine not_not_intro ?_; with_reducible first | assumption | rfl) | omega | decide) | (refine decBT ?_ ?_; with_reducible first | assumption | rfl | exact Bool.not_false) | (refine decBF ?_ ?_; with_reducible first | assumption | rfl | exact Bool.not_true) | refine ⟨_, by assumption, ?_⟩ | refine ⟨_, _, _, rfl, ?_⟩ | refine WC.seq (fun K hK => ?_) | (refine hK _ _ _ ?_; clear hK K) | (refine hK _ _ _ _ rfl ?_; clear hK K) | (refine WX.thenExit (K := K) ?_; clear hK K) | (refine WX.thenExit (K := KL) ?_; clear hL KL)))
    exact WX.ret1 rfl rfl (fun w sw => ⟨[], [], ⟨rfl, rfl, rfl⟩, sw.to⟩)
set_option maxHeartbeats 1600000 in
theorem ofD_fun (n : Nat) (hn : n < 18446744073709551616) : Fun Try.prog 35 [.int .u64 n] [] [] (fun r G S => G = [rd (Ty.sl Ty.u8) (dg n) r] ∧ S = []) := by
  refine Fun.enter Try.func35 (by kernel_rfl) rfl Try.ntmps35 rfl (fun B Gf Sf => ?_); (try simp only [List.cons_append]); (try simp only [List.nil_append]); simp only [argEnv]
  have hlen := dg_len 20 n (by omega)
  refine WC.sat (fun w sw => sw.ownNil 5 1) ?_
  (repeat (first | refine vgo ?_ | refine ⟨_, rfl, rfl, ?_⟩ | refine ⟨_, rfl, ?_⟩ | refine ⟨rfl, ?_⟩ | intro hb | (refine altL ?_ ?_; omega) | refine altR ?_ | (refine side ?_ ?_; first | omega | exact True.intro | ((try simp only [List.length_append, List.length_cons, List.length_nil, List.length_map, List.length_replicate, List.length_set, and_true, true_and]); omega) | assumption | (and_intros <;> first | omega | assumption) | decide) | (refine decT ?_ ?_; first | with_reducible assumption | with_reducible rfl | (refine not_not_intro ?_; with_reducible first | assumption | rfl) | omega | decide) | (refine decF ?_ ?_; first | with_reducible assumption | with_reducible rfl | (refine not_not_intro ?_; with_reducible first | assumption | rfl) | omega | decide) | (refine decBT ?_ ?_; with_reducible first | assumption | rfl | exact Bool.not_false) | (refine decBF ?_ ?_; with_reducible first | assumption | rfl | exact Bool.not_true) | refine ⟨_, by assumption, ?_⟩ | refine ⟨_, _, _, rfl, ?_⟩ | refine WC.seq (fun K hK => ?_) | (refine hK _ _ _ ?_; clear hK K) | (refine hK _ _ _ _ rfl ?_; clear hK K) | (refine WX.thenExit (K := K) ?_; clear hK K) | (refine WX.thenExit (K := KL) ?_; clear hL KL)))
  refine WC.loop (I := Nat × List UInt8 × Value) (fun i => [(0, .int .u64 (i.1 : Nat)), (3, i.2.2)]) (fun _ => Gf) (fun i => own 5 1 i.2.2 i.2.1.length (u8s i.2.1) :: Sf) (fun i => i.1 ≤ n ∧ i.2.1 ++ dg i.1 = dg n) (fun i => i.1) (n, [], .slice none 0 0) ⟨Nat.le_refl _, rfl⟩ (.cons rfl (.cons rfl .nil)) (fun w h => by show Sat B Gf (own 5 1 (.slice none 0 0) 0 [] :: Sf) w; exact h.to) ?_
  rintro ⟨k, l, v⟩ ⟨hk, hl⟩ KL hL
  dsimp only at hk hl ⊢
  have hll : l.length ≤ 20 := by rw [← hl, List.length_append] at hlen; omega
  by_cases h0 : 0 < k
  · (repeat (first | refine vgo ?_ | refine ⟨_, rfl, rfl, ?_⟩ | refine ⟨_, rfl, ?_⟩ | refine ⟨rfl, ?_⟩ | intro hb | (refine altL ?_ ?_; omega) | refine altR ?_ | (refine side ?_ ?_; first | omega | exact True.intro | ((try simp only [List.length_append, List.length_cons, List.length_nil, List.length_map, List.length_replicate, List.length_set, and_true, true_and]); omega) | assumption | (and_intros <;> first | omega | assumption) | decide) | (refine decT ?_ ?_; first | with_reducible assumption | with_reducible rfl | (refine not_not_intro ?_; with_reducible first | assumption | rfl) | omega | decide) | (refine decF ?_ ?_; first | with_reducible assumption | with_reducible rfl | (refine not_not_intro ?_; with_reducible first | assumption | rfl) | omega | decide) | (refine decBT ?_ ?_; with_reducible first | assumption | rfl | exact Bool.not_false) | (refine decBF ?_ ?_; with_reducible first | assumption | rfl | exact Bool.not_true) | refine ⟨_, by assumption, ?_⟩ | refine ⟨_, _, _, rfl, ?_⟩ | refine WC.seq (fun K hK => ?_) | (refine hK _ _ _ ?_; clear hK K) | (refine hK _ _ _ _ rfl ?_; clear hK K) | (refine WX.thenExit (K := K) ?_; clear hK K) | (refine WX.thenExit (K := KL) ?_; clear hL KL)))
    rw [dg_pos h0] at hl
    exact (hL (k / 10, l ++ [UInt8.ofNat (k % 10)], hb) ⟨by dsimp only; omega, by dsimp only; rw [List.append_assoc]; exact hl⟩ (by dsimp only; omega)).conv (.cons (by rw [show ((k / 10 : Nat) : Int) = (k : Int) / 10 from by omega]; rfl) (.cons rfl .nil)) (fun w h => by
      dsimp only
      rw [u8s_snoc, List.length_append, List.length_singleton]
      exact h)
  · obtain rfl : k = 0 := by omega
    rw [dg_zero, List.append_nil] at hl
    (repeat (first | refine vgo ?_ | refine ⟨_, rfl, rfl, ?_⟩ | refine ⟨_, rfl, ?_⟩ | refine ⟨rfl, ?_⟩ | intro hb | (refine altL ?_ ?_; omega) | refine altR ?_ | (refine side ?_ ?_; first | omega | exact True.intro | ((try simp only [List.length_append, List.length_cons, List.length_nil, List.length_map, List.length_replicate, List.length_set, and_true, true_and]); omega) | assumption | (and_intros <;> first | omega | assumption) | decide) | (refine decT ?_ ?_; first | with_reducible assumption | with_reducible rfl | (refine not_not_intro ?_; with_reducible first | assumption | rfl) | omega | decide) | (refine decF ?_ ?_; first | with_reducible assumption | with_reducible rfl | (refine not_not_intro ?_; with_reducible first | assumption | rfl) | omega | decide) | (refine decBT ?_ ?_; with_reducible first | assumption | rfl | exact Bool.not_false) | (refine decBF ?_ ?_; with_reducible first | assumption | rfl | exact Bool.not_true) | refine ⟨_, by assumption, ?_⟩ | refine ⟨_, _, _, rfl, ?_⟩ | refine WC.seq (fun K hK => ?_) | (refine hK _ _ _ ?_; clear hK K) | (refine hK _ _ _ _ rfl ?_; clear hK K) | (refine WX.thenExit (K := K) ?_; clear hK K) | (refine WX.thenExit (K := KL) ?_; clear hL KL)))
    refine WX.sat (fun w sw => sw.pub (R := Ty.u8) (l := l) (v := v) SelOwn.h rfl (flat_u8s l).symm rfl (fun _ _ => trivial)) ?_
    exact WX.ret1 rfl rfl (fun w sw => ⟨[rd (Ty.sl Ty.u8) l v], [], ⟨by rw [hl], rfl⟩, sw.to⟩)
instance ofD_ret {G : List Pers} {n : Nat} : RetF Try.prog 35 [.int .u64 (n : Nat)] G (n < 18446744073709551616) (Ty.sl Ty.u8) (dg n) := ⟨fun h => ⟨[], by simp, ofD_fun n h⟩⟩
theorem dg_last : ∀ (f n : Nat), n ≤ f → 0 < n → ∃ x : UInt8, (dg n)[(dg n).length - 1]? = some x ∧ 0 < x.toNat
  | 0, n, h, h0 => by omega
  | f + 1, n, h, h0 => by
    rw [dg_pos h0]
    by_cases h1 : n / 10 = 0
    · rw [h1, dg_zero]
      exact ⟨_, rfl, by rw [u8_10]; omega⟩
    · obtain ⟨x, hx, hp⟩ := dg_last f (n / 10) (by omega) (by omega)
      have hl : 0 < (dg (n / 10)).length := by
        rw [dg_pos (by omega)]; exact Nat.succ_pos _
      refine ⟨x, ?_, hp⟩
      rw [List.length_cons, show (dg (n / 10)).length + 1 - 1 = ((dg (n / 10)).length - 1) + 1 from by omega, List.getElem?_cons_succ]
      exact hx
set_option maxHeartbeats 1600000 in
theorem cut_fun01 (d z : Nat) (v : Value) : Fun Try.prog 63 [v] [rd (Ty.sl Ty.u8) (dg d ++ List.replicate z 0) v] [] (fun r G S => G = [rd (Ty.sl Ty.u8) (dg d) r] ∧ S = []) := by
  refine Fun.enter Try.func63 (by kernel_rfl) rfl Try.ntmps63 rfl (fun B Gf Sf => ?_); (try simp only [List.cons_append]); (try simp only [List.nil_append]); simp only [argEnv]
  refine WC.ex (fun w sw => sw.len_le (RdSl.h (v := v))) (fun hlv => ?_)
  (repeat (first | refine vgo ?_ | refine ⟨_, rfl, rfl, ?_⟩ | refine ⟨_, rfl, ?_⟩ | refine ⟨rfl, ?_⟩ | intro hb | (refine altL ?_ ?_; omega) | refine altR ?_ | (refine side ?_ ?_; first | omega | exact True.intro | ((try simp only [List.length_append, List.length_cons, List.length_nil, List.length_map, List.length_replicate, List.length_set, and_true, true_and]); omega) | assumption | (and_intros <;> first | omega | assumption) | decide) | (refine decT ?_ ?_; first | with_reducible assumption | with_reducible rfl | (refine not_not_intro ?_; with_reducible first | assumption | rfl) | omega | decide) | (refine decF ?_ ?_; first | with_reducible assumption | with_reducible rfl | (refine not_not_intro ?_; with_reducible first | assumption | rfl) | omega | decide) | (refine decBT ?_ ?_; with_reducible first | assumption | rfl | exact Bool.not_false) | (refine decBF ?_ ?_; with_reducible first | assumption | rfl | exact Bool.not_true) | refine ⟨_, by assumption, ?_⟩ | refine ⟨_, _, _, rfl, ?_⟩ | refine WC.seq (fun K hK => ?_) | (refine hK _ _ _ ?_; clear hK K) | (refine hK _ _ _ _ rfl ?_; clear hK K) | (refine WX.thenExit (K := K) ?_; clear hK K) | (refine WX.thenExit (K := KL) ?_; clear hL KL)))
  refine WC.loop (I := Nat × Value) (fun i => [(0, i.2)]) (fun i => rd (Ty.sl Ty.u8) (dg d ++ List.replicate i.1 0) i.2 :: rd (Ty.sl Ty.u8) (dg d ++ List.replicate z 0) v :: Gf) (fun _ => Sf) (fun i => i.1 ≤ z) (fun i => i.1) (z, v) (Nat.le_refl _) (.cons rfl .nil) (fun w h => h.to) ?_
  rintro ⟨k, u⟩ hk KL hL
  dsimp only at hk ⊢
  have hll : (dg d ++ List.replicate k (0 : UInt8)).length = (dg d).length + k := by rw [List.length_append, List.length_replicate]
  rw [List.length_append, List.length_replicate] at hlv
  rcases k with _ | k
  · rw [List.replicate_zero, List.append_nil] at hll ⊢
    by_cases hd : d = 0
    · have hd0 : (dg d).length = 0 := by rw [hd, dg_zero]; rfl
      (repeat (first | refine vgo ?_ | refine ⟨_, rfl, rfl, ?_⟩ | refine ⟨_, rfl, ?_⟩ | refine ⟨rfl, ?_⟩ | intro hb | (refine altL ?_ ?_; omega) | refine altR ?_ | (refine side ?_ ?_; first | omega | exact True.intro | ((try simp only [List.length_append, List.length_cons, List.length_nil, List.length_map, List.length_replicate, List.length_set, and_true, true_and]); omega) | assumption | (and_intros <;> first | omega | assumption) | decide) | (refine decT ?_ ?_; first | with_reducible assumption | with_reducible rfl | (refine not_not_intro ?_; with_reducible first | assumption | rfl) | omega | decide) | (refine decF ?_ ?_; first | with_reducible assumption | with_reducible rfl | (refine not_not_intro ?_; with_reducible first | assumption | rfl) | omega | decide) | (refine decBT ?_ ?_; with_reducible first | assumption | rfl | exact Bool.not_false) | (refine decBF ?_ ?_; with_reducible first | assumption | rfl | exact Bool.not_true) | refine ⟨_, by assumption, ?_⟩ | refine ⟨_, _, _, rfl, ?_⟩ | refine WC.seq (fun K hK => ?_) | (refine hK _ _ _ ?_; clear hK K) | (refine hK _ _ _ _ rfl ?_; clear hK K) | (refine WX.thenExit (K := K) ?_; clear hK K) | (refine WX.thenExit (K := KL) ?_; clear hL KL)))
      exact WX.ret1 rfl rfl (fun w sw => ⟨[rd (Ty.sl Ty.u8) (dg d) u], [], ⟨rfl, rfl⟩, sw.to⟩)
    · obtain ⟨x, hx, hp⟩ := dg_last d d (Nat.le_refl _) (by omega)
      have hpos : 0 < (dg d).length := by rw [dg_pos (by omega)]; exact Nat.succ_pos _
      have hx2 : (dg d)[(((dg d).length : Int) - 1).toNat]? = some x := by rw [show (((dg d).length : Int) - 1).toNat = (dg d).length - 1 from by omega]; exact hx
      (repeat (first | refine vgo ?_ | refine ⟨_, rfl, rfl, ?_⟩ | refine ⟨_, rfl, ?_⟩ | refine ⟨rfl, ?_⟩ | intro hb | (refine altL ?_ ?_; omega) | refine altR ?_ | (refine side ?_ ?_; first | omega | exact True.intro | ((try simp only [List.length_append, List.length_cons, List.length_nil, List.length_map, List.length_replicate, List.length_set, and_true, true_and]); omega) | assumption | (and_intros <;> first | omega | assumption) | decide) | (refine decT ?_ ?_; first | with_reducible assumption | with_reducible rfl | (refine not_not_intro ?_; with_reducible first | assumption | rfl) | omega | decide) | (refine decF ?_ ?_; first | with_reducible assumption | with_reducible rfl | (refine not_not_intro ?_; with_reducible first | assumption | rfl) | omega | decide) | (refine decBT ?_ ?_; with_reducible first | assumption | rfl | exact Bool.not_false) | (refine decBF ?_ ?_; with_reducible first | assumption | rfl | exact Bool.not_true) | refine ⟨_, by assumption, ?_⟩ | refine ⟨_, _, _, rfl, ?_⟩ | refine WC.seq (fun K hK => ?_) | (refine hK _ _ _ ?_; clear hK K) | (refine hK _ _ _ _ rfl ?_; clear hK K) | (refine WX.thenExit (K := K) ?_; clear hK K) | (refine WX.thenExit (K := KL) ?_; clear hL KL)))
      exact WX.ret1 rfl rfl (fun w sw => ⟨[rd (Ty.sl Ty.u8) (dg d) u], [], ⟨rfl, rfl⟩, sw.to⟩)
  · obtain ⟨l, hl⟩ : ∃ l, l = dg d ++ List.replicate (k + 1) (0 : UInt8) := ⟨_, rfl⟩
    have hx2 : l[((l.length : Int) - 1).toNat]? = some 0 := by
      rw [← hl] at hll
      rw [hll, hl, show ((((dg d).length + (k + 1) : Nat) : Int) - 1).toNat = (dg d).length + k from by omega, List.getElem?_append_right (by omega), Nat.add_sub_cancel_left, List.getElem?_replicate, if_pos (by omega)]
    have htk : l.take ((dg d).length + k) = dg d ++ List.replicate k 0 := by
      rw [hl, List.take_append, List.take_of_length_le (by omega), Nat.add_sub_cancel_left, List.take_replicate, Nat.min_eq_left (by omega)]
    rw [← hl] at hll ⊢
    (repeat (first | refine vgo ?_ | refine ⟨_, rfl, rfl, ?_⟩ | refine ⟨_, rfl, ?_⟩ | refine ⟨rfl, ?_⟩ | intro hb | (refine altL ?_ ?_; omega) | refine altR ?_ | (refine side ?_ ?_; first | omega | exact True.intro | ((try simp only [List.length_append, List.length_cons, List.length_nil, List.length_map, List.length_replicate, List.length_set, and_true, true_and]); omega) | assumption | (and_intros <;> first | omega | assumption) | decide) | (refine decT ?_ ?_; first | with_reducible assumption | with_reducible rfl | (refine not_not_intro ?_; with_reducible first | assumption | rfl) | omega | decide) | (refine decF ?_ ?_; first | with_reducible assumption | with_reducible rfl | (refine not_not_intro ?_; with_reducible first | assumption | rfl) | omega | decide) | (refine decBT ?_ ?_; with_reducible first | assumption | rfl | exact Bool.not_false) | (refine decBF ?_ ?_; with_reducible first | assumption | rfl | exact Bool.not_true) | refine ⟨_, by assumption, ?_⟩ | refine ⟨_, _, _, rfl, ?_⟩ | refine WC.seq (fun K hK => ?_) | (refine hK _ _ _ ?_; clear hK K) | (refine hK _ _ _ _ rfl ?_; clear hK K) | (refine WX.thenExit (K := K) ?_; clear hK K) | (refine WX.thenExit (K := KL) ?_; clear hL KL)))
    refine WL.slc rfl rfl rfl rfl rfl ?_; refine SliceV.high rfl ((dg d).length + k) (by omega) (by omega) ?_; intro r
    rw [htk]
    (repeat (first | refine vgo ?_ | refine ⟨_, rfl, rfl, ?_⟩ | refine ⟨_, rfl, ?_⟩ | refine ⟨rfl, ?_⟩ | intro hb | (refine altL ?_ ?_; omega) | refine altR ?_ | (refine side ?_ ?_; first | omega | exact True.intro | ((try simp only [List.length_append, List.length_cons, List.length_nil, List.length_map, List.length_replicate, List.length_set, and_true, true_and]); omega) | assumption | (and_intros <;> first | omega | assumption) | decide) | (refine decT ?_ ?_; first | with_reducible assumption | with_reducible rfl | (refine not_not_intro ?_; with_reducible first | assumption | rfl) | omega | decide) | (refine decF ?_ ?_; first | with_reducible assumption | with_reducible rfl | (refine not_not_intro ?_; with_reducible first | assumption | rfl) | omega | decide) | (refine decBT ?_ ?_; with_reducible first | assumption | rfl | exact Bool.not_false) | (refine decBF ?_ ?_; with_reducible first | assumption | rfl | exact Bool.not_true) | refine ⟨_, by assumption, ?_⟩ | refine ⟨_, _, _, rfl, ?_⟩ | refine WC.seq (fun K hK => ?_) | (refine hK _ _ _ ?_; clear hK K) | (refine hK _ _ _ _ rfl ?_; clear hK K) | (refine WX.thenExit (K := K) ?_; clear hK K) | (refine WX.thenExit (K := KL) ?_; clear hL KL)))
    exact (hL (k, r) (by dsimp only; omega) (by dsimp only; omega)).conv (.cons rfl .nil) (fun w h => h.to)
end Go.Qd
