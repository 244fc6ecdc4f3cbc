/-
  What the functions of package clock, and of the document's answer to it, compute.
-/
import Derived.Test.YthkeakecckiokaaGreatQTab
import Derived.Test.YthkeakecckiokaaGreatQW
namespace Go.Qd
open Go Go.Proofs

/-! ### Clocks as lists of numbers -/
def trimL (l : List Nat) : List Nat := if h : l.getLast? = some 0 then trimL l.dropLast else l
termination_by l.length
decreasing_by
  cases l with
  | nil => simp at h
  | cons a r => simp
theorem trimL_zero {l : List Nat} (h : l.getLast? = some 0) : trimL l = trimL l.dropLast := by rw [trimL, dif_pos h]
theorem trimL_done {l : List Nat} (h : ¬ l.getLast? = some 0) : trimL l = l := by rw [trimL, dif_neg h]
theorem getD_take (l : List Nat) (k i : Nat) : (l.take k).getD i 0 = if i < k then l.getD i 0 else 0 := by
  simp only [List.getD_eq_getElem?_getD, List.getElem?_take]
  split <;> simp
theorem trimL_getD (l : List Nat) (i : Nat) : (trimL l).getD i 0 = l.getD i 0 := by
  induction h : l.length using Nat.strongRecOn generalizing l with
  | _ n ih =>
    by_cases hz : l.getLast? = some 0
    · have hne : l ≠ [] := by rintro rfl; simp at hz
      have hp : 0 < l.length := List.length_pos_iff.2 hne
      rw [trimL_zero hz, ih l.dropLast.length (by simp; omega) l.dropLast rfl, List.dropLast_eq_take, getD_take]
      split
      · rfl
      · rename_i h1
        rw [List.getLast?_eq_getElem?] at hz
        by_cases h2 : i = l.length - 1
        · subst h2; simp [List.getD_eq_getElem?_getD, hz]
        · simp [List.getD_eq_getElem?_getD, List.getElem?_eq_none (show l.length ≤ i by omega)]
    · rw [trimL_done hz]
theorem trimL_last (l : List Nat) : ¬ (trimL l).getLast? = some 0 := by
  induction h : l.length using Nat.strongRecOn generalizing l with
  | _ n ih =>
    by_cases hz : l.getLast? = some 0
    · have hne : l ≠ [] := by rintro rfl; simp at hz
      have hp : 0 < l.length := List.length_pos_iff.2 hne
      rw [trimL_zero hz]
      exact ih l.dropLast.length (by simp; omega) l.dropLast rfl
    · rw [trimL_done hz]; exact hz
theorem trimL_length (l : List Nat) : (trimL l).length ≤ l.length := by
  induction h : l.length using Nat.strongRecOn generalizing l with
  | _ n ih =>
    by_cases hz : l.getLast? = some 0
    · have hne : l ≠ [] := by rintro rfl; simp at hz
      have hp : 0 < l.length := List.length_pos_iff.2 hne
      rw [trimL_zero hz]
      have := ih l.dropLast.length (by simp; omega) l.dropLast rfl
      simp at this; omega
    · rw [trimL_done hz]; omega
/-- Two lists without noughts at their ends that tell the same are the same. -/
theorem normal_ext {l m : List Nat} (hl : ¬ l.getLast? = some 0) (hm : ¬ m.getLast? = some 0) (h : ∀ i, l.getD i 0 = m.getD i 0) : l = m := by
  have key : ∀ {a b : List Nat}, ¬ a.getLast? = some 0 → (∀ i, a.getD i 0 = b.getD i 0) → a.length ≤ b.length := by
    intro a b ha hab
    rcases Nat.lt_or_ge b.length a.length with hlt | hge
    · exfalso
      have h1 := hab (a.length - 1)
      rw [List.getD_eq_getElem?_getD, List.getD_eq_getElem?_getD, List.getElem?_eq_none (show b.length ≤ a.length - 1 by omega)] at h1
      rw [List.getLast?_eq_getElem?, List.getElem?_eq_getElem (show a.length - 1 < a.length by omega)] at ha
      rw [List.getElem?_eq_getElem (show a.length - 1 < a.length by omega)] at h1
      simp at h1 ha; exact ha h1
    · exact hge
  have h1 := key hl h
  have h2 := key hm (fun i => (h i).symm)
  apply List.ext_getElem (by omega)
  intro i hi hj
  have := h i
  simpa [List.getD_eq_getElem?_getD, hi, hj] using this
theorem trimL_ext {l m : List Nat} (h : ∀ i, l.getD i 0 = m.getD i 0) : trimL l = trimL m :=
  normal_ext (trimL_last l) (trimL_last m) (fun i => by rw [trimL_getD, trimL_getD, h])
def getC (l : List Nat) (i : Int) : Nat := if i < 1 then 0 else l.getD (i - 1).toNat 0
theorem getC_succ (l : List Nat) (k : Nat) : getC l ((k : Int) + 1) = l.getD k 0 := by
  rw [getC, if_neg (by omega)]; congr 1; omega
def withinL (a b : List Nat) : Prop := ∀ i, i < a.length → a.getD i 0 ≤ b.getD i 0
instance (a b : List Nat) : Decidable (withinL a b) := inferInstanceAs (Decidable (∀ i, i < a.length → _))
theorem withinL_iff (a b : List Nat) : withinL a b ↔ ∀ i, a.getD i 0 ≤ b.getD i 0 := by
  constructor
  · intro h i
    by_cases hi : i < a.length
    · exact h i hi
    · simp [List.getD_eq_getElem?_getD, List.getElem?_eq_none (show a.length ≤ i by omega)]
  · exact fun h i _ => h i
theorem getD_of {l : List Nat} {k x : Nat} (h : l[k]? = some x) : l.getD k 0 = x := by simp [List.getD_eq_getElem?_getD, h]
set_option maxHeartbeats 800000 in
theorem trimmed_fun (l : List Nat) (v : Value) : Fun Tryz.prog 49 [v] [rd (Ty.sl Ty.u64) l v] [] (fun r G S => G = [rd (Ty.sl Ty.u64) (trimL l) r] ∧ S = []) := by
  refine Fun.enter Tryz.func49 (by kernel_rfl) rfl Tryz.ntmps49 rfl (fun B Gf Sf => ?_); (try simp only [List.cons_append]); (try simp only [List.nil_append]); simp only [argEnv]
  (repeat (first | refine vgo ?_ | refine ⟨_, rfl, rfl, ?_⟩ | refine ⟨_, rfl, ?_⟩ | refine ⟨rfl, ?_⟩ | intro hb | refine go2 ?_ | refine WC.seq (fun K hK => ?_) | ((first | refine hK _ _ _ ?_ | refine hK _ _ _ _ rfl ?_ | refine WX.thenExit (K := K) ?_); clear hK K) | (refine WX.thenExit (K := KL) ?_; clear hL KL)))
  refine WC.loop (I := List Nat × Value) (fun i => [(0, i.2)]) (fun i => rd (Ty.sl Ty.u64) i.1 i.2 :: rd (Ty.sl Ty.u64) l v :: Gf) (fun _ => Sf) (fun i => trimL l = trimL i.1) (fun i => i.1.length) (l, v) rfl (.cons rfl .nil) (fun w h => h.to) ?_
  rintro ⟨c, vc⟩ hc KL hL
  dsimp only at hc ⊢
  refine WC.ex (fun w sw => sw.len_le (RdSl.h (v := vc))) (fun hlc => ?_)
  by_cases h0 : (0 : Int) < (c.length : Int)
  · have hx : c[((c.length : Int) - 1).toNat]? = some (c[c.length - 1]'(by omega)) := by
      rw [show ((c.length : Int) - 1).toNat = c.length - 1 from by omega]; exact List.getElem?_eq_getElem _
    generalize hX : (c[c.length - 1]'(by omega)) = X at hx
    have hlast : c.getLast? = some X := by rw [List.getLast?_eq_getElem?, List.getElem?_eq_getElem (by omega), hX]
    (repeat (first | refine vgo ?_ | refine ⟨_, rfl, rfl, ?_⟩ | refine ⟨_, rfl, ?_⟩ | refine ⟨rfl, ?_⟩ | intro hb | refine go2 ?_ | refine WC.seq (fun K hK => ?_) | ((first | refine hK _ _ _ ?_ | refine hK _ _ _ _ rfl ?_ | refine WX.thenExit (K := K) ?_); clear hK K) | (refine WX.thenExit (K := KL) ?_; clear hL KL)))
    refine dcB (fun hz => ?_) (fun hz => ?_)
    · have hX0 : X = 0 := by omega
      rw [hX0] at hlast
      rw [trimL_zero hlast, List.dropLast_eq_take] at hc
      (repeat (first | refine vgo ?_ | refine ⟨_, rfl, rfl, ?_⟩ | refine ⟨_, rfl, ?_⟩ | refine ⟨rfl, ?_⟩ | intro hb | refine go2 ?_ | refine WC.seq (fun K hK => ?_) | ((first | refine hK _ _ _ ?_ | refine hK _ _ _ _ rfl ?_ | refine WX.thenExit (K := K) ?_); clear hK K) | (refine WX.thenExit (K := KL) ?_; clear hL KL)))
      refine WL.slc rfl rfl rfl rfl rfl ?_; refine SliceV.high rfl (c.length - 1) (by omega) (by omega) ?_; intro r
      (repeat (first | refine vgo ?_ | refine ⟨_, rfl, rfl, ?_⟩ | refine ⟨_, rfl, ?_⟩ | refine ⟨rfl, ?_⟩ | intro hb | refine go2 ?_ | refine WC.seq (fun K hK => ?_) | ((first | refine hK _ _ _ ?_ | refine hK _ _ _ _ rfl ?_ | refine WX.thenExit (K := K) ?_); clear hK K) | (refine WX.thenExit (K := KL) ?_; clear hL KL)))
      exact (hL (c.take (c.length - 1), r) hc (by dsimp only; simp; omega)).conv (.cons rfl .nil) (fun _ h => h.to)
    · rw [trimL_done (l := c) (by rw [hlast]; simp; omega)] at hc
      (repeat (first | refine vgo ?_ | refine ⟨_, rfl, rfl, ?_⟩ | refine ⟨_, rfl, ?_⟩ | refine ⟨rfl, ?_⟩ | intro hb | refine go2 ?_ | refine WC.seq (fun K hK => ?_) | ((first | refine hK _ _ _ ?_ | refine hK _ _ _ _ rfl ?_ | refine WX.thenExit (K := K) ?_); clear hK K) | (refine WX.thenExit (K := KL) ?_; clear hL KL)))
      exact WX.ret1 rfl rfl (fun w sw => ⟨[rd (Ty.sl Ty.u64) (trimL l) vc], [], ⟨rfl, rfl⟩, by rw [hc]; exact sw.to⟩)
  · have hn : c = [] := List.eq_nil_of_length_eq_zero (by omega)
    subst hn
    rw [trimL_done (l := []) (by simp)] at hc
    (repeat (first | refine vgo ?_ | refine ⟨_, rfl, rfl, ?_⟩ | refine ⟨_, rfl, ?_⟩ | refine ⟨rfl, ?_⟩ | intro hb | refine go2 ?_ | refine WC.seq (fun K hK => ?_) | ((first | refine hK _ _ _ ?_ | refine hK _ _ _ _ rfl ?_ | refine WX.thenExit (K := K) ?_); clear hK K) | (refine WX.thenExit (K := KL) ?_; clear hL KL)))
    exact WX.ret1 rfl rfl (fun w sw => ⟨[rd (Ty.sl Ty.u64) (trimL l) vc], [], ⟨rfl, rfl⟩, by rw [hc]; exact sw.to⟩)
instance trimmed_ret {G : List Pers} {l : List Nat} {v : Value} [i : RdSl v G Ty.u64 l] : RetF Tryz.prog 49 [v] G True (Ty.sl Ty.u64) (trimL l) := ⟨fun _ => ⟨_, by simpa using i.h, trimmed_fun l v⟩⟩

set_option maxHeartbeats 800000 in
theorem get_fun (l : List Nat) (v : Value) (i : Int) (hi : -9223372036854775808 ≤ i) : Fun Tryz.prog 57 [v, .int .i64 i] [rd (Ty.sl Ty.u64) l v] [] (fun r G S => r = .int .u64 (getC l i) ∧ G = [] ∧ S = []) := by
  refine Fun.enter Tryz.func57 (by kernel_rfl) rfl Tryz.ntmps57 rfl (fun B Gf Sf => ?_); (try simp only [List.cons_append]); (try simp only [List.nil_append]); simp only [argEnv]
  refine WC.ex (fun w sw => sw.len_le (RdSl.h (v := v))) (fun hl => ?_)
  by_cases h1 : i < 1
  · (repeat (first | refine vgo ?_ | refine ⟨_, rfl, rfl, ?_⟩ | refine ⟨_, rfl, ?_⟩ | refine ⟨rfl, ?_⟩ | intro hb | refine go2 ?_ | refine WC.seq (fun K hK => ?_) | ((first | refine hK _ _ _ ?_ | refine hK _ _ _ _ rfl ?_ | refine WX.thenExit (K := K) ?_); clear hK K) | (refine WX.thenExit (K := KL) ?_; clear hL KL)))
    exact WX.ret1 rfl rfl (fun w sw => ⟨[], [], ⟨by rw [getC, if_pos h1]; rfl, rfl, rfl⟩, sw.to⟩)
  · by_cases h2 : (l.length : Int) < i
    · (repeat (first | refine vgo ?_ | refine ⟨_, rfl, rfl, ?_⟩ | refine ⟨_, rfl, ?_⟩ | refine ⟨rfl, ?_⟩ | intro hb | refine go2 ?_ | refine WC.seq (fun K hK => ?_) | ((first | refine hK _ _ _ ?_ | refine hK _ _ _ _ rfl ?_ | refine WX.thenExit (K := K) ?_); clear hK K) | (refine WX.thenExit (K := KL) ?_; clear hL KL)))
      exact WX.ret1 rfl rfl (fun w sw => ⟨[], [], ⟨by rw [getC, if_neg h1, List.getD_eq_getElem?_getD, List.getElem?_eq_none (by omega)]; rfl, rfl, rfl⟩, sw.to⟩)
    · have hx : l[(i - 1).toNat]? = some (l[(i - 1).toNat]'(by omega)) := List.getElem?_eq_getElem _
      generalize (l[(i - 1).toNat]'(by omega)) = X at hx
      (repeat (first | refine vgo ?_ | refine ⟨_, rfl, rfl, ?_⟩ | refine ⟨_, rfl, ?_⟩ | refine ⟨rfl, ?_⟩ | intro hb | refine go2 ?_ | refine WC.seq (fun K hK => ?_) | ((first | refine hK _ _ _ ?_ | refine hK _ _ _ _ rfl ?_ | refine WX.thenExit (K := K) ?_); clear hK K) | (refine WX.thenExit (K := KL) ?_; clear hL KL)))
      exact WX.ret1 rfl rfl (fun w sw => ⟨[], [], ⟨by rw [getC, if_neg h1, getD_of hx], rfl, rfl⟩, sw.to⟩)
instance get_pure {G : List Pers} {l : List Nat} {v : Value} {i : Int} [j : RdSl v G Ty.u64 l] : PureF Tryz.prog 57 [v, .int .i64 i] G (-9223372036854775808 ≤ i) (.int .u64 ((getC l i : Nat) : Int)) := ⟨fun h => ⟨_, by simpa using j.h, get_fun l v i h⟩⟩

set_option maxHeartbeats 800000 in
theorem within_fun (a b : List Nat) (va vb : Value) : Fun Tryz.prog 46 [va, vb] [rd (Ty.sl Ty.u64) a va, rd (Ty.sl Ty.u64) b vb] [] (fun r G S => r = .bool (decide (withinL a b)) ∧ G = [] ∧ S = []) := by
  refine Fun.enter Tryz.func46 (by kernel_rfl) rfl Tryz.ntmps46 rfl (fun B Gf Sf => ?_); (try simp only [List.cons_append]); (try simp only [List.nil_append]); simp only [argEnv]
  refine WC.ex (fun w sw => sw.len_le (RdSl.h (v := va))) (fun hla => ?_)
  (repeat (first | refine vgo ?_ | refine ⟨_, rfl, rfl, ?_⟩ | refine ⟨_, rfl, ?_⟩ | refine ⟨rfl, ?_⟩ | intro hb | refine go2 ?_ | refine WC.seq (fun K hK => ?_) | ((first | refine hK _ _ _ ?_ | refine hK _ _ _ _ rfl ?_ | refine WX.thenExit (K := K) ?_); clear hK K) | (refine WX.thenExit (K := KL) ?_; clear hL KL)))
  refine WC.loop (I := Nat) (fun i => [(8, .int .i64 i), (7, .int .i64 a.length), (1, vb), (0, va)]) (fun _ => rd (Ty.sl Ty.u64) a va :: rd (Ty.sl Ty.u64) b vb :: Gf) (fun _ => Sf) (fun i => i ≤ a.length ∧ ∀ j, j < i → a.getD j 0 ≤ b.getD j 0) (fun i => a.length - i) 0 (by simp) (.cons rfl (.cons rfl (.cons rfl (.cons rfl .nil)))) (fun w h => h) ?_
  rintro k ⟨hi, hall⟩ KL hL
  (repeat (first | refine vgo ?_ | refine ⟨_, rfl, rfl, ?_⟩ | refine ⟨_, rfl, ?_⟩ | refine ⟨rfl, ?_⟩ | intro hb | refine go2 ?_ | refine WC.seq (fun K hK => ?_) | ((first | refine hK _ _ _ ?_ | refine hK _ _ _ _ rfl ?_ | refine WX.thenExit (K := K) ?_); clear hK K) | (refine WX.thenExit (K := KL) ?_; clear hL KL)))
  refine dcB (fun hk => ?_) (fun hk => ?_)
  · obtain ⟨x, hx, hts⟩ := get_ex (l := a) (k := k) (by omega)
    (repeat (first | refine vgo ?_ | refine ⟨_, rfl, rfl, ?_⟩ | refine ⟨_, rfl, ?_⟩ | refine ⟨rfl, ?_⟩ | intro hb | refine go2 ?_ | refine WC.seq (fun K hK => ?_) | ((first | refine hK _ _ _ ?_ | refine hK _ _ _ _ rfl ?_ | refine WX.thenExit (K := K) ?_); clear hK K) | (refine WX.thenExit (K := KL) ?_; clear hL KL)))
    (apply WC.draw; exact rfl; focus (repeat (first | exact Wo.nil | (apply Wo.keep; exact rfl) | (apply Wo.drop; exact rfl)))); (repeat (apply Obls.cons; focus ((repeat (intro _)); (conv => whnf); (repeat (first | refine vgo ?_ | refine ⟨_, rfl, rfl, ?_⟩ | refine ⟨_, rfl, ?_⟩ | refine ⟨rfl, ?_⟩ | intro hb | refine go2 ?_ | refine WC.seq (fun K hK => ?_) | ((first | refine hK _ _ _ ?_ | refine hK _ _ _ _ rfl ?_ | refine WX.thenExit (K := K) ?_); clear hK K) | (refine WX.thenExit (K := KL) ?_; clear hL KL))); first | exact WX.pqIs rfl | exact WX.pqRd rfl | exact WX.pqCell rfl | exact WX.pqNone))); try (refine Obls.nil ?_; (repeat (intro _)); (conv => whnf))
    (repeat (first | refine vgo ?_ | refine ⟨_, rfl, rfl, ?_⟩ | refine ⟨_, rfl, ?_⟩ | refine ⟨rfl, ?_⟩ | intro hb | refine go2 ?_ | refine WC.seq (fun K hK => ?_) | ((first | refine hK _ _ _ ?_ | refine hK _ _ _ _ rfl ?_ | refine WX.thenExit (K := K) ?_); clear hK K) | (refine WX.thenExit (K := KL) ?_; clear hL KL)))
    rw [getC_succ]
    refine dcB (fun hgt => ?_) (fun hgt => ?_)
    · (repeat (first | refine vgo ?_ | refine ⟨_, rfl, rfl, ?_⟩ | refine ⟨_, rfl, ?_⟩ | refine ⟨rfl, ?_⟩ | intro hb | refine go2 ?_ | refine WC.seq (fun K hK => ?_) | ((first | refine hK _ _ _ ?_ | refine hK _ _ _ _ rfl ?_ | refine WX.thenExit (K := K) ?_); clear hK K) | (refine WX.thenExit (K := KL) ?_; clear hL KL)))
      exact WX.ret1 rfl rfl (fun w sw => ⟨[], [], ⟨by congr 1; symm; rw [decide_eq_false_iff_not]; intro h; have := h k (by omega); rw [getD_of hx] at this; omega, rfl, rfl⟩, sw.to⟩)
    · (repeat (first | refine vgo ?_ | refine ⟨_, rfl, rfl, ?_⟩ | refine ⟨_, rfl, ?_⟩ | refine ⟨rfl, ?_⟩ | intro hb | refine go2 ?_ | refine WC.seq (fun K hK => ?_) | ((first | refine hK _ _ _ ?_ | refine hK _ _ _ _ rfl ?_ | refine WX.thenExit (K := K) ?_); clear hK K) | (refine WX.thenExit (K := KL) ?_; clear hL KL)))
      refine (hL (k + 1) ⟨by omega, fun j hj => ?_⟩ (by omega)).conv (.cons rfl (.cons rfl (.cons rfl (.cons rfl .nil)))) (fun _ h => h.to)
      by_cases e : j = k
      · subst e; rw [getD_of hx]; omega
      · exact hall j (by omega)
  · (repeat (first | refine vgo ?_ | refine ⟨_, rfl, rfl, ?_⟩ | refine ⟨_, rfl, ?_⟩ | refine ⟨rfl, ?_⟩ | intro hb | refine go2 ?_ | refine WC.seq (fun K hK => ?_) | ((first | refine hK _ _ _ ?_ | refine hK _ _ _ _ rfl ?_ | refine WX.thenExit (K := K) ?_); clear hK K) | (refine WX.thenExit (K := KL) ?_; clear hL KL)))
    exact WX.ret1 rfl rfl (fun w sw => ⟨[], [], ⟨by congr 1; symm; rw [decide_eq_true_eq]; exact fun i hi => hall i (by omega), rfl, rfl⟩, sw.to⟩)
instance within_pure {G : List Pers} {a b : List Nat} {va vb : Value} [i : RdSl va G Ty.u64 a] [j : RdSl vb G Ty.u64 b] : PureF Tryz.prog 46 [va, vb] G True (.bool (decide (withinL a b))) := ⟨fun _ => ⟨_, by simpa using ⟨i.h, j.h⟩, within_fun a b va vb⟩⟩
set_option maxHeartbeats 800000 in
theorem csame_fun (a b : List Nat) (va vb : Value) : Fun Tryz.prog 22 [va, vb] [rd (Ty.sl Ty.u64) a va, rd (Ty.sl Ty.u64) b vb] [] (fun r G S => r = .bool (decide (withinL a b ∧ withinL b a)) ∧ G = [] ∧ S = []) := by
  refine Fun.enter Tryz.func22 (by kernel_rfl) rfl Tryz.ntmps22 rfl (fun B Gf Sf => ?_); (try simp only [List.cons_append]); (try simp only [List.nil_append]); simp only [argEnv]
  (repeat' (first | refine vgo ?_ | refine ⟨_, rfl, rfl, ?_⟩ | refine ⟨_, rfl, ?_⟩ | refine ⟨rfl, ?_⟩ | intro hb | refine go2 ?_ | refine WC.seq (fun K hK => ?_) | ((first | refine hK _ _ _ ?_ | refine hK _ _ _ _ rfl ?_ | refine WX.thenExit (K := K) ?_); clear hK K) | (refine WX.thenExit (K := KL) ?_; clear hL KL) | ((first | refine WL.boxA rfl rfl ?_ | refine WL.box rfl rfl rfl ?_); intro bx) | (refine WL.alloc rfl ?_; intro bx) | refine dcB (fun hg => ?_) (fun hg => ?_) | refine dcBB (fun hg => ?_) (fun hg => ?_)))
  all_goals exact WX.ret1 rfl rfl (fun w sw => ⟨[], [], ⟨by simp [*], rfl, rfl⟩, sw.to⟩)
instance csame_pure {G : List Pers} {a b : List Nat} {va vb : Value} [i : RdSl va G Ty.u64 a] [j : RdSl vb G Ty.u64 b] : PureF Tryz.prog 22 [va, vb] G True (.bool (decide (withinL a b ∧ withinL b a))) := ⟨fun _ => ⟨_, by simpa using ⟨i.h, j.h⟩, csame_fun a b va vb⟩⟩
end Go.Qd
