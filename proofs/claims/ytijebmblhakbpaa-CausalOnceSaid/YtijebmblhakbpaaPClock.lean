/-
  What the functions of package clock, and of the document's answer to it, compute.
-/
import Derived.Test.YtijebmblhakbpaaQTab
import Derived.Test.YtijebmblhakbpaaQW
namespace Go.Qd
open Go Go.Proofs

/-! ### Clocks as lists of numbers -/
def trimL (l : List Nat) : List Nat := if h : l.getLast? = some 0 then trimL l.dropLast else l
termination_by l.length
decreasing_by
  cases l with
  | nil => simp at h
  | cons a r => simp
theorem trimL_zero {l : List Nat} (h : l.getLast? = some 0) : trimL l = trimL l.dropLast := by rw [trimL, dif_pos h]
theorem trimL_done {l : List Nat} (h : ¬ l.getLast? = some 0) : trimL l = l := by rw [trimL, dif_neg h]
theorem getD_take (l : List Nat) (k i : Nat) : (l.take k).getD i 0 = if i < k then l.getD i 0 else 0 := by
  simp only [List.getD_eq_getElem?_getD, List.getElem?_take]
  split <;> simp
theorem trimL_getD (l : List Nat) (i : Nat) : (trimL l).getD i 0 = l.getD i 0 := by
  induction h : l.length using Nat.strongRecOn generalizing l with
  | _ n ih =>
    by_cases hz : l.getLast? = some 0
    · have hne : l ≠ [] := by rintro rfl; simp at hz
      have hp : 0 < l.length := List.length_pos_iff.2 hne
      rw [trimL_zero hz, ih l.dropLast.length (by simp; omega) l.dropLast rfl, List.dropLast_eq_take, getD_take]
      split
      · rfl
      · rename_i h1
        rw [List.getLast?_eq_getElem?] at hz
        by_cases h2 : i = l.length - 1
        · subst h2; simp [List.getD_eq_getElem?_getD, hz]
        · simp [List.getD_eq_getElem?_getD, List.getElem?_eq_none (show l.length ≤ i by omega)]
    · rw [trimL_done hz]
theorem trimL_length (l : List Nat) : (trimL l).length ≤ l.length := by
  induction h : l.length using Nat.strongRecOn generalizing l with
  | _ n ih =>
    by_cases hz : l.getLast? = some 0
    · have hne : l ≠ [] := by rintro rfl; simp at hz
      have hp : 0 < l.length := List.length_pos_iff.2 hne
      rw [trimL_zero hz]
      have := ih l.dropLast.length (by simp; omega) l.dropLast rfl
      simp at this; omega
    · rw [trimL_done hz]; omega
def getC (l : List Nat) (i : Int) : Nat := if i < 1 then 0 else l.getD (i - 1).toNat 0
theorem getC_succ (l : List Nat) (k : Nat) : getC l ((k : Int) + 1) = l.getD k 0 := by
  rw [getC, if_neg (by omega)]; congr 1; omega
def joinL (op : Nat → Nat → Nat) (a b : List Nat) : List Nat := (List.range (max a.length b.length)).map fun i => op (a.getD i 0) (b.getD i 0)
theorem joinL_length (op : Nat → Nat → Nat) (a b : List Nat) : (joinL op a b).length = max a.length b.length := by simp [joinL]
theorem joinL_get {op : Nat → Nat → Nat} {a b : List Nat} {i : Nat} (h : i < max a.length b.length) : (joinL op a b)[i]? = some (op (a.getD i 0) (b.getD i 0)) := by
  simp [joinL, h]
theorem joinL_getD {op : Nat → Nat → Nat} (h0 : op 0 0 = 0) (a b : List Nat) (i : Nat) : (joinL op a b).getD i 0 = op (a.getD i 0) (b.getD i 0) := by
  by_cases h : i < max a.length b.length
  · rw [List.getD_eq_getElem?_getD, joinL_get h]; rfl
  · rw [List.getD_eq_getElem?_getD, List.getElem?_eq_none (by rw [joinL_length]; omega), List.getD_eq_getElem?_getD, List.getElem?_eq_none (by omega), List.getD_eq_getElem?_getD, List.getElem?_eq_none (by omega)]
    simp [h0]
def withinL (a b : List Nat) : Prop := ∀ i, i < a.length → a.getD i 0 ≤ b.getD i 0
instance (a b : List Nat) : Decidable (withinL a b) := inferInstanceAs (Decidable (∀ i, i < a.length → _))
theorem withinL_iff (a b : List Nat) : withinL a b ↔ ∀ i, a.getD i 0 ≤ b.getD i 0 := by
  constructor
  · intro h i
    by_cases hi : i < a.length
    · exact h i hi
    · simp [List.getD_eq_getElem?_getD, List.getElem?_eq_none (show a.length ≤ i by omega)]
  · exact fun h i _ => h i
theorem getD_of {l : List Nat} {k x : Nat} (h : l[k]? = some x) : l.getD k 0 = x := by simp [List.getD_eq_getElem?_getD, h]
theorem set_step {t : List Nat} {k m x : Nat} (hx : t[k]? = some x) (hm : t.length = m) : (t.take k ++ List.replicate (m - k) 0).set k x = t.take (k + 1) ++ List.replicate (m - (k + 1)) 0 := by
  have hk := (List.getElem?_eq_some_iff.1 hx).1
  have hl : (t.take k).length = k := by simp; omega
  rw [List.set_append_right _ _ (by omega), hl, Nat.sub_self, show m - k = (m - (k + 1)) + 1 from by omega, List.replicate_succ, List.set_cons_zero, List.take_add_one, hx]
  simp

set_option maxHeartbeats 800000 in
theorem trimmed_fun (l : List Nat) (v : Value) : Fun Try.prog 70 [v] [rd (Ty.sl Ty.u64) l v] [] (fun r G S => G = [rd (Ty.sl Ty.u64) (trimL l) r] ∧ S = []) := by
  refine Fun.enter Try.func70 (by kernel_rfl) rfl Try.ntmps70 rfl (fun B Gf Sf => ?_); (try simp only [List.cons_append]); (try simp only [List.nil_append]); simp only [argEnv]
  (repeat (first | refine vgo ?_ | refine ⟨_, rfl, rfl, ?_⟩ | refine ⟨_, rfl, ?_⟩ | refine ⟨rfl, ?_⟩ | intro hb | refine altA ?_ | refine altR ?_ | refine sideA ?_ | refine decTA ?_ | refine decFA ?_ | refine decNA ?_ | refine decBTA ?_ | refine decBFA ?_ | refine ⟨_, by assumption, ?_⟩ | refine ⟨_, _, _, rfl, ?_⟩ | refine WC.seq (fun K hK => ?_) | (refine hK _ _ _ ?_; clear hK K) | (refine hK _ _ _ _ rfl ?_; clear hK K) | (refine WX.thenExit (K := K) ?_; clear hK K) | (refine WX.thenExit (K := KL) ?_; clear hL KL)))
  refine WC.loop (I := List Nat × Value) (fun i => [(0, i.2)]) (fun i => rd (Ty.sl Ty.u64) i.1 i.2 :: rd (Ty.sl Ty.u64) l v :: Gf) (fun _ => Sf) (fun i => trimL l = trimL i.1) (fun i => i.1.length) (l, v) rfl (.cons rfl .nil) (fun w h => h.to) ?_
  rintro ⟨c, vc⟩ hc KL hL
  dsimp only at hc ⊢
  refine WC.ex (fun w sw => sw.len_le (RdSl.h (v := vc))) (fun hlc => ?_)
  by_cases h0 : (0 : Int) < (c.length : Int)
  · have hx : c[((c.length : Int) - 1).toNat]? = some (c[c.length - 1]'(by omega)) := by
      rw [show ((c.length : Int) - 1).toNat = c.length - 1 from by omega]; exact List.getElem?_eq_getElem _
    generalize hX : (c[c.length - 1]'(by omega)) = X at hx
    have hlast : c.getLast? = some X := by rw [List.getLast?_eq_getElem?, List.getElem?_eq_getElem (by omega), hX]
    (repeat (first | refine vgo ?_ | refine ⟨_, rfl, rfl, ?_⟩ | refine ⟨_, rfl, ?_⟩ | refine ⟨rfl, ?_⟩ | intro hb | refine altA ?_ | refine altR ?_ | refine sideA ?_ | refine decTA ?_ | refine decFA ?_ | refine decNA ?_ | refine decBTA ?_ | refine decBFA ?_ | refine ⟨_, by assumption, ?_⟩ | refine ⟨_, _, _, rfl, ?_⟩ | refine WC.seq (fun K hK => ?_) | (refine hK _ _ _ ?_; clear hK K) | (refine hK _ _ _ _ rfl ?_; clear hK K) | (refine WX.thenExit (K := K) ?_; clear hK K) | (refine WX.thenExit (K := KL) ?_; clear hL KL)))
    refine dcB (fun hz => ?_) (fun hz => ?_)
    · have hX0 : X = 0 := by omega
      rw [hX0] at hlast
      rw [trimL_zero hlast, List.dropLast_eq_take] at hc
      (repeat (first | refine vgo ?_ | refine ⟨_, rfl, rfl, ?_⟩ | refine ⟨_, rfl, ?_⟩ | refine ⟨rfl, ?_⟩ | intro hb | refine altA ?_ | refine altR ?_ | refine sideA ?_ | refine decTA ?_ | refine decFA ?_ | refine decNA ?_ | refine decBTA ?_ | refine decBFA ?_ | refine ⟨_, by assumption, ?_⟩ | refine ⟨_, _, _, rfl, ?_⟩ | refine WC.seq (fun K hK => ?_) | (refine hK _ _ _ ?_; clear hK K) | (refine hK _ _ _ _ rfl ?_; clear hK K) | (refine WX.thenExit (K := K) ?_; clear hK K) | (refine WX.thenExit (K := KL) ?_; clear hL KL)))
      refine WL.slc rfl rfl rfl rfl rfl ?_; refine SliceV.high rfl (c.length - 1) (by omega) (by omega) ?_; intro r
      (repeat (first | refine vgo ?_ | refine ⟨_, rfl, rfl, ?_⟩ | refine ⟨_, rfl, ?_⟩ | refine ⟨rfl, ?_⟩ | intro hb | refine altA ?_ | refine altR ?_ | refine sideA ?_ | refine decTA ?_ | refine decFA ?_ | refine decNA ?_ | refine decBTA ?_ | refine decBFA ?_ | refine ⟨_, by assumption, ?_⟩ | refine ⟨_, _, _, rfl, ?_⟩ | refine WC.seq (fun K hK => ?_) | (refine hK _ _ _ ?_; clear hK K) | (refine hK _ _ _ _ rfl ?_; clear hK K) | (refine WX.thenExit (K := K) ?_; clear hK K) | (refine WX.thenExit (K := KL) ?_; clear hL KL)))
      exact (hL (c.take (c.length - 1), r) hc (by dsimp only; simp; omega)).conv (.cons rfl .nil) (fun _ h => h.to)
    · rw [trimL_done (l := c) (by rw [hlast]; simp; omega)] at hc
      (repeat (first | refine vgo ?_ | refine ⟨_, rfl, rfl, ?_⟩ | refine ⟨_, rfl, ?_⟩ | refine ⟨rfl, ?_⟩ | intro hb | refine altA ?_ | refine altR ?_ | refine sideA ?_ | refine decTA ?_ | refine decFA ?_ | refine decNA ?_ | refine decBTA ?_ | refine decBFA ?_ | refine ⟨_, by assumption, ?_⟩ | refine ⟨_, _, _, rfl, ?_⟩ | refine WC.seq (fun K hK => ?_) | (refine hK _ _ _ ?_; clear hK K) | (refine hK _ _ _ _ rfl ?_; clear hK K) | (refine WX.thenExit (K := K) ?_; clear hK K) | (refine WX.thenExit (K := KL) ?_; clear hL KL)))
      exact WX.ret1 rfl rfl (fun w sw => ⟨[rd (Ty.sl Ty.u64) (trimL l) vc], [], ⟨rfl, rfl⟩, by rw [hc]; exact sw.to⟩)
  · have hn : c = [] := List.eq_nil_of_length_eq_zero (by omega)
    subst hn
    rw [trimL_done (l := []) (by simp)] at hc
    (repeat (first | refine vgo ?_ | refine ⟨_, rfl, rfl, ?_⟩ | refine ⟨_, rfl, ?_⟩ | refine ⟨rfl, ?_⟩ | intro hb | refine altA ?_ | refine altR ?_ | refine sideA ?_ | refine decTA ?_ | refine decFA ?_ | refine decNA ?_ | refine decBTA ?_ | refine decBFA ?_ | refine ⟨_, by assumption, ?_⟩ | refine ⟨_, _, _, rfl, ?_⟩ | refine WC.seq (fun K hK => ?_) | (refine hK _ _ _ ?_; clear hK K) | (refine hK _ _ _ _ rfl ?_; clear hK K) | (refine WX.thenExit (K := K) ?_; clear hK K) | (refine WX.thenExit (K := KL) ?_; clear hL KL)))
    exact WX.ret1 rfl rfl (fun w sw => ⟨[rd (Ty.sl Ty.u64) (trimL l) vc], [], ⟨rfl, rfl⟩, by rw [hc]; exact sw.to⟩)
instance trimmed_ret {G : List Pers} {l : List Nat} {v : Value} [i : RdSl v G Ty.u64 l] : RetF Try.prog 70 [v] G True (Ty.sl Ty.u64) (trimL l) := ⟨fun _ => ⟨_, by simpa using i.h, trimmed_fun l v⟩⟩

set_option maxHeartbeats 800000 in
theorem get_fun (l : List Nat) (v : Value) (i : Int) (hi : -9223372036854775808 ≤ i) : Fun Try.prog 48 [v, .int .i64 i] [rd (Ty.sl Ty.u64) l v] [] (fun r G S => r = .int .u64 (getC l i) ∧ G = [] ∧ S = []) := by
  refine Fun.enter Try.func48 (by kernel_rfl) rfl Try.ntmps48 rfl (fun B Gf Sf => ?_); (try simp only [List.cons_append]); (try simp only [List.nil_append]); simp only [argEnv]
  refine WC.ex (fun w sw => sw.len_le (RdSl.h (v := v))) (fun hl => ?_)
  by_cases h1 : i < 1
  · (repeat (first | refine vgo ?_ | refine ⟨_, rfl, rfl, ?_⟩ | refine ⟨_, rfl, ?_⟩ | refine ⟨rfl, ?_⟩ | intro hb | refine altA ?_ | refine altR ?_ | refine sideA ?_ | refine decTA ?_ | refine decFA ?_ | refine decNA ?_ | refine decBTA ?_ | refine decBFA ?_ | refine ⟨_, by assumption, ?_⟩ | refine ⟨_, _, _, rfl, ?_⟩ | refine WC.seq (fun K hK => ?_) | (refine hK _ _ _ ?_; clear hK K) | (refine hK _ _ _ _ rfl ?_; clear hK K) | (refine WX.thenExit (K := K) ?_; clear hK K) | (refine WX.thenExit (K := KL) ?_; clear hL KL)))
    exact WX.ret1 rfl rfl (fun w sw => ⟨[], [], ⟨by rw [getC, if_pos h1]; rfl, rfl, rfl⟩, sw.to⟩)
  · by_cases h2 : (l.length : Int) < i
    · (repeat (first | refine vgo ?_ | refine ⟨_, rfl, rfl, ?_⟩ | refine ⟨_, rfl, ?_⟩ | refine ⟨rfl, ?_⟩ | intro hb | refine altA ?_ | refine altR ?_ | refine sideA ?_ | refine decTA ?_ | refine decFA ?_ | refine decNA ?_ | refine decBTA ?_ | refine decBFA ?_ | refine ⟨_, by assumption, ?_⟩ | refine ⟨_, _, _, rfl, ?_⟩ | refine WC.seq (fun K hK => ?_) | (refine hK _ _ _ ?_; clear hK K) | (refine hK _ _ _ _ rfl ?_; clear hK K) | (refine WX.thenExit (K := K) ?_; clear hK K) | (refine WX.thenExit (K := KL) ?_; clear hL KL)))
      exact WX.ret1 rfl rfl (fun w sw => ⟨[], [], ⟨by rw [getC, if_neg h1, List.getD_eq_getElem?_getD, List.getElem?_eq_none (by omega)]; rfl, rfl, rfl⟩, sw.to⟩)
    · have hx : l[(i - 1).toNat]? = some (l[(i - 1).toNat]'(by omega)) := List.getElem?_eq_getElem _
      generalize (l[(i - 1).toNat]'(by omega)) = X at hx
      (repeat (first | refine vgo ?_ | refine ⟨_, rfl, rfl, ?_⟩ | refine ⟨_, rfl, ?_⟩ | refine ⟨rfl, ?_⟩ | intro hb | refine altA ?_ | refine altR ?_ | refine sideA ?_ | refine decTA ?_ | refine decFA ?_ | refine decNA ?_ | refine decBTA ?_ | refine decBFA ?_ | refine ⟨_, by assumption, ?_⟩ | refine ⟨_, _, _, rfl, ?_⟩ | refine WC.seq (fun K hK => ?_) | (refine hK _ _ _ ?_; clear hK K) | (refine hK _ _ _ _ rfl ?_; clear hK K) | (refine WX.thenExit (K := K) ?_; clear hK K) | (refine WX.thenExit (K := KL) ?_; clear hL KL)))
      exact WX.ret1 rfl rfl (fun w sw => ⟨[], [], ⟨by rw [getC, if_neg h1, getD_of hx], rfl, rfl⟩, sw.to⟩)
instance get_pure {G : List Pers} {l : List Nat} {v : Value} {i : Int} [j : RdSl v G Ty.u64 l] : PureF Try.prog 48 [v, .int .i64 i] G (-9223372036854775808 ≤ i) (.int .u64 ((getC l i : Nat) : Int)) := ⟨fun h => ⟨_, by simpa using j.h, get_fun l v i h⟩⟩

set_option maxHeartbeats 800000 in
theorem within_fun (a b : List Nat) (va vb : Value) : Fun Try.prog 26 [va, vb] [rd (Ty.sl Ty.u64) a va, rd (Ty.sl Ty.u64) b vb] [] (fun r G S => r = .bool (decide (withinL a b)) ∧ G = [] ∧ S = []) := by
  refine Fun.enter Try.func26 (by kernel_rfl) rfl Try.ntmps26 rfl (fun B Gf Sf => ?_); (try simp only [List.cons_append]); (try simp only [List.nil_append]); simp only [argEnv]
  refine WC.ex (fun w sw => sw.len_le (RdSl.h (v := va))) (fun hla => ?_)
  (repeat (first | refine vgo ?_ | refine ⟨_, rfl, rfl, ?_⟩ | refine ⟨_, rfl, ?_⟩ | refine ⟨rfl, ?_⟩ | intro hb | refine altA ?_ | refine altR ?_ | refine sideA ?_ | refine decTA ?_ | refine decFA ?_ | refine decNA ?_ | refine decBTA ?_ | refine decBFA ?_ | refine ⟨_, by assumption, ?_⟩ | refine ⟨_, _, _, rfl, ?_⟩ | refine WC.seq (fun K hK => ?_) | (refine hK _ _ _ ?_; clear hK K) | (refine hK _ _ _ _ rfl ?_; clear hK K) | (refine WX.thenExit (K := K) ?_; clear hK K) | (refine WX.thenExit (K := KL) ?_; clear hL KL)))
  refine WC.loop (I := Nat) (fun i => [(8, .int .i64 i), (7, .int .i64 a.length), (1, vb), (0, va)]) (fun _ => rd (Ty.sl Ty.u64) a va :: rd (Ty.sl Ty.u64) b vb :: Gf) (fun _ => Sf) (fun i => i ≤ a.length ∧ ∀ j, j < i → a.getD j 0 ≤ b.getD j 0) (fun i => a.length - i) 0 (by simp) (.cons rfl (.cons rfl (.cons rfl (.cons rfl .nil)))) (fun w h => h) ?_
  rintro k ⟨hi, hall⟩ KL hL
  (repeat (first | refine vgo ?_ | refine ⟨_, rfl, rfl, ?_⟩ | refine ⟨_, rfl, ?_⟩ | refine ⟨rfl, ?_⟩ | intro hb | refine altA ?_ | refine altR ?_ | refine sideA ?_ | refine decTA ?_ | refine decFA ?_ | refine decNA ?_ | refine decBTA ?_ | refine decBFA ?_ | refine ⟨_, by assumption, ?_⟩ | refine ⟨_, _, _, rfl, ?_⟩ | refine WC.seq (fun K hK => ?_) | (refine hK _ _ _ ?_; clear hK K) | (refine hK _ _ _ _ rfl ?_; clear hK K) | (refine WX.thenExit (K := K) ?_; clear hK K) | (refine WX.thenExit (K := KL) ?_; clear hL KL)))
  refine dcB (fun hk => ?_) (fun hk => ?_)
  · obtain ⟨x, hx, hts⟩ := get_ex (l := a) (k := k) (by omega)
    (repeat (first | refine vgo ?_ | refine ⟨_, rfl, rfl, ?_⟩ | refine ⟨_, rfl, ?_⟩ | refine ⟨rfl, ?_⟩ | intro hb | refine altA ?_ | refine altR ?_ | refine sideA ?_ | refine decTA ?_ | refine decFA ?_ | refine decNA ?_ | refine decBTA ?_ | refine decBFA ?_ | refine ⟨_, by assumption, ?_⟩ | refine ⟨_, _, _, rfl, ?_⟩ | refine WC.seq (fun K hK => ?_) | (refine hK _ _ _ ?_; clear hK K) | (refine hK _ _ _ _ rfl ?_; clear hK K) | (refine WX.thenExit (K := K) ?_; clear hK K) | (refine WX.thenExit (K := KL) ?_; clear hL KL)))
    (apply WC.draw; exact rfl; focus (repeat (first | exact Wo.nil | (apply Wo.keep; exact rfl) | (apply Wo.drop; exact rfl)))); (repeat (apply Obls.cons; focus ((repeat (intro _)); (conv => whnf); (repeat (first | refine vgo ?_ | refine ⟨_, rfl, rfl, ?_⟩ | refine ⟨_, rfl, ?_⟩ | refine ⟨rfl, ?_⟩ | intro hb | refine altA ?_ | refine altR ?_ | refine sideA ?_ | refine decTA ?_ | refine decFA ?_ | refine decNA ?_ | refine decBTA ?_ | refine decBFA ?_ | refine ⟨_, by assumption, ?_⟩ | refine ⟨_, _, _, rfl, ?_⟩ | refine WC.seq (fun K hK => ?_) | (refine hK _ _ _ ?_; clear hK K) | (refine hK _ _ _ _ rfl ?_; clear hK K) | (refine WX.thenExit (K := K) ?_; clear hK K) | (refine WX.thenExit (K := KL) ?_; clear hL KL))); first | exact WX.pqIs rfl | exact WX.pqRd rfl | exact WX.pqCell rfl | exact WX.pqNone))); try (refine Obls.nil ?_; (repeat (intro _)); (conv => whnf))
    (repeat (first | refine vgo ?_ | refine ⟨_, rfl, rfl, ?_⟩ | refine ⟨_, rfl, ?_⟩ | refine ⟨rfl, ?_⟩ | intro hb | refine altA ?_ | refine altR ?_ | refine sideA ?_ | refine decTA ?_ | refine decFA ?_ | refine decNA ?_ | refine decBTA ?_ | refine decBFA ?_ | refine ⟨_, by assumption, ?_⟩ | refine ⟨_, _, _, rfl, ?_⟩ | refine WC.seq (fun K hK => ?_) | (refine hK _ _ _ ?_; clear hK K) | (refine hK _ _ _ _ rfl ?_; clear hK K) | (refine WX.thenExit (K := K) ?_; clear hK K) | (refine WX.thenExit (K := KL) ?_; clear hL KL)))
    rw [getC_succ]
    refine dcB (fun hgt => ?_) (fun hgt => ?_)
    · (repeat (first | refine vgo ?_ | refine ⟨_, rfl, rfl, ?_⟩ | refine ⟨_, rfl, ?_⟩ | refine ⟨rfl, ?_⟩ | intro hb | refine altA ?_ | refine altR ?_ | refine sideA ?_ | refine decTA ?_ | refine decFA ?_ | refine decNA ?_ | refine decBTA ?_ | refine decBFA ?_ | refine ⟨_, by assumption, ?_⟩ | refine ⟨_, _, _, rfl, ?_⟩ | refine WC.seq (fun K hK => ?_) | (refine hK _ _ _ ?_; clear hK K) | (refine hK _ _ _ _ rfl ?_; clear hK K) | (refine WX.thenExit (K := K) ?_; clear hK K) | (refine WX.thenExit (K := KL) ?_; clear hL KL)))
      exact WX.ret1 rfl rfl (fun w sw => ⟨[], [], ⟨by congr 1; symm; rw [decide_eq_false_iff_not]; intro h; have := h k (by omega); rw [getD_of hx] at this; omega, rfl, rfl⟩, sw.to⟩)
    · (repeat (first | refine vgo ?_ | refine ⟨_, rfl, rfl, ?_⟩ | refine ⟨_, rfl, ?_⟩ | refine ⟨rfl, ?_⟩ | intro hb | refine altA ?_ | refine altR ?_ | refine sideA ?_ | refine decTA ?_ | refine decFA ?_ | refine decNA ?_ | refine decBTA ?_ | refine decBFA ?_ | refine ⟨_, by assumption, ?_⟩ | refine ⟨_, _, _, rfl, ?_⟩ | refine WC.seq (fun K hK => ?_) | (refine hK _ _ _ ?_; clear hK K) | (refine hK _ _ _ _ rfl ?_; clear hK K) | (refine WX.thenExit (K := K) ?_; clear hK K) | (refine WX.thenExit (K := KL) ?_; clear hL KL)))
      refine (hL (k + 1) ⟨by omega, fun j hj => ?_⟩ (by omega)).conv (.cons rfl (.cons rfl (.cons rfl (.cons rfl .nil)))) (fun _ h => h.to)
      by_cases e : j = k
      · subst e; rw [getD_of hx]; omega
      · exact hall j (by omega)
  · (repeat (first | refine vgo ?_ | refine ⟨_, rfl, rfl, ?_⟩ | refine ⟨_, rfl, ?_⟩ | refine ⟨rfl, ?_⟩ | intro hb | refine altA ?_ | refine altR ?_ | refine sideA ?_ | refine decTA ?_ | refine decFA ?_ | refine decNA ?_ | refine decBTA ?_ | refine decBFA ?_ | refine ⟨_, by assumption, ?_⟩ | refine ⟨_, _, _, rfl, ?_⟩ | refine WC.seq (fun K hK => ?_) | (refine hK _ _ _ ?_; clear hK K) | (refine hK _ _ _ _ rfl ?_; clear hK K) | (refine WX.thenExit (K := K) ?_; clear hK K) | (refine WX.thenExit (K := KL) ?_; clear hL KL)))
    exact WX.ret1 rfl rfl (fun w sw => ⟨[], [], ⟨by congr 1; symm; rw [decide_eq_true_eq]; exact fun i hi => hall i (by omega), rfl, rfl⟩, sw.to⟩)
instance within_pure {G : List Pers} {a b : List Nat} {va vb : Value} [i : RdSl va G Ty.u64 a] [j : RdSl vb G Ty.u64 b] : PureF Try.prog 26 [va, vb] G True (.bool (decide (withinL a b))) := ⟨fun _ => ⟨_, by simpa using ⟨i.h, j.h⟩, within_fun a b va vb⟩⟩
theorem getD_ok {l : List Nat} (h : ∀ x ∈ l, x < 18446744073709551616) (i : Nat) : l.getD i 0 < 18446744073709551616 := by
  rw [List.getD_eq_getElem?_getD]
  cases e : l[i]? with
  | none => simp
  | some x => exact h x (List.mem_of_getElem? e)
theorem joinL_ok {op : Nat → Nat → Nat} {a b : List Nat} (hop : ∀ x y, x < 18446744073709551616 → y < 18446744073709551616 → op x y < 18446744073709551616) (ha : ∀ x ∈ a, x < 18446744073709551616) (hb : ∀ x ∈ b, x < 18446744073709551616) : ∀ x ∈ joinL op a b, x < 18446744073709551616 := by
  intro x hx
  obtain ⟨i, _, rfl⟩ := List.mem_map.1 hx
  exact hop _ _ (getD_ok ha i) (getD_ok hb i)

set_option maxHeartbeats 800000 in
theorem joined_fun (g : FuncId) (op : Nat → Nat → Nat) (hg : ∀ x y, Fun Try.prog g [.int .u64 (x : Nat), .int .u64 (y : Nat)] [] [] (fun r G S => r = .int .u64 (op x y) ∧ G = [] ∧ S = [])) (hop : ∀ x y, x < 18446744073709551616 → y < 18446744073709551616 → op x y < 18446744073709551616)
    (a b : List Nat) (va vb : Value) (ha : a.length ≤ 1000000) (hb : b.length ≤ 1000000) : Fun Try.prog 71 [va, vb, .func (.func g) #[] #[]] [rd (Ty.sl Ty.u64) a va, rd (Ty.sl Ty.u64) b vb] [] (fun r G S => G = [rd (Ty.sl Ty.u64) (trimL (joinL op a b)) r] ∧ S = []) := by
  have hjl := joinL_length op a b
  have hmx : max a.length b.length ≤ 1000000 := by omega
  generalize hM : max a.length b.length = M at *
  have hcast : max (a.length : Int) (b.length : Int) = (M : Int) := by omega
  refine Fun.enter Try.func71 (by kernel_rfl) rfl Try.ntmps71 rfl (fun B Gf Sf => ?_); (try simp only [List.cons_append]); (try simp only [List.nil_append]); simp only [argEnv]
  refine WC.ex (fun w sw => sw.oks (f := fun m => .int .u64 (m : Int)) (ok := fun m => m < 18446744073709551616) (R := Ty.u64) (l := a) (v := va) (.head _)) (fun oka => ?_)
  refine WC.ex (fun w sw => sw.oks (f := fun m => .int .u64 (m : Int)) (ok := fun m => m < 18446744073709551616) (R := Ty.u64) (l := b) (v := vb) (.tail _ (.head _))) (fun okb => ?_)
  (repeat (first | refine vgo ?_ | refine ⟨_, rfl, rfl, ?_⟩ | refine ⟨_, rfl, ?_⟩ | refine ⟨rfl, ?_⟩ | intro hb | refine altA ?_ | refine altR ?_ | refine sideA ?_ | refine decTA ?_ | refine decFA ?_ | refine decNA ?_ | refine decBTA ?_ | refine decBFA ?_ | refine ⟨_, by assumption, ?_⟩ | refine ⟨_, _, _, rfl, ?_⟩ | refine WC.seq (fun K hK => ?_) | (refine hK _ _ _ ?_; clear hK K) | (refine hK _ _ _ _ rfl ?_; clear hK K) | (refine WX.thenExit (K := K) ?_; clear hK K) | (refine WX.thenExit (K := KL) ?_; clear hL KL)))
  rw [hcast]
  refine WL.makeB (M) rfl rfl (by omega) (by omega) (by simp only [maxLen]; omega) rfl ?_; intro bx
  (repeat (first | refine vgo ?_ | refine ⟨_, rfl, rfl, ?_⟩ | refine ⟨_, rfl, ?_⟩ | refine ⟨rfl, ?_⟩ | intro hb | refine altA ?_ | refine altR ?_ | refine sideA ?_ | refine decTA ?_ | refine decFA ?_ | refine decNA ?_ | refine decBTA ?_ | refine decBFA ?_ | refine ⟨_, by assumption, ?_⟩ | refine ⟨_, _, _, rfl, ?_⟩ | refine WC.seq (fun K hK => ?_) | (refine hK _ _ _ ?_; clear hK K) | (refine hK _ _ _ _ rfl ?_; clear hK K) | (refine WX.thenExit (K := K) ?_; clear hK K) | (refine WX.thenExit (K := KL) ?_; clear hL KL)))
  refine WC.loop (I := Nat) (fun i => [(17, .int .i64 i), (16, .int .i64 M), (7, .slice (some ⟨bx, 0, none⟩) M M), (2, .func (.func g) #[] #[]), (1, vb), (0, va)]) (fun _ => rd (Ty.sl Ty.u64) a va :: rd (Ty.sl Ty.u64) b vb :: Gf) (fun i => box bx 23 (((joinL op a b).take i ++ List.replicate (M - i) 0).map uV) :: Sf) (fun i => i ≤ M) (fun i => M - i) 0 (by simp) (.cons rfl (.cons rfl (.cons rfl (.cons rfl (.cons rfl (.cons rfl .nil)))))) (fun w h => by simpa [uV] using h) ?_
  intro k hi KL hL
  (repeat (first | refine vgo ?_ | refine ⟨_, rfl, rfl, ?_⟩ | refine ⟨_, rfl, ?_⟩ | refine ⟨rfl, ?_⟩ | intro hb | refine altA ?_ | refine altR ?_ | refine sideA ?_ | refine decTA ?_ | refine decFA ?_ | refine decNA ?_ | refine decBTA ?_ | refine decBFA ?_ | refine ⟨_, by assumption, ?_⟩ | refine ⟨_, _, _, rfl, ?_⟩ | refine WC.seq (fun K hK => ?_) | (refine hK _ _ _ ?_; clear hK K) | (refine hK _ _ _ _ rfl ?_; clear hK K) | (refine WX.thenExit (K := K) ?_; clear hK K) | (refine WX.thenExit (K := KL) ?_; clear hL KL)))
  refine dcB (fun hk => ?_) (fun hk => ?_)
  · have hx := joinL_get (op := op) (a := a) (b := b) (i := k) (by omega)
    have hst := set_step hx hjl
    have hlen : ((joinL op a b).take k ++ List.replicate (M - k) 0).length = M := by simp; omega
    (repeat (first | refine vgo ?_ | refine ⟨_, rfl, rfl, ?_⟩ | refine ⟨_, rfl, ?_⟩ | refine ⟨rfl, ?_⟩ | intro hb | refine altA ?_ | refine altR ?_ | refine sideA ?_ | refine decTA ?_ | refine decFA ?_ | refine decNA ?_ | refine decBTA ?_ | refine decBFA ?_ | refine ⟨_, by assumption, ?_⟩ | refine ⟨_, _, _, rfl, ?_⟩ | refine WC.seq (fun K hK => ?_) | (refine hK _ _ _ ?_; clear hK K) | (refine hK _ _ _ _ rfl ?_; clear hK K) | (refine WX.thenExit (K := K) ?_; clear hK K) | (refine WX.thenExit (K := KL) ?_; clear hL KL)))
    refine CallV.by' (hg (getC a ((k : Int) + 1)) (getC b ((k : Int) + 1))) ?_; rintro _ _ _ ⟨rfl, rfl, rfl⟩; (try simp only [List.cons_append]); (try simp only [List.nil_append])
    simp only [getC_succ]
    (repeat (first | refine vgo ?_ | refine ⟨_, rfl, rfl, ?_⟩ | refine ⟨_, rfl, ?_⟩ | refine ⟨rfl, ?_⟩ | intro hb | refine altA ?_ | refine altR ?_ | refine sideA ?_ | refine decTA ?_ | refine decFA ?_ | refine decNA ?_ | refine decBTA ?_ | refine decBFA ?_ | refine ⟨_, by assumption, ?_⟩ | refine ⟨_, _, _, rfl, ?_⟩ | refine WC.seq (fun K hK => ?_) | (refine hK _ _ _ ?_; clear hK K) | (refine hK _ _ _ _ rfl ?_; clear hK K) | (refine WX.thenExit (K := K) ?_; clear hK K) | (refine WX.thenExit (K := KL) ?_; clear hL KL)))
    rw [hst]
    exact (hL (k + 1) (by omega) (by omega)).conv (.cons rfl (.cons rfl (.cons rfl (.cons rfl (.cons rfl (.cons rfl .nil)))))) (fun _ h => h)
  · obtain rfl : k = M := by omega
    have e : (joinL op a b).take k ++ List.replicate (k - k) 0 = joinL op a b := by rw [List.take_of_length_le (by omega)]; simp
    rw [e]
    (repeat (first | refine vgo ?_ | refine ⟨_, rfl, rfl, ?_⟩ | refine ⟨_, rfl, ?_⟩ | refine ⟨rfl, ?_⟩ | intro hb | refine altA ?_ | refine altR ?_ | refine sideA ?_ | refine decTA ?_ | refine decFA ?_ | refine decNA ?_ | refine decBTA ?_ | refine decBFA ?_ | refine ⟨_, by assumption, ?_⟩ | refine ⟨_, _, _, rfl, ?_⟩ | refine WC.seq (fun K hK => ?_) | (refine hK _ _ _ ?_; clear hK K) | (refine hK _ _ _ _ rfl ?_; clear hK K) | (refine WX.thenExit (K := K) ?_; clear hK K) | (refine WX.thenExit (K := KL) ?_; clear hL KL)))
    refine CallV.sat (fun w sw => sw.pubBox (R := (Ty.u64)) (l := (joinL op a b)) (b := bx) rfl inferInstance hjl.symm (by simp only [maxLen]; omega) (joinL_ok hop oka okb)) ?_
    (repeat (first | refine vgo ?_ | refine ⟨_, rfl, rfl, ?_⟩ | refine ⟨_, rfl, ?_⟩ | refine ⟨rfl, ?_⟩ | intro hb | refine altA ?_ | refine altR ?_ | refine sideA ?_ | refine decTA ?_ | refine decFA ?_ | refine decNA ?_ | refine decBTA ?_ | refine decBFA ?_ | refine ⟨_, by assumption, ?_⟩ | refine ⟨_, _, _, rfl, ?_⟩ | refine WC.seq (fun K hK => ?_) | (refine hK _ _ _ ?_; clear hK K) | (refine hK _ _ _ _ rfl ?_; clear hK K) | (refine WX.thenExit (K := K) ?_; clear hK K) | (refine WX.thenExit (K := KL) ?_; clear hL KL)))
    exact WX.ret1 rfl rfl (fun w sw => ⟨[rd (Ty.sl Ty.u64) (trimL (joinL op a b)) _], [], ⟨rfl, rfl⟩, sw.to⟩)

def maxN (x y : Nat) : Nat := max x y
set_option maxHeartbeats 400000 in
theorem join1_fun (x y : Nat) : Fun Try.prog 72 [.int .u64 (x : Nat), .int .u64 (y : Nat)] [] [] (fun r G S => r = .int .u64 (maxN x y) ∧ G = [] ∧ S = []) := by
  refine Fun.enter Try.func72 (by kernel_rfl) rfl Try.ntmps72 rfl (fun B Gf Sf => ?_); (try simp only [List.cons_append]); (try simp only [List.nil_append]); simp only [argEnv]
  (repeat (first | refine vgo ?_ | refine ⟨_, rfl, rfl, ?_⟩ | refine ⟨_, rfl, ?_⟩ | refine ⟨rfl, ?_⟩ | intro hb | refine altA ?_ | refine altR ?_ | refine sideA ?_ | refine decTA ?_ | refine decFA ?_ | refine decNA ?_ | refine decBTA ?_ | refine decBFA ?_ | refine ⟨_, by assumption, ?_⟩ | refine ⟨_, _, _, rfl, ?_⟩ | refine WC.seq (fun K hK => ?_) | (refine hK _ _ _ ?_; clear hK K) | (refine hK _ _ _ _ rfl ?_; clear hK K) | (refine WX.thenExit (K := K) ?_; clear hK K) | (refine WX.thenExit (K := KL) ?_; clear hL KL)))
  exact WX.ret1 rfl rfl (fun w sw => ⟨[], [], ⟨by congr 1; unfold maxN; omega, rfl, rfl⟩, sw.to⟩)
set_option maxHeartbeats 400000 in
theorem join_fun (a b : List Nat) (va vb : Value) (ha : a.length ≤ 1000000) (hb : b.length ≤ 1000000) : Fun Try.prog 49 [va, vb] [rd (Ty.sl Ty.u64) a va, rd (Ty.sl Ty.u64) b vb] [] (fun r G S => G = [rd (Ty.sl Ty.u64) (trimL (joinL maxN a b)) r] ∧ S = []) := by
  refine Fun.enter Try.func49 (by kernel_rfl) rfl Try.ntmps49 rfl (fun B Gf Sf => ?_); (try simp only [List.cons_append]); (try simp only [List.nil_append]); simp only [argEnv]
  (repeat (first | refine vgo ?_ | refine ⟨_, rfl, rfl, ?_⟩ | refine ⟨_, rfl, ?_⟩ | refine ⟨rfl, ?_⟩ | intro hb | refine altA ?_ | refine altR ?_ | refine sideA ?_ | refine decTA ?_ | refine decFA ?_ | refine decNA ?_ | refine decBTA ?_ | refine decBFA ?_ | refine ⟨_, by assumption, ?_⟩ | refine ⟨_, _, _, rfl, ?_⟩ | refine WC.seq (fun K hK => ?_) | (refine hK _ _ _ ?_; clear hK K) | (refine hK _ _ _ _ rfl ?_; clear hK K) | (refine WX.thenExit (K := K) ?_; clear hK K) | (refine WX.thenExit (K := KL) ?_; clear hL KL)))
  refine CallV.by' (joined_fun _ maxN join1_fun (fun x y hx hy => by unfold maxN; omega) a b va vb ha hb) ?_; rintro _ _ _ ⟨rfl, rfl⟩; (try simp only [List.cons_append]); (try simp only [List.nil_append])
  (repeat (first | refine vgo ?_ | refine ⟨_, rfl, rfl, ?_⟩ | refine ⟨_, rfl, ?_⟩ | refine ⟨rfl, ?_⟩ | intro hb | refine altA ?_ | refine altR ?_ | refine sideA ?_ | refine decTA ?_ | refine decFA ?_ | refine decNA ?_ | refine decBTA ?_ | refine decBFA ?_ | refine ⟨_, by assumption, ?_⟩ | refine ⟨_, _, _, rfl, ?_⟩ | refine WC.seq (fun K hK => ?_) | (refine hK _ _ _ ?_; clear hK K) | (refine hK _ _ _ _ rfl ?_; clear hK K) | (refine WX.thenExit (K := K) ?_; clear hK K) | (refine WX.thenExit (K := KL) ?_; clear hL KL)))
  exact WX.ret1 rfl rfl (fun w sw => ⟨[rd (Ty.sl Ty.u64) (trimL (joinL maxN a b)) _], [], ⟨rfl, rfl⟩, sw.to⟩)
instance join_ret {G : List Pers} {a b : List Nat} {va vb : Value} [i : RdSl va G Ty.u64 a] [j : RdSl vb G Ty.u64 b] : RetF Try.prog 49 [va, vb] G (a.length ≤ 1000000 ∧ b.length ≤ 1000000) (Ty.sl Ty.u64) (trimL (joinL maxN a b)) := ⟨fun h => ⟨_, by simpa using ⟨i.h, j.h⟩, join_fun a b va vb h.1 h.2⟩⟩

set_option maxHeartbeats 800000 in
theorem cloneC_fun (l : List Nat) (v : Value) (hl : l.length ≤ 10000000) : Fun Try.prog 60 [v] [rd (Ty.sl Ty.u64) l v] [] (fun r G S => G = [rd (Ty.sl Ty.u64) l r] ∧ S = []) := by
  refine Fun.enter Try.func60 (by kernel_rfl) rfl Try.ntmps60 rfl (fun B Gf Sf => ?_); (try simp only [List.cons_append]); (try simp only [List.nil_append]); simp only [argEnv]
  (repeat (first | refine vgo ?_ | refine ⟨_, rfl, rfl, ?_⟩ | refine ⟨_, rfl, ?_⟩ | refine ⟨rfl, ?_⟩ | intro hb | refine altA ?_ | refine altR ?_ | refine sideA ?_ | refine decTA ?_ | refine decFA ?_ | refine decNA ?_ | refine decBTA ?_ | refine decBFA ?_ | refine ⟨_, by assumption, ?_⟩ | refine ⟨_, _, _, rfl, ?_⟩ | refine WC.seq (fun K hK => ?_) | (refine hK _ _ _ ?_; clear hK K) | (refine hK _ _ _ _ rfl ?_; clear hK K) | (refine WX.thenExit (K := K) ?_; clear hK K) | (refine WX.thenExit (K := KL) ?_; clear hL KL)))
  refine dcBB (fun hn => ?_) (fun hn => ?_)
  · (repeat (first | refine vgo ?_ | refine ⟨_, rfl, rfl, ?_⟩ | refine ⟨_, rfl, ?_⟩ | refine ⟨rfl, ?_⟩ | intro hb | refine altA ?_ | refine altR ?_ | refine sideA ?_ | refine decTA ?_ | refine decFA ?_ | refine decNA ?_ | refine decBTA ?_ | refine decBFA ?_ | refine ⟨_, by assumption, ?_⟩ | refine ⟨_, _, _, rfl, ?_⟩ | refine WC.seq (fun K hK => ?_) | (refine hK _ _ _ ?_; clear hK K) | (refine hK _ _ _ _ rfl ?_; clear hK K) | (refine WX.thenExit (K := K) ?_; clear hK K) | (refine WX.thenExit (K := KL) ?_; clear hL KL)))
    obtain rfl := hb hn
    refine WX.sat (fun w sw => sw.rdNil (Ty.u64)) ?_
    exact WX.ret1 rfl rfl (fun w sw => ⟨[rd (Ty.sl Ty.u64) [] (.slice none 0 0)], [], ⟨rfl, rfl⟩, sw.to⟩)
  · (repeat (first | refine vgo ?_ | refine ⟨_, rfl, rfl, ?_⟩ | refine ⟨_, rfl, ?_⟩ | refine ⟨rfl, ?_⟩ | intro hb | refine altA ?_ | refine altR ?_ | refine sideA ?_ | refine decTA ?_ | refine decFA ?_ | refine decNA ?_ | refine decBTA ?_ | refine decBFA ?_ | refine ⟨_, by assumption, ?_⟩ | refine ⟨_, _, _, rfl, ?_⟩ | refine WC.seq (fun K hK => ?_) | (refine hK _ _ _ ?_; clear hK K) | (refine hK _ _ _ _ rfl ?_; clear hK K) | (refine WX.thenExit (K := K) ?_; clear hK K) | (refine WX.thenExit (K := KL) ?_; clear hL KL)))
    refine WL.build rfl rfl rfl rfl rfl ?_; intro va; (try dsimp only [List.cons_append, List.nil_append])
    (repeat (first | refine vgo ?_ | refine ⟨_, rfl, rfl, ?_⟩ | refine ⟨_, rfl, ?_⟩ | refine ⟨rfl, ?_⟩ | intro hb | refine altA ?_ | refine altR ?_ | refine sideA ?_ | refine decTA ?_ | refine decFA ?_ | refine decNA ?_ | refine decBTA ?_ | refine decBFA ?_ | refine ⟨_, by assumption, ?_⟩ | refine ⟨_, _, _, rfl, ?_⟩ | refine WC.seq (fun K hK => ?_) | (refine hK _ _ _ ?_; clear hK K) | (refine hK _ _ _ _ rfl ?_; clear hK K) | (refine WX.thenExit (K := K) ?_; clear hK K) | (refine WX.thenExit (K := KL) ?_; clear hL KL)))
    refine WL.append rfl rfl rfl ?_; refine AppV.s rfl ?_ ?_; rotate_left; intro hok vb
    · refine WL.sat (fun w sw => sw.pub (R := (Ty.u64)) (l := (l)) (v := vb) SelOwn.h rfl (by simp) (by simp) hok) ?_
      (repeat (first | refine vgo ?_ | refine ⟨_, rfl, rfl, ?_⟩ | refine ⟨_, rfl, ?_⟩ | refine ⟨rfl, ?_⟩ | intro hb | refine altA ?_ | refine altR ?_ | refine sideA ?_ | refine decTA ?_ | refine decFA ?_ | refine decNA ?_ | refine decBTA ?_ | refine decBFA ?_ | refine ⟨_, by assumption, ?_⟩ | refine ⟨_, _, _, rfl, ?_⟩ | refine WC.seq (fun K hK => ?_) | (refine hK _ _ _ ?_; clear hK K) | (refine hK _ _ _ _ rfl ?_; clear hK K) | (refine WX.thenExit (K := K) ?_; clear hK K) | (refine WX.thenExit (K := KL) ?_; clear hL KL)))
      exact WX.ret1 rfl rfl (fun w sw => ⟨[rd (Ty.sl Ty.u64) l vb], [], ⟨rfl, rfl⟩, sw.to⟩)
    · simp; omega
instance cloneC_ret {G : List Pers} {l : List Nat} {v : Value} [i : RdSl v G Ty.u64 l] : RetF Try.prog 60 [v] G (l.length ≤ 10000000) (Ty.sl Ty.u64) l := ⟨fun h => ⟨_, by simpa using i.h, cloneC_fun l v h⟩⟩

set_option maxHeartbeats 800000 in
theorem csame_fun (a b : List Nat) (va vb : Value) : Fun Try.prog 13 [va, vb] [rd (Ty.sl Ty.u64) a va, rd (Ty.sl Ty.u64) b vb] [] (fun r G S => r = .bool (decide (withinL a b ∧ withinL b a)) ∧ G = [] ∧ S = []) := by
  refine Fun.enter Try.func13 (by kernel_rfl) rfl Try.ntmps13 rfl (fun B Gf Sf => ?_); (try simp only [List.cons_append]); (try simp only [List.nil_append]); simp only [argEnv]
  (repeat' (first | refine vgo ?_ | refine ⟨_, rfl, rfl, ?_⟩ | refine ⟨_, rfl, ?_⟩ | refine ⟨rfl, ?_⟩ | intro hb | refine altA ?_ | refine altR ?_ | refine sideA ?_ | refine decTA ?_ | refine decFA ?_ | refine decNA ?_ | refine decBTA ?_ | refine decBFA ?_ | refine ⟨_, by assumption, ?_⟩ | refine ⟨_, _, _, rfl, ?_⟩ | refine WC.seq (fun K hK => ?_) | (refine hK _ _ _ ?_; clear hK K) | (refine hK _ _ _ _ rfl ?_; clear hK K) | (refine WX.thenExit (K := K) ?_; clear hK K) | (refine WX.thenExit (K := KL) ?_; clear hL KL) | ((first | refine WL.boxA rfl rfl ?_ | refine WL.box rfl rfl rfl ?_); intro bx) | (refine WL.alloc rfl ?_; intro bx) | refine dcB (fun hg => ?_) (fun hg => ?_) | refine dcBB (fun hg => ?_) (fun hg => ?_)))
  all_goals exact WX.ret1 rfl rfl (fun w sw => ⟨[], [], ⟨by simp [*], rfl, rfl⟩, sw.to⟩)
instance csame_pure {G : List Pers} {a b : List Nat} {va vb : Value} [i : RdSl va G Ty.u64 a] [j : RdSl vb G Ty.u64 b] : PureF Try.prog 13 [va, vb] G True (.bool (decide (withinL a b ∧ withinL b a))) := ⟨fun _ => ⟨_, by simpa using ⟨i.h, j.h⟩, csame_fun a b va vb⟩⟩
end Go.Qd
