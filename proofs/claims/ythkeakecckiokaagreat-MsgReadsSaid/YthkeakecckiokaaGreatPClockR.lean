/-
  What the document's clocks (sixty-four numbers each) compute.
-/
import Derived.Test.YthkeakecckiokaaGreatPClock
namespace Go.Qd
open Go Go.Proofs

abbrev fV (l : List Nat) : Value := .agg (l.map uV).toArray

set_option maxHeartbeats 800000 in
theorem cut_fun (f : List Nat) (hf : f.length = 64) (hok : ∀ x ∈ f, x < 18446744073709551616) : Fun Tryz.prog 25 [fV f] [] [] (fun r G S => G = [rd (Ty.sl Ty.u64) (trimL f) r] ∧ S = []) := by
  refine Fun.enter Tryz.func25 (by kernel_rfl) rfl Tryz.ntmps25 rfl (fun B Gf Sf => ?_); (try simp only [List.cons_append]); (try simp only [List.nil_append]); simp only [argEnv]
  (repeat (first | refine vgo ?_ | refine ⟨_, rfl, rfl, ?_⟩ | refine ⟨_, rfl, ?_⟩ | refine ⟨rfl, ?_⟩ | intro hb | refine go2 ?_ | refine WC.seq (fun K hK => ?_) | ((first | refine hK _ _ _ ?_ | refine hK _ _ _ _ rfl ?_ | refine WX.thenExit (K := K) ?_); clear hK K) | (refine WX.thenExit (K := KL) ?_; clear hL KL)))
  (first | refine WL.boxA rfl rfl ?_ | refine WL.box rfl rfl rfl ?_); intro b1
  (repeat (first | refine vgo ?_ | refine ⟨_, rfl, rfl, ?_⟩ | refine ⟨_, rfl, ?_⟩ | refine ⟨rfl, ?_⟩ | intro hb | refine go2 ?_ | refine WC.seq (fun K hK => ?_) | ((first | refine hK _ _ _ ?_ | refine hK _ _ _ _ rfl ?_ | refine WX.thenExit (K := K) ?_); clear hK K) | (refine WX.thenExit (K := KL) ?_; clear hL KL)))
  refine WC.loop (I := Nat) (fun i => [(3, .int .i64 i), (1, .pointer (some ⟨b1, 0, none⟩))]) (fun _ => Gf) (fun _ => box b1 34 (f.map uV) :: Sf) (fun i => i ≤ 64 ∧ trimL f = trimL (f.take i)) (fun i => i) 64 ⟨by omega, by rw [List.take_of_length_le (by omega)]⟩ (.cons rfl (.cons rfl .nil)) (fun w h => h) ?_
  rintro k ⟨hk64, htr⟩ KL hL
  have fin : ¬ (f.take k).getLast? = some 0 → trimL f = f.take k := fun h => by rw [htr, trimL_done h]
  by_cases h0 : (0 : Int) < (k : Int)
  · have hlast : (f.take k).getLast? = some (f[k - 1]'(by omega)) := by rw [List.getLast?_eq_getElem?, List.length_take, Nat.min_eq_left (by omega), List.getElem?_take_of_lt (by omega)]; exact List.getElem?_eq_getElem _
    have hx : f[((k : Int) - 1).toNat]? = some (f[k - 1]'(by omega)) := by rw [show ((k : Int) - 1).toNat = k - 1 from by omega]; exact List.getElem?_eq_getElem _
    generalize (f[k - 1]'(by omega)) = X at hlast hx
    (repeat (first | refine vgo ?_ | refine ⟨_, rfl, rfl, ?_⟩ | refine ⟨_, rfl, ?_⟩ | refine ⟨rfl, ?_⟩ | intro hb | refine go2 ?_ | refine WC.seq (fun K hK => ?_) | ((first | refine hK _ _ _ ?_ | refine hK _ _ _ _ rfl ?_ | refine WX.thenExit (K := K) ?_); clear hK K) | (refine WX.thenExit (K := KL) ?_; clear hL KL)))
    refine dcB (fun hz => ?_) (fun hz => ?_)
    · rw [show X = 0 from by omega] at hlast
      rw [trimL_zero hlast, List.dropLast_eq_take, List.length_take, List.take_take] at htr
      (repeat (first | refine vgo ?_ | refine ⟨_, rfl, rfl, ?_⟩ | refine ⟨_, rfl, ?_⟩ | refine ⟨rfl, ?_⟩ | intro hb | refine go2 ?_ | refine WC.seq (fun K hK => ?_) | ((first | refine hK _ _ _ ?_ | refine hK _ _ _ _ rfl ?_ | refine WX.thenExit (K := K) ?_); clear hK K) | (refine WX.thenExit (K := KL) ?_; clear hL KL)))
      refine (hL (k - 1) ⟨by omega, ?_⟩ (by omega)).conv (.cons (by show some _ = some _; congr 2; omega) (.cons rfl .nil)) (fun _ h => h)
      rw [htr]; congr 2; omega
    · have e := fin (by rw [hlast]; simp; omega)
      (repeat (first | refine vgo ?_ | refine ⟨_, rfl, rfl, ?_⟩ | refine ⟨_, rfl, ?_⟩ | refine ⟨rfl, ?_⟩ | intro hb | refine go2 ?_ | refine WC.seq (fun K hK => ?_) | ((first | refine hK _ _ _ ?_ | refine hK _ _ _ _ rfl ?_ | refine WX.thenExit (K := K) ?_); clear hK K) | (refine WX.thenExit (K := KL) ?_; clear hL KL)))
      refine WL.build rfl rfl rfl rfl rfl ?_; intro va; (try dsimp only [List.cons_append, List.nil_append])
      (repeat (first | refine vgo ?_ | refine ⟨_, rfl, rfl, ?_⟩ | refine ⟨_, rfl, ?_⟩ | refine ⟨rfl, ?_⟩ | intro hb | refine go2 ?_ | refine WC.seq (fun K hK => ?_) | ((first | refine hK _ _ _ ?_ | refine hK _ _ _ _ rfl ?_ | refine WX.thenExit (K := K) ?_); clear hK K) | (refine WX.thenExit (K := KL) ?_; clear hL KL)))
      refine WL.slArr rfl rfl k rfl (by omega) (by omega) rfl ?_
      (repeat (first | refine vgo ?_ | refine ⟨_, rfl, rfl, ?_⟩ | refine ⟨_, rfl, ?_⟩ | refine ⟨rfl, ?_⟩ | intro hb | refine go2 ?_ | refine WC.seq (fun K hK => ?_) | ((first | refine hK _ _ _ ?_ | refine hK _ _ _ _ rfl ?_ | refine WX.thenExit (K := K) ?_); clear hK K) | (refine WX.thenExit (K := KL) ?_; clear hL KL)))
      refine WL.append rfl rfl rfl ?_
      refine AppV.b rfl (by omega) (by omega) ?_
      intro vb
      refine WL.sat (fun w sw => sw.pub (R := (Ty.u64)) (l := (f.take k)) (v := vb) SelOwn.h rfl (by first | rfl | (rw [flat_map_one (fun _ => rfl)]; done) | (rw [flat_map_one (fun _ => rfl)]; rfl)) (by first | (simp; done) | (simp; omega)) (fun x hx => hok x (List.mem_of_mem_take hx))) ?_
      (repeat (first | refine vgo ?_ | refine ⟨_, rfl, rfl, ?_⟩ | refine ⟨_, rfl, ?_⟩ | refine ⟨rfl, ?_⟩ | intro hb | refine go2 ?_ | refine WC.seq (fun K hK => ?_) | ((first | refine hK _ _ _ ?_ | refine hK _ _ _ _ rfl ?_ | refine WX.thenExit (K := K) ?_); clear hK K) | (refine WX.thenExit (K := KL) ?_; clear hL KL)))
      exact WX.ret1 rfl rfl (fun w sw => ⟨[rd (Ty.sl Ty.u64) (trimL f) vb], [], ⟨rfl, rfl⟩, by rw [e]; exact sw.to⟩)
  · obtain rfl : k = 0 := by omega
    have e := fin (by simp)
    (repeat (first | refine vgo ?_ | refine ⟨_, rfl, rfl, ?_⟩ | refine ⟨_, rfl, ?_⟩ | refine ⟨rfl, ?_⟩ | intro hb | refine go2 ?_ | refine WC.seq (fun K hK => ?_) | ((first | refine hK _ _ _ ?_ | refine hK _ _ _ _ rfl ?_ | refine WX.thenExit (K := K) ?_); clear hK K) | (refine WX.thenExit (K := KL) ?_; clear hL KL)))
    refine WL.build rfl rfl rfl rfl rfl ?_; intro va; (try dsimp only [List.cons_append, List.nil_append])
    (repeat (first | refine vgo ?_ | refine ⟨_, rfl, rfl, ?_⟩ | refine ⟨_, rfl, ?_⟩ | refine ⟨rfl, ?_⟩ | intro hb | refine go2 ?_ | refine WC.seq (fun K hK => ?_) | ((first | refine hK _ _ _ ?_ | refine hK _ _ _ _ rfl ?_ | refine WX.thenExit (K := K) ?_); clear hK K) | (refine WX.thenExit (K := KL) ?_; clear hL KL)))
    refine WL.slArr rfl rfl 0 rfl (by omega) (by omega) rfl ?_
    (repeat (first | refine vgo ?_ | refine ⟨_, rfl, rfl, ?_⟩ | refine ⟨_, rfl, ?_⟩ | refine ⟨rfl, ?_⟩ | intro hb | refine go2 ?_ | refine WC.seq (fun K hK => ?_) | ((first | refine hK _ _ _ ?_ | refine hK _ _ _ _ rfl ?_ | refine WX.thenExit (K := K) ?_); clear hK K) | (refine WX.thenExit (K := KL) ?_; clear hL KL)))
    refine WL.append rfl rfl rfl ?_
    refine AppV.b rfl (by omega) (by omega) ?_
    intro vb
    refine WL.sat (fun w sw => sw.pub (R := (Ty.u64)) (l := (f.take 0)) (v := vb) SelOwn.h rfl (by first | rfl | (rw [flat_map_one (fun _ => rfl)]; done) | (rw [flat_map_one (fun _ => rfl)]; rfl)) (by first | (simp; done) | (simp; omega)) (fun x hx => hok x (List.mem_of_mem_take hx))) ?_
    (repeat (first | refine vgo ?_ | refine ⟨_, rfl, rfl, ?_⟩ | refine ⟨_, rfl, ?_⟩ | refine ⟨rfl, ?_⟩ | intro hb | refine go2 ?_ | refine WC.seq (fun K hK => ?_) | ((first | refine hK _ _ _ ?_ | refine hK _ _ _ _ rfl ?_ | refine WX.thenExit (K := K) ?_); clear hK K) | (refine WX.thenExit (K := KL) ?_; clear hL KL)))
    exact WX.ret1 rfl rfl (fun w sw => ⟨[rd (Ty.sl Ty.u64) (trimL f) vb], [], ⟨rfl, rfl⟩, by rw [e]; exact sw.to⟩)
instance cut_ret {G : List Pers} {f : List Nat} : RetF Tryz.prog 25 [fV f] G (f.length = 64 ∧ ∀ x ∈ f, x < 18446744073709551616) (Ty.sl Ty.u64) (trimL f) := ⟨fun h => ⟨[], by simp, cut_fun f h.1 h.2⟩⟩

end Go.Qd
