/-
  Tables: sorted rows, and the chapter's example.
-/
import Derived.Test.YticbfcngepfecaaPTab5
namespace Go.Qd
open Go Go.Proofs
instance order_ret {G : List Pers} {rows : List (List VT)} {ks : List (Int × Bool)} {vr vk : Value} [i : RdSl vr G (Ty.sl valT) rows] [j : RdSl vk G keyT39 ks] : RetF Try.prog 29 [vr, vk] G (rows.length ≤ 20) (Ty.sl Ty.i64) (ordL (ltR rows ks) rows.length) := ⟨fun h => ⟨[rd (Ty.sl (Ty.sl valT)) rows vr, rd (Ty.sl keyT39) ks vk], by simpa using ⟨i.h, j.h⟩, order_fun rows ks vr vk h⟩⟩
abbrev exR : List (List VT) := [[(1, 2, [])], [(0, 0, [])], [(1, 1, [])]]
theorem exR_ord : ordL (ltR exR [(0, true)]) exR.length = [0, 2, 1] := by decide
set_option maxHeartbeats 1600000 in
theorem awake39_fun : Fun Try.prog 28 [] [] [] (fun r G S => r = .bool true ∧ G = [] ∧ S = []) := by
  refine Fun.enter Try.func28 (by kernel_rfl) rfl Try.ntmps28 rfl (fun B Gf Sf => ?_); (try simp only [List.cons_append]); (try simp only [List.nil_append]); simp only [argEnv]
  (repeat (first | refine vgo ?_ | refine ⟨_, rfl, rfl, ?_⟩ | refine ⟨_, rfl, ?_⟩ | refine ⟨rfl, ?_⟩ | intro hb | (refine altL ?_ ?_; omega) | refine altR ?_ | (refine side ?_ ?_; first | omega | exact True.intro | ((try simp only [List.length_append, List.length_cons, List.length_nil, List.length_map, List.length_replicate, List.length_set, and_true, true_and]); omega) | assumption | (and_intros <;> first | omega | assumption) | decide) | (refine decT ?_ ?_; first | with_reducible assumption | with_reducible rfl | (refine not_not_intro ?_; with_reducible first | assumption | rfl) | omega | decide) | (refine decF ?_ ?_; first | with_reducible assumption | with_reducible rfl | (refine not_not_intro ?_; with_reducible first | assumption | rfl) | omega | decide) | (refine decBT ?_ ?_; with_reducible first | assumption | rfl | exact Bool.not_false) | (refine decBF ?_ ?_; with_reducible first | assumption | rfl | exact Bool.not_true) | refine ⟨_, by assumption, ?_⟩ | refine ⟨_, _, _, rfl, ?_⟩ | refine WC.seq (fun K hK => ?_) | (refine hK _ _ _ ?_; clear hK K) | (refine WX.thenExit (K := K) ?_; clear hK K) | (refine WX.thenExit (K := KL) ?_; clear hL KL)))
  rename_i v3 v5 v7 v8
  refine CallV.sat (fun w sw => sw.pub (R := (valT)) (l := ([(1, 2, [])])) (v := v3) SelOwn.h rfl rfl rfl (by decide)) ?_
  refine CallV.sat (fun w sw => sw.pub (R := (valT)) (l := ([(0, 0, [])])) (v := v5) SelOwn.h rfl rfl rfl (by decide)) ?_
  refine CallV.sat (fun w sw => sw.pub (R := (valT)) (l := ([(1, 1, [])])) (v := v7) SelOwn.h rfl rfl rfl (by decide)) ?_
  refine CallV.sat (fun w sw => sw.pub (R := (keyT39)) (l := ([(0, true)])) (v := hb) SelOwn.h rfl rfl rfl (by decide)) ?_
  refine CallV.sat (fun w sw => sw.pubC (R := (Ty.sl valT)) (l := (exR)) (v := v8) (vs := ([v3, v5, v7])) rfl rfl rfl (allR_cons Rd.h (allR_cons Rd.h (allR_cons Rd.h allR_nil)))) ?_
  refine CallV.by' (order_fun exR [(0, true)] v8 hb (by decide)) ?_; rintro _ _ _ ⟨rfl, rfl⟩; (try simp only [List.cons_append]); (try simp only [List.nil_append])
  rename_i vo
  rw [exR_ord]
  have hl3 : ([0, 2, 1] : List Int).length = 3 := rfl
  have g0 : ([0, 2, 1] : List Int)[(0 : Int).toNat]? = some 0 := rfl
  have g1 : ([0, 2, 1] : List Int)[(1 : Int).toNat]? = some 2 := rfl
  have g2 : ([0, 2, 1] : List Int)[(2 : Int).toNat]? = some 1 := rfl
  (repeat (first | refine vgo ?_ | refine ⟨_, rfl, rfl, ?_⟩ | refine ⟨_, rfl, ?_⟩ | refine ⟨rfl, ?_⟩ | intro hb | (refine altL ?_ ?_; omega) | refine altR ?_ | (refine side ?_ ?_; first | omega | exact True.intro | ((try simp only [List.length_append, List.length_cons, List.length_nil, List.length_map, List.length_replicate, List.length_set, and_true, true_and]); omega) | assumption | (and_intros <;> first | omega | assumption) | decide) | (refine decT ?_ ?_; first | with_reducible assumption | with_reducible rfl | (refine not_not_intro ?_; with_reducible first | assumption | rfl) | omega | decide) | (refine decF ?_ ?_; first | with_reducible assumption | with_reducible rfl | (refine not_not_intro ?_; with_reducible first | assumption | rfl) | omega | decide) | (refine decBT ?_ ?_; with_reducible first | assumption | rfl | exact Bool.not_false) | (refine decBF ?_ ?_; with_reducible first | assumption | rfl | exact Bool.not_true) | refine ⟨_, by assumption, ?_⟩ | refine ⟨_, _, _, rfl, ?_⟩ | refine WC.seq (fun K hK => ?_) | (refine hK _ _ _ ?_; clear hK K) | (refine WX.thenExit (K := K) ?_; clear hK K) | (refine WX.thenExit (K := KL) ?_; clear hL KL)))
  exact WX.ret1 rfl rfl (fun w sw => ⟨[], [], ⟨rfl, rfl, rfl⟩, sw.to⟩)
instance awake39_pure {G : List Pers} : PureF Try.prog 28 [] G True (.bool true) := ⟨fun _ => PureF.of0 awake39_fun⟩
end Go.Qd
