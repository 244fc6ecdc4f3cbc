/-
  The chapter's example, and the statement's function.
-/
import Derived.Test.YticbfcngepfecaaPDif5
import Derived.Test.YticbfcngepfecaaQSlz
namespace Go.Qd
open Go Go.Proofs
abbrev exA : List Row := [[[120]], [[121]]]
abbrev exB : List Row := [[[121]]]
theorem ex_of : ofD exA exB 0 = [(3, 0, 1, [])] := by
  have c1 : costL [[121]] [[121]] = 0 := by decide
  have c2 : costL [[120]] [[121]] = 1 := by decide
  have c3 : fillL [[121]] = 1 := by decide
  have d1 : dist [[[121]]] [] = 1 := by rw [dist_cn, dist_nn]
  have d2 : dist [] [[[121]]] = 2 := by rw [dist_nc, dist_nn, c3]
  have d3 : dist [[[121]]] [[[121]]] = 0 := by rw [dist_cc, dist_nn, d1, d2, c1, c3]; rfl
  have d4 : dist [[[120]], [[121]]] [] = 2 := by rw [dist_cn, d1]
  have d5 : dist [[[120]], [[121]]] [[[121]]] = 1 := by rw [dist_cc, d1, d3, d4, c2, c3]; rfl
  have s1 : setsL [[121]] [[121]] (0 + 1) = [] := by decide
  rw [ofD_cc, d5, d1, c2, if_neg (by decide), d3, if_pos (by decide), ofD_cc, d3, dist_nn, c1, if_pos (by decide), s1, ofD_nn]
  rfl
set_option maxHeartbeats 1600000 in
theorem awake41_fun : Fun Try.prog 14 [] [] [] (fun r G S => r = .bool true ∧ G = [] ∧ S = []) := by
  refine Fun.enter Try.func14 (by kernel_rfl) rfl Try.ntmps14 rfl (fun B Gf Sf => ?_); (try simp only [List.cons_append]); (try simp only [List.nil_append]); simp only [argEnv]
  (repeat (first | refine vgo ?_ | refine ⟨_, rfl, rfl, ?_⟩ | refine ⟨_, rfl, ?_⟩ | refine ⟨rfl, ?_⟩ | intro hb | (refine altL ?_ ?_; omega) | refine altR ?_ | (refine side ?_ ?_; first | omega | exact True.intro | ((try simp only [List.length_append, List.length_cons, List.length_nil, List.length_map, List.length_replicate, List.length_set, and_true, true_and]); omega) | assumption | (and_intros <;> first | omega | assumption) | decide) | (refine decT ?_ ?_; first | with_reducible assumption | with_reducible rfl | (refine not_not_intro ?_; with_reducible first | assumption | rfl) | omega | decide) | (refine decF ?_ ?_; first | with_reducible assumption | with_reducible rfl | (refine not_not_intro ?_; with_reducible first | assumption | rfl) | omega | decide) | (refine decBT ?_ ?_; with_reducible first | assumption | rfl | exact Bool.not_false) | (refine decBF ?_ ?_; with_reducible first | assumption | rfl | exact Bool.not_true) | refine ⟨_, by assumption, ?_⟩ | refine ⟨_, _, _, rfl, ?_⟩ | refine WC.seq (fun K hK => ?_) | (refine hK _ _ _ ?_; clear hK K) | (refine WX.thenExit (K := K) ?_; clear hK K) | (refine WX.thenExit (K := KL) ?_; clear hL KL)))
  rename_i v2 v3 v4 v5
  refine CallV.sat (fun w sw => sw.pub (R := (Ty.str)) (l := ([[120]])) (v := v2) SelOwn.h rfl rfl rfl (by decide)) ?_
  refine CallV.sat (fun w sw => sw.pub (R := (Ty.str)) (l := ([[121]])) (v := v3) SelOwn.h rfl rfl rfl (by decide)) ?_
  refine CallV.sat (fun w sw => sw.pub (R := (Ty.str)) (l := ([[121]])) (v := v5) SelOwn.h rfl rfl rfl (by decide)) ?_
  refine CallV.sat (fun w sw => sw.pubC (R := (Ty.sl Ty.str)) (l := (exA)) (v := v4) (vs := ([v2, v3])) rfl rfl rfl (allR_cons Rd.h (allR_cons Rd.h allR_nil))) ?_
  refine CallV.sat (fun w sw => sw.pubC (R := (Ty.sl Ty.str)) (l := (exB)) (v := hb) (vs := ([v5])) rfl rfl rfl (allR_cons Rd.h allR_nil)) ?_
  refine CallV.by' (of_fun41 exA exB v4 hb (by decide) (by decide) (by decide) (by decide)) ?_; rintro _ _ _ ⟨rfl, rfl⟩; (try simp only [List.cons_append]); (try simp only [List.nil_append])
  rename_i vo
  rw [ex_of]
  refine WL.openOwn (v := vo) (fun _ h => by cases h) (fun bb cp cs e1 h1 h2 h3 h4 => ?_)
  subst e1
  obtain ⟨c0, c1, c2, c3, sp, rfl⟩ : ∃ c0 c1 c2 c3 sp, cs = c0 :: c1 :: c2 :: c3 :: sp := by
    have h1' : 1 ≤ cp := h1
    match cs, h3 with
    | c0 :: c1 :: c2 :: c3 :: sp, _ => exact ⟨_, _, _, _, _, rfl⟩
    | [], h3 => simp at h3; omega
    | [_], h3 => simp at h3; omega
    | [_, _], h3 => simp at h3; omega
    | [_, _, _], h3 => simp at h3; omega
  obtain ⟨rfl, rfl, rfl, rfl⟩ : c0 = .int .i64 3 ∧ c1 = .int .i64 0 ∧ c2 = .int .i64 1 ∧ c3 = .string (bs []) := by
    have : [c0, c1, c2, c3] = flat ([((3, 0, 1, []) : Chg)].map chV) := h4
    simpa [flat, chV, agg_cells] using this
  (repeat (first | refine vgo ?_ | refine ⟨_, rfl, rfl, ?_⟩ | refine ⟨_, rfl, ?_⟩ | refine ⟨rfl, ?_⟩ | intro hb | (refine altL ?_ ?_; omega) | refine altR ?_ | (refine side ?_ ?_; first | omega | exact True.intro | ((try simp only [List.length_append, List.length_cons, List.length_nil, List.length_map, List.length_replicate, List.length_set, and_true, true_and]); omega) | assumption | (and_intros <;> first | omega | assumption) | decide) | (refine decT ?_ ?_; first | with_reducible assumption | with_reducible rfl | (refine not_not_intro ?_; with_reducible first | assumption | rfl) | omega | decide) | (refine decF ?_ ?_; first | with_reducible assumption | with_reducible rfl | (refine not_not_intro ?_; with_reducible first | assumption | rfl) | omega | decide) | (refine decBT ?_ ?_; with_reducible first | assumption | rfl | exact Bool.not_false) | (refine decBF ?_ ?_; with_reducible first | assumption | rfl | exact Bool.not_true) | refine ⟨_, by assumption, ?_⟩ | refine ⟨_, _, _, rfl, ?_⟩ | refine WC.seq (fun K hK => ?_) | (refine hK _ _ _ ?_; clear hK K) | (refine WX.thenExit (K := K) ?_; clear hK K) | (refine WX.thenExit (K := KL) ?_; clear hL KL)))
  exact WX.ret1 rfl rfl (fun w sw => ⟨[], [], ⟨rfl, rfl, rfl⟩, sw.to⟩)
instance awake41_pure {G : List Pers} : PureF Try.prog 14 [] G True (.bool true) := ⟨fun _ => PureF.of0 awake41_fun⟩
section
variable {n : Nat} {Q : Exit → Act → World → Prop} {B : World} {env : Env} {G : List Pers} {S S' S1 S2 : List Res} {L rest : List Oper} {d : Nat}
instance of41_v {a b : List Row} {va vb : Value} [i : RdSl va G (Ty.sl Ty.str) a] [j : RdSl vb G (Ty.sl Ty.str) b] : V (CallV Try.prog n L Q rest B env G S (some d) 17 [va, vb]) (Side (okG a ∧ okG b) (∀ u, WL Try.prog n L Q rest B ((d, u) :: env) G (chO u (ofD a b 0) :: S))) := ⟨fun h => by
  obtain ⟨⟨⟨a1, a2⟩, b1, b2⟩, h⟩ := h
  refine .by (of_fun41 a b va vb (by omega) (by omega) (fun y hy => by have := (b2 y hy).1; omega) (fun y hy => by have := (a2 y hy).1; omega)) (by simpa using ⟨i.h, j.h⟩) .nil ?_
  rintro u _ _ ⟨rfl, rfl⟩
  exact h u⟩
end
end Go.Qd
