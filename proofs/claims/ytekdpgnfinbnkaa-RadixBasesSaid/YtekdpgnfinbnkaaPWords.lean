/-
  Numbers in words: what the functions compute.
-/
import Derived.Test.YtekdpgnfinbnkaaPJoin
import Derived.Test.YtekdpgnfinbnkaaQOwn
namespace Go.Qd
open Go Go.Proofs
abbrev smallL : List (List UInt8) := [[122, 101, 114, 111], [111, 110, 101], [116, 119, 111], [116, 104, 114, 101, 101], [102, 111, 117, 114], [102, 105, 118, 101], [115, 105, 120], [115, 101, 118, 101, 110], [101, 105, 103, 104, 116], [110, 105, 110, 101], [116, 101, 110], [101, 108, 101, 118, 101, 110], [116, 119, 101, 108, 118, 101], [116, 104, 105, 114, 116, 101, 101, 110], [102, 111, 117, 114, 116, 101, 101, 110], [102, 105, 102, 116, 101, 101, 110], [115, 105, 120, 116, 101, 101, 110], [115, 101, 118, 101, 110, 116, 101, 101, 110], [101, 105, 103, 104, 116, 101, 101, 110], [110, 105, 110, 101, 116, 101, 101, 110]]
abbrev tensL : List (List UInt8) := [[], [], [116, 119, 101, 110, 116, 121], [116, 104, 105, 114, 116, 121], [102, 111, 114, 116, 121], [102, 105, 102, 116, 121], [115, 105, 120, 116, 121], [115, 101, 118, 101, 110, 116, 121], [101, 105, 103, 104, 116, 121], [110, 105, 110, 101, 116, 121]]
def smallS (i : Int) : List UInt8 := smallL.getD i.toNat []
def tensS (i : Int) : List UInt8 := tensL.getD i.toNat []
theorem smallS_le (i : Int) : (smallS i).length ≤ 20 := by
  have : ∀ x ∈ smallL, x.length ≤ 20 := by decide
  unfold smallS
  by_cases h : i.toNat < smallL.length
  · exact this _ (List.mem_of_getElem? (getD_some h))
  · rw [List.getD_eq_getElem?_getD, List.getElem?_eq_none (by omega)]; simp
theorem tensS_le (i : Int) : (tensS i).length ≤ 20 := by
  have : ∀ x ∈ tensL, x.length ≤ 20 := by decide
  unfold tensS
  by_cases h : i.toNat < tensL.length
  · exact this _ (List.mem_of_getElem? (getD_some h))
  · rw [List.getD_eq_getElem?_getD, List.getElem?_eq_none (by omega)]; simp
set_option maxHeartbeats 800000 in
theorem small_fun (i : Int) (h : 0 ≤ i ∧ i < 20) : Fun Try.prog 48 [.int .i64 i] [] [] (fun r G S => r = sV (smallS i) ∧ G = [] ∧ S = []) := by
  have hx : smallL[i.toNat]? = some (smallS i) := getD_some (by show _ < 20; omega)
  refine Fun.enter Try.func48 (by kernel_rfl) rfl Try.ntmps48 rfl (fun B Gf Sf => ?_); (try simp only [List.cons_append]); (try simp only [List.nil_append]); simp only [argEnv]
  (repeat (first | refine vgo ?_ | refine ⟨_, rfl, rfl, ?_⟩ | refine ⟨_, rfl, ?_⟩ | refine ⟨rfl, ?_⟩ | intro hb | (refine altL ?_ ?_; omega) | refine altR ?_ | (refine side ?_ ?_; first | omega | exact True.intro | ((try simp only [List.length_append, List.length_cons, List.length_nil, List.length_map, List.length_replicate, List.length_set, and_true, true_and]); omega) | assumption | (and_intros <;> first | omega | assumption) | decide) | (refine decT ?_ ?_; first | with_reducible assumption | with_reducible rfl | (refine not_not_intro ?_; with_reducible first | assumption | rfl) | omega | decide) | (refine decF ?_ ?_; first | with_reducible assumption | with_reducible rfl | (refine not_not_intro ?_; with_reducible first | assumption | rfl) | omega | decide) | (refine decBT ?_ ?_; with_reducible first | assumption | rfl) | (refine decBF ?_ ?_; with_reducible first | assumption | rfl) | refine ⟨_, by assumption, ?_⟩ | refine ⟨_, _, _, rfl, ?_⟩ | refine WC.seq (fun K hK => ?_) | (refine hK _ _ _ ?_; clear hK K) | (refine WX.thenExit (K := K) ?_; clear hK K) | (refine WX.thenExit (K := KL) ?_; clear hL KL) | ((first | refine WL.boxA rfl rfl ?_ | refine WL.box rfl rfl rfl ?_); intro bx) | (refine WL.alloc rfl ?_; intro bx)))
  exact WX.ret1 rfl rfl (fun w sw => ⟨[], [], ⟨rfl, rfl, rfl⟩, sw.to⟩)
instance small_pure {G : List Pers} {i : Int} : PureF Try.prog 48 [.int .i64 i] G (0 ≤ i ∧ i < 20) (sV (smallS i)) := ⟨fun h => PureF.of0 (small_fun i h)⟩
set_option maxHeartbeats 800000 in
theorem tens_fun (i : Int) (h : 0 ≤ i ∧ i < 10) : Fun Try.prog 60 [.int .i64 i] [] [] (fun r G S => r = sV (tensS i) ∧ G = [] ∧ S = []) := by
  have hx : (tensL.map sV)[i.toNat]? = some (sV (tensS i)) := by rw [List.getElem?_map, getD_some (d := []) (by show _ < 10; omega)]; rfl
  refine Fun.enter Try.func60 (by kernel_rfl) rfl Try.ntmps60 rfl (fun B Gf Sf => ?_); (try simp only [List.cons_append]); (try simp only [List.nil_append]); simp only [argEnv]
  (repeat (first | refine vgo ?_ | refine ⟨_, rfl, rfl, ?_⟩ | refine ⟨_, rfl, ?_⟩ | refine ⟨rfl, ?_⟩ | intro hb | (refine altL ?_ ?_; omega) | refine altR ?_ | (refine side ?_ ?_; first | omega | exact True.intro | ((try simp only [List.length_append, List.length_cons, List.length_nil, List.length_map, List.length_replicate, List.length_set, and_true, true_and]); omega) | assumption | (and_intros <;> first | omega | assumption) | decide) | (refine decT ?_ ?_; first | with_reducible assumption | with_reducible rfl | (refine not_not_intro ?_; with_reducible first | assumption | rfl) | omega | decide) | (refine decF ?_ ?_; first | with_reducible assumption | with_reducible rfl | (refine not_not_intro ?_; with_reducible first | assumption | rfl) | omega | decide) | (refine decBT ?_ ?_; with_reducible first | assumption | rfl) | (refine decBF ?_ ?_; with_reducible first | assumption | rfl) | refine ⟨_, by assumption, ?_⟩ | refine ⟨_, _, _, rfl, ?_⟩ | refine WC.seq (fun K hK => ?_) | (refine hK _ _ _ ?_; clear hK K) | (refine WX.thenExit (K := K) ?_; clear hK K) | (refine WX.thenExit (K := KL) ?_; clear hL KL) | ((first | refine WL.boxA rfl rfl ?_ | refine WL.box rfl rfl rfl ?_); intro bx) | (refine WL.alloc rfl ?_; intro bx)))
  exact WX.ret1 rfl rfl (fun w sw => ⟨[], [], ⟨rfl, rfl, rfl⟩, sw.to⟩)
instance tens_pure {G : List Pers} {i : Int} : PureF Try.prog 60 [.int .i64 i] G (0 ≤ i ∧ i < 10) (sV (tensS i)) := ⟨fun h => PureF.of0 (tens_fun i h)⟩
def restI (m : Int) : List (List UInt8) := if 20 ≤ m ∧ 0 < m % 10 then [tensS (m / 10) ++ [45] ++ smallS (m % 10)] else if 20 ≤ m then [tensS (m / 10)] else if 0 < m then [smallS m] else []
def hunI (n : Int) : List (List UInt8) := (if 100 ≤ n then [smallS (n / 100), [104, 117, 110, 100, 114, 101, 100]] else []) ++ restI (n % 100)
theorem strs_flat (xs : List (List UInt8)) : xs.map sV = flat (xs.map fun l => .string (bs l)) := (flat_map_one (fun _ => rfl) _).symm
theorem restI_le (m : Int) : ∀ x ∈ restI m, x.length ≤ 41 := by
  intro x hx
  have l1 := tensS_le (m / 10)
  have l2 := smallS_le (m % 10)
  have l3 := smallS_le m
  unfold restI at hx
  split at hx
  · rw [List.mem_singleton] at hx; subst hx; simp; omega
  · split at hx
    · rw [List.mem_singleton] at hx; subst hx; omega
    · split at hx
      · rw [List.mem_singleton] at hx; subst hx; omega
      · cases hx
theorem hunI_le (n : Int) : ∀ x ∈ hunI n, x.length ≤ 41 := by
  intro x hx
  have l3 := smallS_le (n / 100)
  unfold hunI at hx
  rcases List.mem_append.1 hx with h | h
  · split at h
    · simp only [List.mem_cons, List.not_mem_nil, or_false] at h
      rcases h with rfl | rfl
      · omega
      · decide
    · cases h
  · exact restI_le _ x h
theorem restI_len (m : Int) : (restI m).length ≤ 1 := by
  unfold restI; (repeat' split) <;> simp
theorem hunI_len (n : Int) : (hunI n).length ≤ 3 := by
  have := restI_len (n % 100)
  unfold hunI
  rw [List.length_append]
  split <;> simp <;> omega
set_option maxHeartbeats 3200000 in
theorem hundreds_fun (n : Int) (hn : 0 ≤ n ∧ n < 1000) : Fun Try.prog 49 [.int .i64 n] [] [] (fun r G S => G = [rd (Ty.sl Ty.str) (hunI n) r] ∧ S = []) := by
  refine Fun.enter Try.func49 (by kernel_rfl) rfl Try.ntmps49 rfl (fun B Gf Sf => ?_); (try simp only [List.cons_append]); (try simp only [List.nil_append]); simp only [argEnv]
  refine WC.sat (fun w sw => sw.ownNil 9 1) ?_
  have hle := hunI_le n
  (repeat (first | refine vgo ?_ | refine ⟨_, rfl, rfl, ?_⟩ | refine ⟨_, rfl, ?_⟩ | refine ⟨rfl, ?_⟩ | intro hb | (refine altL ?_ ?_; omega) | refine altR ?_ | (refine side ?_ ?_; first | omega | exact True.intro | ((try simp only [List.length_append, List.length_cons, List.length_nil, List.length_map, List.length_replicate, List.length_set, and_true, true_and]); omega) | assumption | (and_intros <;> first | omega | assumption) | decide) | (refine decT ?_ ?_; first | with_reducible assumption | with_reducible rfl | (refine not_not_intro ?_; with_reducible first | assumption | rfl) | omega | decide) | (refine decF ?_ ?_; first | with_reducible assumption | with_reducible rfl | (refine not_not_intro ?_; with_reducible first | assumption | rfl) | omega | decide) | (refine decBT ?_ ?_; with_reducible first | assumption | rfl) | (refine decBF ?_ ?_; with_reducible first | assumption | rfl) | refine ⟨_, by assumption, ?_⟩ | refine ⟨_, _, _, rfl, ?_⟩ | refine WC.seq (fun K hK => ?_) | (refine hK _ _ _ ?_; clear hK K) | (refine WX.thenExit (K := K) ?_; clear hK K) | (refine WX.thenExit (K := KL) ?_; clear hL KL)))
  have hR : ∀ (m : Int) (ov : Value) (ws : List (List UInt8)) (mm : Nat) (xs : List Value), m = n % 100 → ws = (if 100 ≤ n then [smallS (n / 100), [104, 117, 110, 100, 114, 101, 100]] else []) → mm = ws.length → xs = ws.map sV → WK 51 K B [(0, .int .i64 m), (3, ov)] Gf (own 9 1 ov mm xs :: Sf) := by
    intro m ov ws mm xs hm hws hmm hxs
    subst hmm hxs
    have hwl : ws.length ≤ 2 := by subst hws; split <;> simp
    refine hK _ _ _ ?_
    clear hK K
    have l1 := tensS_le (m / 10)
    have l2 := smallS_le (m % 10)
    by_cases hA : 20 ≤ m
    · by_cases hB : 0 < m % 10
      · have hv : hunI n = ws ++ [tensS (m / 10) ++ [45] ++ smallS (m % 10)] := by rw [hunI, ← hws, ← hm, restI, if_pos ⟨hA, hB⟩]
        (repeat (first | refine vgo ?_ | refine ⟨_, rfl, rfl, ?_⟩ | refine ⟨_, rfl, ?_⟩ | refine ⟨rfl, ?_⟩ | intro hb | (refine altL ?_ ?_; omega) | refine altR ?_ | (refine side ?_ ?_; first | omega | exact True.intro | ((try simp only [List.length_append, List.length_cons, List.length_nil, List.length_map, List.length_replicate, List.length_set, and_true, true_and]); omega) | assumption | (and_intros <;> first | omega | assumption) | decide) | (refine decT ?_ ?_; first | with_reducible assumption | with_reducible rfl | (refine not_not_intro ?_; with_reducible first | assumption | rfl) | omega | decide) | (refine decF ?_ ?_; first | with_reducible assumption | with_reducible rfl | (refine not_not_intro ?_; with_reducible first | assumption | rfl) | omega | decide) | (refine decBT ?_ ?_; with_reducible first | assumption | rfl) | (refine decBF ?_ ?_; with_reducible first | assumption | rfl) | refine ⟨_, by assumption, ?_⟩ | refine ⟨_, _, _, rfl, ?_⟩ | refine WC.seq (fun K hK => ?_) | (refine hK _ _ _ ?_; clear hK K) | (refine WX.thenExit (K := K) ?_; clear hK K) | (refine WX.thenExit (K := KL) ?_; clear hL KL)))
        refine WL.build rfl rfl rfl rfl rfl ?_; intro bv; (try dsimp only [List.cons_append, List.nil_append])
        (repeat (first | refine vgo ?_ | refine ⟨_, rfl, rfl, ?_⟩ | refine ⟨_, rfl, ?_⟩ | refine ⟨rfl, ?_⟩ | intro hb | (refine altL ?_ ?_; omega) | refine altR ?_ | (refine side ?_ ?_; first | omega | exact True.intro | ((try simp only [List.length_append, List.length_cons, List.length_nil, List.length_map, List.length_replicate, List.length_set, and_true, true_and]); omega) | assumption | (and_intros <;> first | omega | assumption) | decide) | (refine decT ?_ ?_; first | with_reducible assumption | with_reducible rfl | (refine not_not_intro ?_; with_reducible first | assumption | rfl) | omega | decide) | (refine decF ?_ ?_; first | with_reducible assumption | with_reducible rfl | (refine not_not_intro ?_; with_reducible first | assumption | rfl) | omega | decide) | (refine decBT ?_ ?_; with_reducible first | assumption | rfl) | (refine decBF ?_ ?_; with_reducible first | assumption | rfl) | refine ⟨_, by assumption, ?_⟩ | refine ⟨_, _, _, rfl, ?_⟩ | refine WC.seq (fun K hK => ?_) | (refine hK _ _ _ ?_; clear hK K) | (refine WX.thenExit (K := K) ?_; clear hK K) | (refine WX.thenExit (K := KL) ?_; clear hL KL)))
        refine WL.append rfl rfl rfl ?_; refine AppV.o rfl ?_ ?_; rotate_left; intro av
        · (repeat (first | refine vgo ?_ | refine ⟨_, rfl, rfl, ?_⟩ | refine ⟨_, rfl, ?_⟩ | refine ⟨rfl, ?_⟩ | intro hb | (refine altL ?_ ?_; omega) | refine altR ?_ | (refine side ?_ ?_; first | omega | exact True.intro | ((try simp only [List.length_append, List.length_cons, List.length_nil, List.length_map, List.length_replicate, List.length_set, and_true, true_and]); omega) | assumption | (and_intros <;> first | omega | assumption) | decide) | (refine decT ?_ ?_; first | with_reducible assumption | with_reducible rfl | (refine not_not_intro ?_; with_reducible first | assumption | rfl) | omega | decide) | (refine decF ?_ ?_; first | with_reducible assumption | with_reducible rfl | (refine not_not_intro ?_; with_reducible first | assumption | rfl) | omega | decide) | (refine decBT ?_ ?_; with_reducible first | assumption | rfl) | (refine decBF ?_ ?_; with_reducible first | assumption | rfl) | refine ⟨_, by assumption, ?_⟩ | refine ⟨_, _, _, rfl, ?_⟩ | refine WC.seq (fun K hK => ?_) | (refine hK _ _ _ ?_; clear hK K) | (refine WX.thenExit (K := K) ?_; clear hK K) | (refine WX.thenExit (K := KL) ?_; clear hL KL)))
          exact WX.ret1 rfl rfl (fun w sw => ⟨_, [], ⟨rfl, rfl⟩, (sw.pub (R := Ty.str) (l := hunI n) (v := av) SelOwn.h rfl (by rw [hv, ← strs_flat, List.map_append]; rfl) (by rw [hv]; simp) (fun x hx => Nat.le_trans (hle x hx) (by decide))).to⟩)
        · omega
      · have hv : hunI n = ws ++ [tensS (m / 10)] := by rw [hunI, ← hws, ← hm, restI, if_neg (fun h => hB h.2), if_pos hA]
        (repeat (first | refine vgo ?_ | refine ⟨_, rfl, rfl, ?_⟩ | refine ⟨_, rfl, ?_⟩ | refine ⟨rfl, ?_⟩ | intro hb | (refine altL ?_ ?_; omega) | refine altR ?_ | (refine side ?_ ?_; first | omega | exact True.intro | ((try simp only [List.length_append, List.length_cons, List.length_nil, List.length_map, List.length_replicate, List.length_set, and_true, true_and]); omega) | assumption | (and_intros <;> first | omega | assumption) | decide) | (refine decT ?_ ?_; first | with_reducible assumption | with_reducible rfl | (refine not_not_intro ?_; with_reducible first | assumption | rfl) | omega | decide) | (refine decF ?_ ?_; first | with_reducible assumption | with_reducible rfl | (refine not_not_intro ?_; with_reducible first | assumption | rfl) | omega | decide) | (refine decBT ?_ ?_; with_reducible first | assumption | rfl) | (refine decBF ?_ ?_; with_reducible first | assumption | rfl) | refine ⟨_, by assumption, ?_⟩ | refine ⟨_, _, _, rfl, ?_⟩ | refine WC.seq (fun K hK => ?_) | (refine hK _ _ _ ?_; clear hK K) | (refine WX.thenExit (K := K) ?_; clear hK K) | (refine WX.thenExit (K := KL) ?_; clear hL KL)))
        refine WL.build rfl rfl rfl rfl rfl ?_; intro bv; (try dsimp only [List.cons_append, List.nil_append])
        (repeat (first | refine vgo ?_ | refine ⟨_, rfl, rfl, ?_⟩ | refine ⟨_, rfl, ?_⟩ | refine ⟨rfl, ?_⟩ | intro hb | (refine altL ?_ ?_; omega) | refine altR ?_ | (refine side ?_ ?_; first | omega | exact True.intro | ((try simp only [List.length_append, List.length_cons, List.length_nil, List.length_map, List.length_replicate, List.length_set, and_true, true_and]); omega) | assumption | (and_intros <;> first | omega | assumption) | decide) | (refine decT ?_ ?_; first | with_reducible assumption | with_reducible rfl | (refine not_not_intro ?_; with_reducible first | assumption | rfl) | omega | decide) | (refine decF ?_ ?_; first | with_reducible assumption | with_reducible rfl | (refine not_not_intro ?_; with_reducible first | assumption | rfl) | omega | decide) | (refine decBT ?_ ?_; with_reducible first | assumption | rfl) | (refine decBF ?_ ?_; with_reducible first | assumption | rfl) | refine ⟨_, by assumption, ?_⟩ | refine ⟨_, _, _, rfl, ?_⟩ | refine WC.seq (fun K hK => ?_) | (refine hK _ _ _ ?_; clear hK K) | (refine WX.thenExit (K := K) ?_; clear hK K) | (refine WX.thenExit (K := KL) ?_; clear hL KL)))
        refine WL.append rfl rfl rfl ?_; refine AppV.o rfl ?_ ?_; rotate_left; intro av
        · (repeat (first | refine vgo ?_ | refine ⟨_, rfl, rfl, ?_⟩ | refine ⟨_, rfl, ?_⟩ | refine ⟨rfl, ?_⟩ | intro hb | (refine altL ?_ ?_; omega) | refine altR ?_ | (refine side ?_ ?_; first | omega | exact True.intro | ((try simp only [List.length_append, List.length_cons, List.length_nil, List.length_map, List.length_replicate, List.length_set, and_true, true_and]); omega) | assumption | (and_intros <;> first | omega | assumption) | decide) | (refine decT ?_ ?_; first | with_reducible assumption | with_reducible rfl | (refine not_not_intro ?_; with_reducible first | assumption | rfl) | omega | decide) | (refine decF ?_ ?_; first | with_reducible assumption | with_reducible rfl | (refine not_not_intro ?_; with_reducible first | assumption | rfl) | omega | decide) | (refine decBT ?_ ?_; with_reducible first | assumption | rfl) | (refine decBF ?_ ?_; with_reducible first | assumption | rfl) | refine ⟨_, by assumption, ?_⟩ | refine ⟨_, _, _, rfl, ?_⟩ | refine WC.seq (fun K hK => ?_) | (refine hK _ _ _ ?_; clear hK K) | (refine WX.thenExit (K := K) ?_; clear hK K) | (refine WX.thenExit (K := KL) ?_; clear hL KL)))
          exact WX.ret1 rfl rfl (fun w sw => ⟨_, [], ⟨rfl, rfl⟩, (sw.pub (R := Ty.str) (l := hunI n) (v := av) SelOwn.h rfl (by rw [hv, ← strs_flat, List.map_append]; rfl) (by rw [hv]; simp) (fun x hx => Nat.le_trans (hle x hx) (by decide))).to⟩)
        · omega
    · by_cases hB : 0 < m
      · have hv : hunI n = ws ++ [smallS m] := by rw [hunI, ← hws, ← hm, restI, if_neg (fun h => hA h.1), if_neg hA, if_pos hB]
        (repeat (first | refine vgo ?_ | refine ⟨_, rfl, rfl, ?_⟩ | refine ⟨_, rfl, ?_⟩ | refine ⟨rfl, ?_⟩ | intro hb | (refine altL ?_ ?_; omega) | refine altR ?_ | (refine side ?_ ?_; first | omega | exact True.intro | ((try simp only [List.length_append, List.length_cons, List.length_nil, List.length_map, List.length_replicate, List.length_set, and_true, true_and]); omega) | assumption | (and_intros <;> first | omega | assumption) | decide) | (refine decT ?_ ?_; first | with_reducible assumption | with_reducible rfl | (refine not_not_intro ?_; with_reducible first | assumption | rfl) | omega | decide) | (refine decF ?_ ?_; first | with_reducible assumption | with_reducible rfl | (refine not_not_intro ?_; with_reducible first | assumption | rfl) | omega | decide) | (refine decBT ?_ ?_; with_reducible first | assumption | rfl) | (refine decBF ?_ ?_; with_reducible first | assumption | rfl) | refine ⟨_, by assumption, ?_⟩ | refine ⟨_, _, _, rfl, ?_⟩ | refine WC.seq (fun K hK => ?_) | (refine hK _ _ _ ?_; clear hK K) | (refine WX.thenExit (K := K) ?_; clear hK K) | (refine WX.thenExit (K := KL) ?_; clear hL KL)))
        refine WL.build rfl rfl rfl rfl rfl ?_; intro bv; (try dsimp only [List.cons_append, List.nil_append])
        (repeat (first | refine vgo ?_ | refine ⟨_, rfl, rfl, ?_⟩ | refine ⟨_, rfl, ?_⟩ | refine ⟨rfl, ?_⟩ | intro hb | (refine altL ?_ ?_; omega) | refine altR ?_ | (refine side ?_ ?_; first | omega | exact True.intro | ((try simp only [List.length_append, List.length_cons, List.length_nil, List.length_map, List.length_replicate, List.length_set, and_true, true_and]); omega) | assumption | (and_intros <;> first | omega | assumption) | decide) | (refine decT ?_ ?_; first | with_reducible assumption | with_reducible rfl | (refine not_not_intro ?_; with_reducible first | assumption | rfl) | omega | decide) | (refine decF ?_ ?_; first | with_reducible assumption | with_reducible rfl | (refine not_not_intro ?_; with_reducible first | assumption | rfl) | omega | decide) | (refine decBT ?_ ?_; with_reducible first | assumption | rfl) | (refine decBF ?_ ?_; with_reducible first | assumption | rfl) | refine ⟨_, by assumption, ?_⟩ | refine ⟨_, _, _, rfl, ?_⟩ | refine WC.seq (fun K hK => ?_) | (refine hK _ _ _ ?_; clear hK K) | (refine WX.thenExit (K := K) ?_; clear hK K) | (refine WX.thenExit (K := KL) ?_; clear hL KL)))
        refine WL.append rfl rfl rfl ?_; refine AppV.o rfl ?_ ?_; rotate_left; intro av
        · (repeat (first | refine vgo ?_ | refine ⟨_, rfl, rfl, ?_⟩ | refine ⟨_, rfl, ?_⟩ | refine ⟨rfl, ?_⟩ | intro hb | (refine altL ?_ ?_; omega) | refine altR ?_ | (refine side ?_ ?_; first | omega | exact True.intro | ((try simp only [List.length_append, List.length_cons, List.length_nil, List.length_map, List.length_replicate, List.length_set, and_true, true_and]); omega) | assumption | (and_intros <;> first | omega | assumption) | decide) | (refine decT ?_ ?_; first | with_reducible assumption | with_reducible rfl | (refine not_not_intro ?_; with_reducible first | assumption | rfl) | omega | decide) | (refine decF ?_ ?_; first | with_reducible assumption | with_reducible rfl | (refine not_not_intro ?_; with_reducible first | assumption | rfl) | omega | decide) | (refine decBT ?_ ?_; with_reducible first | assumption | rfl) | (refine decBF ?_ ?_; with_reducible first | assumption | rfl) | refine ⟨_, by assumption, ?_⟩ | refine ⟨_, _, _, rfl, ?_⟩ | refine WC.seq (fun K hK => ?_) | (refine hK _ _ _ ?_; clear hK K) | (refine WX.thenExit (K := K) ?_; clear hK K) | (refine WX.thenExit (K := KL) ?_; clear hL KL)))
          exact WX.ret1 rfl rfl (fun w sw => ⟨_, [], ⟨rfl, rfl⟩, (sw.pub (R := Ty.str) (l := hunI n) (v := av) SelOwn.h rfl (by rw [hv, ← strs_flat, List.map_append]; rfl) (by rw [hv]; simp) (fun x hx => Nat.le_trans (hle x hx) (by decide))).to⟩)
        · omega
      · have hv : hunI n = ws := by rw [hunI, ← hws, ← hm, restI, if_neg (fun h => hA h.1), if_neg hA, if_neg hB, List.append_nil]
        (repeat (first | refine vgo ?_ | refine ⟨_, rfl, rfl, ?_⟩ | refine ⟨_, rfl, ?_⟩ | refine ⟨rfl, ?_⟩ | intro hb | (refine altL ?_ ?_; omega) | refine altR ?_ | (refine side ?_ ?_; first | omega | exact True.intro | ((try simp only [List.length_append, List.length_cons, List.length_nil, List.length_map, List.length_replicate, List.length_set, and_true, true_and]); omega) | assumption | (and_intros <;> first | omega | assumption) | decide) | (refine decT ?_ ?_; first | with_reducible assumption | with_reducible rfl | (refine not_not_intro ?_; with_reducible first | assumption | rfl) | omega | decide) | (refine decF ?_ ?_; first | with_reducible assumption | with_reducible rfl | (refine not_not_intro ?_; with_reducible first | assumption | rfl) | omega | decide) | (refine decBT ?_ ?_; with_reducible first | assumption | rfl) | (refine decBF ?_ ?_; with_reducible first | assumption | rfl) | refine ⟨_, by assumption, ?_⟩ | refine ⟨_, _, _, rfl, ?_⟩ | refine WC.seq (fun K hK => ?_) | (refine hK _ _ _ ?_; clear hK K) | (refine WX.thenExit (K := K) ?_; clear hK K) | (refine WX.thenExit (K := KL) ?_; clear hL KL)))
        exact WX.ret1 rfl rfl (fun w sw => ⟨_, [], ⟨rfl, rfl⟩, (sw.pub (R := Ty.str) (l := hunI n) (v := ov) SelOwn.h rfl (by rw [hv, ← strs_flat]) (by rw [hv]) (fun x hx => Nat.le_trans (hle x hx) (by decide))).to⟩)
  by_cases h1 : 100 ≤ n
  · (repeat (first | refine vgo ?_ | refine ⟨_, rfl, rfl, ?_⟩ | refine ⟨_, rfl, ?_⟩ | refine ⟨rfl, ?_⟩ | intro hb | (refine altL ?_ ?_; omega) | refine altR ?_ | (refine side ?_ ?_; first | omega | exact True.intro | ((try simp only [List.length_append, List.length_cons, List.length_nil, List.length_map, List.length_replicate, List.length_set, and_true, true_and]); omega) | assumption | (and_intros <;> first | omega | assumption) | decide) | (refine decT ?_ ?_; first | with_reducible assumption | with_reducible rfl | (refine not_not_intro ?_; with_reducible first | assumption | rfl) | omega | decide) | (refine decF ?_ ?_; first | with_reducible assumption | with_reducible rfl | (refine not_not_intro ?_; with_reducible first | assumption | rfl) | omega | decide) | (refine decBT ?_ ?_; with_reducible first | assumption | rfl) | (refine decBF ?_ ?_; with_reducible first | assumption | rfl) | refine ⟨_, by assumption, ?_⟩ | refine ⟨_, _, _, rfl, ?_⟩ | refine WC.seq (fun K hK => ?_) | (refine hK _ _ _ ?_; clear hK K) | (refine WX.thenExit (K := K) ?_; clear hK K) | (refine WX.thenExit (K := KL) ?_; clear hL KL)))
    refine WL.build rfl rfl rfl rfl rfl ?_; intro bv; (try dsimp only [List.cons_append, List.nil_append])
    (repeat (first | refine vgo ?_ | refine ⟨_, rfl, rfl, ?_⟩ | refine ⟨_, rfl, ?_⟩ | refine ⟨rfl, ?_⟩ | intro hb | (refine altL ?_ ?_; omega) | refine altR ?_ | (refine side ?_ ?_; first | omega | exact True.intro | ((try simp only [List.length_append, List.length_cons, List.length_nil, List.length_map, List.length_replicate, List.length_set, and_true, true_and]); omega) | assumption | (and_intros <;> first | omega | assumption) | decide) | (refine decT ?_ ?_; first | with_reducible assumption | with_reducible rfl | (refine not_not_intro ?_; with_reducible first | assumption | rfl) | omega | decide) | (refine decF ?_ ?_; first | with_reducible assumption | with_reducible rfl | (refine not_not_intro ?_; with_reducible first | assumption | rfl) | omega | decide) | (refine decBT ?_ ?_; with_reducible first | assumption | rfl) | (refine decBF ?_ ?_; with_reducible first | assumption | rfl) | refine ⟨_, by assumption, ?_⟩ | refine ⟨_, _, _, rfl, ?_⟩ | refine WC.seq (fun K hK => ?_) | (refine hK _ _ _ ?_; clear hK K) | (refine WX.thenExit (K := K) ?_; clear hK K) | (refine WX.thenExit (K := KL) ?_; clear hL KL)))
    refine WL.append rfl rfl rfl ?_; refine AppV.o rfl ?_ ?_; rotate_left; intro av
    · (repeat (first | refine vgo ?_ | refine ⟨_, rfl, rfl, ?_⟩ | refine ⟨_, rfl, ?_⟩ | refine ⟨rfl, ?_⟩ | intro hb | (refine altL ?_ ?_; omega) | refine altR ?_ | (refine side ?_ ?_; first | omega | exact True.intro | ((try simp only [List.length_append, List.length_cons, List.length_nil, List.length_map, List.length_replicate, List.length_set, and_true, true_and]); omega) | assumption | (and_intros <;> first | omega | assumption) | decide) | (refine decT ?_ ?_; first | with_reducible assumption | with_reducible rfl | (refine not_not_intro ?_; with_reducible first | assumption | rfl) | omega | decide) | (refine decF ?_ ?_; first | with_reducible assumption | with_reducible rfl | (refine not_not_intro ?_; with_reducible first | assumption | rfl) | omega | decide) | (refine decBT ?_ ?_; with_reducible first | assumption | rfl) | (refine decBF ?_ ?_; with_reducible first | assumption | rfl) | refine ⟨_, by assumption, ?_⟩ | refine ⟨_, _, _, rfl, ?_⟩ | refine WC.seq (fun K hK => ?_) | (refine hK _ _ _ ?_; clear hK K) | (refine WX.thenExit (K := K) ?_; clear hK K) | (refine WX.thenExit (K := KL) ?_; clear hL KL)))
      exact (hR (n % 100) av [smallS (n / 100), [104, 117, 110, 100, 114, 101, 100]] (0 + 2) ([] ++ [sV (smallS (n / 100)), sV [104, 117, 110, 100, 114, 101, 100]]) rfl (by rw [if_pos h1]) rfl rfl).conv (.cons rfl (.cons rfl .nil)) (fun _ h => h.to)
    · omega
  · (repeat (first | refine vgo ?_ | refine ⟨_, rfl, rfl, ?_⟩ | refine ⟨_, rfl, ?_⟩ | refine ⟨rfl, ?_⟩ | intro hb | (refine altL ?_ ?_; omega) | refine altR ?_ | (refine side ?_ ?_; first | omega | exact True.intro | ((try simp only [List.length_append, List.length_cons, List.length_nil, List.length_map, List.length_replicate, List.length_set, and_true, true_and]); omega) | assumption | (and_intros <;> first | omega | assumption) | decide) | (refine decT ?_ ?_; first | with_reducible assumption | with_reducible rfl | (refine not_not_intro ?_; with_reducible first | assumption | rfl) | omega | decide) | (refine decF ?_ ?_; first | with_reducible assumption | with_reducible rfl | (refine not_not_intro ?_; with_reducible first | assumption | rfl) | omega | decide) | (refine decBT ?_ ?_; with_reducible first | assumption | rfl) | (refine decBF ?_ ?_; with_reducible first | assumption | rfl) | refine ⟨_, by assumption, ?_⟩ | refine ⟨_, _, _, rfl, ?_⟩ | refine WC.seq (fun K hK => ?_) | (refine hK _ _ _ ?_; clear hK K) | (refine WX.thenExit (K := K) ?_; clear hK K) | (refine WX.thenExit (K := KL) ?_; clear hL KL)))
    exact (hR n (.slice none 0 0) [] 0 [] (by omega) (by rw [if_neg h1]) rfl rfl).conv (.cons rfl (.cons rfl .nil)) (fun _ h => h.to)
instance hundreds_ret {G : List Pers} {n : Int} : RetF Try.prog 49 [.int .i64 n] G (0 ≤ n ∧ n < 1000) (Ty.sl Ty.str) (hunI n) := ⟨fun h => ⟨[], by simp, hundreds_fun n h⟩⟩

/-! ### All of a number -/
def unitI : Nat → Int
  | 0 => 1000000
  | 1 => 1000
  | _ => 1
def tailI : Nat → List (List UInt8)
  | 0 => [[109, 105, 108, 108, 105, 111, 110]]
  | 1 => [[116, 104, 111, 117, 115, 97, 110, 100]]
  | _ => []
def partI (k : Int) (u : List (List UInt8)) : List (List UInt8) := if k = 0 then [] else hunI k ++ u
def wP (N : Int) : Nat → List (List UInt8)
  | 0 => []
  | i + 1 => wP N i ++ partI (N / unitI i % 1000) (tailI i)
theorem wP_le (N : Int) : ∀ i, ∀ x ∈ wP N i, x.length ≤ 41
  | 0, _, h => by cases h
  | i + 1, x, h => by
    rw [wP] at h
    rcases List.mem_append.1 h with h | h
    · exact wP_le N i x h
    · unfold partI at h
      split at h
      · cases h
      · rcases List.mem_append.1 h with h | h
        · exact hunI_le _ x h
        · unfold tailI at h
          split at h <;> simp at h <;> subst h <;> simp
theorem tailI_len (i : Nat) : (tailI i).length ≤ 1 := by unfold tailI; split <;> simp
theorem wP_len (N : Int) : ∀ i, (wP N i).length ≤ 4 * i
  | 0 => by simp [wP]
  | i + 1 => by
    have := wP_len N i
    have := tailI_len i
    have := hunI_len (N / unitI i % 1000)
    rw [wP, List.length_append]
    unfold partI
    split
    · simp; omega
    · rw [List.length_append]; omega
def minusL (n : Int) : List (List UInt8) := if n < 0 then [[109, 105, 110, 117, 115]] else []
def wordsL (n : Int) : List (List UInt8) := minusL n ++ wP (if n < 0 then -n else n) 3
def wordsB (n : Int) : List UInt8 := if n = 0 then [122, 101, 114, 111] else Lib.join (wordsL n) [32]
theorem wordsL_le (n : Int) : ∀ x ∈ wordsL n, x.length ≤ 41 := by
  intro x h
  unfold wordsL minusL at h
  rcases List.mem_append.1 h with h | h
  · split at h
    · rw [List.mem_singleton] at h; subst h; simp
    · cases h
  · exact wP_le _ _ x h
theorem wordsL_len (n : Int) : (wordsL n).length ≤ 13 := by
  have h1 := wP_len (if n < 0 then -n else n) 3
  have h2 : (minusL n).length ≤ 1 := by unfold minusL; split <;> simp
  unfold wordsL
  rw [List.length_append]
  omega
def blanks (l : List (List UInt8)) : List UInt8 := l.flatMap fun x => 32 :: x
theorem blanks_join : ∀ {l : List (List UInt8)}, l ≠ [] → blanks l = 32 :: Lib.join l [32]
  | [], h => absurd rfl h
  | [x], _ => by simp [blanks, Lib.join, List.intercalate]
  | x :: y :: r, _ => by
    have := blanks_join (l := y :: r) (by simp)
    unfold blanks at this ⊢
    rw [List.flatMap_cons, this]
    simp [Lib.join, List.intercalate, List.intersperse]
theorem blanks_le {m : Nat} : ∀ {l : List (List UInt8)}, (∀ x ∈ l, x.length ≤ m) → (blanks l).length ≤ l.length * (m + 1)
  | [], _ => by simp [blanks]
  | x :: r, h => by
    have := blanks_le (l := r) (fun y hy => h y (.tail _ hy))
    have := h x (.head _)
    unfold blanks at this ⊢
    rw [List.flatMap_cons, List.length_append, List.length_cons, List.length_cons, Nat.succ_mul]
    unfold blanks at *
    omega
theorem join_le (n : Int) : (Lib.join (wordsL n) [32]).length ≤ 1000 := by
  by_cases h : wordsL n = []
  · rw [h]; decide
  · have h1 := blanks_join h
    have h2 := blanks_le (m := 41) (wordsL_le n)
    have h3 := wordsL_len n
    rw [h1, List.length_cons] at h2
    omega
theorem wordsB_le (n : Int) : (wordsB n).length ≤ 1000 := by
  unfold wordsB; split
  · simp
  · exact join_le n
abbrev wOk (n : Int) : Prop := -999999999 ≤ n ∧ n ≤ 999999999
set_option maxHeartbeats 3200000 in
theorem words_fun (n : Int) : Fun Try.prog 30 [.int .i64 n] [] [] (fun r G S => r = (if wOk n then .tuple #[.string (bs (wordsB n)), .int .i64 0] else .tuple #[.string (bs []), .int .i64 1]) ∧ G = [] ∧ S = []) := by
  refine Fun.enter Try.func30 (by kernel_rfl) rfl Try.ntmps30 rfl (fun B Gf Sf => ?_); (try simp only [List.cons_append]); (try simp only [List.nil_append]); simp only [argEnv]
  by_cases h1 : 999999999 < n
  · (repeat (first | refine vgo ?_ | refine ⟨_, rfl, rfl, ?_⟩ | refine ⟨_, rfl, ?_⟩ | refine ⟨rfl, ?_⟩ | intro hb | (refine altL ?_ ?_; omega) | refine altR ?_ | (refine side ?_ ?_; first | omega | exact True.intro | ((try simp only [List.length_append, List.length_cons, List.length_nil, List.length_map, List.length_replicate, List.length_set, and_true, true_and]); omega) | assumption | (and_intros <;> first | omega | assumption) | decide) | (refine decT ?_ ?_; first | with_reducible assumption | with_reducible rfl | (refine not_not_intro ?_; with_reducible first | assumption | rfl) | omega | decide) | (refine decF ?_ ?_; first | with_reducible assumption | with_reducible rfl | (refine not_not_intro ?_; with_reducible first | assumption | rfl) | omega | decide) | (refine decBT ?_ ?_; with_reducible first | assumption | rfl) | (refine decBF ?_ ?_; with_reducible first | assumption | rfl) | refine ⟨_, by assumption, ?_⟩ | refine ⟨_, _, _, rfl, ?_⟩ | refine WC.seq (fun K hK => ?_) | (refine hK _ _ _ ?_; clear hK K) | (refine WX.thenExit (K := K) ?_; clear hK K) | (refine WX.thenExit (K := KL) ?_; clear hL KL)))
    exact WX.ret2 rfl rfl rfl (fun w sw => ⟨[], [], ⟨by rw [if_neg (by omega)], rfl, rfl⟩, sw.to⟩)
  by_cases h2 : n < -999999999
  · (repeat (first | refine vgo ?_ | refine ⟨_, rfl, rfl, ?_⟩ | refine ⟨_, rfl, ?_⟩ | refine ⟨rfl, ?_⟩ | intro hb | (refine altL ?_ ?_; omega) | refine altR ?_ | (refine side ?_ ?_; first | omega | exact True.intro | ((try simp only [List.length_append, List.length_cons, List.length_nil, List.length_map, List.length_replicate, List.length_set, and_true, true_and]); omega) | assumption | (and_intros <;> first | omega | assumption) | decide) | (refine decT ?_ ?_; first | with_reducible assumption | with_reducible rfl | (refine not_not_intro ?_; with_reducible first | assumption | rfl) | omega | decide) | (refine decF ?_ ?_; first | with_reducible assumption | with_reducible rfl | (refine not_not_intro ?_; with_reducible first | assumption | rfl) | omega | decide) | (refine decBT ?_ ?_; with_reducible first | assumption | rfl) | (refine decBF ?_ ?_; with_reducible first | assumption | rfl) | refine ⟨_, by assumption, ?_⟩ | refine ⟨_, _, _, rfl, ?_⟩ | refine WC.seq (fun K hK => ?_) | (refine hK _ _ _ ?_; clear hK K) | (refine WX.thenExit (K := K) ?_; clear hK K) | (refine WX.thenExit (K := KL) ?_; clear hL KL)))
    exact WX.ret2 rfl rfl rfl (fun w sw => ⟨[], [], ⟨by rw [if_neg (by omega)], rfl, rfl⟩, sw.to⟩)
  by_cases h3 : n = 0
  · (repeat (first | refine vgo ?_ | refine ⟨_, rfl, rfl, ?_⟩ | refine ⟨_, rfl, ?_⟩ | refine ⟨rfl, ?_⟩ | intro hb | (refine altL ?_ ?_; omega) | refine altR ?_ | (refine side ?_ ?_; first | omega | exact True.intro | ((try simp only [List.length_append, List.length_cons, List.length_nil, List.length_map, List.length_replicate, List.length_set, and_true, true_and]); omega) | assumption | (and_intros <;> first | omega | assumption) | decide) | (refine decT ?_ ?_; first | with_reducible assumption | with_reducible rfl | (refine not_not_intro ?_; with_reducible first | assumption | rfl) | omega | decide) | (refine decF ?_ ?_; first | with_reducible assumption | with_reducible rfl | (refine not_not_intro ?_; with_reducible first | assumption | rfl) | omega | decide) | (refine decBT ?_ ?_; with_reducible first | assumption | rfl) | (refine decBF ?_ ?_; with_reducible first | assumption | rfl) | refine ⟨_, by assumption, ?_⟩ | refine ⟨_, _, _, rfl, ?_⟩ | refine WC.seq (fun K hK => ?_) | (refine hK _ _ _ ?_; clear hK K) | (refine WX.thenExit (K := K) ?_; clear hK K) | (refine WX.thenExit (K := KL) ?_; clear hL KL)))
    exact WX.ret2 rfl rfl rfl (fun w sw => ⟨[], [], ⟨by rw [if_pos (by omega), wordsB, if_pos h3]; rfl, rfl, rfl⟩, sw.to⟩)
  refine WC.sat (fun w sw => sw.ownNil 9 1) ?_
  have hw := wordsL_le n
  have hwl := wordsL_len n
  have hj := join_le n
  (repeat (first | refine vgo ?_ | refine ⟨_, rfl, rfl, ?_⟩ | refine ⟨_, rfl, ?_⟩ | refine ⟨rfl, ?_⟩ | intro hb | (refine altL ?_ ?_; omega) | refine altR ?_ | (refine side ?_ ?_; first | omega | exact True.intro | ((try simp only [List.length_append, List.length_cons, List.length_nil, List.length_map, List.length_replicate, List.length_set, and_true, true_and]); omega) | assumption | (and_intros <;> first | omega | assumption) | decide) | (refine decT ?_ ?_; first | with_reducible assumption | with_reducible rfl | (refine not_not_intro ?_; with_reducible first | assumption | rfl) | omega | decide) | (refine decF ?_ ?_; first | with_reducible assumption | with_reducible rfl | (refine not_not_intro ?_; with_reducible first | assumption | rfl) | omega | decide) | (refine decBT ?_ ?_; with_reducible first | assumption | rfl) | (refine decBF ?_ ?_; with_reducible first | assumption | rfl) | refine ⟨_, by assumption, ?_⟩ | refine ⟨_, _, _, rfl, ?_⟩ | refine WC.seq (fun K hK => ?_) | (refine hK _ _ _ ?_; clear hK K) | (refine WX.thenExit (K := K) ?_; clear hK K) | (refine WX.thenExit (K := KL) ?_; clear hL KL)))
  have hR : ∀ (N : Int) (ov : Value) (m : Nat) (xs : List Value), N = (if n < 0 then -n else n) → m = (minusL n).length → xs = (minusL n).map sV → WK 50 K B [(0, .int .i64 N), (4, ov)] Gf (own 9 1 ov m xs :: Sf) := by
    intro N ov m xs hN hm hxs
    subst hm hxs
    refine hK _ _ _ ?_
    clear hK K
    have hml : (minusL n).length ≤ 1 := by unfold minusL; split <;> simp
    (repeat (first | refine vgo ?_ | refine ⟨_, rfl, rfl, ?_⟩ | refine ⟨_, rfl, ?_⟩ | refine ⟨rfl, ?_⟩ | intro hb | (refine altL ?_ ?_; omega) | refine altR ?_ | (refine side ?_ ?_; first | omega | exact True.intro | ((try simp only [List.length_append, List.length_cons, List.length_nil, List.length_map, List.length_replicate, List.length_set, and_true, true_and]); omega) | assumption | (and_intros <;> first | omega | assumption) | decide) | (refine decT ?_ ?_; first | with_reducible assumption | with_reducible rfl | (refine not_not_intro ?_; with_reducible first | assumption | rfl) | omega | decide) | (refine decF ?_ ?_; first | with_reducible assumption | with_reducible rfl | (refine not_not_intro ?_; with_reducible first | assumption | rfl) | omega | decide) | (refine decBT ?_ ?_; with_reducible first | assumption | rfl) | (refine decBF ?_ ?_; with_reducible first | assumption | rfl) | refine ⟨_, by assumption, ?_⟩ | refine ⟨_, _, _, rfl, ?_⟩ | refine WC.seq (fun K hK => ?_) | (refine hK _ _ _ ?_; clear hK K) | (refine WX.thenExit (K := K) ?_; clear hK K) | (refine WX.thenExit (K := KL) ?_; clear hL KL)))
    refine WC.loop (I := Nat × Value) (fun i => [(25, .int .i64 (i.1 : Nat)), (4, i.2), (0, .int .i64 N), (24, .agg (([1000000, 1000, 1] : List Int).map iV).toArray)]) (fun _ => Gf) (fun i => own 9 1 i.2 (minusL n ++ wP N i.1).length ((minusL n ++ wP N i.1).map sV) :: Sf) (fun i => i.1 ≤ 3) (fun i => 3 - i.1) (0, ov) (by omega) (.cons rfl (.cons rfl (.cons rfl (.cons rfl .nil)))) (fun w h => by simpa [wP] using h.to) ?_
    rintro ⟨i, ov⟩ hi KL hL
    dsimp only at hi ⊢
    have hN2 : 0 ≤ N ∧ N ≤ 999999999 := by subst hN; split <;> omega
    have hwl2 := wP_len N i
    have hwle := wP_len N (i + 1)
    have hu : 0 < unitI i := by unfold unitI; split <;> decide
    have hk : 0 ≤ N / unitI i % 1000 ∧ N / unitI i % 1000 < 1000 := by omega
    have hq0 : 0 ≤ N / unitI i := Int.ediv_nonneg hN2.1 (Int.le_of_lt hu)
    (repeat (first | refine vgo ?_ | refine ⟨_, rfl, rfl, ?_⟩ | refine ⟨_, rfl, ?_⟩ | refine ⟨rfl, ?_⟩ | intro hb | (refine altL ?_ ?_; omega) | refine altR ?_ | (refine side ?_ ?_; first | omega | exact True.intro | ((try simp only [List.length_append, List.length_cons, List.length_nil, List.length_map, List.length_replicate, List.length_set, and_true, true_and]); omega) | assumption | (and_intros <;> first | omega | assumption) | decide) | (refine decT ?_ ?_; first | with_reducible assumption | with_reducible rfl | (refine not_not_intro ?_; with_reducible first | assumption | rfl) | omega | decide) | (refine decF ?_ ?_; first | with_reducible assumption | with_reducible rfl | (refine not_not_intro ?_; with_reducible first | assumption | rfl) | omega | decide) | (refine decBT ?_ ?_; with_reducible first | assumption | rfl) | (refine decBF ?_ ?_; with_reducible first | assumption | rfl) | refine ⟨_, by assumption, ?_⟩ | refine ⟨_, _, _, rfl, ?_⟩ | refine WC.seq (fun K hK => ?_) | (refine hK _ _ _ ?_; clear hK K) | (refine WX.thenExit (K := K) ?_; clear hK K) | (refine WX.thenExit (K := KL) ?_; clear hL KL)))
    refine dcB (fun g1 => ?_) (fun g1 => ?_)
    · have hx : (([1000000, 1000, 1] : List Int).map iV)[i]? = some (iV (unitI i)) := by
        have : i = 0 ∨ i = 1 ∨ i = 2 := by omega
        rcases this with rfl | rfl | rfl <;> rfl
      (repeat (first | refine vgo ?_ | refine ⟨_, rfl, rfl, ?_⟩ | refine ⟨_, rfl, ?_⟩ | refine ⟨rfl, ?_⟩ | intro hb | (refine altL ?_ ?_; omega) | refine altR ?_ | (refine side ?_ ?_; first | omega | exact True.intro | ((try simp only [List.length_append, List.length_cons, List.length_nil, List.length_map, List.length_replicate, List.length_set, and_true, true_and]); omega) | assumption | (and_intros <;> first | omega | assumption) | decide) | (refine decT ?_ ?_; first | with_reducible assumption | with_reducible rfl | (refine not_not_intro ?_; with_reducible first | assumption | rfl) | omega | decide) | (refine decF ?_ ?_; first | with_reducible assumption | with_reducible rfl | (refine not_not_intro ?_; with_reducible first | assumption | rfl) | omega | decide) | (refine decBT ?_ ?_; with_reducible first | assumption | rfl) | (refine decBF ?_ ?_; with_reducible first | assumption | rfl) | refine ⟨_, by assumption, ?_⟩ | refine ⟨_, _, _, rfl, ?_⟩ | refine WC.seq (fun K hK => ?_) | (refine hK _ _ _ ?_; clear hK K) | (refine WX.thenExit (K := K) ?_; clear hK K) | (refine WX.thenExit (K := KL) ?_; clear hL KL)))
      refine dcB (fun g2 => ?_) (fun g2 => ?_)
      · (repeat (first | refine vgo ?_ | refine ⟨_, rfl, rfl, ?_⟩ | refine ⟨_, rfl, ?_⟩ | refine ⟨rfl, ?_⟩ | intro hb | (refine altL ?_ ?_; omega) | refine altR ?_ | (refine side ?_ ?_; first | omega | exact True.intro | ((try simp only [List.length_append, List.length_cons, List.length_nil, List.length_map, List.length_replicate, List.length_set, and_true, true_and]); omega) | assumption | (and_intros <;> first | omega | assumption) | decide) | (refine decT ?_ ?_; first | with_reducible assumption | with_reducible rfl | (refine not_not_intro ?_; with_reducible first | assumption | rfl) | omega | decide) | (refine decF ?_ ?_; first | with_reducible assumption | with_reducible rfl | (refine not_not_intro ?_; with_reducible first | assumption | rfl) | omega | decide) | (refine decBT ?_ ?_; with_reducible first | assumption | rfl) | (refine decBF ?_ ?_; with_reducible first | assumption | rfl) | refine ⟨_, by assumption, ?_⟩ | refine ⟨_, _, _, rfl, ?_⟩ | refine WC.seq (fun K hK => ?_) | (refine hK _ _ _ ?_; clear hK K) | (refine WX.thenExit (K := K) ?_; clear hK K) | (refine WX.thenExit (K := KL) ?_; clear hL KL)))
        have e : wP N (i + 1) = wP N i := by rw [wP, partI, if_pos g2, List.append_nil]
        exact (hL (i + 1, ov) (by dsimp only; omega) (by dsimp only; omega)).conv (.cons rfl (.cons rfl (.cons rfl (.cons rfl .nil)))) (fun w h => by rw [e]; exact h.to)
      · have hhl := hunI_len (N / unitI i % 1000)
        (repeat (first | refine vgo ?_ | refine ⟨_, rfl, rfl, ?_⟩ | refine ⟨_, rfl, ?_⟩ | refine ⟨rfl, ?_⟩ | intro hb | (refine altL ?_ ?_; omega) | refine altR ?_ | (refine side ?_ ?_; first | omega | exact True.intro | ((try simp only [List.length_append, List.length_cons, List.length_nil, List.length_map, List.length_replicate, List.length_set, and_true, true_and]); omega) | assumption | (and_intros <;> first | omega | assumption) | decide) | (refine decT ?_ ?_; first | with_reducible assumption | with_reducible rfl | (refine not_not_intro ?_; with_reducible first | assumption | rfl) | omega | decide) | (refine decF ?_ ?_; first | with_reducible assumption | with_reducible rfl | (refine not_not_intro ?_; with_reducible first | assumption | rfl) | omega | decide) | (refine decBT ?_ ?_; with_reducible first | assumption | rfl) | (refine decBF ?_ ?_; with_reducible first | assumption | rfl) | refine ⟨_, by assumption, ?_⟩ | refine ⟨_, _, _, rfl, ?_⟩ | refine WC.seq (fun K hK => ?_) | (refine hK _ _ _ ?_; clear hK K) | (refine WX.thenExit (K := K) ?_; clear hK K) | (refine WX.thenExit (K := KL) ?_; clear hL KL)))
        refine WL.append rfl rfl rfl ?_; refine AppV.s rfl ?_ ?_; rotate_left; intro hok av
        · (repeat (first | refine vgo ?_ | refine ⟨_, rfl, rfl, ?_⟩ | refine ⟨_, rfl, ?_⟩ | refine ⟨rfl, ?_⟩ | intro hb | (refine altL ?_ ?_; omega) | refine altR ?_ | (refine side ?_ ?_; first | omega | exact True.intro | ((try simp only [List.length_append, List.length_cons, List.length_nil, List.length_map, List.length_replicate, List.length_set, and_true, true_and]); omega) | assumption | (and_intros <;> first | omega | assumption) | decide) | (refine decT ?_ ?_; first | with_reducible assumption | with_reducible rfl | (refine not_not_intro ?_; with_reducible first | assumption | rfl) | omega | decide) | (refine decF ?_ ?_; first | with_reducible assumption | with_reducible rfl | (refine not_not_intro ?_; with_reducible first | assumption | rfl) | omega | decide) | (refine decBT ?_ ?_; with_reducible first | assumption | rfl) | (refine decBF ?_ ?_; with_reducible first | assumption | rfl) | refine ⟨_, by assumption, ?_⟩ | refine ⟨_, _, _, rfl, ?_⟩ | refine WC.seq (fun K hK => ?_) | (refine hK _ _ _ ?_; clear hK K) | (refine WX.thenExit (K := K) ?_; clear hK K) | (refine WX.thenExit (K := KL) ?_; clear hL KL)))
          refine dcB (fun g3 => ?_) (fun g3 => ?_)
          · have hx2 : (([[109, 105, 108, 108, 105, 111, 110], [116, 104, 111, 117, 115, 97, 110, 100]] : List (List UInt8)).map sV)[i]? = some (sV ((tailI i).getD 0 [])) := by
              have : i = 0 ∨ i = 1 := by omega
              rcases this with rfl | rfl <;> rfl
            (repeat (first | refine vgo ?_ | refine ⟨_, rfl, rfl, ?_⟩ | refine ⟨_, rfl, ?_⟩ | refine ⟨rfl, ?_⟩ | intro hb | (refine altL ?_ ?_; omega) | refine altR ?_ | (refine side ?_ ?_; first | omega | exact True.intro | ((try simp only [List.length_append, List.length_cons, List.length_nil, List.length_map, List.length_replicate, List.length_set, and_true, true_and]); omega) | assumption | (and_intros <;> first | omega | assumption) | decide) | (refine decT ?_ ?_; first | with_reducible assumption | with_reducible rfl | (refine not_not_intro ?_; with_reducible first | assumption | rfl) | omega | decide) | (refine decF ?_ ?_; first | with_reducible assumption | with_reducible rfl | (refine not_not_intro ?_; with_reducible first | assumption | rfl) | omega | decide) | (refine decBT ?_ ?_; with_reducible first | assumption | rfl) | (refine decBF ?_ ?_; with_reducible first | assumption | rfl) | refine ⟨_, by assumption, ?_⟩ | refine ⟨_, _, _, rfl, ?_⟩ | refine WC.seq (fun K hK => ?_) | (refine hK _ _ _ ?_; clear hK K) | (refine WX.thenExit (K := K) ?_; clear hK K) | (refine WX.thenExit (K := KL) ?_; clear hL KL)))
            refine WL.build rfl rfl rfl rfl rfl ?_; intro bv; (try dsimp only [List.cons_append, List.nil_append])
            (repeat (first | refine vgo ?_ | refine ⟨_, rfl, rfl, ?_⟩ | refine ⟨_, rfl, ?_⟩ | refine ⟨rfl, ?_⟩ | intro hb | (refine altL ?_ ?_; omega) | refine altR ?_ | (refine side ?_ ?_; first | omega | exact True.intro | ((try simp only [List.length_append, List.length_cons, List.length_nil, List.length_map, List.length_replicate, List.length_set, and_true, true_and]); omega) | assumption | (and_intros <;> first | omega | assumption) | decide) | (refine decT ?_ ?_; first | with_reducible assumption | with_reducible rfl | (refine not_not_intro ?_; with_reducible first | assumption | rfl) | omega | decide) | (refine decF ?_ ?_; first | with_reducible assumption | with_reducible rfl | (refine not_not_intro ?_; with_reducible first | assumption | rfl) | omega | decide) | (refine decBT ?_ ?_; with_reducible first | assumption | rfl) | (refine decBF ?_ ?_; with_reducible first | assumption | rfl) | refine ⟨_, by assumption, ?_⟩ | refine ⟨_, _, _, rfl, ?_⟩ | refine WC.seq (fun K hK => ?_) | (refine hK _ _ _ ?_; clear hK K) | (refine WX.thenExit (K := K) ?_; clear hK K) | (refine WX.thenExit (K := KL) ?_; clear hL KL)))
            refine WL.append rfl rfl rfl ?_; refine AppV.o rfl ?_ ?_; rotate_left; intro av2
            · (repeat (first | refine vgo ?_ | refine ⟨_, rfl, rfl, ?_⟩ | refine ⟨_, rfl, ?_⟩ | refine ⟨rfl, ?_⟩ | intro hb | (refine altL ?_ ?_; omega) | refine altR ?_ | (refine side ?_ ?_; first | omega | exact True.intro | ((try simp only [List.length_append, List.length_cons, List.length_nil, List.length_map, List.length_replicate, List.length_set, and_true, true_and]); omega) | assumption | (and_intros <;> first | omega | assumption) | decide) | (refine decT ?_ ?_; first | with_reducible assumption | with_reducible rfl | (refine not_not_intro ?_; with_reducible first | assumption | rfl) | omega | decide) | (refine decF ?_ ?_; first | with_reducible assumption | with_reducible rfl | (refine not_not_intro ?_; with_reducible first | assumption | rfl) | omega | decide) | (refine decBT ?_ ?_; with_reducible first | assumption | rfl) | (refine decBF ?_ ?_; with_reducible first | assumption | rfl) | refine ⟨_, by assumption, ?_⟩ | refine ⟨_, _, _, rfl, ?_⟩ | refine WC.seq (fun K hK => ?_) | (refine hK _ _ _ ?_; clear hK K) | (refine WX.thenExit (K := K) ?_; clear hK K) | (refine WX.thenExit (K := KL) ?_; clear hL KL)))
              have e : wP N (i + 1) = wP N i ++ (hunI (N / unitI i % 1000) ++ [(tailI i).getD 0 []]) := by
                rw [wP, partI, if_neg g2]
                have : i = 0 ∨ i = 1 := by omega
                rcases this with rfl | rfl <;> rfl
              exact (hL (i + 1, av2) (by dsimp only; omega) (by dsimp only; omega)).conv (.cons rfl (.cons rfl (.cons rfl (.cons rfl .nil)))) (fun w h => by
                have el : (minusL n ++ wP N (i + 1)).length = (minusL n ++ wP N i).length + (hunI (N / unitI i % 1000)).length + 1 := by rw [e]; simp; omega
                have ex : (minusL n ++ wP N (i + 1)).map sV = (minusL n ++ wP N i).map sV ++ flat ((hunI (N / unitI i % 1000)).map fun l => Value.string ⟨l.toArray⟩) ++ [sV ((tailI i).getD 0 [])] := by rw [e, flat_map_one (fun _ => rfl)]; simp
                dsimp only
                rw [el, ex]; exact h.to)
            · simp only [List.length_append]; omega
          · (repeat (first | refine vgo ?_ | refine ⟨_, rfl, rfl, ?_⟩ | refine ⟨_, rfl, ?_⟩ | refine ⟨rfl, ?_⟩ | intro hb | (refine altL ?_ ?_; omega) | refine altR ?_ | (refine side ?_ ?_; first | omega | exact True.intro | ((try simp only [List.length_append, List.length_cons, List.length_nil, List.length_map, List.length_replicate, List.length_set, and_true, true_and]); omega) | assumption | (and_intros <;> first | omega | assumption) | decide) | (refine decT ?_ ?_; first | with_reducible assumption | with_reducible rfl | (refine not_not_intro ?_; with_reducible first | assumption | rfl) | omega | decide) | (refine decF ?_ ?_; first | with_reducible assumption | with_reducible rfl | (refine not_not_intro ?_; with_reducible first | assumption | rfl) | omega | decide) | (refine decBT ?_ ?_; with_reducible first | assumption | rfl) | (refine decBF ?_ ?_; with_reducible first | assumption | rfl) | refine ⟨_, by assumption, ?_⟩ | refine ⟨_, _, _, rfl, ?_⟩ | refine WC.seq (fun K hK => ?_) | (refine hK _ _ _ ?_; clear hK K) | (refine WX.thenExit (K := K) ?_; clear hK K) | (refine WX.thenExit (K := KL) ?_; clear hL KL)))
            have e : wP N (i + 1) = wP N i ++ hunI (N / unitI i % 1000) := by
              obtain rfl : i = 2 := by omega
              rw [wP, partI, if_neg g2, show tailI 2 = [] from rfl, List.append_nil]
            exact (hL (i + 1, av) (by dsimp only; omega) (by dsimp only; omega)).conv (.cons rfl (.cons rfl (.cons rfl (.cons rfl .nil)))) (fun w h => by
              have el : (minusL n ++ wP N (i + 1)).length = (minusL n ++ wP N i).length + (hunI (N / unitI i % 1000)).length := by rw [e]; simp; omega
              have ex : (minusL n ++ wP N (i + 1)).map sV = (minusL n ++ wP N i).map sV ++ flat ((hunI (N / unitI i % 1000)).map fun l => Value.string ⟨l.toArray⟩) := by rw [e, flat_map_one (fun _ => rfl)]; simp
              dsimp only
              rw [el, ex]; exact h.to)
        · simp only [List.length_append]; omega
    · obtain rfl : i = 3 := by omega
      have hv : wordsL n = minusL n ++ wP N 3 := by rw [wordsL, hN]
      (repeat (first | refine vgo ?_ | refine ⟨_, rfl, rfl, ?_⟩ | refine ⟨_, rfl, ?_⟩ | refine ⟨rfl, ?_⟩ | intro hb | (refine altL ?_ ?_; omega) | refine altR ?_ | (refine side ?_ ?_; first | omega | exact True.intro | ((try simp only [List.length_append, List.length_cons, List.length_nil, List.length_map, List.length_replicate, List.length_set, and_true, true_and]); omega) | assumption | (and_intros <;> first | omega | assumption) | decide) | (refine decT ?_ ?_; first | with_reducible assumption | with_reducible rfl | (refine not_not_intro ?_; with_reducible first | assumption | rfl) | omega | decide) | (refine decF ?_ ?_; first | with_reducible assumption | with_reducible rfl | (refine not_not_intro ?_; with_reducible first | assumption | rfl) | omega | decide) | (refine decBT ?_ ?_; with_reducible first | assumption | rfl) | (refine decBF ?_ ?_; with_reducible first | assumption | rfl) | refine ⟨_, by assumption, ?_⟩ | refine ⟨_, _, _, rfl, ?_⟩ | refine WC.seq (fun K hK => ?_) | (refine hK _ _ _ ?_; clear hK K) | (refine WX.thenExit (K := K) ?_; clear hK K) | (refine WX.thenExit (K := KL) ?_; clear hL KL)))
      refine CallV.sat (fun w sw => sw.pub (R := (Ty.str)) (l := (wordsL n)) (v := ov) SelOwn.h rfl (by rw [hv]; exact strs_flat _) (by rw [hv]) (fun x hx => Nat.le_trans (hw x hx) (by decide))) ?_
      (repeat (first | refine vgo ?_ | refine ⟨_, rfl, rfl, ?_⟩ | refine ⟨_, rfl, ?_⟩ | refine ⟨rfl, ?_⟩ | intro hb | (refine altL ?_ ?_; omega) | refine altR ?_ | (refine side ?_ ?_; first | omega | exact True.intro | ((try simp only [List.length_append, List.length_cons, List.length_nil, List.length_map, List.length_replicate, List.length_set, and_true, true_and]); omega) | assumption | (and_intros <;> first | omega | assumption) | decide) | (refine decT ?_ ?_; first | with_reducible assumption | with_reducible rfl | (refine not_not_intro ?_; with_reducible first | assumption | rfl) | omega | decide) | (refine decF ?_ ?_; first | with_reducible assumption | with_reducible rfl | (refine not_not_intro ?_; with_reducible first | assumption | rfl) | omega | decide) | (refine decBT ?_ ?_; with_reducible first | assumption | rfl) | (refine decBF ?_ ?_; with_reducible first | assumption | rfl) | refine ⟨_, by assumption, ?_⟩ | refine ⟨_, _, _, rfl, ?_⟩ | refine WC.seq (fun K hK => ?_) | (refine hK _ _ _ ?_; clear hK K) | (refine WX.thenExit (K := K) ?_; clear hK K) | (refine WX.thenExit (K := KL) ?_; clear hL KL)))
      exact WX.ret2 rfl rfl rfl (fun w sw => ⟨[], [], ⟨by rw [if_pos (by omega), wordsB, if_neg h3], rfl, rfl⟩, sw.to⟩)
  by_cases h4 : n < 0
  · (repeat (first | refine vgo ?_ | refine ⟨_, rfl, rfl, ?_⟩ | refine ⟨_, rfl, ?_⟩ | refine ⟨rfl, ?_⟩ | intro hb | (refine altL ?_ ?_; omega) | refine altR ?_ | (refine side ?_ ?_; first | omega | exact True.intro | ((try simp only [List.length_append, List.length_cons, List.length_nil, List.length_map, List.length_replicate, List.length_set, and_true, true_and]); omega) | assumption | (and_intros <;> first | omega | assumption) | decide) | (refine decT ?_ ?_; first | with_reducible assumption | with_reducible rfl | (refine not_not_intro ?_; with_reducible first | assumption | rfl) | omega | decide) | (refine decF ?_ ?_; first | with_reducible assumption | with_reducible rfl | (refine not_not_intro ?_; with_reducible first | assumption | rfl) | omega | decide) | (refine decBT ?_ ?_; with_reducible first | assumption | rfl) | (refine decBF ?_ ?_; with_reducible first | assumption | rfl) | refine ⟨_, by assumption, ?_⟩ | refine ⟨_, _, _, rfl, ?_⟩ | refine WC.seq (fun K hK => ?_) | (refine hK _ _ _ ?_; clear hK K) | (refine WX.thenExit (K := K) ?_; clear hK K) | (refine WX.thenExit (K := KL) ?_; clear hL KL)))
    refine WL.build rfl rfl rfl rfl rfl ?_; intro bv; (try dsimp only [List.cons_append, List.nil_append])
    (repeat (first | refine vgo ?_ | refine ⟨_, rfl, rfl, ?_⟩ | refine ⟨_, rfl, ?_⟩ | refine ⟨rfl, ?_⟩ | intro hb | (refine altL ?_ ?_; omega) | refine altR ?_ | (refine side ?_ ?_; first | omega | exact True.intro | ((try simp only [List.length_append, List.length_cons, List.length_nil, List.length_map, List.length_replicate, List.length_set, and_true, true_and]); omega) | assumption | (and_intros <;> first | omega | assumption) | decide) | (refine decT ?_ ?_; first | with_reducible assumption | with_reducible rfl | (refine not_not_intro ?_; with_reducible first | assumption | rfl) | omega | decide) | (refine decF ?_ ?_; first | with_reducible assumption | with_reducible rfl | (refine not_not_intro ?_; with_reducible first | assumption | rfl) | omega | decide) | (refine decBT ?_ ?_; with_reducible first | assumption | rfl) | (refine decBF ?_ ?_; with_reducible first | assumption | rfl) | refine ⟨_, by assumption, ?_⟩ | refine ⟨_, _, _, rfl, ?_⟩ | refine WC.seq (fun K hK => ?_) | (refine hK _ _ _ ?_; clear hK K) | (refine WX.thenExit (K := K) ?_; clear hK K) | (refine WX.thenExit (K := KL) ?_; clear hL KL)))
    refine WL.append rfl rfl rfl ?_; refine AppV.o rfl ?_ ?_; rotate_left; intro av
    · (repeat (first | refine vgo ?_ | refine ⟨_, rfl, rfl, ?_⟩ | refine ⟨_, rfl, ?_⟩ | refine ⟨rfl, ?_⟩ | intro hb | (refine altL ?_ ?_; omega) | refine altR ?_ | (refine side ?_ ?_; first | omega | exact True.intro | ((try simp only [List.length_append, List.length_cons, List.length_nil, List.length_map, List.length_replicate, List.length_set, and_true, true_and]); omega) | assumption | (and_intros <;> first | omega | assumption) | decide) | (refine decT ?_ ?_; first | with_reducible assumption | with_reducible rfl | (refine not_not_intro ?_; with_reducible first | assumption | rfl) | omega | decide) | (refine decF ?_ ?_; first | with_reducible assumption | with_reducible rfl | (refine not_not_intro ?_; with_reducible first | assumption | rfl) | omega | decide) | (refine decBT ?_ ?_; with_reducible first | assumption | rfl) | (refine decBF ?_ ?_; with_reducible first | assumption | rfl) | refine ⟨_, by assumption, ?_⟩ | refine ⟨_, _, _, rfl, ?_⟩ | refine WC.seq (fun K hK => ?_) | (refine hK _ _ _ ?_; clear hK K) | (refine WX.thenExit (K := K) ?_; clear hK K) | (refine WX.thenExit (K := KL) ?_; clear hL KL)))
      exact (hR (-n) av (0 + 1) ([] ++ [sV [109, 105, 110, 117, 115]]) (by rw [if_pos h4]) (by rw [minusL, if_pos h4]; rfl) (by rw [minusL, if_pos h4]; rfl)).conv (.cons (by rw [show IntKind.i64.wrap (-n) = -n from wrap_i64 (by omega)]; rfl) (.cons rfl .nil)) (fun w h => h.to)
    · omega
  · (repeat (first | refine vgo ?_ | refine ⟨_, rfl, rfl, ?_⟩ | refine ⟨_, rfl, ?_⟩ | refine ⟨rfl, ?_⟩ | intro hb | (refine altL ?_ ?_; omega) | refine altR ?_ | (refine side ?_ ?_; first | omega | exact True.intro | ((try simp only [List.length_append, List.length_cons, List.length_nil, List.length_map, List.length_replicate, List.length_set, and_true, true_and]); omega) | assumption | (and_intros <;> first | omega | assumption) | decide) | (refine decT ?_ ?_; first | with_reducible assumption | with_reducible rfl | (refine not_not_intro ?_; with_reducible first | assumption | rfl) | omega | decide) | (refine decF ?_ ?_; first | with_reducible assumption | with_reducible rfl | (refine not_not_intro ?_; with_reducible first | assumption | rfl) | omega | decide) | (refine decBT ?_ ?_; with_reducible first | assumption | rfl) | (refine decBF ?_ ?_; with_reducible first | assumption | rfl) | refine ⟨_, by assumption, ?_⟩ | refine ⟨_, _, _, rfl, ?_⟩ | refine WC.seq (fun K hK => ?_) | (refine hK _ _ _ ?_; clear hK K) | (refine WX.thenExit (K := K) ?_; clear hK K) | (refine WX.thenExit (K := KL) ?_; clear hL KL)))
    exact (hR n _ 0 [] (by rw [if_neg h4]) (by rw [minusL, if_neg h4]; rfl) (by rw [minusL, if_neg h4]; rfl)).conv (.cons rfl (.cons rfl .nil)) (fun w h => h.to)
instance words_pure {G : List Pers} {n : Int} : PureF Try.prog 30 [.int .i64 n] G True (if wOk n then .tuple #[.string (bs (wordsB n)), .int .i64 0] else .tuple #[.string (bs []), .int .i64 1]) := ⟨fun _ => PureF.of0 (words_fun n)⟩
end Go.Qd
