/-
  Lines in an order: the document's lists that are made.
-/
import Derived.Test.YticbfcngepfecaaPSeq1
namespace Go.Qd
open Go Go.Proofs
def newL (m : Nat) : List Ln := (List.range m).map fun (k : Nat) => ⟨0, (k : Int) + 1, false⟩
theorem newL_snoc (m : Nat) : newL (m + 1) = newL m ++ [⟨0, (m : Int) + 1, false⟩] := by unfold newL; rw [List.range_succ, List.map_append]; rfl
theorem newL_len (m : Nat) : (newL m).length = m := by unfold newL; rw [List.length_map, List.length_range]
theorem newL_ok {m : Nat} (h : m ≤ 64) : ∀ x ∈ newL m, okLn x := fun x hx => by
  unfold newL at hx
  obtain ⟨k, hk, rfl⟩ := List.mem_map.1 hx
  have := List.mem_range.1 hk
  unfold okLn okId; dsimp only; omega
abbrev lnC (l : List Ln) : List Value := flat (l.map fun a => a.V)
theorem lnC_app (a b : List Ln) : lnC (a ++ b) = lnC a ++ lnC b := by simp [lnC, flat]
theorem lnC_one (x : Ln) : lnC [x] = [.int .u64 (x.t : Int), .int .i64 x.r, .bool x.d] ++ [] := rfl
abbrev idC (l : List (Nat × Int)) : List Value := flat (l.map fun a => idV a.1 a.2)
theorem idC_one (a : Nat × Int) : idC [a] = [.int .u64 (a.1 : Int), .int .i64 a.2] ++ [] := rfl
theorem idC_app (a b : List (Nat × Int)) : idC (a ++ b) = idC a ++ idC b := by simp [idC, flat]
theorem take_snoc12 {α : Type} {l : List α} {i : Nat} {x : α} (h : l[i]? = some x) : l.take (i + 1) = l.take i ++ [x] := by
  rw [List.take_add_one, h]; rfl
def nOf (n : Int) : Nat := (min (max n 0) 64).toNat
theorem rnew_fun (n : Int) : Fun Try.prog 43 [.int .i64 n] [] [] (fun u G S => G = [rd (Ty.sl lnT) (newL (nOf n)) u] ∧ S = []) := by
  refine Fun.enter Try.func43 (by kernel_rfl) rfl Try.ntmps43 rfl (fun B Gf Sf => ?_); (try simp only [List.cons_append]); (try simp only [List.nil_append]); simp only [argEnv]
  have hm : nOf n ≤ 64 := by unfold nOf; omega
  have hn1 : ∀ i : Nat, i < nOf n → (i : Int) + 1 ≤ n ∧ (i : Int) + 1 ≤ 64 := fun i h => by unfold nOf at h; omega
  have hn2 : ∀ i : Nat, ¬ i < nOf n → ¬ (i : Int) + 1 ≤ n ∨ ¬ (i : Int) + 1 ≤ 64 := fun i h => by unfold nOf at h; omega
  (repeat (first | refine vgo ?_ | refine ⟨_, rfl, rfl, ?_⟩ | refine ⟨_, rfl, ?_⟩ | refine ⟨rfl, ?_⟩ | intro hb | (refine altL ?_ ?_; omega) | refine altR ?_ | (refine side ?_ ?_; first | omega | exact True.intro | ((try simp only [List.length_append, List.length_cons, List.length_nil, List.length_map, List.length_replicate, List.length_set, and_true, true_and]); omega) | assumption | (and_intros <;> first | omega | assumption) | decide) | (refine decT ?_ ?_; first | with_reducible assumption | with_reducible rfl | (refine not_not_intro ?_; with_reducible first | assumption | rfl) | omega | decide) | (refine decF ?_ ?_; first | with_reducible assumption | with_reducible rfl | (refine not_not_intro ?_; with_reducible first | assumption | rfl) | omega | decide) | (refine decBT ?_ ?_; with_reducible first | assumption | rfl | exact Bool.not_false) | (refine decBF ?_ ?_; with_reducible first | assumption | rfl | exact Bool.not_true) | refine ⟨_, by assumption, ?_⟩ | refine ⟨_, _, _, rfl, ?_⟩ | refine WC.seq (fun K hK => ?_) | (refine hK _ _ _ ?_; clear hK K) | (refine hK _ _ _ _ rfl ?_; clear hK K) | (refine WX.thenExit (K := K) ?_; clear hK K) | (refine WX.thenExit (K := KL) ?_; clear hL KL)))
  refine WC.loop (I := Nat × Value) (fun i => [(0, .int .i64 n), (3, i.2), (4, .int .i64 ((i.1 : Int) + 1))]) (fun _ => Gf) (fun i => own 110 3 i.2 i.1 (lnC (newL i.1)) :: Sf) (fun i => i.1 ≤ nOf n) (fun i => nOf n - i.1) (0, .slice none 0 0) (Nat.zero_le _) (.cons rfl (.cons rfl (.cons rfl .nil))) (fun w h => (h.ownNil 110 3)) ?_
  rintro ⟨i, ov⟩ hi KL hL
  dsimp only at hi
  by_cases g : i < nOf n
  · obtain ⟨g1, g2⟩ := hn1 i g
    (repeat (first | refine vgo ?_ | refine ⟨_, rfl, rfl, ?_⟩ | refine ⟨_, rfl, ?_⟩ | refine ⟨rfl, ?_⟩ | intro hb | (refine altL ?_ ?_; omega) | refine altR ?_ | (refine side ?_ ?_; first | omega | exact True.intro | ((try simp only [List.length_append, List.length_cons, List.length_nil, List.length_map, List.length_replicate, List.length_set, and_true, true_and]); omega) | assumption | (and_intros <;> first | omega | assumption) | decide) | (refine decT ?_ ?_; first | with_reducible assumption | with_reducible rfl | (refine not_not_intro ?_; with_reducible first | assumption | rfl) | omega | decide) | (refine decF ?_ ?_; first | with_reducible assumption | with_reducible rfl | (refine not_not_intro ?_; with_reducible first | assumption | rfl) | omega | decide) | (refine decBT ?_ ?_; with_reducible first | assumption | rfl | exact Bool.not_false) | (refine decBF ?_ ?_; with_reducible first | assumption | rfl | exact Bool.not_true) | refine ⟨_, by assumption, ?_⟩ | refine ⟨_, _, _, rfl, ?_⟩ | refine WC.seq (fun K hK => ?_) | (refine hK _ _ _ ?_; clear hK K) | (refine hK _ _ _ _ rfl ?_; clear hK K) | (refine WX.thenExit (K := K) ?_; clear hK K) | (refine WX.thenExit (K := KL) ?_; clear hL KL)))
    refine (hL (i + 1, hb) g (by dsimp only; omega)).conv (.cons rfl (.cons rfl (.cons rfl .nil))) (fun w h => ?_)
    dsimp only at h ⊢
    rw [newL_snoc, lnC_app, lnC_one]
    exact h.to
  · obtain rfl : i = nOf n := by omega
    have fin : ∀ w, Sat B ([] ++ Gf) (own 110 3 ov (nOf n) (lnC (newL (nOf n))) :: Sf) w → ∃ G' S', (G' = [rd (Ty.sl lnT) (newL (nOf n)) ov] ∧ S' = []) ∧ Sat B (G' ++ ([] ++ Gf)) (S' ++ Sf) w := fun w sw =>
      ⟨_, _, ⟨rfl, rfl⟩, (sw.pub (R := lnT) (l := newL (nOf n)) (v := ov) SelOwn.h rfl rfl (newL_len _).symm (newL_ok hm)).to⟩
    by_cases g1 : (nOf n : Int) + 1 ≤ n
    · have g2 : ¬ (nOf n : Int) + 1 ≤ 64 := (hn2 _ g).resolve_left (fun h => h g1)
      (repeat (first | refine vgo ?_ | refine ⟨_, rfl, rfl, ?_⟩ | refine ⟨_, rfl, ?_⟩ | refine ⟨rfl, ?_⟩ | intro hb | (refine altL ?_ ?_; omega) | refine altR ?_ | (refine side ?_ ?_; first | omega | exact True.intro | ((try simp only [List.length_append, List.length_cons, List.length_nil, List.length_map, List.length_replicate, List.length_set, and_true, true_and]); omega) | assumption | (and_intros <;> first | omega | assumption) | decide) | (refine decT ?_ ?_; first | with_reducible assumption | with_reducible rfl | (refine not_not_intro ?_; with_reducible first | assumption | rfl) | omega | decide) | (refine decF ?_ ?_; first | with_reducible assumption | with_reducible rfl | (refine not_not_intro ?_; with_reducible first | assumption | rfl) | omega | decide) | (refine decBT ?_ ?_; with_reducible first | assumption | rfl | exact Bool.not_false) | (refine decBF ?_ ?_; with_reducible first | assumption | rfl | exact Bool.not_true) | refine ⟨_, by assumption, ?_⟩ | refine ⟨_, _, _, rfl, ?_⟩ | refine WC.seq (fun K hK => ?_) | (refine hK _ _ _ ?_; clear hK K) | (refine hK _ _ _ _ rfl ?_; clear hK K) | (refine WX.thenExit (K := K) ?_; clear hK K) | (refine WX.thenExit (K := KL) ?_; clear hL KL)))
      exact WX.ret1 rfl rfl fin
    · (repeat (first | refine vgo ?_ | refine ⟨_, rfl, rfl, ?_⟩ | refine ⟨_, rfl, ?_⟩ | refine ⟨rfl, ?_⟩ | intro hb | (refine altL ?_ ?_; omega) | refine altR ?_ | (refine side ?_ ?_; first | omega | exact True.intro | ((try simp only [List.length_append, List.length_cons, List.length_nil, List.length_map, List.length_replicate, List.length_set, and_true, true_and]); omega) | assumption | (and_intros <;> first | omega | assumption) | decide) | (refine decT ?_ ?_; first | with_reducible assumption | with_reducible rfl | (refine not_not_intro ?_; with_reducible first | assumption | rfl) | omega | decide) | (refine decF ?_ ?_; first | with_reducible assumption | with_reducible rfl | (refine not_not_intro ?_; with_reducible first | assumption | rfl) | omega | decide) | (refine decBT ?_ ?_; with_reducible first | assumption | rfl | exact Bool.not_false) | (refine decBF ?_ ?_; with_reducible first | assumption | rfl | exact Bool.not_true) | refine ⟨_, by assumption, ?_⟩ | refine ⟨_, _, _, rfl, ?_⟩ | refine WC.seq (fun K hK => ?_) | (refine hK _ _ _ ?_; clear hK K) | (refine hK _ _ _ _ rfl ?_; clear hK K) | (refine WX.thenExit (K := K) ?_; clear hK K) | (refine WX.thenExit (K := KL) ?_; clear hL KL)))
      exact WX.ret1 rfl rfl fin
theorem seenL_snoc {l : List Ln} {i : Nat} {x : Ln} (h : l[i]? = some x) : seenL (l.take (i + 1)) = seenL (l.take i) ++ (if x.d then [] else [(x.t, x.r)]) := by
  unfold seenL
  rw [take_snoc12 h, List.filter_append, List.map_append, List.filter_cons]
  cases x.d <;> simp
theorem seenL_len (l : List Ln) : (seenL l).length ≤ l.length := by unfold seenL; rw [List.length_map]; exact List.length_filter_le _ _
theorem seenL_ok {l : List Ln} (h : ∀ x ∈ l, okLn x) : ∀ a ∈ seenL l, okId a.1 a.2 := fun a ha => by
  unfold seenL at ha
  obtain ⟨x, hx, rfl⟩ := List.mem_map.1 ha
  exact h x (List.mem_filter.1 hx).1
theorem rseen_fun (l : List Ln) (v : Value) (hl : l.length ≤ 100000) : Fun Try.prog 47 [v] [rd (Ty.sl lnT) l v] [] (fun u G S => G = [rd (Ty.sl idT) (seenL l) u] ∧ S = []) := by
  refine Fun.enter Try.func47 (by kernel_rfl) rfl Try.ntmps47 rfl (fun B Gf Sf => ?_); (try simp only [List.cons_append]); (try simp only [List.nil_append]); simp only [argEnv]
  refine WC.ex (fun w sw => sw.oks (f := fun a : Ln => a.V) (ok := okLn) (R := lnT) (l := l) (v := v) RdSl.h) (fun okl => ?_)
  refine WC.ex (fun w sw => sw.len_le (RdSl.h (v := v))) (fun hlv => ?_)
  (repeat (first | refine vgo ?_ | refine ⟨_, rfl, rfl, ?_⟩ | refine ⟨_, rfl, ?_⟩ | refine ⟨rfl, ?_⟩ | intro hb | (refine altL ?_ ?_; omega) | refine altR ?_ | (refine side ?_ ?_; first | omega | exact True.intro | ((try simp only [List.length_append, List.length_cons, List.length_nil, List.length_map, List.length_replicate, List.length_set, and_true, true_and]); omega) | assumption | (and_intros <;> first | omega | assumption) | decide) | (refine decT ?_ ?_; first | with_reducible assumption | with_reducible rfl | (refine not_not_intro ?_; with_reducible first | assumption | rfl) | omega | decide) | (refine decF ?_ ?_; first | with_reducible assumption | with_reducible rfl | (refine not_not_intro ?_; with_reducible first | assumption | rfl) | omega | decide) | (refine decBT ?_ ?_; with_reducible first | assumption | rfl | exact Bool.not_false) | (refine decBF ?_ ?_; with_reducible first | assumption | rfl | exact Bool.not_true) | refine ⟨_, by assumption, ?_⟩ | refine ⟨_, _, _, rfl, ?_⟩ | refine WC.seq (fun K hK => ?_) | (refine hK _ _ _ ?_; clear hK K) | (refine hK _ _ _ _ rfl ?_; clear hK K) | (refine WX.thenExit (K := K) ?_; clear hK K) | (refine WX.thenExit (K := KL) ?_; clear hL KL)))
  refine WC.loop (I := Nat × Value) (fun i => [(0, v), (3, i.2), (4, .int .i64 (i.1 : Nat))]) (fun _ => rd (Ty.sl lnT) l v :: Gf) (fun i => own 38 2 i.2 (seenL (l.take i.1)).length (idC (seenL (l.take i.1))) :: Sf) (fun i => i.1 ≤ l.length) (fun i => l.length - i.1) (0, .slice none 0 0) (Nat.zero_le _) (.cons rfl (.cons rfl (.cons rfl .nil))) (fun w h => (h.ownNil 38 2)) ?_
  rintro ⟨i, ov⟩ hi KL hL
  dsimp only at hi
  have hlen : (seenL (l.take i)).length ≤ i := Nat.le_trans (seenL_len _) (by rw [List.length_take]; omega)
  by_cases gg : i < l.length
  · obtain ⟨x, hx⟩ : ∃ x, l[i]? = some x := ⟨_, List.getElem?_eq_getElem gg⟩
    have htk := seenL_snoc hx
    obtain ⟨xt, xr, xd⟩ := x
    cases xd with
    | true =>
      rw [if_pos rfl, List.append_nil] at htk
      (repeat (first | refine vgo ?_ | refine ⟨_, rfl, rfl, ?_⟩ | refine ⟨_, rfl, ?_⟩ | refine ⟨rfl, ?_⟩ | intro hb | (refine altL ?_ ?_; omega) | refine altR ?_ | (refine side ?_ ?_; first | omega | exact True.intro | ((try simp only [List.length_append, List.length_cons, List.length_nil, List.length_map, List.length_replicate, List.length_set, and_true, true_and]); omega) | assumption | (and_intros <;> first | omega | assumption) | decide) | (refine decT ?_ ?_; first | with_reducible assumption | with_reducible rfl | (refine not_not_intro ?_; with_reducible first | assumption | rfl) | omega | decide) | (refine decF ?_ ?_; first | with_reducible assumption | with_reducible rfl | (refine not_not_intro ?_; with_reducible first | assumption | rfl) | omega | decide) | (refine decBT ?_ ?_; with_reducible first | assumption | rfl | exact Bool.not_false) | (refine decBF ?_ ?_; with_reducible first | assumption | rfl | exact Bool.not_true) | refine ⟨_, by assumption, ?_⟩ | refine ⟨_, _, _, rfl, ?_⟩ | refine WC.seq (fun K hK => ?_) | (refine hK _ _ _ ?_; clear hK K) | (refine hK _ _ _ _ rfl ?_; clear hK K) | (refine WX.thenExit (K := K) ?_; clear hK K) | (refine WX.thenExit (K := KL) ?_; clear hL KL)))
      refine (hL (i + 1, ov) gg (by dsimp only; omega)).conv (.cons rfl (.cons rfl (.cons rfl .nil))) (fun w h => ?_)
      dsimp only
      rw [htk]
      exact h.to
    | false =>
      rw [if_neg Bool.false_ne_true] at htk
      (repeat (first | refine vgo ?_ | refine ⟨_, rfl, rfl, ?_⟩ | refine ⟨_, rfl, ?_⟩ | refine ⟨rfl, ?_⟩ | intro hb | (refine altL ?_ ?_; omega) | refine altR ?_ | (refine side ?_ ?_; first | omega | exact True.intro | ((try simp only [List.length_append, List.length_cons, List.length_nil, List.length_map, List.length_replicate, List.length_set, and_true, true_and]); omega) | assumption | (and_intros <;> first | omega | assumption) | decide) | (refine decT ?_ ?_; first | with_reducible assumption | with_reducible rfl | (refine not_not_intro ?_; with_reducible first | assumption | rfl) | omega | decide) | (refine decF ?_ ?_; first | with_reducible assumption | with_reducible rfl | (refine not_not_intro ?_; with_reducible first | assumption | rfl) | omega | decide) | (refine decBT ?_ ?_; with_reducible first | assumption | rfl | exact Bool.not_false) | (refine decBF ?_ ?_; with_reducible first | assumption | rfl | exact Bool.not_true) | refine ⟨_, by assumption, ?_⟩ | refine ⟨_, _, _, rfl, ?_⟩ | refine WC.seq (fun K hK => ?_) | (refine hK _ _ _ ?_; clear hK K) | (refine hK _ _ _ _ rfl ?_; clear hK K) | (refine WX.thenExit (K := K) ?_; clear hK K) | (refine WX.thenExit (K := KL) ?_; clear hL KL)))
      refine (hL (i + 1, hb) gg (by dsimp only; omega)).conv (.cons rfl (.cons rfl (.cons rfl .nil))) (fun w h => ?_)
      dsimp only at h ⊢
      rw [htk, idC_app, List.length_append, idC_one]
      exact h.to
  · obtain rfl : i = l.length := by omega
    (repeat (first | refine vgo ?_ | refine ⟨_, rfl, rfl, ?_⟩ | refine ⟨_, rfl, ?_⟩ | refine ⟨rfl, ?_⟩ | intro hb | (refine altL ?_ ?_; omega) | refine altR ?_ | (refine side ?_ ?_; first | omega | exact True.intro | ((try simp only [List.length_append, List.length_cons, List.length_nil, List.length_map, List.length_replicate, List.length_set, and_true, true_and]); omega) | assumption | (and_intros <;> first | omega | assumption) | decide) | (refine decT ?_ ?_; first | with_reducible assumption | with_reducible rfl | (refine not_not_intro ?_; with_reducible first | assumption | rfl) | omega | decide) | (refine decF ?_ ?_; first | with_reducible assumption | with_reducible rfl | (refine not_not_intro ?_; with_reducible first | assumption | rfl) | omega | decide) | (refine decBT ?_ ?_; with_reducible first | assumption | rfl | exact Bool.not_false) | (refine decBF ?_ ?_; with_reducible first | assumption | rfl | exact Bool.not_true) | refine ⟨_, by assumption, ?_⟩ | refine ⟨_, _, _, rfl, ?_⟩ | refine WC.seq (fun K hK => ?_) | (refine hK _ _ _ ?_; clear hK K) | (refine hK _ _ _ _ rfl ?_; clear hK K) | (refine WX.thenExit (K := K) ?_; clear hK K) | (refine WX.thenExit (K := KL) ?_; clear hL KL)))
    refine WX.ret1 rfl rfl (fun w sw => ⟨_, _, ⟨rfl, rfl⟩, ?_⟩)
    rw [List.take_length] at sw
    exact (sw.pub (R := idT) (l := seenL l) (v := ov) SelOwn.h rfl rfl rfl (seenL_ok okl)).to
end Go.Qd
