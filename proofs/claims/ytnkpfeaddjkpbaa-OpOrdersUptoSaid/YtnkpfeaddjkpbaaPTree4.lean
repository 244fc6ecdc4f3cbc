/-
  Trees copied and measured.
-/
import Derived.Test.YtnkpfeaddjkpbaaPTree3
namespace Go.Qd
open Go Go.Proofs
theorem node_mk {a : Nd} {sv : Value} {m : Hp} (ho : okNd a) (h : (rd (Ty.sl nodeT) a.ar sv).holds m) : (rd nodeT a (ndV a.k a.n a.s a.f a.t sv)).holds m := by
  obtain ⟨k, n, s, ⟨f1, f2⟩, ⟨t1, t2⟩, ar⟩ := a
  obtain ⟨h1, h2, h3, h4, h5, h6, h7⟩ := ho
  obtain ⟨p, c, rfl, _⟩ := slRel.shape h
  have id : ∀ x : Nat × Int, okId x → idT.rel x (idV x.1 x.2) m := fun x hx => ⟨.int .u64 x.1, .agg #[.int .i64 x.2], rfl, ⟨rfl, hx.1⟩, .int .i64 x.2, rfl, rfl, hx.2⟩
  refine node_rel.2 ⟨.int .i64 k, _, ?_, ⟨rfl, h1⟩, .int .i64 n, _, rfl, ⟨rfl, h2⟩, .string (bs s), _, rfl, ⟨rfl, h3⟩, .agg ((idV f1.1 f1.2).cells ++ (Value.agg (idV f2.1 f2.2).cells).cells), _, rfl, ⟨_, _, rfl, id _ h4, _, rfl, id _ h5⟩,
    .agg ((idV t1.1 t1.2).cells ++ (Value.agg (idV t2.1 t2.2).cells).cells), _, rfl, ⟨_, _, rfl, id _ h6, _, rfl, id _ h7⟩, _, rfl, h⟩
  simp [Value.cells, idV, Nd.k, Nd.n, Nd.s, Nd.f, Nd.t]
theorem Fun.node1 {f : FuncId} {a : Nd} {R : Value → List Pers → List Res → Prop} (hF : ∀ u : Value, Fun Try.prog f [ndV a.k a.n a.s a.f a.t u] [rd (Ty.sl nodeT) a.ar u] [] R) (va : Value) : Fun Try.prog f [va] [rd nodeT a va] [] R :=
  Fun.look (ι := Value) (fun i => [ndV a.k a.n a.s a.f a.t i]) (fun i => [rd (Ty.sl nodeT) a.ar i]) undef (fun m hm => by
    obtain ⟨u, rfl, h1, _⟩ := node_shape (hm _ (.head _))
    exact ⟨u, rfl, fun g hg => by
      rcases List.mem_cons.1 hg with rfl | hg
      · exact h1
      · cases hg⟩) (fun i => hF i)
mutual
def deepV : Nd → Int
  | .mk _ _ s _ _ ar => deepL (1 + ((s.length / 100 : Nat) : Int)) ar
def deepL : Int → List Nd → Int
  | k, [] => k
  | k, x :: l => if k ≤ 200 then deepL (k + deepV x) l else k
end
theorem deepL_bound {B : Int} (hB : 1 ≤ B) : ∀ (l : List Nd) (k : Int), 1 ≤ k → (∀ x ∈ l, 1 ≤ deepV x ∧ deepV x ≤ B) → 1 ≤ deepL k l ∧ deepL k l ≤ max k (200 + B)
  | [], k, hk, _ => by rw [deepL]; omega
  | x :: l, k, hk, h => by
    rw [deepL]
    have h1 := h x (.head _)
    split
    · have := deepL_bound hB l (k + deepV x) (by omega) (fun y hy => h y (.tail _ hy))
      omega
    · omega
theorem deep_bound {M : Nat} : ∀ (d : Nat) (a : Nd), smN M d a → 1 ≤ deepV a ∧ deepV a ≤ 92233720368547760 + 201 * d
  | 0, _, h => h.elim
  | d + 1, .mk k n s f t ar, h => by
    rw [deepV]
    have hs : s.length ≤ maxLen := h.1.2.2.1
    simp only [maxLen] at hs
    have := deepL_bound (B := 92233720368547760 + 201 * d) (by omega) ar (1 + ((s.length / 100 : Nat) : Int)) (by omega) (fun x hx => deep_bound d x (h.2.2 x hx))
    omega
theorem deepL_stop (k : Int) (h : ¬ k ≤ 200) : ∀ l, deepL k l = k
  | [] => by rw [deepL]
  | _ :: _ => by rw [deepL, if_neg h]
theorem deepL_get {l : List Nd} {i : Nat} {x : Nd} (h : l[i]? = some x) {k : Int} (hk : k ≤ 200) : deepL k (l.drop i) = deepL (k + deepV x) (l.drop (i + 1)) := by
  obtain ⟨h1, rfl⟩ := List.getElem?_eq_some_iff.1 h
  rw [List.drop_eq_getElem_cons h1, deepL, if_pos hk]
set_option maxRecDepth 100000 in
theorem deep_fun {M : Nat} (d : Nat) (hd : d ≤ upM) (a : Nd) (ha : smN M d a) (u : Value) : Fun Try.prog 66 [ndV a.k a.n a.s a.f a.t u] [rd (Ty.sl nodeT) a.ar u] [] (fun r G S => r = .int .i64 (deepV a) ∧ G = [] ∧ S = []) := by
  obtain ⟨d, rfl⟩ : ∃ e, d = e + 1 := by
    cases d with
    | zero => exact ha.elim
    | succ e => exact ⟨e, rfl⟩
  have ih : ∀ x ∈ a.ar, ∀ va : Value, Fun Try.prog 66 [va] [rd nodeT x va] [] (fun r G S => r = .int .i64 (deepV x) ∧ G = [] ∧ S = []) := fun x hx => Fun.node1 (fun u => deep_fun d (by omega) x (ha.2.2 x hx) u)
  have bd : ∀ x ∈ a.ar, 1 ≤ deepV x ∧ deepV x ≤ 92233720368547760 + 201 * d := fun x hx => deep_bound d x (ha.2.2 x hx)
  have hs : a.s.length ≤ 9223372036854775807 := ha.1.2.2.1
  simp only [upM] at hd
  have hdv : deepV a = deepL (1 + ((a.s.length / 100 : Nat) : Int)) a.ar := by cases a; rw [deepV]; rfl
  have hq : ((a.s.length : Nat) : Int) / 100 = ((a.s.length / 100 : Nat) : Int) := by omega
  refine Fun.enter Try.func66 (by kernel_rfl) rfl Try.ntmps66 rfl (fun B Gf Sf => ?_); (try simp only [List.cons_append]); (try simp only [List.nil_append]); simp only [argEnv]
  refine WC.ex (fun w sw => sw.slOne (v := u) RdSl.h) (fun hu1 => ?_)
  refine WC.ex (fun w sw => sw.len_le (RdSl.h (v := u))) (fun hlu => ?_)
  (repeat (first | refine vgo ?_ | refine ⟨_, rfl, rfl, ?_⟩ | refine ⟨_, rfl, ?_⟩ | refine ⟨rfl, ?_⟩ | intro hb | (refine altL ?_ ?_; omega) | refine altR ?_ | (refine side ?_ ?_; first | omega | exact True.intro | ((try simp only [List.length_append, List.length_cons, List.length_nil, List.length_map, List.length_replicate, List.length_set, and_true, true_and]); omega) | assumption | (and_intros <;> first | omega | assumption) | decide) | (refine decT ?_ ?_; first | with_reducible assumption | with_reducible rfl | (refine not_not_intro ?_; with_reducible first | assumption | rfl) | omega | decide) | (refine decF ?_ ?_; first | with_reducible assumption | with_reducible rfl | (refine not_not_intro ?_; with_reducible first | assumption | rfl) | omega | decide) | (refine decBT ?_ ?_; with_reducible first | assumption | rfl | exact Bool.not_false) | (refine decBF ?_ ?_; with_reducible first | assumption | rfl | exact Bool.not_true) | refine ⟨_, by assumption, ?_⟩ | refine ⟨_, _, _, rfl, ?_⟩ | refine WC.seq (fun K hK => ?_) | (refine hK _ _ _ ?_; clear hK K) | (refine WX.thenExit (K := K) ?_; clear hK K) | (refine WX.thenExit (K := KL) ?_; clear hL KL)))
  (first | refine WL.boxA rfl rfl ?_ | refine WL.box rfl rfl rfl ?_); intro b1
  (repeat (first | refine vgo ?_ | refine ⟨_, rfl, rfl, ?_⟩ | refine ⟨_, rfl, ?_⟩ | refine ⟨rfl, ?_⟩ | intro hb | (refine altL ?_ ?_; omega) | refine altR ?_ | (refine side ?_ ?_; first | omega | exact True.intro | ((try simp only [List.length_append, List.length_cons, List.length_nil, List.length_map, List.length_replicate, List.length_set, and_true, true_and]); omega) | assumption | (and_intros <;> first | omega | assumption) | decide) | (refine decT ?_ ?_; first | with_reducible assumption | with_reducible rfl | (refine not_not_intro ?_; with_reducible first | assumption | rfl) | omega | decide) | (refine decF ?_ ?_; first | with_reducible assumption | with_reducible rfl | (refine not_not_intro ?_; with_reducible first | assumption | rfl) | omega | decide) | (refine decBT ?_ ?_; with_reducible first | assumption | rfl | exact Bool.not_false) | (refine decBF ?_ ?_; with_reducible first | assumption | rfl | exact Bool.not_true) | refine ⟨_, by assumption, ?_⟩ | refine ⟨_, _, _, rfl, ?_⟩ | refine WC.seq (fun K hK => ?_) | (refine hK _ _ _ ?_; clear hK K) | (refine WX.thenExit (K := K) ?_; clear hK K) | (refine WX.thenExit (K := KL) ?_; clear hL KL)))
  rw [hq]
  refine WC.loop (I := Nat × Int) (fun i => [(1, .pointer (some ⟨b1, 0, none⟩)), (3, .int .i64 i.2), (4, .int .i64 (i.1 : Nat))]) (fun _ => rd (Ty.sl nodeT) a.ar u :: Gf) (fun _ => box b1 30 (ndC a.k a.n a.s a.f a.t u) :: Sf) (fun i => i.1 ≤ a.ar.length ∧ 1 ≤ i.2 ∧ i.2 ≤ 92233720368547760 + 201 * (d + 1) ∧ deepV a = deepL i.2 (a.ar.drop i.1)) (fun i => a.ar.length - i.1) (0, 1 + ((a.s.length / 100 : Nat) : Int)) ⟨Nat.zero_le _, by omega, by omega, hdv⟩ (.cons rfl (.cons rfl (.cons rfl .nil))) (fun w h => h.to) ?_
  rintro ⟨i, k⟩ ⟨hi, hk1, hk2, he⟩ KL hL
  dsimp only at hi hk1 hk2 he
  by_cases g : i < a.ar.length
  · obtain ⟨x, hx⟩ : ∃ x, a.ar[i]? = some x := ⟨_, List.getElem?_eq_getElem g⟩
    by_cases hk : k ≤ 200
    · have hb := bd x (List.mem_of_getElem? hx)
      have hpx := ih x (List.mem_of_getElem? hx)
      rw [deepL_get hx hk] at he
      (repeat (first | refine vgo ?_ | refine ⟨_, rfl, rfl, ?_⟩ | refine ⟨_, rfl, ?_⟩ | refine ⟨rfl, ?_⟩ | intro hb | (refine altL ?_ ?_; omega) | refine altR ?_ | (refine side ?_ ?_; first | omega | exact True.intro | ((try simp only [List.length_append, List.length_cons, List.length_nil, List.length_map, List.length_replicate, List.length_set, and_true, true_and]); omega) | assumption | (and_intros <;> first | omega | assumption) | decide) | (refine decT ?_ ?_; first | with_reducible assumption | with_reducible rfl | (refine not_not_intro ?_; with_reducible first | assumption | rfl) | omega | decide) | (refine decF ?_ ?_; first | with_reducible assumption | with_reducible rfl | (refine not_not_intro ?_; with_reducible first | assumption | rfl) | omega | decide) | (refine decBT ?_ ?_; with_reducible first | assumption | rfl | exact Bool.not_false) | (refine decBF ?_ ?_; with_reducible first | assumption | rfl | exact Bool.not_true) | refine ⟨_, by assumption, ?_⟩ | refine ⟨_, _, _, rfl, ?_⟩ | refine WC.seq (fun K hK => ?_) | (refine hK _ _ _ ?_; clear hK K) | (refine WX.thenExit (K := K) ?_; clear hK K) | (refine WX.thenExit (K := KL) ?_; clear hL KL)))
      refine CallV.by' (hpx _) ?_; rintro _ _ _ ⟨rfl, rfl, rfl⟩; (try simp only [List.cons_append]); (try simp only [List.nil_append])
      (repeat (first | refine vgo ?_ | refine ⟨_, rfl, rfl, ?_⟩ | refine ⟨_, rfl, ?_⟩ | refine ⟨rfl, ?_⟩ | intro hb | (refine altL ?_ ?_; omega) | refine altR ?_ | (refine side ?_ ?_; first | omega | exact True.intro | ((try simp only [List.length_append, List.length_cons, List.length_nil, List.length_map, List.length_replicate, List.length_set, and_true, true_and]); omega) | assumption | (and_intros <;> first | omega | assumption) | decide) | (refine decT ?_ ?_; first | with_reducible assumption | with_reducible rfl | (refine not_not_intro ?_; with_reducible first | assumption | rfl) | omega | decide) | (refine decF ?_ ?_; first | with_reducible assumption | with_reducible rfl | (refine not_not_intro ?_; with_reducible first | assumption | rfl) | omega | decide) | (refine decBT ?_ ?_; with_reducible first | assumption | rfl | exact Bool.not_false) | (refine decBF ?_ ?_; with_reducible first | assumption | rfl | exact Bool.not_true) | refine ⟨_, by assumption, ?_⟩ | refine ⟨_, _, _, rfl, ?_⟩ | refine WC.seq (fun K hK => ?_) | (refine hK _ _ _ ?_; clear hK K) | (refine WX.thenExit (K := K) ?_; clear hK K) | (refine WX.thenExit (K := KL) ?_; clear hL KL)))
      exact (hL (i + 1, k + deepV x) ⟨g, by omega, by omega, he⟩ (by omega)).conv (.cons rfl (.cons rfl (.cons rfl .nil))) (fun w h => h.to)
    · rw [deepL_stop k hk] at he
      (repeat (first | refine vgo ?_ | refine ⟨_, rfl, rfl, ?_⟩ | refine ⟨_, rfl, ?_⟩ | refine ⟨rfl, ?_⟩ | intro hb | (refine altL ?_ ?_; omega) | refine altR ?_ | (refine side ?_ ?_; first | omega | exact True.intro | ((try simp only [List.length_append, List.length_cons, List.length_nil, List.length_map, List.length_replicate, List.length_set, and_true, true_and]); omega) | assumption | (and_intros <;> first | omega | assumption) | decide) | (refine decT ?_ ?_; first | with_reducible assumption | with_reducible rfl | (refine not_not_intro ?_; with_reducible first | assumption | rfl) | omega | decide) | (refine decF ?_ ?_; first | with_reducible assumption | with_reducible rfl | (refine not_not_intro ?_; with_reducible first | assumption | rfl) | omega | decide) | (refine decBT ?_ ?_; with_reducible first | assumption | rfl | exact Bool.not_false) | (refine decBF ?_ ?_; with_reducible first | assumption | rfl | exact Bool.not_true) | refine ⟨_, by assumption, ?_⟩ | refine ⟨_, _, _, rfl, ?_⟩ | refine WC.seq (fun K hK => ?_) | (refine hK _ _ _ ?_; clear hK K) | (refine WX.thenExit (K := K) ?_; clear hK K) | (refine WX.thenExit (K := KL) ?_; clear hL KL)))
      exact WX.ret1 rfl rfl (fun w sw => ⟨[], [], ⟨by rw [he], rfl, rfl⟩, sw.to⟩)
  · rw [List.drop_of_length_le (by omega), deepL] at he
    (repeat (first | refine vgo ?_ | refine ⟨_, rfl, rfl, ?_⟩ | refine ⟨_, rfl, ?_⟩ | refine ⟨rfl, ?_⟩ | intro hb | (refine altL ?_ ?_; omega) | refine altR ?_ | (refine side ?_ ?_; first | omega | exact True.intro | ((try simp only [List.length_append, List.length_cons, List.length_nil, List.length_map, List.length_replicate, List.length_set, and_true, true_and]); omega) | assumption | (and_intros <;> first | omega | assumption) | decide) | (refine decT ?_ ?_; first | with_reducible assumption | with_reducible rfl | (refine not_not_intro ?_; with_reducible first | assumption | rfl) | omega | decide) | (refine decF ?_ ?_; first | with_reducible assumption | with_reducible rfl | (refine not_not_intro ?_; with_reducible first | assumption | rfl) | omega | decide) | (refine decBT ?_ ?_; with_reducible first | assumption | rfl | exact Bool.not_false) | (refine decBF ?_ ?_; with_reducible first | assumption | rfl | exact Bool.not_true) | refine ⟨_, by assumption, ?_⟩ | refine ⟨_, _, _, rfl, ?_⟩ | refine WC.seq (fun K hK => ?_) | (refine hK _ _ _ ?_; clear hK K) | (refine WX.thenExit (K := K) ?_; clear hK K) | (refine WX.thenExit (K := KL) ?_; clear hL KL)))
    exact WX.ret1 rfl rfl (fun w sw => ⟨[], [], ⟨by rw [he], rfl, rfl⟩, sw.to⟩)
end Go.Qd
