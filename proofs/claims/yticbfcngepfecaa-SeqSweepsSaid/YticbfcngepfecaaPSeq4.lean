/-
  Lines in an order: the document's Delete, Sweep.
-/
import Derived.Test.YticbfcngepfecaaPSeq3
namespace Go.Qd
open Go Go.Proofs
instance (priority := 10) plusAny {o k : Nat} : Plus o k (o + k) := ⟨rfl⟩
theorem AdrV.openOwn {P : Program} {n : Nat} {Q : Exit → Act → World → Prop} {B : Base} {env : Env} {G : List Pers} {S S' : List Res} {L rest : List Oper} {d : Nat} {T : TypeId} {u u' v : Value} {E sz m : Nat} {xs : List Value} [hm : SelOwn v S E sz m xs S'] (h0 : v = .slice none 0 0 → m = 0 → AdrV P n L Q rest B env G S d T u u')
    (h : ∀ b cp cs, v = .slice (some ⟨b, 0, none⟩) m cp → m ≤ cp → cp ≤ maxLen → cs.length = cp * sz → cs.take (m * sz) = xs → AdrV P n L Q rest B env G (Qd.box b E cs :: S') d T u u') : AdrV P n L Q rest B env G S d T u u' :=
  ⟨fun x y ty pos af h1 h2 h3 => WL.openOwn (v := v) (fun e m0 => (h0 e m0).go x y ty pos af h1 h2 h3) (fun b cp cs e hmc hcp hcl hct => (h b cp cs e hmc hcp hcl hct).go x y ty pos af h1 h2 h3)⟩
def deadAt (l : List Ln) (i : Nat) : List Ln := l.modify i fun x => ⟨x.t, x.r, true⟩
def delE (l : List Ln) (t : Nat) (r : Int) : Int := if ixZ l t r < 0 then 6 else 0
def delL (l : List Ln) (t : Nat) (r : Int) : List Ln := if ixZ l t r < 0 then l else deadAt l (ixZ l t r).toNat
theorem deadAt_len (l : List Ln) (i : Nat) : (deadAt l i).length = l.length := List.length_modify ..
theorem deadAt_ok {l : List Ln} {i : Nat} (h : ∀ x ∈ l, okLn x) : ∀ x ∈ deadAt l i, okLn x := fun x hx => by
  unfold deadAt at hx
  obtain ⟨j, hj, e⟩ := List.mem_iff_getElem.1 hx
  rw [List.getElem_modify] at e
  rw [List.length_modify] at hj
  have := h l[j] (List.getElem_mem hj)
  split at e <;> (subst e; exact this)
theorem delL_len (l : List Ln) (t : Nat) (r : Int) : (delL l t r).length = l.length := by
  unfold delL; split
  · rfl
  · exact deadAt_len ..
theorem delL_ok {l : List Ln} {t : Nat} {r : Int} (h : ∀ x ∈ l, okLn x) : ∀ x ∈ delL l t r, okLn x := by
  unfold delL; split
  · exact h
  · exact deadAt_ok h
theorem lnC_len : ∀ l : List Ln, (lnC l).length = l.length * 3
  | [] => rfl
  | x :: l => by
    have := lnC_len l
    unfold lnC flat at this ⊢
    rw [List.map_cons, List.flatMap_cons, List.length_append, this]
    show 3 + l.length * 3 = (l.length + 1) * 3
    omega
theorem lnC_cons (x : Ln) (l : List Ln) : lnC (x :: l) = .int .u64 (x.t : Int) :: .int .i64 x.r :: .bool x.d :: lnC l := rfl
theorem lnC_dead : ∀ (l : List Ln) (k : Nat), (lnC l).set (k * 3 + 2) (.bool true) = lnC (deadAt l k)
  | [], _ => by unfold deadAt; simp [lnC, flat]
  | x :: l, 0 => rfl
  | x :: l, k + 1 => by
    have ih := lnC_dead l k
    have e : deadAt (x :: l) (k + 1) = x :: deadAt l k := by unfold deadAt; simp
    rw [e, lnC_cons, lnC_cons, ← ih, show (k + 1) * 3 + 2 = (k * 3 + 2) + 1 + 1 + 1 from by omega]
    rfl
set_option maxHeartbeats 800000 in
theorem rdelete_fun (l : List Ln) (v : Value) (t : Nat) (r : Int) (hl : l.length ≤ 100000) : Fun Try.prog 45 [v, idV t r] [rd (Ty.sl lnT) l v] []
    (fun z G S => ∃ u, z = .tuple #[u, .int .i64 (delE l t r)] ∧ G = [rd (Ty.sl lnT) (delL l t r) u] ∧ S = []) := by
  have xb := ixZ_b l t r
  by_cases h1 : ixZ l t r < 0
  · have e1 : delE l t r = 6 := if_pos h1
    have e2 : delL l t r = l := if_pos h1
    rw [e1, e2]
    refine Fun.enter Try.func45 (by kernel_rfl) rfl Try.ntmps45 rfl (fun B Gf Sf => ?_); (try simp only [List.cons_append]); (try simp only [List.nil_append]); simp only [argEnv]
    (repeat (first | refine vgo ?_ | refine ⟨_, rfl, rfl, ?_⟩ | refine ⟨_, rfl, ?_⟩ | refine ⟨rfl, ?_⟩ | intro hb | (refine altL ?_ ?_; omega) | refine altR ?_ | (refine side ?_ ?_; first | omega | exact True.intro | ((try simp only [List.length_append, List.length_cons, List.length_nil, List.length_map, List.length_replicate, List.length_set, and_true, true_and]); omega) | assumption | (and_intros <;> first | omega | assumption) | decide) | (refine decT ?_ ?_; first | with_reducible assumption | with_reducible rfl | (refine not_not_intro ?_; with_reducible first | assumption | rfl) | omega | decide) | (refine decF ?_ ?_; first | with_reducible assumption | with_reducible rfl | (refine not_not_intro ?_; with_reducible first | assumption | rfl) | omega | decide) | (refine decBT ?_ ?_; with_reducible first | assumption | rfl | exact Bool.not_false) | (refine decBF ?_ ?_; with_reducible first | assumption | rfl | exact Bool.not_true) | refine ⟨_, by assumption, ?_⟩ | refine ⟨_, _, _, rfl, ?_⟩ | refine WC.seq (fun K hK => ?_) | (refine hK _ _ _ ?_; clear hK K) | (refine hK _ _ _ _ rfl ?_; clear hK K) | (refine WX.thenExit (K := K) ?_; clear hK K) | (refine WX.thenExit (K := KL) ?_; clear hL KL)))
    (first | refine WL.boxA rfl rfl ?_ | refine WL.box rfl rfl rfl ?_); intro b1
    (repeat (first | refine vgo ?_ | refine ⟨_, rfl, rfl, ?_⟩ | refine ⟨_, rfl, ?_⟩ | refine ⟨rfl, ?_⟩ | intro hb | (refine altL ?_ ?_; omega) | refine altR ?_ | (refine side ?_ ?_; first | omega | exact True.intro | ((try simp only [List.length_append, List.length_cons, List.length_nil, List.length_map, List.length_replicate, List.length_set, and_true, true_and]); omega) | assumption | (and_intros <;> first | omega | assumption) | decide) | (refine decT ?_ ?_; first | with_reducible assumption | with_reducible rfl | (refine not_not_intro ?_; with_reducible first | assumption | rfl) | omega | decide) | (refine decF ?_ ?_; first | with_reducible assumption | with_reducible rfl | (refine not_not_intro ?_; with_reducible first | assumption | rfl) | omega | decide) | (refine decBT ?_ ?_; with_reducible first | assumption | rfl | exact Bool.not_false) | (refine decBF ?_ ?_; with_reducible first | assumption | rfl | exact Bool.not_true) | refine ⟨_, by assumption, ?_⟩ | refine ⟨_, _, _, rfl, ?_⟩ | refine WC.seq (fun K hK => ?_) | (refine hK _ _ _ ?_; clear hK K) | (refine hK _ _ _ _ rfl ?_; clear hK K) | (refine WX.thenExit (K := K) ?_; clear hK K) | (refine WX.thenExit (K := KL) ?_; clear hL KL)))
    exact WX.ret2 rfl rfl rfl (fun w sw => ⟨_, _, ⟨_, rfl, rfl, rfl⟩, sw.to⟩)
  · have e1 : delE l t r = 0 := if_neg h1
    have e2 : delL l t r = deadAt l (ixZ l t r).toNat := if_neg h1
    rw [e1, e2]
    obtain ⟨k, hk⟩ : ∃ k : Nat, ixZ l t r = (k : Int) := ⟨(ixZ l t r).toNat, by omega⟩
    rw [hk, Int.toNat_natCast]
    refine Fun.enter Try.func45 (by kernel_rfl) rfl Try.ntmps45 rfl (fun B Gf Sf => ?_); (try simp only [List.cons_append]); (try simp only [List.nil_append]); simp only [argEnv]
    refine WC.ex (fun w sw => sw.oks (f := fun a : Ln => a.V) (ok := okLn) (R := lnT) (l := l) (v := v) RdSl.h) (fun okl => ?_)
    refine WC.ex (fun w sw => sw.len_le (RdSl.h (v := v))) (fun hlv => ?_)
    (repeat (first | refine vgo ?_ | refine ⟨_, rfl, rfl, ?_⟩ | refine ⟨_, rfl, ?_⟩ | refine ⟨rfl, ?_⟩ | intro hb | (refine altL ?_ ?_; omega) | refine altR ?_ | (refine side ?_ ?_; first | omega | exact True.intro | ((try simp only [List.length_append, List.length_cons, List.length_nil, List.length_map, List.length_replicate, List.length_set, and_true, true_and]); omega) | assumption | (and_intros <;> first | omega | assumption) | decide) | (refine decT ?_ ?_; first | with_reducible assumption | with_reducible rfl | (refine not_not_intro ?_; with_reducible first | assumption | rfl) | omega | decide) | (refine decF ?_ ?_; first | with_reducible assumption | with_reducible rfl | (refine not_not_intro ?_; with_reducible first | assumption | rfl) | omega | decide) | (refine decBT ?_ ?_; with_reducible first | assumption | rfl | exact Bool.not_false) | (refine decBF ?_ ?_; with_reducible first | assumption | rfl | exact Bool.not_true) | refine ⟨_, by assumption, ?_⟩ | refine ⟨_, _, _, rfl, ?_⟩ | refine WC.seq (fun K hK => ?_) | (refine hK _ _ _ ?_; clear hK K) | (refine hK _ _ _ _ rfl ?_; clear hK K) | (refine WX.thenExit (K := K) ?_; clear hK K) | (refine WX.thenExit (K := KL) ?_; clear hL KL)))
    (first | refine WL.boxA rfl rfl ?_ | refine WL.box rfl rfl rfl ?_); intro b1
    (repeat (first | refine vgo ?_ | refine ⟨_, rfl, rfl, ?_⟩ | refine ⟨_, rfl, ?_⟩ | refine ⟨rfl, ?_⟩ | intro hb | (refine altL ?_ ?_; omega) | refine altR ?_ | (refine side ?_ ?_; first | omega | exact True.intro | ((try simp only [List.length_append, List.length_cons, List.length_nil, List.length_map, List.length_replicate, List.length_set, and_true, true_and]); omega) | assumption | (and_intros <;> first | omega | assumption) | decide) | (refine decT ?_ ?_; first | with_reducible assumption | with_reducible rfl | (refine not_not_intro ?_; with_reducible first | assumption | rfl) | omega | decide) | (refine decF ?_ ?_; first | with_reducible assumption | with_reducible rfl | (refine not_not_intro ?_; with_reducible first | assumption | rfl) | omega | decide) | (refine decBT ?_ ?_; with_reducible first | assumption | rfl | exact Bool.not_false) | (refine decBF ?_ ?_; with_reducible first | assumption | rfl | exact Bool.not_true) | refine ⟨_, by assumption, ?_⟩ | refine ⟨_, _, _, rfl, ?_⟩ | refine WC.seq (fun K hK => ?_) | (refine hK _ _ _ ?_; clear hK K) | (refine hK _ _ _ _ rfl ?_; clear hK K) | (refine WX.thenExit (K := K) ?_; clear hK K) | (refine WX.thenExit (K := KL) ?_; clear hL KL)))
    rw [hk]
    refine AdrV.openOwn (v := hb) (fun e m0 => by omega) (fun b cp cs e hmc hcp hcl hct => ?_)
    subst e
    have hkl : k * 3 + 3 ≤ cp * 3 := by omega
    (repeat (first | refine vgo ?_ | refine ⟨_, rfl, rfl, ?_⟩ | refine ⟨_, rfl, ?_⟩ | refine ⟨rfl, ?_⟩ | intro hb | (refine altL ?_ ?_; omega) | refine altR ?_ | (refine side ?_ ?_; first | omega | exact True.intro | ((try simp only [List.length_append, List.length_cons, List.length_nil, List.length_map, List.length_replicate, List.length_set, and_true, true_and]); omega) | assumption | (and_intros <;> first | omega | assumption) | decide) | (refine decT ?_ ?_; first | with_reducible assumption | with_reducible rfl | (refine not_not_intro ?_; with_reducible first | assumption | rfl) | omega | decide) | (refine decF ?_ ?_; first | with_reducible assumption | with_reducible rfl | (refine not_not_intro ?_; with_reducible first | assumption | rfl) | omega | decide) | (refine decBT ?_ ?_; with_reducible first | assumption | rfl | exact Bool.not_false) | (refine decBF ?_ ?_; with_reducible first | assumption | rfl | exact Bool.not_true) | refine ⟨_, by assumption, ?_⟩ | refine ⟨_, _, _, rfl, ?_⟩ | refine WC.seq (fun K hK => ?_) | (refine hK _ _ _ ?_; clear hK K) | (refine hK _ _ _ _ rfl ?_; clear hK K) | (refine WX.thenExit (K := K) ?_; clear hK K) | (refine WX.thenExit (K := KL) ?_; clear hL KL)))
    refine WX.ret2 rfl rfl rfl (fun w sw => ⟨_, _, ⟨_, rfl, rfl, rfl⟩, ?_⟩)
    have sw2 := sw.closeOwn (b := b) (cp := cp) 3 (0 + l.length) (by rw [List.length_set]; exact hcl) hmc hcp
    rw [List.take_set, hct, List.nil_append, lnC_dead] at sw2
    exact (sw2.pub (R := lnT) (l := deadAt l k) (v := .slice (some ⟨b, 0, none⟩) (0 + l.length) cp) SelOwn.h rfl rfl (by rw [deadAt_len]; omega) (deadAt_ok okl)).to
/-- What stays, and what goes: from the end on. -/
def goesB (may firm : List (Nat × Int)) (x : Ln) (k : List Ln) : Bool := x.d && (inIds may x.t x.r && (match k with | [] => true | y :: _ => inIds firm y.t y.r))
def swpF (may firm : List (Nat × Int)) : List Ln → List Ln × List (Nat × Int)
  | [] => ([], [])
  | x :: r => if goesB may firm x (swpF may firm r).1 = true then ((swpF may firm r).1, (x.t, x.r) :: (swpF may firm r).2) else (x :: (swpF may firm r).1, (swpF may firm r).2)
theorem swpF_goes {may firm : List (Nat × Int)} {x : Ln} {r : List Ln} (h : goesB may firm x (swpF may firm r).1 = true) : swpF may firm (x :: r) = ((swpF may firm r).1, (x.t, x.r) :: (swpF may firm r).2) := by
  rw [swpF, if_pos h]
theorem swpF_stays {may firm : List (Nat × Int)} {x : Ln} {r : List Ln} (h : goesB may firm x (swpF may firm r).1 = false) : swpF may firm (x :: r) = (x :: (swpF may firm r).1, (swpF may firm r).2) := by
  rw [swpF, if_neg (by rw [h]; decide)]
theorem swpF_len (may firm : List (Nat × Int)) : ∀ l : List Ln, (swpF may firm l).1.length + (swpF may firm l).2.length = l.length
  | [] => rfl
  | x :: r => by
    have ih := swpF_len may firm r
    cases h : goesB may firm x (swpF may firm r).1 with
    | true => rw [swpF_goes h]; simp only [List.length_cons]; omega
    | false => rw [swpF_stays h]; simp only [List.length_cons]; omega
theorem swpF_ok {may firm : List (Nat × Int)} : ∀ {l : List Ln}, (∀ x ∈ l, okLn x) → (∀ x ∈ (swpF may firm l).1, okLn x) ∧ ∀ a ∈ (swpF may firm l).2, okId a.1 a.2
  | [], h => ⟨h, fun a ha => by cases ha⟩
  | x :: r, h => by
    have ih := swpF_ok (may := may) (firm := firm) (l := r) (fun y hy => h y (.tail _ hy))
    have hx : okLn x := h x (.head _)
    cases hg : goesB may firm x (swpF may firm r).1 with
    | true =>
      rw [swpF_goes hg]
      refine ⟨ih.1, fun a ha => ?_⟩
      rcases List.mem_cons.1 ha with e | e
      · subst e; exact hx
      · exact ih.2 a e
    | false =>
      rw [swpF_stays hg]
      refine ⟨fun a ha => ?_, ih.2⟩
      rcases List.mem_cons.1 ha with e | e
      · subst e; exact hx
      · exact ih.1 a e
theorem drop_cons12 {α : Type} {l : List α} {i : Nat} {x : α} (h : l[i]? = some x) : l.drop i = x :: l.drop (i + 1) := by
  obtain ⟨h1, rfl⟩ := List.getElem?_eq_some_iff.1 h
  exact List.drop_eq_getElem_cons h1
end Go.Qd
