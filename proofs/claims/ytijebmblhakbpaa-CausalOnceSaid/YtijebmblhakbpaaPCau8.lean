/-
  Delivery: Receive, New, Known.
-/
import Derived.Test.YtijebmblhakbpaaPCau5
namespace Go.Qd
/-! ### Delivery: Receive, New, Known. -/
section
open Go Go.Proofs
def RcvC (cn lm : Int) (hm : Nat) (kn : List Nat) (M : List LgE) (l : List OpT) (x : OpT) (p : PS) (xs : List OpT) (v : Value) (e : Int) : Prop :=
  x.o ≤ cn → ((trimL (joinL maxN x.c [])).length : Int) ≤ cn → getC kn x.o < x.n →
    (dueP kn x = false → v = nlV ∧ xs = [] ∧ e = putE l hm x ∧ p.l = putL l hm x ∧ p.kn = kn) ∧
    (dueP kn x = true → addE lm [] M x = 0 → e = 0 ∧ (∃ ys, xs = x :: ys) ∧ (lm - (sizeM p.M : Int) ≤ 0 ∨ ∀ y ∈ p.l, dueP p.kn y = false) ∧ WentC l xs p.l p.kn)
theorem PEok.put {kn : List Nat} {M : List LgE} {l : List OpT} {t hm : Nat} (h : PEok kn M l t hm) {x : OpT} (hx : WOpT x) : PEok kn M (putL l hm x) t hm := by
  refine ⟨h.ok, h.k4, h.kl, h.kn, h.t, ?_, h.hm, fun y hy => ?_⟩
  · have := h.ll
    unfold putL
    split
    · exact this
    · split
      · exact this
      · rw [List.length_append, List.length_singleton]; omega
  · unfold putL at hy
    split at hy
    · exact h.l y hy
    · split at hy
      · exact h.l y hy
      · rcases List.mem_append.1 hy with h1 | h1
        · exact h.l y h1
        · rw [List.mem_singleton] at h1; rw [h1]; exact hx
abbrev rcX (hm : Nat) (lm : Int) (kn : List Nat) (l : List OpT) := {pp : PS × List OpT × Value // pp.1.ok hm ∧ Chain kn pp.2.1 pp.1.kn ∧ pp.2.1.length + pp.1.l.length ≤ l.length ∧ WakeC lm pp.1 l pp.2.1}
set_option maxHeartbeats 6400000 in
set_option synthInstance.maxSize 2000 in
set_option synthInstance.maxHeartbeats 400000 in
theorem creceive_fun (q : Nat) (c : CE) (t0 : Nat) (kn : List Nat) (kv : Value) (r : Nat) (lm : Int) (M : List LgE) (l : List OpT) (hm : Nat) (hv : Value) (ok : PEok kn M l t0 hm) (hlm : 0 ≤ lm ∧ lm ≤ 1000) (x : OpT) (hx : WOpT x) :
    Fun Try.prog 24 [.pointer (some ⟨q, 0, none⟩), x.V] [rd (Ty.sl Ty.u64) [] nlV, rd (Ty.sl Ty.u64) kn kv, hG l, rd (Ty.sl Ty.u64) x.c x.d] [ceB q c t0 kv, lgB c.g lm nlV r, lgM r M, lgO M, hdB c.h hm hv, opO hv l]
      (fun z G S => ∃ (p : PS) (xs : List OpT) (v : Value) (e : Int), z = .tuple #[v, .int .i64 e] ∧ p.ok hm ∧ Chain kn xs p.kn ∧ xs.length ≤ l.length + 1 ∧ RcvC c.n lm hm kn M l x p xs v e ∧ G = [rd (Ty.sl Ty.u64) p.kn p.kv, hG p.l, hG xs, rd (Ty.sl ovT) xs v] ∧ S = p.S q c r lm hm) := by
  have hll := ok.ll
  have hhm := ok.hm
  have hxw := hx
  obtain ⟨cs, cn, clg, chd, cmt, cmn, cg, ch⟩ := c
  obtain ⟨o, n, t, cl, d, k⟩ := x
  obtain ⟨⟨a1, a2⟩, ⟨a3, a4⟩, ⟨a5, a6⟩, a7, a8, rfl⟩ := hx
  dsimp only at *
  have hjn : cl.length ≤ 1000000 ∧ ([] : List Nat).length ≤ 1000000 := ⟨by omega, Nat.zero_le _⟩
  refine Fun.enter Try.func24 (by kernel_rfl) rfl Try.ntmps24 rfl (fun B Gf Sf => ?_); (try simp only [List.cons_append]); (try simp only [List.nil_append]); simp only [argEnv]
  refine WC.ex (fun w sw => sw.slOne (v := d) (R := Ty.u64) (l := cl) (by simp)) (fun hxd => ?_)
  refine WC.ex (fun w sw => sw.slOne (v := kv) (R := Ty.u64) (l := kn) (by simp)) (fun hkv => ?_)
  (repeat (first | refine vgo ?_ | refine ⟨_, rfl, rfl, ?_⟩ | refine ⟨_, rfl, ?_⟩ | refine ⟨rfl, ?_⟩ | intro hb | refine altA ?_ | refine altR ?_ | refine sideA ?_ | refine decTA ?_ | refine decFA ?_ | refine decNA ?_ | refine decBTA ?_ | refine decBFA ?_ | refine ⟨_, by assumption, ?_⟩ | refine ⟨_, _, _, rfl, ?_⟩ | refine WC.seq (fun K hK => ?_) | (refine hK _ _ _ ?_; clear hK K) | (refine hK _ _ _ _ rfl ?_; clear hK K) | (refine WX.thenExit (K := K) ?_; clear hK K) | (refine WX.thenExit (K := KL) ?_; clear hL KL)))
  (first | refine WL.boxA rfl rfl ?_ | refine WL.box rfl rfl rfl ?_); intro b3
  (repeat (first | refine vgo ?_ | refine ⟨_, rfl, rfl, ?_⟩ | refine ⟨_, rfl, ?_⟩ | refine ⟨rfl, ?_⟩ | intro hb | refine altA ?_ | refine altR ?_ | refine sideA ?_ | refine decTA ?_ | refine decFA ?_ | refine decNA ?_ | refine decBTA ?_ | refine decBFA ?_ | refine ⟨_, by assumption, ?_⟩ | refine ⟨_, _, _, rfl, ?_⟩ | refine WC.seq (fun K hK => ?_) | (refine hK _ _ _ ?_; clear hK K) | (refine hK _ _ _ _ rfl ?_; clear hK K) | (refine WX.thenExit (K := K) ?_; clear hK K) | (refine WX.thenExit (K := KL) ?_; clear hL KL)))
  refine CallV.by' (oright_fun o n t cl d ⟨by omega, by omega⟩ a6 (by omega) a7 (fun _ => a8)) ?_; rintro _ _ _ ⟨rfl, rfl, rfl⟩; (try simp only [List.cons_append]); (try simp only [List.nil_append])
  rw [decide_eq_true (show 0 < n ∧ 0 < t from ⟨by omega, by omega⟩)]
  (repeat (first | refine vgo ?_ | refine ⟨_, rfl, rfl, ?_⟩ | refine ⟨_, rfl, ?_⟩ | refine ⟨rfl, ?_⟩ | intro hb | refine altA ?_ | refine altR ?_ | refine sideA ?_ | refine decTA ?_ | refine decFA ?_ | refine decNA ?_ | refine decBTA ?_ | refine decBFA ?_ | refine ⟨_, by assumption, ?_⟩ | refine ⟨_, _, _, rfl, ?_⟩ | refine WC.seq (fun K hK => ?_) | (refine hK _ _ _ ?_; clear hK K) | (refine hK _ _ _ _ rfl ?_; clear hK K) | (refine WX.thenExit (K := K) ?_; clear hK K) | (refine WX.thenExit (K := KL) ?_; clear hL KL)))
  by_cases ho : cn < o
  · (apply WC.drawE; exact rfl; focus (repeat (first | exact Wo.nil | (apply Wo.keep; exact rfl) | (apply Wo.drop; exact rfl)))); (repeat refine ObP3.c0A ?_); try (refine ObP3.nil ?_; (repeat (intro _)); (conv => whnf); (try dsimp only [envO, List.cons_append, List.nil_append]))
    (repeat (first | refine vgo ?_ | refine ⟨_, rfl, rfl, ?_⟩ | refine ⟨_, rfl, ?_⟩ | refine ⟨rfl, ?_⟩ | intro hb | refine altA ?_ | refine altR ?_ | refine sideA ?_ | refine decTA ?_ | refine decFA ?_ | refine decNA ?_ | refine decBTA ?_ | refine decBFA ?_ | refine ⟨_, by assumption, ?_⟩ | refine ⟨_, _, _, rfl, ?_⟩ | refine WC.seq (fun K hK => ?_) | (refine hK _ _ _ ?_; clear hK K) | (refine hK _ _ _ _ rfl ?_; clear hK K) | (refine WX.thenExit (K := K) ?_; clear hK K) | (refine WX.thenExit (K := KL) ?_; clear hL KL)))
    exact WX.ret2 rfl rfl rfl (fun w sw => ⟨[rd (Ty.sl Ty.u64) kn kv, hG l, hG [], rd (Ty.sl ovT) [] nlV], (PS.mk t0 kn kv M l hv).S q ⟨cs, cn, clg, chd, cmt, cmn, cg, ch⟩ r lm hm, ⟨⟨t0, kn, kv, M, l, hv⟩, [], nlV, 29, rfl, ok, .nil _, Nat.zero_le _, fun h1 _ _ => absurd h1 (by dsimp only; omega), rfl, rfl⟩, ((sw.rdNil ovT).more (p := hG []) fun _ _ => trivial).to⟩)
  by_cases hj : cn < (((trimL (joinL maxN cl [])).length : Nat) : Int)
  · (apply WC.drawE; exact rfl; focus (repeat (first | exact Wo.nil | (apply Wo.keep; exact rfl) | (apply Wo.drop; exact rfl)))); (repeat refine ObP3.c0A ?_); try (refine ObP3.nil ?_; (repeat (intro _)); (conv => whnf); (try dsimp only [envO, List.cons_append, List.nil_append]))
    (repeat (first | refine vgo ?_ | refine ⟨_, rfl, rfl, ?_⟩ | refine ⟨_, rfl, ?_⟩ | refine ⟨rfl, ?_⟩ | intro hb | refine altA ?_ | refine altR ?_ | refine sideA ?_ | refine decTA ?_ | refine decFA ?_ | refine decNA ?_ | refine decBTA ?_ | refine decBFA ?_ | refine ⟨_, by assumption, ?_⟩ | refine ⟨_, _, _, rfl, ?_⟩ | refine WC.seq (fun K hK => ?_) | (refine hK _ _ _ ?_; clear hK K) | (refine hK _ _ _ _ rfl ?_; clear hK K) | (refine WX.thenExit (K := K) ?_; clear hK K) | (refine WX.thenExit (K := KL) ?_; clear hL KL)))
    exact WX.ret2 rfl rfl rfl (fun w sw => ⟨[rd (Ty.sl Ty.u64) kn kv, hG l, hG [], rd (Ty.sl ovT) [] nlV], (PS.mk t0 kn kv M l hv).S q ⟨cs, cn, clg, chd, cmt, cmn, cg, ch⟩ r lm hm, ⟨⟨t0, kn, kv, M, l, hv⟩, [], nlV, 29, rfl, ok, .nil _, Nat.zero_le _, fun _ h2 _ => absurd h2 (by dsimp only; omega), rfl, rfl⟩, ((sw.rdNil ovT).more (p := hG []) fun _ _ => trivial).to⟩)
  (apply WC.drawE; exact rfl; focus (repeat (first | exact Wo.nil | (apply Wo.keep; exact rfl) | (apply Wo.drop; exact rfl)))); (repeat refine ObP3.c0A ?_); try (refine ObP3.nil ?_; (repeat (intro _)); (conv => whnf); (try dsimp only [envO, List.cons_append, List.nil_append]))
  (repeat (first | refine vgo ?_ | refine ⟨_, rfl, rfl, ?_⟩ | refine ⟨_, rfl, ?_⟩ | refine ⟨rfl, ?_⟩ | intro hb | refine altA ?_ | refine altR ?_ | refine sideA ?_ | refine decTA ?_ | refine decFA ?_ | refine decNA ?_ | refine decBTA ?_ | refine decBFA ?_ | refine ⟨_, by assumption, ?_⟩ | refine ⟨_, _, _, rfl, ?_⟩ | refine WC.seq (fun K hK => ?_) | (refine hK _ _ _ ?_; clear hK K) | (refine hK _ _ _ _ rfl ?_; clear hK K) | (refine WX.thenExit (K := K) ?_; clear hK K) | (refine WX.thenExit (K := KL) ?_; clear hL KL)))
  (apply WC.drawE; exact rfl; focus (repeat (first | exact Wo.nil | (apply Wo.keep; exact rfl) | (apply Wo.drop; exact rfl)))); (repeat refine ObP3.c0A ?_); try (refine ObP3.nil ?_; (repeat (intro _)); (conv => whnf); (try dsimp only [envO, List.cons_append, List.nil_append]))
  by_cases hold : n ≤ getC kn o
  · (repeat (first | refine vgo ?_ | refine ⟨_, rfl, rfl, ?_⟩ | refine ⟨_, rfl, ?_⟩ | refine ⟨rfl, ?_⟩ | intro hb | refine altA ?_ | refine altR ?_ | refine sideA ?_ | refine decTA ?_ | refine decFA ?_ | refine decNA ?_ | refine decBTA ?_ | refine decBFA ?_ | refine ⟨_, by assumption, ?_⟩ | refine ⟨_, _, _, rfl, ?_⟩ | refine WC.seq (fun K hK => ?_) | (refine hK _ _ _ ?_; clear hK K) | (refine hK _ _ _ _ rfl ?_; clear hK K) | (refine WX.thenExit (K := K) ?_; clear hK K) | (refine WX.thenExit (K := KL) ?_; clear hL KL)))
    exact WX.ret2 rfl rfl rfl (fun w sw => ⟨[rd (Ty.sl Ty.u64) kn kv, hG l, hG [], rd (Ty.sl ovT) [] nlV], (PS.mk t0 kn kv M l hv).S q ⟨cs, cn, clg, chd, cmt, cmn, cg, ch⟩ r lm hm, ⟨⟨t0, kn, kv, M, l, hv⟩, [], nlV, 34, rfl, ok, .nil _, Nat.zero_le _, fun _ _ h3 => absurd h3 (by dsimp only; omega), rfl, rfl⟩, ((sw.rdNil ovT).more (p := hG []) fun _ _ => trivial).to⟩)
  (repeat (first | refine vgo ?_ | refine ⟨_, rfl, rfl, ?_⟩ | refine ⟨_, rfl, ?_⟩ | refine ⟨rfl, ?_⟩ | intro hb | refine altA ?_ | refine altR ?_ | refine sideA ?_ | refine decTA ?_ | refine decFA ?_ | refine decNA ?_ | refine decBTA ?_ | refine decBFA ?_ | refine ⟨_, by assumption, ?_⟩ | refine ⟨_, _, _, rfl, ?_⟩ | refine WC.seq (fun K hK => ?_) | (refine hK _ _ _ ?_; clear hK K) | (refine hK _ _ _ _ rfl ?_; clear hK K) | (refine WX.thenExit (K := K) ?_; clear hK K) | (refine WX.thenExit (K := KL) ?_; clear hL KL)))
  (apply WC.drawE; exact rfl; focus (repeat (first | exact Wo.nil | (apply Wo.keep; exact rfl) | (apply Wo.drop; exact rfl)))); (repeat refine ObP3.c0A ?_); try (refine ObP3.nil ?_; (repeat (intro _)); (conv => whnf); (try dsimp only [envO, List.cons_append, List.nil_append]))
  cases hdu : dueQ kn o n cl with
  | false =>
    (repeat (first | refine vgo ?_ | refine ⟨_, rfl, rfl, ?_⟩ | refine ⟨_, rfl, ?_⟩ | refine ⟨rfl, ?_⟩ | intro hb | refine altA ?_ | refine altR ?_ | refine sideA ?_ | refine decTA ?_ | refine decFA ?_ | refine decNA ?_ | refine decBTA ?_ | refine decBFA ?_ | refine ⟨_, by assumption, ?_⟩ | refine ⟨_, _, _, rfl, ?_⟩ | refine WC.seq (fun K hK => ?_) | (refine hK _ _ _ ?_; clear hK K) | (refine hK _ _ _ _ rfl ?_; clear hK K) | (refine WX.thenExit (K := K) ?_; clear hK K) | (refine WX.thenExit (K := KL) ?_; clear hL KL)))
    refine WC.drawV (S := (ceB q ⟨cs, cn, clg, chd, cmt, cmn, cg, ch⟩ t0 kv :: lgB cg lm nlV r :: lgM r M :: lgO M :: box b3 56 (opC o n t d 1) :: Sf)) ([[hdB ch hm hv, opO hv l]]) rfl (by repeat (first | exact Wo.nil | (apply Wo.keep; exact rfl) | (apply Wo.drop; exact rfl))) (fun w sw => by (try simp only [List.flatten_cons, List.flatten_nil, List.append_nil, List.cons_append, List.nil_append]); exact sw.to) ?_; (try dsimp only [chunks])
    (repeat refine ObP3.c0A ?_); try (refine ObP3.nil ?_; (repeat (intro _)); (conv => whnf); (try dsimp only [envO, List.cons_append, List.nil_append]))
    refine ObP3.cons1 [] [1000] (.ex Value (fun _ => .int .i64 (putE l hm ⟨o, n, t, cl, d, 1⟩)) (fun _ => [hG (putL l hm ⟨o, n, t, cl, d, 1⟩)]) (fun v => [hdB ch hm v, opO v (putL l hm ⟨o, n, t, cl, d, 1⟩)])) ?_ rfl ?_
    · (repeat (intro _)); (conv => whnf); (try dsimp only [envO, List.cons_append, List.nil_append])
      (repeat (first | refine vgo ?_ | refine ⟨_, rfl, rfl, ?_⟩ | refine ⟨_, rfl, ?_⟩ | refine ⟨rfl, ?_⟩ | intro hb | refine altA ?_ | refine altR ?_ | refine sideA ?_ | refine decTA ?_ | refine decFA ?_ | refine decNA ?_ | refine decBTA ?_ | refine decBFA ?_ | refine ⟨_, by assumption, ?_⟩ | refine ⟨_, _, _, rfl, ?_⟩ | refine WC.seq (fun K hK => ?_) | (refine hK _ _ _ ?_; clear hK K) | (refine hK _ _ _ _ rfl ?_; clear hK K) | (refine WX.thenExit (K := K) ?_; clear hK K) | (refine WX.thenExit (K := KL) ?_; clear hL KL)))
      refine CallV.by' (hput_fun ch hm hv l ⟨o, n, t, cl, d, 1⟩ (by omega) (by omega)) ?_; rintro _ _ _ ⟨v2, rfl, rfl, rfl⟩; (try simp only [List.cons_append]); (try simp only [List.nil_append])
      (repeat (first | refine vgo ?_ | refine ⟨_, rfl, rfl, ?_⟩ | refine ⟨_, rfl, ?_⟩ | refine ⟨rfl, ?_⟩ | intro hb | refine altA ?_ | refine altR ?_ | refine sideA ?_ | refine decTA ?_ | refine decFA ?_ | refine decNA ?_ | refine decBTA ?_ | refine decBFA ?_ | refine ⟨_, by assumption, ?_⟩ | refine ⟨_, _, _, rfl, ?_⟩ | refine WC.seq (fun K hK => ?_) | (refine hK _ _ _ ?_; clear hK K) | (refine hK _ _ _ _ rfl ?_; clear hK K) | (refine WX.thenExit (K := K) ?_; clear hK K) | (refine WX.thenExit (K := KL) ?_; clear hL KL)))
      exact WX.pgEx (fv := fun _ => .int .i64 (putE l hm ⟨o, n, t, cl, d, 1⟩)) v2 rfl (fun w sw => sw.to)
    (repeat refine ObP3.c0B ?_); try (refine ObP3.nil ?_; (repeat (intro _)); (conv => whnf); (try dsimp only [envO, List.cons_append, List.nil_append]))
    rename_i v2 _
    (repeat (first | refine vgo ?_ | refine ⟨_, rfl, rfl, ?_⟩ | refine ⟨_, rfl, ?_⟩ | refine ⟨rfl, ?_⟩ | intro hb | refine altA ?_ | refine altR ?_ | refine sideA ?_ | refine decTA ?_ | refine decFA ?_ | refine decNA ?_ | refine decBTA ?_ | refine decBFA ?_ | refine ⟨_, by assumption, ?_⟩ | refine ⟨_, _, _, rfl, ?_⟩ | refine WC.seq (fun K hK => ?_) | (refine hK _ _ _ ?_; clear hK K) | (refine hK _ _ _ _ rfl ?_; clear hK K) | (refine WX.thenExit (K := K) ?_; clear hK K) | (refine WX.thenExit (K := KL) ?_; clear hL KL)))
    exact WX.ret2 rfl rfl rfl (fun w sw => ⟨[rd (Ty.sl Ty.u64) kn kv, hG (putL l hm ⟨o, n, t, cl, d, 1⟩), hG [], rd (Ty.sl ovT) [] nlV], (PS.mk t0 kn kv M (putL l hm ⟨o, n, t, cl, d, 1⟩) v2).S q ⟨cs, cn, clg, chd, cmt, cmn, cg, ch⟩ r lm hm, ⟨⟨t0, kn, kv, M, putL l hm ⟨o, n, t, cl, d, 1⟩, v2⟩, [], nlV, _, rfl, ok.put hxw, .nil _, Nat.zero_le _, fun _ _ _ => ⟨fun _ => ⟨rfl, rfl, rfl, rfl, rfl⟩, fun h => absurd (show dueP kn ⟨o, n, t, cl, d, 1⟩ = false from hdu) (by rw [h]; simp)⟩, rfl, rfl⟩, ((sw.rdNil ovT).more (p := hG []) fun _ _ => trivial).to⟩)
  | true =>
    have hdp : dueP kn ⟨o, n, t, cl, d, 1⟩ = true := hdu
    obtain ⟨hwi, hn1⟩ := ok.due hdp
    (repeat (first | refine vgo ?_ | refine ⟨_, rfl, rfl, ?_⟩ | refine ⟨_, rfl, ?_⟩ | refine ⟨rfl, ?_⟩ | intro hb | refine altA ?_ | refine altR ?_ | refine sideA ?_ | refine decTA ?_ | refine decFA ?_ | refine decNA ?_ | refine decBTA ?_ | refine decBFA ?_ | refine ⟨_, by assumption, ?_⟩ | refine ⟨_, _, _, rfl, ?_⟩ | refine WC.seq (fun K hK => ?_) | (refine hK _ _ _ ?_; clear hK K) | (refine hK _ _ _ _ rfl ?_; clear hK K) | (refine WX.thenExit (K := K) ?_; clear hK K) | (refine WX.thenExit (K := KL) ?_; clear hL KL)))
    refine CallV.by' (cdeliver_fun q ⟨cs, cn, clg, chd, cmt, cmn, cg, ch⟩ t0 kn kv r lm M l hm ⟨o, n, t, cl, d, 1⟩ ok hxw hlm) ?_; rintro _ _ _ ⟨n', k2, kv2, M2, t2, rfl, ok3, hcase, rfl, rfl⟩; (try simp only [List.cons_append]); (try simp only [List.nil_append])
    by_cases hn0 : n' = 0
    · have hst : StepC kn ⟨o, n, t, cl, d, 1⟩ k2 := by
        rcases hcase with ⟨h, _⟩ | ⟨_, h2, h3, h4⟩
        · exact absurd hn0 h
        · exact ⟨hwi, h2, h3, h4, hxw⟩
      (repeat (first | refine vgo ?_ | refine ⟨_, rfl, rfl, ?_⟩ | refine ⟨_, rfl, ?_⟩ | refine ⟨rfl, ?_⟩ | intro hb | refine altA ?_ | refine altR ?_ | refine sideA ?_ | refine decTA ?_ | refine decFA ?_ | refine decNA ?_ | refine decBTA ?_ | refine decBFA ?_ | refine ⟨_, by assumption, ?_⟩ | refine ⟨_, _, _, rfl, ?_⟩ | refine WC.seq (fun K hK => ?_) | (refine hK _ _ _ ?_; clear hK K) | (refine hK _ _ _ _ rfl ?_; clear hK K) | (refine WX.thenExit (K := K) ?_; clear hK K) | (refine WX.thenExit (K := KL) ?_; clear hL KL)))
      refine WC.sat (fun w sw => (show Sat B (rd (Ty.sl Ty.u64) k2 kv2 :: rd (Ty.sl Ty.u64) [] nlV :: rd (Ty.sl Ty.u64) kn kv :: hG l :: rd (Ty.sl Ty.u64) cl d :: Gf) (ceB q ⟨cs, cn, clg, chd, cmt, cmn, cg, ch⟩ t2 kv2 :: lgB cg lm nlV r :: lgM r M2 :: lgO M2 :: hdB ch hm hv :: opO hv l :: box b3 56 (opC o n t d 1) :: Sf) w from sw.to)) ?_
      refine WC.drawV (S := (box b3 56 (opC o n t d 1) :: Sf)) ([[ceB q ⟨cs, cn, clg, chd, cmt, cmn, cg, ch⟩ t2 kv2, lgB cg lm nlV r, lgM r M2, lgO M2, hdB ch hm hv, opO hv l]]) rfl (by repeat (first | exact Wo.nil | (apply Wo.keep; exact rfl) | (apply Wo.drop; exact rfl))) (fun w sw => by (try simp only [List.flatten_cons, List.flatten_nil, List.append_nil, List.cons_append, List.nil_append]); exact sw.to) ?_; (try dsimp only [chunks])
      (repeat refine ObP3.c0A ?_); try (refine ObP3.nil ?_; (repeat (intro _)); (conv => whnf); (try dsimp only [envO, List.cons_append, List.nil_append]))
      refine ObP3.cons1 [] [1000] (.ex (rcX hm lm k2 l) (fun pp => pp.1.2.2) (fun pp => [rd (Ty.sl Ty.u64) pp.1.1.kn pp.1.1.kv, hG pp.1.1.l, hG pp.1.2.1, rd (Ty.sl ovT) pp.1.2.1 pp.1.2.2]) (fun pp => [ceB q ⟨cs, cn, clg, chd, cmt, cmn, cg, ch⟩ pp.1.1.t pp.1.1.kv, lgB cg lm nlV r, lgM r pp.1.1.M, lgO pp.1.1.M, hdB ch hm pp.1.1.hv, opO pp.1.1.hv pp.1.1.l])) ?_ rfl ?_
      · (repeat (intro _)); (conv => whnf); (try dsimp only [envO, List.cons_append, List.nil_append])
        (repeat (first | refine vgo ?_ | refine ⟨_, rfl, rfl, ?_⟩ | refine ⟨_, rfl, ?_⟩ | refine ⟨rfl, ?_⟩ | intro hb | refine altA ?_ | refine altR ?_ | refine sideA ?_ | refine decTA ?_ | refine decFA ?_ | refine decNA ?_ | refine decBTA ?_ | refine decBFA ?_ | refine ⟨_, by assumption, ?_⟩ | refine ⟨_, _, _, rfl, ?_⟩ | refine WC.seq (fun K hK => ?_) | (refine hK _ _ _ ?_; clear hK K) | (refine hK _ _ _ _ rfl ?_; clear hK K) | (refine WX.thenExit (K := K) ?_; clear hK K) | (refine WX.thenExit (K := KL) ?_; clear hL KL)))
        refine CallV.by' (cwake_fun q ⟨cs, cn, clg, chd, cmt, cmn, cg, ch⟩ t2 k2 kv2 r lm M2 l hm hv ok3 hlm) ?_; rintro _ _ _ ⟨p5, xs5, ok5, ch5, len5, wk5, rfl, rfl⟩; (try simp only [List.cons_append]); (try simp only [List.nil_append])
        (repeat (first | refine vgo ?_ | refine ⟨_, rfl, rfl, ?_⟩ | refine ⟨_, rfl, ?_⟩ | refine ⟨rfl, ?_⟩ | intro hb | refine altA ?_ | refine altR ?_ | refine sideA ?_ | refine decTA ?_ | refine decFA ?_ | refine decNA ?_ | refine decBTA ?_ | refine decBFA ?_ | refine ⟨_, by assumption, ?_⟩ | refine ⟨_, _, _, rfl, ?_⟩ | refine WC.seq (fun K hK => ?_) | (refine hK _ _ _ ?_; clear hK K) | (refine hK _ _ _ _ rfl ?_; clear hK K) | (refine WX.thenExit (K := K) ?_; clear hK K) | (refine WX.thenExit (K := KL) ?_; clear hL KL)))
        rename_i u5
        exact WX.pgEx (fv := fun pp : rcX hm lm k2 l => pp.1.2.2) ⟨(p5, xs5, u5), ok5, ch5, len5, wk5⟩ rfl (fun w sw => sw.to)
      refine ObP3.cons1 [] [1, 3] (.ex (rcX hm lm k2 l) (fun pp => pp.1.2.2) (fun pp => [rd (Ty.sl Ty.u64) pp.1.1.kn pp.1.1.kv, hG pp.1.1.l, hG pp.1.2.1]) (fun pp => [own 56 24 pp.1.2.2 (1 + pp.1.2.1.length) (opC o n t d 1 ++ flat (pp.1.2.1.map fun a => a.V)), ceB q ⟨cs, cn, clg, chd, cmt, cmn, cg, ch⟩ pp.1.1.t pp.1.1.kv, lgB cg lm nlV r, lgM r pp.1.1.M, lgO pp.1.1.M, hdB ch hm pp.1.1.hv, opO pp.1.1.hv pp.1.1.l])) ?_ rfl ?_
      · (repeat (intro _)); (conv => whnf); (try dsimp only [envO, List.cons_append, List.nil_append])
        (repeat (first | refine vgo ?_ | refine ⟨_, rfl, rfl, ?_⟩ | refine ⟨_, rfl, ?_⟩ | refine ⟨rfl, ?_⟩ | intro hb | refine altA ?_ | refine altR ?_ | refine sideA ?_ | refine decTA ?_ | refine decFA ?_ | refine decNA ?_ | refine decBTA ?_ | refine decBFA ?_ | refine ⟨_, by assumption, ?_⟩ | refine ⟨_, _, _, rfl, ?_⟩ | refine WC.seq (fun K hK => ?_) | (refine hK _ _ _ ?_; clear hK K) | (refine hK _ _ _ _ rfl ?_; clear hK K) | (refine WX.thenExit (K := K) ?_; clear hK K) | (refine WX.thenExit (K := KL) ?_; clear hL KL)))
        rename_i q5 _ _ _
        (try simp only [List.cons_append, List.nil_append])
        exact WX.pgEx (fv := fun pp : rcX hm lm k2 l => pp.1.2.2) ⟨(q5.1.1, q5.1.2.1, hb), q5.2⟩ rfl (fun w sw => sw.to)
      refine ObP3.cons1 [] [4] (.ex (rcX hm lm k2 l) (fun pp => pp.1.2.2) (fun pp => [rd (Ty.sl Ty.u64) pp.1.1.kn pp.1.1.kv, hG pp.1.1.l, hG pp.1.2.1]) (fun pp => [own 56 24 pp.1.2.2 (1 + pp.1.2.1.length) (opC o n t d 1 ++ flat (pp.1.2.1.map fun a => a.V)), ceB q ⟨cs, cn, clg, chd, cmt, cmn, cg, ch⟩ pp.1.1.t pp.1.1.kv, lgB cg lm nlV r, lgM r pp.1.1.M, lgO pp.1.1.M, hdB ch hm pp.1.1.hv, opO pp.1.1.hv pp.1.1.l])) ?_ rfl ?_
      · (repeat (intro _)); (conv => whnf); (try dsimp only [envO, List.cons_append, List.nil_append])
        (repeat (first | refine vgo ?_ | refine ⟨_, rfl, rfl, ?_⟩ | refine ⟨_, rfl, ?_⟩ | refine ⟨rfl, ?_⟩ | intro hb | refine altA ?_ | refine altR ?_ | refine sideA ?_ | refine decTA ?_ | refine decFA ?_ | refine decNA ?_ | refine decBTA ?_ | refine decBFA ?_ | refine ⟨_, by assumption, ?_⟩ | refine ⟨_, _, _, rfl, ?_⟩ | refine WC.seq (fun K hK => ?_) | (refine hK _ _ _ ?_; clear hK K) | (refine hK _ _ _ _ rfl ?_; clear hK K) | (refine WX.thenExit (K := K) ?_; clear hK K) | (refine WX.thenExit (K := KL) ?_; clear hL KL)))
        rename_i q5 _ _ _
        exact WX.pgEx (fv := fun pp : rcX hm lm k2 l => pp.1.2.2) q5 rfl (fun w sw => sw.to)
      (repeat refine ObP3.c0B ?_); try (refine ObP3.nil ?_; (repeat (intro _)); (conv => whnf); (try dsimp only [envO, List.cons_append, List.nil_append]))
      rename_i q6 _ _ _ _
      obtain ⟨⟨p6, xs6, v6⟩, ok6, ch6, len6, wk6⟩ := q6
      dsimp only at ok6 ch6 len6 wk6 ⊢
      (repeat (first | refine vgo ?_ | refine ⟨_, rfl, rfl, ?_⟩ | refine ⟨_, rfl, ?_⟩ | refine ⟨rfl, ?_⟩ | intro hb | refine altA ?_ | refine altR ?_ | refine sideA ?_ | refine decTA ?_ | refine decFA ?_ | refine decNA ?_ | refine decBTA ?_ | refine decBFA ?_ | refine ⟨_, by assumption, ?_⟩ | refine ⟨_, _, _, rfl, ?_⟩ | refine WC.seq (fun K hK => ?_) | (refine hK _ _ _ ?_; clear hK K) | (refine hK _ _ _ _ rfl ?_; clear hK K) | (refine WX.thenExit (K := K) ?_; clear hK K) | (refine WX.thenExit (K := KL) ?_; clear hL KL)))
      refine WX.ret2 rfl rfl rfl (fun w sw => ⟨[rd (Ty.sl Ty.u64) p6.kn p6.kv, hG p6.l, hG (⟨o, n, t, cl, d, 1⟩ :: xs6), rd (Ty.sl ovT) (⟨o, n, t, cl, d, 1⟩ :: xs6) v6], p6.S q ⟨cs, cn, clg, chd, cmt, cmn, cg, ch⟩ r lm hm, ⟨p6, ⟨o, n, t, cl, d, 1⟩ :: xs6, v6, 0, rfl, ok6, .cons hst ch6, by rw [List.length_cons]; omega, fun _ _ _ => ⟨fun h => absurd hdp (by rw [h]; simp), fun _ _ => ⟨rfl, ⟨_, rfl⟩, wk6.1, fun y hy => (wk6.2 y hy).imp (List.mem_cons_of_mem _) id⟩⟩, rfl, rfl⟩, ?_⟩)
      have e1 : own 56 24 v6 (1 + xs6.length) (opC o n t d 1 ++ flat (xs6.map fun a => a.V)) = opO v6 (⟨o, n, t, cl, d, 1⟩ :: xs6) := by
        unfold opO
        rw [List.length_cons, Nat.add_comm, ← opsC_flat]; rfl
      simp only [opC, List.cons_append, List.nil_append] at e1
      rw [e1] at sw
      have s1 : Sat B (hG (⟨o, n, t, cl, d, 1⟩ :: xs6) :: rd (Ty.sl Ty.u64) p6.kn p6.kv :: hG p6.l :: rd (Ty.sl Ty.u64) [] nlV :: rd (Ty.sl Ty.u64) kn kv :: hG l :: rd (Ty.sl Ty.u64) cl d :: Gf) (opO v6 (⟨o, n, t, cl, d, 1⟩ :: xs6) :: p6.S q ⟨cs, cn, clg, chd, cmt, cmn, cg, ch⟩ r lm hm ++ Sf) w := (sw.more (p := hG (⟨o, n, t, cl, d, 1⟩ :: xs6)) fun m hm2 => ⟨hm2 (rd (Ty.sl Ty.u64) cl d) (by simp), hm2 (hG xs6) (by simp)⟩).to
      have hone := ops_oneD (ops_one (l := ⟨o, n, t, cl, d, 1⟩ :: xs6) s1 (.head _))
      exact (s1.pub (R := ovT) (l := ⟨o, n, t, cl, d, 1⟩ :: xs6) (v := v6) SelOwn.h rfl (opsC_flat _) rfl hone).to
    · rcases hcase with ⟨_, rfl, hadd⟩ | ⟨h, _⟩
      rotate_left
      · exact absurd h hn0
      (repeat (first | refine vgo ?_ | refine ⟨_, rfl, rfl, ?_⟩ | refine ⟨_, rfl, ?_⟩ | refine ⟨rfl, ?_⟩ | intro hb | refine altA ?_ | refine altR ?_ | refine sideA ?_ | refine decTA ?_ | refine decFA ?_ | refine decNA ?_ | refine decBTA ?_ | refine decBFA ?_ | refine ⟨_, by assumption, ?_⟩ | refine ⟨_, _, _, rfl, ?_⟩ | refine WC.seq (fun K hK => ?_) | (refine hK _ _ _ ?_; clear hK K) | (refine hK _ _ _ _ rfl ?_; clear hK K) | (refine WX.thenExit (K := K) ?_; clear hK K) | (refine WX.thenExit (K := KL) ?_; clear hL KL)))
      exact WX.ret2 rfl rfl rfl (fun w sw => ⟨[rd (Ty.sl Ty.u64) k2 kv2, hG l, hG [], rd (Ty.sl ovT) [] nlV], (PS.mk t2 k2 kv2 M2 l hv).S q ⟨cs, cn, clg, chd, cmt, cmn, cg, ch⟩ r lm hm, ⟨⟨t2, k2, kv2, M2, l, hv⟩, [], nlV, n', rfl, ok3, .nil _, Nat.zero_le _, fun _ _ _ => ⟨fun h => absurd hdp (by rw [h]; simp), fun _ h => absurd h hadd⟩, rfl, rfl⟩, ((sw.rdNil ovT).more (p := hG []) fun _ _ => trivial).to⟩)
end
/-! ### Delivery: New, Known; the law's own functions. -/
section
open Go Go.Proofs
theorem cknown_fun (q : Nat) (c : CE) (t0 : Nat) (kn : List Nat) (kv : Value) (hl : kn.length ≤ 64) : Fun Try.prog 27 [.pointer (some ⟨q, 0, none⟩)] [rd (Ty.sl Ty.u64) kn kv] [ceB q c t0 kv] (fun z G S => G = [rd (Ty.sl Ty.u64) kn z] ∧ S = [ceB q c t0 kv]) := by
  refine Fun.enter Try.func27 (by kernel_rfl) rfl Try.ntmps27 rfl (fun B Gf Sf => ?_); (try simp only [List.cons_append]); (try simp only [List.nil_append]); simp only [argEnv]
  refine WC.ex (fun w sw => sw.slOne (v := kv) (R := Ty.u64) (l := kn) (by simp)) (fun hkv => ?_)
  (repeat (first | refine vgo ?_ | refine ⟨_, rfl, rfl, ?_⟩ | refine ⟨_, rfl, ?_⟩ | refine ⟨rfl, ?_⟩ | intro hb | refine altA ?_ | refine altR ?_ | refine sideA ?_ | refine decTA ?_ | refine decFA ?_ | refine decNA ?_ | refine decBTA ?_ | refine decBFA ?_ | refine ⟨_, by assumption, ?_⟩ | refine ⟨_, _, _, rfl, ?_⟩ | refine WC.seq (fun K hK => ?_) | (refine hK _ _ _ ?_; clear hK K) | (refine hK _ _ _ _ rfl ?_; clear hK K) | (refine WX.thenExit (K := K) ?_; clear hK K) | (refine WX.thenExit (K := KL) ?_; clear hL KL)))
  exact WX.ret1 rfl rfl (fun w sw => ⟨_, [ceB q c t0 kv], ⟨rfl, rfl⟩, sw.to⟩)
abbrev limV (lg hd : Int) (mt mn : Nat) : Value := .agg #[.int .i64 lg, .int .i64 hd, .int .u64 (mt : Int), .int .u64 (mn : Int)]
set_option maxHeartbeats 3200000 in
theorem cnew18_fun (s n lg hd : Int) (mt mn : Nat) (hn : 1 ≤ n ∧ n ≤ 64) (hs : 1 ≤ s ∧ s ≤ n) :
    Fun Try.prog 22 [.int .i64 s, .int .i64 n, limV lg hd mt mn] [] [] (fun z G S => ∃ (q g r h : Nat), z = .tuple #[.pointer (some ⟨q, 0, none⟩), .int .i64 0] ∧ G = [hG []] ∧ S = [ceB q ⟨s, n, lg, hd, min mt 1099511627776, mn, g, h⟩ 0 nlV, lgB g (min (max lg 0) 1000) nlV r, lgM r [], lgO [], hdB h (min (max hd 0) 1000).toNat nlV, opO nlV []]) := by
  obtain ⟨hn1, hn2⟩ := hn
  obtain ⟨hs1, hs2⟩ := hs
  refine Fun.enter Try.func22 (by kernel_rfl) rfl Try.ntmps22 rfl (fun B Gf Sf => ?_); (try simp only [List.cons_append]); (try simp only [List.nil_append]); simp only [argEnv]
  (repeat (first | refine vgo ?_ | refine ⟨_, rfl, rfl, ?_⟩ | refine ⟨_, rfl, ?_⟩ | refine ⟨rfl, ?_⟩ | intro hb | refine altA ?_ | refine altR ?_ | refine sideA ?_ | refine decTA ?_ | refine decFA ?_ | refine decNA ?_ | refine decBTA ?_ | refine decBFA ?_ | refine ⟨_, by assumption, ?_⟩ | refine ⟨_, _, _, rfl, ?_⟩ | refine WC.seq (fun K hK => ?_) | (refine hK _ _ _ ?_; clear hK K) | (refine hK _ _ _ _ rfl ?_; clear hK K) | (refine WX.thenExit (K := K) ?_; clear hK K) | (refine WX.thenExit (K := KL) ?_; clear hL KL)))
  (first | refine WL.boxA rfl rfl ?_ | refine WL.box rfl rfl rfl ?_); intro b5
  (repeat (first | refine vgo ?_ | refine ⟨_, rfl, rfl, ?_⟩ | refine ⟨_, rfl, ?_⟩ | refine ⟨rfl, ?_⟩ | intro hb | refine altA ?_ | refine altR ?_ | refine sideA ?_ | refine decTA ?_ | refine decFA ?_ | refine decNA ?_ | refine decBTA ?_ | refine decBFA ?_ | refine ⟨_, by assumption, ?_⟩ | refine ⟨_, _, _, rfl, ?_⟩ | refine WC.seq (fun K hK => ?_) | (refine hK _ _ _ ?_; clear hK K) | (refine hK _ _ _ _ rfl ?_; clear hK K) | (refine WX.thenExit (K := K) ?_; clear hK K) | (refine WX.thenExit (K := KL) ?_; clear hL KL)))
  rw [show min ((mt : Nat) : Int) 1099511627776 = ((min mt 1099511627776 : Nat) : Int) from by omega]
  obtain ⟨mt', hmt'⟩ : ∃ mt', mt' = min mt 1099511627776 := ⟨_, rfl⟩
  rw [← hmt']
  (apply WC.drawE; exact rfl; focus (repeat (first | exact Wo.nil | (apply Wo.keep; exact rfl) | (apply Wo.drop; exact rfl)))); (repeat refine ObP3.c0A ?_); try (refine ObP3.nil ?_; (repeat (intro _)); (conv => whnf); (try dsimp only [envO, List.cons_append, List.nil_append]))
  refine ObP3.cons1 [] [] (.ex (Nat × Nat) (fun p => .pointer (some ⟨p.1, 0, none⟩)) (fun _ => []) (fun p => [lgB p.1 (min (max lg 0) 1000) nlV p.2, lgM p.2 [], lgO []])) ?_ rfl ?_
  · (repeat (intro _)); (conv => whnf); (try dsimp only [envO, List.cons_append, List.nil_append])
    (repeat (first | refine vgo ?_ | refine ⟨_, rfl, rfl, ?_⟩ | refine ⟨_, rfl, ?_⟩ | refine ⟨rfl, ?_⟩ | intro hb | refine altA ?_ | refine altR ?_ | refine sideA ?_ | refine decTA ?_ | refine decFA ?_ | refine decNA ?_ | refine decBTA ?_ | refine decBFA ?_ | refine ⟨_, by assumption, ?_⟩ | refine ⟨_, _, _, rfl, ?_⟩ | refine WC.seq (fun K hK => ?_) | (refine hK _ _ _ ?_; clear hK K) | (refine hK _ _ _ _ rfl ?_; clear hK K) | (refine WX.thenExit (K := K) ?_; clear hK K) | (refine WX.thenExit (K := KL) ?_; clear hL KL)))
    refine CallV.by' (lgnew_fun lg) ?_; rintro _ _ _ ⟨g, r, rfl, rfl, rfl⟩; (try simp only [List.cons_append]); (try simp only [List.nil_append])
    (repeat (first | refine vgo ?_ | refine ⟨_, rfl, rfl, ?_⟩ | refine ⟨_, rfl, ?_⟩ | refine ⟨rfl, ?_⟩ | intro hb | refine altA ?_ | refine altR ?_ | refine sideA ?_ | refine decTA ?_ | refine decFA ?_ | refine decNA ?_ | refine decBTA ?_ | refine decBFA ?_ | refine ⟨_, by assumption, ?_⟩ | refine ⟨_, _, _, rfl, ?_⟩ | refine WC.seq (fun K hK => ?_) | (refine hK _ _ _ ?_; clear hK K) | (refine hK _ _ _ _ rfl ?_; clear hK K) | (refine WX.thenExit (K := K) ?_; clear hK K) | (refine WX.thenExit (K := KL) ?_; clear hL KL)))
    exact WX.pgEx (fv := fun p : Nat × Nat => .pointer (some ⟨p.1, 0, none⟩)) (g, r) rfl (fun w sw => sw.to)
  (repeat refine ObP3.c0B ?_); try (refine ObP3.nil ?_; (repeat (intro _)); (conv => whnf); (try dsimp only [envO, List.cons_append, List.nil_append]))
  refine ObP3.cons1 [] [] (.ex Nat (fun p => .pointer (some ⟨p, 0, none⟩)) (fun _ => [hG []]) (fun p => [hdB p (min (max hd 0) 1000).toNat nlV, opO nlV []])) ?_ rfl ?_
  · (repeat (intro _)); (conv => whnf); (try dsimp only [envO, List.cons_append, List.nil_append])
    (repeat (first | refine vgo ?_ | refine ⟨_, rfl, rfl, ?_⟩ | refine ⟨_, rfl, ?_⟩ | refine ⟨rfl, ?_⟩ | intro hb | refine altA ?_ | refine altR ?_ | refine sideA ?_ | refine decTA ?_ | refine decFA ?_ | refine decNA ?_ | refine decBTA ?_ | refine decBFA ?_ | refine ⟨_, by assumption, ?_⟩ | refine ⟨_, _, _, rfl, ?_⟩ | refine WC.seq (fun K hK => ?_) | (refine hK _ _ _ ?_; clear hK K) | (refine hK _ _ _ _ rfl ?_; clear hK K) | (refine WX.thenExit (K := K) ?_; clear hK K) | (refine WX.thenExit (K := KL) ?_; clear hL KL)))
    refine CallV.by' (hnew_fun hd) ?_; rintro _ _ _ ⟨h, rfl, rfl, rfl⟩; (try simp only [List.cons_append]); (try simp only [List.nil_append])
    (repeat (first | refine vgo ?_ | refine ⟨_, rfl, rfl, ?_⟩ | refine ⟨_, rfl, ?_⟩ | refine ⟨rfl, ?_⟩ | intro hb | refine altA ?_ | refine altR ?_ | refine sideA ?_ | refine decTA ?_ | refine decFA ?_ | refine decNA ?_ | refine decBTA ?_ | refine decBFA ?_ | refine ⟨_, by assumption, ?_⟩ | refine ⟨_, _, _, rfl, ?_⟩ | refine WC.seq (fun K hK => ?_) | (refine hK _ _ _ ?_; clear hK K) | (refine hK _ _ _ _ rfl ?_; clear hK K) | (refine WX.thenExit (K := K) ?_; clear hK K) | (refine WX.thenExit (K := KL) ?_; clear hL KL)))
    exact WX.pgEx (fv := fun p : Nat => .pointer (some ⟨p, 0, none⟩)) h rfl (fun w sw => sw.to)
  refine ObP3.cons1 [] [5, 8] (.ex (Nat × Nat × Nat) (fun p => Value.agg #[.int .i64 s, .int .i64 n, .int .i64 lg, .int .i64 hd, .int .u64 (mt' : Int), .int .u64 (mn : Int), .int .u64 0, nlV, .pointer (some ⟨p.1, 0, none⟩), .pointer (some ⟨p.2.2, 0, none⟩)]) (fun _ => [hG []]) (fun p => [lgB p.1 (min (max lg 0) 1000) nlV p.2.1, lgM p.2.1 [], lgO [], hdB p.2.2 (min (max hd 0) 1000).toNat nlV, opO nlV []])) ?_ rfl ?_
  · (repeat (intro _)); (conv => whnf); (try dsimp only [envO, List.cons_append, List.nil_append])
    (repeat (first | refine vgo ?_ | refine ⟨_, rfl, rfl, ?_⟩ | refine ⟨_, rfl, ?_⟩ | refine ⟨rfl, ?_⟩ | intro hb | refine altA ?_ | refine altR ?_ | refine sideA ?_ | refine decTA ?_ | refine decFA ?_ | refine decNA ?_ | refine decBTA ?_ | refine decBFA ?_ | refine ⟨_, by assumption, ?_⟩ | refine ⟨_, _, _, rfl, ?_⟩ | refine WC.seq (fun K hK => ?_) | (refine hK _ _ _ ?_; clear hK K) | (refine hK _ _ _ _ rfl ?_; clear hK K) | (refine WX.thenExit (K := K) ?_; clear hK K) | (refine WX.thenExit (K := KL) ?_; clear hL KL)))
    rename_i h5 p5
    exact WX.pgEx (fv := fun p : Nat × Nat × Nat => Value.agg #[.int .i64 s, .int .i64 n, .int .i64 lg, .int .i64 hd, .int .u64 (mt' : Int), .int .u64 (mn : Int), .int .u64 0, nlV, .pointer (some ⟨p.1, 0, none⟩), .pointer (some ⟨p.2.2, 0, none⟩)]) (p5.1, p5.2, h5) rfl (fun w sw => sw.to)
  refine ObP3.cons1 [] [9] (.ex (Nat × Nat × Nat × Nat) (fun p => .pointer (some ⟨p.1, 0, none⟩)) (fun _ => [hG []]) (fun p => [ceB p.1 ⟨s, n, lg, hd, mt', mn, p.2.1, p.2.2.2⟩ 0 nlV, lgB p.2.1 (min (max lg 0) 1000) nlV p.2.2.1, lgM p.2.2.1 [], lgO [], hdB p.2.2.2 (min (max hd 0) 1000).toNat nlV, opO nlV []])) ?_ rfl ?_
  · (repeat (intro _)); (conv => whnf); (try dsimp only [envO, List.cons_append, List.nil_append])
    (repeat (first | refine vgo ?_ | refine ⟨_, rfl, rfl, ?_⟩ | refine ⟨_, rfl, ?_⟩ | refine ⟨rfl, ?_⟩ | intro hb | refine altA ?_ | refine altR ?_ | refine sideA ?_ | refine decTA ?_ | refine decFA ?_ | refine decNA ?_ | refine decBTA ?_ | refine decBFA ?_ | refine ⟨_, by assumption, ?_⟩ | refine ⟨_, _, _, rfl, ?_⟩ | refine WC.seq (fun K hK => ?_) | (refine hK _ _ _ ?_; clear hK K) | (refine hK _ _ _ _ rfl ?_; clear hK K) | (refine WX.thenExit (K := K) ?_; clear hK K) | (refine WX.thenExit (K := KL) ?_; clear hL KL)))
    (first | refine WL.boxA rfl rfl ?_ | refine WL.box rfl rfl rfl ?_); intro bq
    (repeat (first | refine vgo ?_ | refine ⟨_, rfl, rfl, ?_⟩ | refine ⟨_, rfl, ?_⟩ | refine ⟨rfl, ?_⟩ | intro hb | refine altA ?_ | refine altR ?_ | refine sideA ?_ | refine decTA ?_ | refine decFA ?_ | refine decNA ?_ | refine decBTA ?_ | refine decBFA ?_ | refine ⟨_, by assumption, ?_⟩ | refine ⟨_, _, _, rfl, ?_⟩ | refine WC.seq (fun K hK => ?_) | (refine hK _ _ _ ?_; clear hK K) | (refine hK _ _ _ _ rfl ?_; clear hK K) | (refine WX.thenExit (K := K) ?_; clear hK K) | (refine WX.thenExit (K := KL) ?_; clear hL KL)))
    rename_i p5 _ _
    exact WX.pgEx (fv := fun p : Nat × Nat × Nat × Nat => .pointer (some ⟨p.1, 0, none⟩)) (bq, p5.1, p5.2.1, p5.2.2) rfl (fun w sw => sw.to)
  refine ObP3.cons1 [] [10] (.ex (Nat × Nat × Nat × Nat) (fun p => .pointer (some ⟨p.1, 0, none⟩)) (fun _ => [hG []]) (fun p => [ceB p.1 ⟨s, n, lg, hd, mt', mn, p.2.1, p.2.2.2⟩ 0 nlV, lgB p.2.1 (min (max lg 0) 1000) nlV p.2.2.1, lgM p.2.2.1 [], lgO [], hdB p.2.2.2 (min (max hd 0) 1000).toNat nlV, opO nlV []])) ?_ rfl ?_
  · (repeat (intro _)); (conv => whnf); (try dsimp only [envO, List.cons_append, List.nil_append])
    (repeat (first | refine vgo ?_ | refine ⟨_, rfl, rfl, ?_⟩ | refine ⟨_, rfl, ?_⟩ | refine ⟨rfl, ?_⟩ | intro hb | refine altA ?_ | refine altR ?_ | refine sideA ?_ | refine decTA ?_ | refine decFA ?_ | refine decNA ?_ | refine decBTA ?_ | refine decBFA ?_ | refine ⟨_, by assumption, ?_⟩ | refine ⟨_, _, _, rfl, ?_⟩ | refine WC.seq (fun K hK => ?_) | (refine hK _ _ _ ?_; clear hK K) | (refine hK _ _ _ _ rfl ?_; clear hK K) | (refine WX.thenExit (K := K) ?_; clear hK K) | (refine WX.thenExit (K := KL) ?_; clear hL KL)))
    rename_i p5 _ _ _
    exact WX.pgEx (fv := fun p : Nat × Nat × Nat × Nat => .pointer (some ⟨p.1, 0, none⟩)) p5 rfl (fun w sw => sw.to)
  (repeat refine ObP3.c0B ?_); try (refine ObP3.nil ?_; (repeat (intro _)); (conv => whnf); (try dsimp only [envO, List.cons_append, List.nil_append]))
  rename_i p _ _ _ _
  (repeat (first | refine vgo ?_ | refine ⟨_, rfl, rfl, ?_⟩ | refine ⟨_, rfl, ?_⟩ | refine ⟨rfl, ?_⟩ | intro hb | refine altA ?_ | refine altR ?_ | refine sideA ?_ | refine decTA ?_ | refine decFA ?_ | refine decNA ?_ | refine decBTA ?_ | refine decBFA ?_ | refine ⟨_, by assumption, ?_⟩ | refine ⟨_, _, _, rfl, ?_⟩ | refine WC.seq (fun K hK => ?_) | (refine hK _ _ _ ?_; clear hK K) | (refine hK _ _ _ _ rfl ?_; clear hK K) | (refine WX.thenExit (K := K) ?_; clear hK K) | (refine WX.thenExit (K := KL) ?_; clear hL KL)))
  exact WX.ret2 rfl rfl rfl (fun w sw => ⟨[hG []], [ceB p.1 ⟨s, n, lg, hd, mt', mn, p.2.1, p.2.2.2⟩ 0 nlV, lgB p.2.1 (min (max lg 0) 1000) nlV p.2.2.1, lgM p.2.2.1 [], lgO [], hdB p.2.2.2 (min (max hd 0) 1000).toNat nlV, opO nlV []], ⟨p.1, p.2.1, p.2.2.1, p.2.2.2, rfl, rfl, by rw [hmt']⟩, sw.to⟩)
theorem to18_fun (o : Int) (n t : Nat) (f : List Nat) (k : Int) (hf : okF f) : Fun Try.prog 25 [opFV o n t f k] [] [] (fun u G S => ∃ d, u = opV o n t d k ∧ G = [rd (Ty.sl Ty.u64) (trimL f) d] ∧ S = []) := by
  have hfl := hf.1
  have i1 : Len64 f := ⟨hfl⟩
  refine Fun.enter Try.func25 (by kernel_rfl) rfl Try.ntmps25 rfl (fun B Gf Sf => ?_); (try simp only [List.cons_append]); (try simp only [List.nil_append]); simp only [argEnv]
  (repeat (first | refine vgo ?_ | refine ⟨_, rfl, rfl, ?_⟩ | refine ⟨_, rfl, ?_⟩ | refine ⟨rfl, ?_⟩ | intro hb | refine altA ?_ | refine altR ?_ | refine sideA ?_ | refine decTA ?_ | refine decFA ?_ | refine decNA ?_ | refine decBTA ?_ | refine decBFA ?_ | refine ⟨_, by assumption, ?_⟩ | refine ⟨_, _, _, rfl, ?_⟩ | refine WC.seq (fun K hK => ?_) | (refine hK _ _ _ ?_; clear hK K) | (refine hK _ _ _ _ rfl ?_; clear hK K) | (refine WX.thenExit (K := K) ?_; clear hK K) | (refine WX.thenExit (K := KL) ?_; clear hL KL)))
  (first | refine WL.boxA rfl rfl ?_ | refine WL.box rfl rfl rfl ?_); intro bf
  (repeat (first | refine vgo ?_ | refine ⟨_, rfl, rfl, ?_⟩ | refine ⟨_, rfl, ?_⟩ | refine ⟨rfl, ?_⟩ | intro hb | refine altA ?_ | refine altR ?_ | refine sideA ?_ | refine decTA ?_ | refine decFA ?_ | refine decNA ?_ | refine decBTA ?_ | refine decBFA ?_ | refine ⟨_, by assumption, ?_⟩ | refine ⟨_, _, _, rfl, ?_⟩ | refine WC.seq (fun K hK => ?_) | (refine hK _ _ _ ?_; clear hK K) | (refine hK _ _ _ _ rfl ?_; clear hK K) | (refine WX.thenExit (K := K) ?_; clear hK K) | (refine WX.thenExit (K := KL) ?_; clear hL KL)))
  refine WL.alloc rfl ?_; intro b2
  (repeat (first | refine vgo ?_ | refine ⟨_, rfl, rfl, ?_⟩ | refine ⟨_, rfl, ?_⟩ | refine ⟨rfl, ?_⟩ | intro hb | refine altA ?_ | refine altR ?_ | refine sideA ?_ | refine decTA ?_ | refine decFA ?_ | refine decNA ?_ | refine decBTA ?_ | refine decBFA ?_ | refine ⟨_, by assumption, ?_⟩ | refine ⟨_, _, _, rfl, ?_⟩ | refine WC.seq (fun K hK => ?_) | (refine hK _ _ _ ?_; clear hK K) | (refine hK _ _ _ _ rfl ?_; clear hK K) | (refine WX.thenExit (K := K) ?_; clear hK K) | (refine WX.thenExit (K := KL) ?_; clear hL KL)))
  refine WC.drawV (S := (box bf 66 (opFC o n t f k) :: Sf)) ([[box b2 56 (opC 0 0 0 (.slice none 0 0) 0)]]) rfl (by repeat (first | exact Wo.nil | (apply Wo.keep; exact rfl) | (apply Wo.drop; exact rfl))) (fun w sw => by (try simp only [List.flatten_cons, List.flatten_nil, List.append_nil, List.cons_append, List.nil_append]); exact sw.to) ?_; (try dsimp only [chunks])
  (repeat refine ObP3.c0B ?_); try (refine ObP3.nil ?_; (repeat (intro _)); (conv => whnf); (try dsimp only [envO, List.cons_append, List.nil_append]))
  refine ObP3.cons1 [] [] (.ex Value (fun u => opV o n t u k) (fun u => [rd (Ty.sl Ty.u64) (trimL f) u]) (fun _ => [])) ?_ rfl ?_
  · (repeat (intro _)); (conv => whnf); (try dsimp only [envO, List.cons_append, List.nil_append])
    (repeat (first | refine vgo ?_ | refine ⟨_, rfl, rfl, ?_⟩ | refine ⟨_, rfl, ?_⟩ | refine ⟨rfl, ?_⟩ | intro hb | refine altA ?_ | refine altR ?_ | refine sideA ?_ | refine decTA ?_ | refine decFA ?_ | refine decNA ?_ | refine decBTA ?_ | refine decBFA ?_ | refine ⟨_, by assumption, ?_⟩ | refine ⟨_, _, _, rfl, ?_⟩ | refine WC.seq (fun K hK => ?_) | (refine hK _ _ _ ?_; clear hK K) | (refine hK _ _ _ _ rfl ?_; clear hK K) | (refine WX.thenExit (K := K) ?_; clear hK K) | (refine WX.thenExit (K := KL) ?_; clear hL KL)))
    exact WX.pgEx _ rfl (fun w sw => sw.to)
  refine ObP3.cons1 [] [1000] (.ex Value (fun _ => undef) (fun u => [rd (Ty.sl Ty.u64) (trimL f) u]) (fun u => [box b2 56 (opC o n t u k)])) ?_ rfl ?_
  · (repeat (intro _)); (conv => whnf); (try dsimp only [envO, List.cons_append, List.nil_append])
    (repeat (first | refine vgo ?_ | refine ⟨_, rfl, rfl, ?_⟩ | refine ⟨_, rfl, ?_⟩ | refine ⟨rfl, ?_⟩ | intro hb | refine altA ?_ | refine altR ?_ | refine sideA ?_ | refine decTA ?_ | refine decFA ?_ | refine decNA ?_ | refine decBTA ?_ | refine decBFA ?_ | refine ⟨_, by assumption, ?_⟩ | refine ⟨_, _, _, rfl, ?_⟩ | refine WC.seq (fun K hK => ?_) | (refine hK _ _ _ ?_; clear hK K) | (refine hK _ _ _ _ rfl ?_; clear hK K) | (refine WX.thenExit (K := K) ?_; clear hK K) | (refine WX.thenExit (K := KL) ?_; clear hL KL)))
    rename_i uu _ _
    exact WX.pgEx0 uu (fun w sw => sw.to)
  (repeat refine ObP3.c0B ?_); try (refine ObP3.nil ?_; (repeat (intro _)); (conv => whnf); (try dsimp only [envO, List.cons_append, List.nil_append]))
  (repeat (first | refine vgo ?_ | refine ⟨_, rfl, rfl, ?_⟩ | refine ⟨_, rfl, ?_⟩ | refine ⟨rfl, ?_⟩ | intro hb | refine altA ?_ | refine altR ?_ | refine sideA ?_ | refine decTA ?_ | refine decFA ?_ | refine decNA ?_ | refine decBTA ?_ | refine decBFA ?_ | refine ⟨_, by assumption, ?_⟩ | refine ⟨_, _, _, rfl, ?_⟩ | refine WC.seq (fun K hK => ?_) | (refine hK _ _ _ ?_; clear hK K) | (refine hK _ _ _ _ rfl ?_; clear hK K) | (refine WX.thenExit (K := K) ?_; clear hK K) | (refine WX.thenExit (K := KL) ?_; clear hL KL)))
  rename_i ux _ _ _
  exact WX.retC rfl rfl rfl (fun w sw => ⟨_, _, ⟨ux, rfl, rfl, rfl⟩, sw.to⟩)
theorem pe_nil (hm : Nat) (h : hm ≤ 999) : PEok [] [] [] 0 hm := ⟨⟨by simp, by simp, fun k => by simp [lenK, getM], by simp, fun k => by rw [getC_nil]; exact Nat.zero_le _, by simp⟩, by simp, by simp, fun k => by rw [getC_nil]; simp [lenK, getM], Nat.zero_le _, Nat.zero_le _, h, by simp⟩
abbrev awA : OpT := ⟨1, 1, 1, [], nlV, 1⟩
abbrev awB (d : Value) : OpT := ⟨1, 2, 2, [1], d, 1⟩
theorem awA_ok : WOpT awA := ⟨by decide, by decide, ⟨by dsimp only; omega, by dsimp only; omega⟩, by decide, by rw [getC_nil], rfl⟩
theorem awB_ok (d : Value) : WOpT (awB d) := ⟨⟨by dsimp only; omega, by dsimp only; omega⟩, ⟨by dsimp only; omega, by dsimp only; omega⟩, ⟨by dsimp only; omega, by dsimp only; omega⟩, by simp, rfl, rfl⟩
theorem awB_no (d : Value) : dueP [] (awB d) = false := decide_eq_false fun h => by
  have := h.1
  rw [getC_nil, wrap_u64] at this
  dsimp only at this
  omega
theorem awA_due : dueP [] awA = true := decide_eq_true ⟨by rw [getC_nil, wrap_u64]; decide, fun i h => by simp at h⟩
theorem PEok.size4 {kn : List Nat} {M : List LgE} {l : List OpT} {t hm : Nat} (h : PEok kn M l t hm) {b : Nat} (hb : ∀ k, getC kn k ≤ b) : sizeM M ≤ 4 * b := by
  have h1 := sum_le (h := lenK M) (b := b) (l := M.map (·.1)) (fun k _ => by rw [← h.kn]; exact hb k)
  have h2 := nodup_le 4 h.ok.nd h.k4
  unfold sizeM
  exact Nat.le_trans h1 (Nat.mul_le_mul_right b h2)
theorem awake_len {d : Value} {p : PS} {xs : List OpT} (ok : p.ok 5) (hc : Chain [] xs p.kn) (hl : xs.length ≤ 2) (hx : ∃ ys, xs = awA :: ys) (h1 : (5 : Int) - (sizeM p.M : Int) ≤ 0 ∨ ∀ y ∈ p.l, dueP p.kn y = false) (h2 : WentC [awB d] xs p.l p.kn) : xs.length = 2 := by
  obtain ⟨ys, rfl⟩ := hx
  cases ys with
  | cons y ys => simp only [List.length_cons] at hl ⊢; omega
  | nil =>
    exfalso
    cases hc with
    | cons hs hc2 =>
      cases hc2 with
      | nil =>
        have hg : ∀ k, getC p.kn k = if k = 1 then 1 else 0 := fun k => by rw [hs.2.2.1, getC_nil]
        have hsz := PEok.size4 ok (b := 1) fun k => by rw [hg]; split <;> omega
        have h3 : ∀ y ∈ p.l, dueP p.kn y = false := by
          rcases h1 with h | h
          · omega
          · exact h
        rcases h2 (awB d) (by simp) with h | h | h
        · simp only [List.mem_cons, List.not_mem_nil, or_false] at h
          have := congrArg OpT.n h
          simp at this
        · have h4 := h3 _ h
          have h5 : dueP p.kn (awB d) = true := decide_eq_true ⟨by rw [hg, if_pos rfl, wrap_u64]; rfl, fun i hi => by
            have hi0 : i = 0 := by simp at hi; omega
            subst hi0
            have := hg 1
            rw [if_pos rfl] at this
            have e : getC p.kn 1 = p.kn.getD 0 0 := by unfold getC; rw [if_neg (by omega)]; rfl
            rw [← e, this]; exact Nat.le_refl _⟩
          rw [h5] at h4; cases h4
        · rw [hg, if_pos rfl] at h; dsimp only at h; omega
theorem joinAw : ((trimL (joinL maxN [1] [])).length : Int) ≤ 2 := by
  have := trimL_length (joinL maxN [1] [])
  have h2 : (joinL maxN [1] []).length = 1 := by unfold joinL; rw [List.length_map, List.length_range]; rfl
  omega
theorem joinAw0 : ((trimL (joinL maxN [] [])).length : Int) ≤ 2 := by
  have := trimL_length (joinL maxN [] [])
  have h2 : (joinL maxN [] []).length = 0 := by unfold joinL; rw [List.length_map, List.length_range]; rfl
  omega
set_option maxHeartbeats 6400000 in
set_option synthInstance.maxSize 2000 in
set_option synthInstance.maxHeartbeats 400000 in
theorem awake18_fun : Fun Try.prog 21 [] [] [] (fun r G S => r = .bool true ∧ G = [] ∧ S = []) := by
  refine Fun.enter Try.func21 (by kernel_rfl) rfl Try.ntmps21 rfl (fun B Gf Sf => ?_); (try simp only [List.cons_append]); (try simp only [List.nil_append]); simp only [argEnv]
  (repeat (first | refine vgo ?_ | refine ⟨_, rfl, rfl, ?_⟩ | refine ⟨_, rfl, ?_⟩ | refine ⟨rfl, ?_⟩ | intro hb | refine altA ?_ | refine altR ?_ | refine sideA ?_ | refine decTA ?_ | refine decFA ?_ | refine decNA ?_ | refine decBTA ?_ | refine decBFA ?_ | refine ⟨_, by assumption, ?_⟩ | refine ⟨_, _, _, rfl, ?_⟩ | refine WC.seq (fun K hK => ?_) | (refine hK _ _ _ ?_; clear hK K) | (refine hK _ _ _ _ rfl ?_; clear hK K) | (refine WX.thenExit (K := K) ?_; clear hK K) | (refine WX.thenExit (K := KL) ?_; clear hL KL)))
  refine CallV.by' (cnew18_fun 2 2 5 5 99 99 (by decide) (by decide)) ?_; rintro _ _ _ ⟨q, g, r, h, rfl, rfl, rfl⟩; (try simp only [List.cons_append]); (try simp only [List.nil_append])
  (repeat (first | refine vgo ?_ | refine ⟨_, rfl, rfl, ?_⟩ | refine ⟨_, rfl, ?_⟩ | refine ⟨rfl, ?_⟩ | intro hb | refine altA ?_ | refine altR ?_ | refine sideA ?_ | refine decTA ?_ | refine decFA ?_ | refine decNA ?_ | refine decBTA ?_ | refine decBFA ?_ | refine ⟨_, by assumption, ?_⟩ | refine ⟨_, _, _, rfl, ?_⟩ | refine WC.seq (fun K hK => ?_) | (refine hK _ _ _ ?_; clear hK K) | (refine hK _ _ _ _ rfl ?_; clear hK K) | (refine WX.thenExit (K := K) ?_; clear hK K) | (refine WX.thenExit (K := KL) ?_; clear hL KL)))
  refine WL.alloc rfl ?_; intro b3
  (repeat (first | refine vgo ?_ | refine ⟨_, rfl, rfl, ?_⟩ | refine ⟨_, rfl, ?_⟩ | refine ⟨rfl, ?_⟩ | intro hb | refine altA ?_ | refine altR ?_ | refine sideA ?_ | refine decTA ?_ | refine decFA ?_ | refine decNA ?_ | refine decBTA ?_ | refine decBFA ?_ | refine ⟨_, by assumption, ?_⟩ | refine ⟨_, _, _, rfl, ?_⟩ | refine WC.seq (fun K hK => ?_) | (refine hK _ _ _ ?_; clear hK K) | (refine hK _ _ _ _ rfl ?_; clear hK K) | (refine WX.thenExit (K := K) ?_; clear hK K) | (refine WX.thenExit (K := KL) ?_; clear hL KL)))
  refine WL.sat (fun w sw => sw.pub (R := (Ty.u64)) (l := ([1])) (v := hb) SelOwn.h rfl rfl rfl (by simp)) ?_
  refine WL.ex (fun w sw => sw.slOne (v := hb) (.head _)) (fun h1 => ?_)
  refine WL.alloc rfl ?_; intro b4
  (repeat (first | refine vgo ?_ | refine ⟨_, rfl, rfl, ?_⟩ | refine ⟨_, rfl, ?_⟩ | refine ⟨rfl, ?_⟩ | intro hb | refine altA ?_ | refine altR ?_ | refine sideA ?_ | refine decTA ?_ | refine decFA ?_ | refine decNA ?_ | refine decBTA ?_ | refine decBFA ?_ | refine ⟨_, by assumption, ?_⟩ | refine ⟨_, _, _, rfl, ?_⟩ | refine WC.seq (fun K hK => ?_) | (refine hK _ _ _ ?_; clear hK K) | (refine hK _ _ _ _ rfl ?_; clear hK K) | (refine WX.thenExit (K := K) ?_; clear hK K) | (refine WX.thenExit (K := KL) ?_; clear hL KL)))
  rw [show min (max (5 : Int) 0) 1000 = 5 from by decide, show (5 : Int).toNat = 5 from rfl]
  refine CallV.sat (fun w sw => sw.rdNil Ty.u64) ?_
  refine CallV.by' (creceive_fun q ⟨2, 2, 5, 5, min 99 1099511627776, 99, g, h⟩ 0 [] nlV r 5 [] [] 5 nlV (pe_nil 5 (by decide)) (by decide) (awB hb) (awB_ok hb)) ?_; rintro _ _ _ ⟨p1, xs1, v1, e1, rfl, ok1, ch1, len1, rc1, rfl, rfl⟩; (try simp only [List.cons_append]); (try simp only [List.nil_append])
  obtain ⟨rfl, rfl, he1, hl1, hk1⟩ := (rc1 (by dsimp only; omega) joinAw (by rw [getC_nil]; dsimp only; omega)).1 (awB_no hb)
  obtain ⟨t1, k1, kv1, M1, l1, hv1⟩ := p1
  dsimp only at hl1 hk1
  subst hk1
  have hl2 : l1 = [awB hb] := hl1.trans (by unfold putL hasP; simp [idxI])
  subst hl2
  obtain rfl : e1 = 0 := he1.trans (by unfold putE hasP; simp [idxI])
  have ok2 : PEok [] M1 [awB hb] t1 5 := ok1
  (repeat (first | refine vgo ?_ | refine ⟨_, rfl, rfl, ?_⟩ | refine ⟨_, rfl, ?_⟩ | refine ⟨rfl, ?_⟩ | intro hb | refine altA ?_ | refine altR ?_ | refine sideA ?_ | refine decTA ?_ | refine decFA ?_ | refine decNA ?_ | refine decBTA ?_ | refine decBFA ?_ | refine ⟨_, by assumption, ?_⟩ | refine ⟨_, _, _, rfl, ?_⟩ | refine WC.seq (fun K hK => ?_) | (refine hK _ _ _ ?_; clear hK K) | (refine hK _ _ _ _ rfl ?_; clear hK K) | (refine WX.thenExit (K := K) ?_; clear hK K) | (refine WX.thenExit (K := KL) ?_; clear hL KL)))
  refine CallV.by' (creceive_fun q ⟨2, 2, 5, 5, min 99 1099511627776, 99, g, h⟩ t1 [] kv1 r 5 M1 [awB hb] 5 hv1 ok2 (by decide) awA awA_ok) ?_; rintro _ _ _ ⟨p2, xs2, v2, e2, rfl, ok3, ch2, len2, rc2, rfl, rfl⟩; (try simp only [List.cons_append]); (try simp only [List.nil_append])
  obtain ⟨rfl, hys, hc1, hwent⟩ := (rc2 (by dsimp only; omega) joinAw0 (by rw [getC_nil]; dsimp only; omega)).2 awA_due (ok2.addE0 awA_ok (by rw [getC_nil]) (by have := ok2.size4 (b := 0) (fun k => by rw [getC_nil]; exact Nat.le_refl _); omega))
  have hlen := awake_len ok3 ch2 len2 hys hc1 hwent
  have hlenI : ((xs2.length : Nat) : Int) = 2 := by omega
  (repeat (first | refine vgo ?_ | refine ⟨_, rfl, rfl, ?_⟩ | refine ⟨_, rfl, ?_⟩ | refine ⟨rfl, ?_⟩ | intro hb | refine altA ?_ | refine altR ?_ | refine sideA ?_ | refine decTA ?_ | refine decFA ?_ | refine decNA ?_ | refine decBTA ?_ | refine decBFA ?_ | refine ⟨_, by assumption, ?_⟩ | refine ⟨_, _, _, rfl, ?_⟩ | refine WC.seq (fun K hK => ?_) | (refine hK _ _ _ ?_; clear hK K) | (refine hK _ _ _ _ rfl ?_; clear hK K) | (refine WX.thenExit (K := K) ?_; clear hK K) | (refine WX.thenExit (K := KL) ?_; clear hL KL)))
  exact WX.ret1 rfl rfl (fun w sw => ⟨[], [], ⟨by simp, rfl, rfl⟩, sw.to⟩)
instance awake18_pure {G : List Pers} : PureF Try.prog 21 [] G True (.bool true) := ⟨fun _ => PureF.of0 awake18_fun⟩
end
/-! ### Delivery: the law that each operation is delivered once at most, walked. -/
section
section
open Go Go.Proofs Go.ChangeShapes Go.WideShapes Go.RowKit
/-- A slice of which nothing more is said. -/
def Ty.sl0 : Ty Unit where
  sz := 1
  agg := false
  rel _ v _ := ∃ p n c, v = .slice p n c
  mono _ h := h
  size := by rintro a v h ⟨p, n, c, rfl⟩; rfl
  form := by rintro a v h ⟨p, n, c, rfl⟩; rfl
  ones := by
    rintro a v h ⟨p, n, c, rfl⟩ x hx
    have hx : x ∈ [Value.slice p n c] := hx
    rw [List.mem_singleton] at hx; rw [hx]; rfl
instance : Ty.Sz Ty.sl0 1 := ⟨rfl, by decide⟩
instance reads_sl0 {N M : Nat} {P : Program} {T E : TypeId} [hT : TU P T (.slice E)] : ReadsN N M P T Ty.sl0 := ⟨fun _ h _ => by
  rcases DataW.trod_slice hT.h h with ⟨rfl, _⟩ | ⟨a, len, cap, elems, rest, n, _, rfl, _⟩
  · exact ⟨.slice none 0 0, (), rfl, _, _, _, rfl⟩
  · exact ⟨.slice (some a) len cap, (), rfl, _, _, _, rfl⟩⟩
abbrev nd0T := Ty.pair Ty.i64 (Ty.pair Ty.i64 (Ty.pair Ty.str (Ty.pair (Ty.pair idT (Ty.rec1 idT)) (Ty.pair (Ty.pair idT (Ty.rec1 idT)) (Ty.rec1 Ty.sl0)))))
abbrev ct0T := Ty.pair Ty.i64 (Ty.pair Ty.i64 (Ty.pair Ty.str (Ty.rec1 nd0T)))
abbrev ro0T := Ty.pair Ty.i64 (Ty.pair Ty.u64 (Ty.pair Ty.u64 (Ty.pair fullT (Ty.pair Ty.i64 (Ty.pair idT (Ty.pair idT (Ty.rec1 ct0T)))))))
abbrev ac18T := Ty.pair Ty.i64 (Ty.pair Ty.u16 (Ty.pair ro0T (Ty.rec1 Ty.sl0)))
abbrev Ro0 := Int × Nat × Nat × List Nat × Int × (Nat × Int) × (Nat × Int) × (Int × Int × List UInt8 × (Int × Int × List UInt8 × ((Nat × Int) × (Nat × Int)) × ((Nat × Int) × (Nat × Int)) × Unit))
abbrev Ac18 := Int × Nat × Ro0 × Unit
set_option synthInstance.maxSize 8000 in
set_option synthInstance.maxHeartbeats 400000 in
instance reads_nd0 {N M : Nat} : ReadsN N M Try.prog 62 nd0T := inferInstance
set_option synthInstance.maxSize 8000 in
set_option synthInstance.maxHeartbeats 400000 in
instance reads_ro0 {N M : Nat} : ReadsN N M Try.prog 66 ro0T := inferInstance
set_option synthInstance.maxSize 8000 in
set_option synthInstance.maxHeartbeats 400000 in
instance reads_ac18 {N M : Nat} : ReadsN N M Try.prog 86 ac18T := inferInstance
set_option synthInstance.maxSize 8000 in
set_option synthInstance.maxHeartbeats 400000 in
instance reads_acl18 : Reads Try.prog 72 (Ty.sl ac18T) := inferInstance
end
open Go Go.Proofs
/-- The document's numbers behind what was delivered. -/
def eqD (D a : List Nat) : Prop := ∀ k : Int, 1 ≤ k → k ≤ 64 → getC D k = getC a k
theorem eqD.getD {D a : List Nat} (h : eqD D a) (hD : D.length = 64) (ha : a.length ≤ 64) (i : Nat) : D.getD i 0 = a.getD i 0 := by
  by_cases hi : i < 64
  · have := h ((i : Int) + 1) (by omega) (by omega)
    rwa [getC_succ, getC_succ] at this
  · rw [List.getD_eq_getElem?_getD, List.getD_eq_getElem?_getD, List.getElem?_eq_none (by omega), List.getElem?_eq_none (by omega)]
theorem eqD.within {D a c : List Nat} (h : eqD D a) (hD : D.length = 64) (ha : a.length ≤ 64) (hw : withinL c a) : withinL c (trimL D) :=
  (withinL_iff _ _).2 fun i => by rw [trimL_getD, h.getD hD ha]; exact (withinL_iff _ _).1 hw i
theorem eqD.same {D a : List Nat} (h : eqD D a) (hD : D.length = 64) (ha : a.length ≤ 64) : withinL a (trimL D) ∧ withinL (trimL D) a :=
  ⟨(withinL_iff _ _).2 fun i => by rw [trimL_getD, h.getD hD ha]; exact Nat.le_refl _, (withinL_iff _ _).2 fun i => by rw [trimL_getD, h.getD hD ha]; exact Nat.le_refl _⟩
theorem eqD.step {D a b : List Nat} {x : OpT} (h : eqD D a) (hD : D.length = 64) (hs : StepC a x b) : eqD (D.set (x.o - 1).toNat x.n) b := fun k h1 h2 => by
  have ho := hs.2.2.2.2.1
  have hk1 : ¬ k < 1 := by omega
  rw [hs.2.2.1, ← h k h1 h2]
  unfold getC
  rw [if_neg hk1, List.getD_eq_getElem?_getD, List.getElem?_set]
  by_cases e : k = x.o
  · rw [if_pos e, if_pos (by omega), if_pos (by omega)]; rfl
  · rw [if_neg e, if_neg (show ¬ (x.o - 1).toNat = (k - 1).toNat from by omega), if_neg hk1, List.getD_eq_getElem?_getD]
theorem WOp.toT {X : OpF} (h : WOp X) (d : Value) : WOpT ⟨X.o, X.n, X.t, trimL X.f, d, X.k⟩ := ⟨h.1, h.2.1, h.2.2.1, by have := trimL_length X.f; have := h.2.2.2.1.1; dsimp only; omega, by dsimp only; rw [getCT]; exact h.2.2.2.2.1, h.2.2.2.2.2⟩
abbrev ce18 (g h : Nat) : CE := ⟨1, 4, 1000, 8, min 1099511627776 1099511627776, 1000, g, h⟩
set_option maxHeartbeats 6400000 in
set_option maxRecDepth 100000 in
set_option synthInstance.maxSize 2000 in
set_option synthInstance.maxHeartbeats 400000 in
theorem causalOnce_fun (L : List Ac18) (v0 : Value) (Md : List Nat) (v1 : Value) : Fun Try.prog 4 [v0, v1] [rd (Ty.sl ac18T) L v0, rd (Ty.sl Ty.u16) Md v1] [] (fun r _ _ => r = .bool true) := by
  refine Fun.enter Try.func4 (by kernel_rfl) rfl Try.ntmps4 rfl (fun B Gf Sf => ?_); (try simp only [List.cons_append]); (try simp only [List.nil_append]); simp only [argEnv]
  refine WC.ex (fun w sw => sw.len_le (RdSl.h (v := v0))) (fun hLl => ?_)
  (repeat (first | refine vgo ?_ | refine ⟨_, rfl, rfl, ?_⟩ | refine ⟨_, rfl, ?_⟩ | refine ⟨rfl, ?_⟩ | intro hb | refine altA ?_ | refine altR ?_ | refine sideA ?_ | refine decTA ?_ | refine decFA ?_ | refine decNA ?_ | refine decBTA ?_ | refine decBFA ?_ | refine ⟨_, by assumption, ?_⟩ | refine ⟨_, _, _, rfl, ?_⟩ | refine WC.seq (fun K hK => ?_) | (refine hK _ _ _ ?_; clear hK K) | (refine hK _ _ _ _ rfl ?_; clear hK K) | (refine WX.thenExit (K := K) ?_; clear hK K) | (refine WX.thenExit (K := KL) ?_; clear hL KL)))
  refine CallV.by' (cnew18_fun 1 4 1000 8 1099511627776 1000 (by decide) (by decide)) ?_; rintro _ _ _ ⟨q, g, r, h, rfl, rfl, rfl⟩; (try simp only [List.cons_append]); (try simp only [List.nil_append])
  rw [show min (max (1000 : Int) 0) 1000 = 1000 from by decide, show (min (max (8 : Int) 0) 1000).toNat = 8 from by decide]
  (repeat (first | refine vgo ?_ | refine ⟨_, rfl, rfl, ?_⟩ | refine ⟨_, rfl, ?_⟩ | refine ⟨rfl, ?_⟩ | intro hb | refine altA ?_ | refine altR ?_ | refine sideA ?_ | refine decTA ?_ | refine decFA ?_ | refine decNA ?_ | refine decBTA ?_ | refine decBFA ?_ | refine ⟨_, by assumption, ?_⟩ | refine ⟨_, _, _, rfl, ?_⟩ | refine WC.seq (fun K hK => ?_) | (refine hK _ _ _ ?_; clear hK K) | (refine hK _ _ _ _ rfl ?_; clear hK K) | (refine WX.thenExit (K := K) ?_; clear hK K) | (refine WX.thenExit (K := KL) ?_; clear hL KL)))
  refine CallV.by' (world_fun Md v1) ?_; rintro _ _ _ ⟨out, hout, hoW, rfl, rfl⟩; (try simp only [List.cons_append]); (try simp only [List.nil_append])
  rename_i wv
  (repeat (first | refine vgo ?_ | refine ⟨_, rfl, rfl, ?_⟩ | refine ⟨_, rfl, ?_⟩ | refine ⟨rfl, ?_⟩ | intro hb | refine altA ?_ | refine altR ?_ | refine sideA ?_ | refine decTA ?_ | refine decFA ?_ | refine decNA ?_ | refine decBTA ?_ | refine decBFA ?_ | refine ⟨_, by assumption, ?_⟩ | refine ⟨_, _, _, rfl, ?_⟩ | refine WC.seq (fun K hK => ?_) | (refine hK _ _ _ ?_; clear hK K) | (refine hK _ _ _ _ rfl ?_; clear hK K) | (refine WX.thenExit (K := K) ?_; clear hK K) | (refine WX.thenExit (K := KL) ?_; clear hL KL)))
  refine WL.alloc rfl ?_; intro b8
  (repeat (first | refine vgo ?_ | refine ⟨_, rfl, rfl, ?_⟩ | refine ⟨_, rfl, ?_⟩ | refine ⟨rfl, ?_⟩ | intro hb | refine altA ?_ | refine altR ?_ | refine sideA ?_ | refine decTA ?_ | refine decFA ?_ | refine decNA ?_ | refine decBTA ?_ | refine decBFA ?_ | refine ⟨_, by assumption, ?_⟩ | refine ⟨_, _, _, rfl, ?_⟩ | refine WC.seq (fun K hK => ?_) | (refine hK _ _ _ ?_; clear hK K) | (refine hK _ _ _ _ rfl ?_; clear hK K) | (refine WX.thenExit (K := K) ?_; clear hK K) | (refine WX.thenExit (K := KL) ?_; clear hL KL)))
  refine WC.loop (I := Nat × PS × List Nat) (fun i => [(0, v0), (5, .pointer (some ⟨q, 0, none⟩)), (7, wv), (8, .pointer (some ⟨b8, 0, none⟩)), (9, .int .i64 (i.1 : Nat))]) (fun i => rd (Ty.sl Ty.u64) i.2.1.kn i.2.1.kv :: hG i.2.1.l :: rd (Ty.sl Ty.u64) [] nlV :: rd (Ty.sl opFT) out wv :: rd (Ty.sl ac18T) L v0 :: rd (Ty.sl Ty.u16) Md v1 :: Gf) (fun i => ceB q (ce18 g h) i.2.1.t i.2.1.kv :: lgB g 1000 nlV r :: lgM r i.2.1.M :: lgO i.2.1.M :: hdB h 8 i.2.1.hv :: opO i.2.1.hv i.2.1.l :: box b8 43 (i.2.2.map uV) :: Sf) (fun i => i.1 ≤ L.length ∧ i.2.1.ok 8 ∧ i.2.2.length = 64 ∧ (∀ y ∈ i.2.2, y ≤ 1000) ∧ eqD i.2.2 i.2.1.kn) (fun i => L.length - i.1) (0, ⟨0, [], nlV, [], [], nlV⟩, List.replicate 64 0) ⟨Nat.zero_le _, pe_nil 8 (by decide), rfl, (fun y hy => by rw [(List.mem_replicate.1 hy).2]; exact Nat.zero_le _), fun k h1 h2 => by
    rw [getC_nil]
    unfold getC
    rw [if_neg (by omega), List.getD_eq_getElem?_getD, List.getElem?_replicate]
    split <;> rfl⟩ (.cons rfl (.cons rfl (.cons rfl (.cons rfl (.cons rfl .nil))))) (fun w h => ((h.rdNil Ty.u64).rdNil Ty.u64).to) ?_
  rintro ⟨i, ⟨t1, k1, kv1, M1, l1, hv1⟩, D⟩ ⟨hi, hok, hD, hD1, heq⟩ KL hL
  dsimp only at hi hok hD hD1 heq ⊢
  have ok1 : PEok k1 M1 l1 t1 8 := hok
  have i1 : Len64 D := ⟨hD⟩
  by_cases hgo : i < L.length ∧ i < 100 ∧ 0 < out.length
  · obtain ⟨hg1, hg2, hg3⟩ := hgo
    obtain ⟨a, ha⟩ : ∃ a, L[i]? = some a := ⟨_, List.getElem?_eq_getElem hg1⟩
    have hrn : ((a.2.1 : Int) % (out.length : Int)).toNat < out.length := by
      have h1 := Int.emod_lt_of_pos (a.2.1 : Int) (show (0 : Int) < (out.length : Int) by omega)
      have h2 := Int.emod_nonneg (a.2.1 : Int) (show (out.length : Int) ≠ 0 by omega)
      omega
    obtain ⟨X, hX⟩ : ∃ X, out[((a.2.1 : Int) % (out.length : Int)).toNat]? = some X := ⟨_, List.getElem?_eq_getElem hrn⟩
    have hXW := hoW X (List.mem_of_getElem? hX)
    have i4 : Len64 X.f := ⟨hXW.okf.1⟩
    (repeat (first | refine vgo ?_ | refine ⟨_, rfl, rfl, ?_⟩ | refine ⟨_, rfl, ?_⟩ | refine ⟨rfl, ?_⟩ | intro hb | refine altA ?_ | refine altR ?_ | refine sideA ?_ | refine decTA ?_ | refine decFA ?_ | refine decNA ?_ | refine decBTA ?_ | refine decBFA ?_ | refine ⟨_, by assumption, ?_⟩ | refine ⟨_, _, _, rfl, ?_⟩ | refine WC.seq (fun K hK => ?_) | (refine hK _ _ _ ?_; clear hK K) | (refine hK _ _ _ _ rfl ?_; clear hK K) | (refine WX.thenExit (K := K) ?_; clear hK K) | (refine WX.thenExit (K := KL) ?_; clear hL KL)))
    refine CallV.by' (to18_fun X.o X.n X.t X.f X.k hXW.okf) ?_; rintro _ _ _ ⟨d, rfl, rfl, rfl⟩; (try simp only [List.cons_append]); (try simp only [List.nil_append])
    (repeat (first | refine vgo ?_ | refine ⟨_, rfl, rfl, ?_⟩ | refine ⟨_, rfl, ?_⟩ | refine ⟨rfl, ?_⟩ | intro hb | refine altA ?_ | refine altR ?_ | refine sideA ?_ | refine decTA ?_ | refine decFA ?_ | refine decNA ?_ | refine decBTA ?_ | refine decBFA ?_ | refine ⟨_, by assumption, ?_⟩ | refine ⟨_, _, _, rfl, ?_⟩ | refine WC.seq (fun K hK => ?_) | (refine hK _ _ _ ?_; clear hK K) | (refine hK _ _ _ _ rfl ?_; clear hK K) | (refine WX.thenExit (K := K) ?_; clear hK K) | (refine WX.thenExit (K := KL) ?_; clear hL KL)))
    refine CallV.by' (creceive_fun q (ce18 g h) t1 k1 kv1 r 1000 M1 l1 8 hv1 ok1 (by decide) ⟨X.o, X.n, X.t, trimL X.f, d, X.k⟩ (hXW.toT d)) ?_; rintro _ _ _ ⟨p2, xs, v, e2, rfl, ok2', ch2, len2, rc2, rfl, rfl⟩; (try simp only [List.cons_append]); (try simp only [List.nil_append])
    clear rc2
    obtain ⟨t2, k2, kv2, M2, l2, hv2⟩ := p2
    have ok2 : PEok k2 M2 l2 t2 8 := ok2'
    have hl8 := ok1.ll
    dsimp only at ch2
    (repeat (first | refine vgo ?_ | refine ⟨_, rfl, rfl, ?_⟩ | refine ⟨_, rfl, ?_⟩ | refine ⟨rfl, ?_⟩ | intro hb | refine altA ?_ | refine altR ?_ | refine sideA ?_ | refine decTA ?_ | refine decFA ?_ | refine decNA ?_ | refine decBTA ?_ | refine decBFA ?_ | refine ⟨_, by assumption, ?_⟩ | refine ⟨_, _, _, rfl, ?_⟩ | refine WC.seq (fun K hK => ?_) | (refine hK _ _ _ ?_; clear hK K) | (refine hK _ _ _ _ rfl ?_; clear hK K) | (refine WX.thenExit (K := K) ?_; clear hK K) | (refine WX.thenExit (K := KL) ?_; clear hL KL)))
    refine WC.sat (fun w sw => (show Sat B (rd (Ty.sl Ty.u64) k2 kv2 :: hG l2 :: hG xs :: rd (Ty.sl ovT) xs v :: rd (Ty.sl Ty.u64) [] nlV :: rd (Ty.sl opFT) out wv :: rd (Ty.sl ac18T) L v0 :: rd (Ty.sl Ty.u16) Md v1 :: Gf) (ceB q (ce18 g h) t2 kv2 :: lgB g 1000 nlV r :: lgM r M2 :: lgO M2 :: hdB h 8 hv2 :: opO hv2 l2 :: box b8 43 (D.map uV) :: Sf) w from sw.to)) ?_
    refine WC.ex (fun w sw => sw.slOne (v := kv2) (R := Ty.u64) (l := k2) (by simp)) (fun hkv2 => ?_)
    have hE : ∀ D' : List Nat, D'.length = 64 → (∀ y ∈ D', y ≤ 1000) → eqD D' k2 → WK 98 K ⟨B, none, []⟩ [(0, v0), (5, .pointer (some ⟨q, 0, none⟩)), (7, wv), (8, .pointer (some ⟨b8, 0, none⟩)), (9, .int .i64 (i : Nat))] (rd (Ty.sl Ty.u64) k2 kv2 :: hG l2 :: rd (Ty.sl Ty.u64) [] nlV :: rd (Ty.sl opFT) out wv :: rd (Ty.sl ac18T) L v0 :: rd (Ty.sl Ty.u16) Md v1 :: Gf) (ceB q (ce18 g h) t2 kv2 :: lgB g 1000 nlV r :: lgM r M2 :: lgO M2 :: hdB h 8 hv2 :: opO hv2 l2 :: box b8 43 (D'.map uV) :: Sf) := by
      intro D' hD' hD1' heq'
      refine hK _ _ _ ?_
      clear hK
      have i2 : Len64 D' := ⟨hD'⟩
      have hokD : D'.length = 64 ∧ ∀ y ∈ D', y < 18446744073709551616 := ⟨hD', fun y hy => by have := hD1' y hy; omega⟩
      have hkl := ok2.kl
      have hsame := heq'.same hD' ok2.kl
      (repeat (first | refine vgo ?_ | refine ⟨_, rfl, rfl, ?_⟩ | refine ⟨_, rfl, ?_⟩ | refine ⟨rfl, ?_⟩ | intro hb | refine altA ?_ | refine altR ?_ | refine sideA ?_ | refine decTA ?_ | refine decFA ?_ | refine decNA ?_ | refine decBTA ?_ | refine decBFA ?_ | refine ⟨_, by assumption, ?_⟩ | refine ⟨_, _, _, rfl, ?_⟩ | refine WC.seq (fun K hK => ?_) | (refine hK _ _ _ ?_; clear hK K) | (refine hK _ _ _ _ rfl ?_; clear hK K) | (refine WX.thenExit (K := K) ?_; clear hK K) | (refine WX.thenExit (K := KL) ?_; clear hL KL)))
      (apply WC.drawE; exact rfl; focus (repeat (first | exact Wo.nil | (apply Wo.keep; exact rfl) | (apply Wo.drop; exact rfl)))); (repeat refine ObP3.c0A ?_); try (refine ObP3.nil ?_; (repeat (intro _)); (conv => whnf); (try dsimp only [envO, List.cons_append, List.nil_append]))
      refine ObP3.cons1 [] [] (.ex Value (fun u => u) (fun u => [rd (Ty.sl Ty.u64) k2 u]) (fun _ => [])) ?_ rfl ?_
      · (repeat (intro _)); (conv => whnf); (try dsimp only [envO, List.cons_append, List.nil_append])
        (repeat (first | refine vgo ?_ | refine ⟨_, rfl, rfl, ?_⟩ | refine ⟨_, rfl, ?_⟩ | refine ⟨rfl, ?_⟩ | intro hb | refine altA ?_ | refine altR ?_ | refine sideA ?_ | refine decTA ?_ | refine decFA ?_ | refine decNA ?_ | refine decBTA ?_ | refine decBFA ?_ | refine ⟨_, by assumption, ?_⟩ | refine ⟨_, _, _, rfl, ?_⟩ | refine WC.seq (fun K hK => ?_) | (refine hK _ _ _ ?_; clear hK K) | (refine hK _ _ _ _ rfl ?_; clear hK K) | (refine WX.thenExit (K := K) ?_; clear hK K) | (refine WX.thenExit (K := KL) ?_; clear hL KL)))
        refine CallV.by' (cknown_fun q (ce18 g h) t2 k2 kv2 hkl) ?_; rintro _ _ _ ⟨rfl, rfl⟩; (try simp only [List.cons_append]); (try simp only [List.nil_append])
        (repeat (first | refine vgo ?_ | refine ⟨_, rfl, rfl, ?_⟩ | refine ⟨_, rfl, ?_⟩ | refine ⟨rfl, ?_⟩ | intro hb | refine altA ?_ | refine altR ?_ | refine sideA ?_ | refine decTA ?_ | refine decFA ?_ | refine decNA ?_ | refine decBTA ?_ | refine decBFA ?_ | refine ⟨_, by assumption, ?_⟩ | refine ⟨_, _, _, rfl, ?_⟩ | refine WC.seq (fun K hK => ?_) | (refine hK _ _ _ ?_; clear hK K) | (refine hK _ _ _ _ rfl ?_; clear hK K) | (refine WX.thenExit (K := K) ?_; clear hK K) | (refine WX.thenExit (K := KL) ?_; clear hL KL)))
        exact WX.pgEx (fv := fun u => u) _ rfl (fun w sw => sw.to)
      (repeat refine ObP3.c0B ?_); try (refine ObP3.nil ?_; (repeat (intro _)); (conv => whnf); (try dsimp only [envO, List.cons_append, List.nil_append]))
      (repeat (first | refine vgo ?_ | refine ⟨_, rfl, rfl, ?_⟩ | refine ⟨_, rfl, ?_⟩ | refine ⟨rfl, ?_⟩ | intro hb | refine altA ?_ | refine altR ?_ | refine sideA ?_ | refine decTA ?_ | refine decFA ?_ | refine decNA ?_ | refine decBTA ?_ | refine decBFA ?_ | refine ⟨_, by assumption, ?_⟩ | refine ⟨_, _, _, rfl, ?_⟩ | refine WC.seq (fun K hK => ?_) | (refine hK _ _ _ ?_; clear hK K) | (refine hK _ _ _ _ rfl ?_; clear hK K) | (refine WX.thenExit (K := K) ?_; clear hK K) | (refine WX.thenExit (K := KL) ?_; clear hL KL)))
      exact (hL (i + 1, ⟨t2, k2, kv2, M2, l2, hv2⟩, D') ⟨hg1, ok2, hD', hD1', heq'⟩ (by dsimp only; omega)).conv (.cons rfl (.cons rfl (.cons rfl (.cons rfl (.cons rfl .nil))))) (fun w h => h.to)
    clear hK
    refine WC.loop (I := Nat × List Nat × List Nat) (fun k => [(10, v), (12, .int .i64 (k.1 : Nat)), (0, v0), (5, .pointer (some ⟨q, 0, none⟩)), (7, wv), (8, .pointer (some ⟨b8, 0, none⟩)), (9, .int .i64 (i : Nat))]) (fun _ => rd (Ty.sl Ty.u64) k2 kv2 :: hG l2 :: hG xs :: rd (Ty.sl ovT) xs v :: rd (Ty.sl Ty.u64) [] nlV :: rd (Ty.sl opFT) out wv :: rd (Ty.sl ac18T) L v0 :: rd (Ty.sl Ty.u16) Md v1 :: Gf) (fun k => ceB q (ce18 g h) t2 kv2 :: lgB g 1000 nlV r :: lgM r M2 :: lgO M2 :: hdB h 8 hv2 :: opO hv2 l2 :: box b8 43 (k.2.1.map uV) :: Sf) (fun k => k.1 ≤ xs.length ∧ Chain k.2.2 (xs.drop k.1) k2 ∧ k.2.2.length ≤ 64 ∧ k.2.1.length = 64 ∧ (∀ y ∈ k.2.1, y ≤ 1000) ∧ eqD k.2.1 k.2.2) (fun k => xs.length - k.1) (0, D, k1) ⟨Nat.zero_le _, ch2, ok1.kl, hD, hD1, heq⟩ (.cons rfl (.cons rfl (.cons rfl (.cons rfl (.cons rfl (.cons rfl (.cons rfl .nil))))))) (fun w h => h.to) ?_
    rintro ⟨k, D2, a2⟩ ⟨hk, hch, ha2, hD2, hD21, heq2⟩ KL2 hL2
    dsimp only at hk hch ha2 hD2 hD21 heq2 ⊢
    have i5 : Len64 D2 := ⟨hD2⟩
    by_cases hkx : k < xs.length
    · obtain ⟨x, hx⟩ : ∃ x, xs[k]? = some x := ⟨_, List.getElem?_eq_getElem hkx⟩
      rw [drop_head hx] at hch
      obtain ⟨b2, hst, hch2⟩ : ∃ b2, StepC a2 x b2 ∧ Chain b2 (xs.drop (k + 1)) k2 := by
        cases hch with
        | cons h1 h2 => exact ⟨_, h1, h2⟩
      have hxW := hst.2.2.2.2
      have heq3 := heq2.step hD2 hst
      have hwi := heq2.within hD2 ha2 hst.1
      refine WC.allGet (R := Ty.sl Ty.u64) (l := xs.map OpT.c) (vs := xs.map OpT.d) (i := k) (a := x.c) (by simp) (by rw [List.getElem?_map, hx]; rfl) (fun u hu => ?_)
      rw [List.getElem?_map, hx] at hu
      obtain rfl : x.d = u := Option.some.inj hu
      refine WC.ex (fun w sw => sw.slOne (v := x.d) (R := Ty.u64) (l := x.c) (by simp)) (fun hxd => ?_)
      obtain ⟨o, n, t, cl, d, kk⟩ := x
      obtain ⟨⟨a1, a12⟩, ⟨a3, a4⟩, ⟨a5, a6⟩, a7, a8, rfl⟩ := hxW
      dsimp only at *
      obtain ⟨dn, hdn⟩ : ∃ dn, D2[(o - 1).toNat]? = some dn := ⟨_, List.getElem?_eq_getElem (by omega)⟩
      have hnn : n = dn + 1 := by
        have h1 := hst.2.1
        dsimp only at h1
        rw [h1, ← heq2 o (by omega) (by omega)]
        unfold getC
        rw [if_neg (by omega), List.getD_eq_getElem?_getD, hdn]; rfl
      have hnI : (n : Int) = (dn : Int) + 1 := by omega
      have hokD : D2.length = 64 ∧ ∀ y ∈ D2, y < 18446744073709551616 := ⟨hD2, fun y hy => by have := hD21 y hy; omega⟩
      (repeat (first | refine vgo ?_ | refine ⟨_, rfl, rfl, ?_⟩ | refine ⟨_, rfl, ?_⟩ | refine ⟨rfl, ?_⟩ | intro hb | refine altA ?_ | refine altR ?_ | refine sideA ?_ | refine decTA ?_ | refine decFA ?_ | refine decNA ?_ | refine decBTA ?_ | refine decBFA ?_ | refine ⟨_, by assumption, ?_⟩ | refine ⟨_, _, _, rfl, ?_⟩ | refine WC.seq (fun K hK => ?_) | (refine hK _ _ _ ?_; clear hK K) | (refine hK _ _ _ _ rfl ?_; clear hK K) | (refine WX.thenExit (K := K) ?_; clear hK K) | (refine WX.thenExit (K := KL) ?_; clear hL KL)))
      refine WL.alloc rfl ?_; intro b13
      (repeat (first | refine vgo ?_ | refine ⟨_, rfl, rfl, ?_⟩ | refine ⟨_, rfl, ?_⟩ | refine ⟨rfl, ?_⟩ | intro hb | refine altA ?_ | refine altR ?_ | refine sideA ?_ | refine decTA ?_ | refine decFA ?_ | refine decNA ?_ | refine decBTA ?_ | refine decBFA ?_ | refine ⟨_, by assumption, ?_⟩ | refine ⟨_, _, _, rfl, ?_⟩ | refine WC.seq (fun K hK => ?_) | (refine hK _ _ _ ?_; clear hK K) | (refine hK _ _ _ _ rfl ?_; clear hK K) | (refine WX.thenExit (K := K) ?_; clear hK K) | (refine WX.thenExit (K := KL) ?_; clear hL KL)))
      dsimp only
      (apply WC.drawE; exact rfl; focus (repeat (first | exact Wo.nil | (apply Wo.keep; exact rfl) | (apply Wo.drop; exact rfl)))); (repeat refine ObP3.c0A ?_); try (refine ObP3.nil ?_; (repeat (intro _)); (conv => whnf); (try dsimp only [envO, List.cons_append, List.nil_append]))
      (repeat (first | refine vgo ?_ | refine ⟨_, rfl, rfl, ?_⟩ | refine ⟨_, rfl, ?_⟩ | refine ⟨rfl, ?_⟩ | intro hb | refine altA ?_ | refine altR ?_ | refine sideA ?_ | refine decTA ?_ | refine decFA ?_ | refine decNA ?_ | refine decBTA ?_ | refine decBFA ?_ | refine ⟨_, by assumption, ?_⟩ | refine ⟨_, _, _, rfl, ?_⟩ | refine WC.seq (fun K hK => ?_) | (refine hK _ _ _ ?_; clear hK K) | (refine hK _ _ _ _ rfl ?_; clear hK K) | (refine WX.thenExit (K := K) ?_; clear hK K) | (refine WX.thenExit (K := KL) ?_; clear hL KL)))
      exact (hL2 (k + 1, D2.set (o - 1).toNat n, b2) ⟨hkx, hch2, hst.2.2.2.1, by dsimp only; rw [List.length_set]; exact hD2, fun y hy => by
        rcases List.mem_or_eq_of_mem_set hy with h1 | rfl
        · exact hD21 y h1
        · exact a4, heq3⟩ (by dsimp only; omega)).conv (.cons rfl (.cons rfl (.cons rfl (.cons rfl (.cons rfl (.cons rfl (.cons rfl .nil))))))) (fun w h => h.to)
    · obtain rfl : k = xs.length := by omega
      rw [List.drop_length] at hch
      have hae : a2 = k2 := by cases hch; rfl
      subst hae
      (repeat (first | refine vgo ?_ | refine ⟨_, rfl, rfl, ?_⟩ | refine ⟨_, rfl, ?_⟩ | refine ⟨rfl, ?_⟩ | intro hb | refine altA ?_ | refine altR ?_ | refine sideA ?_ | refine decTA ?_ | refine decFA ?_ | refine decNA ?_ | refine decBTA ?_ | refine decBFA ?_ | refine ⟨_, by assumption, ?_⟩ | refine ⟨_, _, _, rfl, ?_⟩ | refine WC.seq (fun K hK => ?_) | (refine hK _ _ _ ?_; clear hK K) | (refine hK _ _ _ _ rfl ?_; clear hK K) | (refine WX.thenExit (K := K) ?_; clear hK K) | (refine WX.thenExit (K := KL) ?_; clear hL KL)))
      refine WX.thenExit ?_
      (repeat (first | refine vgo ?_ | refine ⟨_, rfl, rfl, ?_⟩ | refine ⟨_, rfl, ?_⟩ | refine ⟨rfl, ?_⟩ | intro hb | refine altA ?_ | refine altR ?_ | refine sideA ?_ | refine decTA ?_ | refine decFA ?_ | refine decNA ?_ | refine decBTA ?_ | refine decBFA ?_ | refine ⟨_, by assumption, ?_⟩ | refine ⟨_, _, _, rfl, ?_⟩ | refine WC.seq (fun K hK => ?_) | (refine hK _ _ _ ?_; clear hK K) | (refine hK _ _ _ _ rfl ?_; clear hK K) | (refine WX.thenExit (K := K) ?_; clear hK K) | (refine WX.thenExit (K := KL) ?_; clear hL KL)))
      exact (hE D2 hD2 hD21 heq2).conv (.cons rfl (.cons rfl (.cons rfl (.cons rfl (.cons rfl .nil))))) (fun w h => h.to)
  · by_cases hg1 : i < L.length
    · by_cases hg2 : i < 100
      · have hg3 : ¬ 0 < out.length := fun h => hgo ⟨hg1, hg2, h⟩
        (repeat (first | refine vgo ?_ | refine ⟨_, rfl, rfl, ?_⟩ | refine ⟨_, rfl, ?_⟩ | refine ⟨rfl, ?_⟩ | intro hb | refine altA ?_ | refine altR ?_ | refine sideA ?_ | refine decTA ?_ | refine decFA ?_ | refine decNA ?_ | refine decBTA ?_ | refine decBFA ?_ | refine ⟨_, by assumption, ?_⟩ | refine ⟨_, _, _, rfl, ?_⟩ | refine WC.seq (fun K hK => ?_) | (refine hK _ _ _ ?_; clear hK K) | (refine hK _ _ _ _ rfl ?_; clear hK K) | (refine WX.thenExit (K := K) ?_; clear hK K) | (refine WX.thenExit (K := KL) ?_; clear hL KL)))
        exact WX.ret1 rfl rfl (fun w sw => ⟨[], [], rfl, sw.to⟩)
      · (repeat (first | refine vgo ?_ | refine ⟨_, rfl, rfl, ?_⟩ | refine ⟨_, rfl, ?_⟩ | refine ⟨rfl, ?_⟩ | intro hb | refine altA ?_ | refine altR ?_ | refine sideA ?_ | refine decTA ?_ | refine decFA ?_ | refine decNA ?_ | refine decBTA ?_ | refine decBFA ?_ | refine ⟨_, by assumption, ?_⟩ | refine ⟨_, _, _, rfl, ?_⟩ | refine WC.seq (fun K hK => ?_) | (refine hK _ _ _ ?_; clear hK K) | (refine hK _ _ _ _ rfl ?_; clear hK K) | (refine WX.thenExit (K := K) ?_; clear hK K) | (refine WX.thenExit (K := KL) ?_; clear hL KL)))
        exact WX.ret1 rfl rfl (fun w sw => ⟨[], [], rfl, sw.to⟩)
    · (repeat (first | refine vgo ?_ | refine ⟨_, rfl, rfl, ?_⟩ | refine ⟨_, rfl, ?_⟩ | refine ⟨rfl, ?_⟩ | intro hb | refine altA ?_ | refine altR ?_ | refine sideA ?_ | refine decTA ?_ | refine decFA ?_ | refine decNA ?_ | refine decBTA ?_ | refine decBFA ?_ | refine ⟨_, by assumption, ?_⟩ | refine ⟨_, _, _, rfl, ?_⟩ | refine WC.seq (fun K hK => ?_) | (refine hK _ _ _ ?_; clear hK K) | (refine hK _ _ _ _ rfl ?_; clear hK K) | (refine WX.thenExit (K := K) ?_; clear hK K) | (refine WX.thenExit (K := KL) ?_; clear hL KL)))
      exact WX.ret1 rfl rfl (fun w sw => ⟨[], [], rfl, sw.to⟩)
end
end Go.Qd
