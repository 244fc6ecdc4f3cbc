/-
  Operations of the document as the program's, for messages.
-/
import Derived.Test.YthkeakecckiokaaGreatPTree7
import Derived.Test.YthkeakecckiokaaGreatPCB
import Derived.Test.YthkeakecckiokaaGreatPSeal
namespace Go.Qd
/-! ### Operations of the document as the program's, for messages. -/
section
/-! ### Operations of the document as the program's, for messages. -/
section
/-! ### Operations of the document as the program's, for messages. -/
section
open Go Go.Proofs
set_option maxRecDepth 100000 in
theorem node15_fun {M : Nat} (d : Nat) (hM : M ≤ upM) (a : Nd) (ha : smN M d a) (u : Value) : Fun Tryz.prog 48 [ndV a.k a.n a.s a.f a.t u] [rd (Ty.sl nodeT) a.ar u] [] (fun r G S => ∃ sv, r = ndV a.k a.n a.s a.f a.t sv ∧ G = [rd (Ty.sl nodeT) a.ar sv] ∧ S = []) := by
  obtain ⟨d, rfl⟩ : ∃ e, d = e + 1 := by
    cases d with
    | zero => exact ha.elim
    | succ e => exact ⟨e, rfl⟩
  have ih : ∀ x ∈ a.ar, ∀ va : Value, Fun Tryz.prog 48 [va] [rd nodeT x va] [] (fun r G S => ∃ sv, r = ndV x.k x.n x.s x.f x.t sv ∧ G = [rd (Ty.sl nodeT) x.ar sv] ∧ S = []) := fun x hx => Fun.node1 (fun u => node15_fun d hM x (ha.2.2 x hx) u)
  have hoks : ∀ x ∈ a.ar, okNd x := fun x hx => by
    have := ha.2.2 x hx
    cases d with
    | zero => exact this.elim
    | succ e => exact this.1
  have hal := ha.2.1
  simp only [upM] at hM
  refine Fun.enter Tryz.func48 (by kernel_rfl) rfl Tryz.ntmps48 rfl (fun B Gf Sf => ?_); (try simp only [List.cons_append]); (try simp only [List.nil_append]); simp only [argEnv]
  refine WC.ex (fun w sw => sw.slOne (v := u) RdSl.h) (fun hu1 => ?_)
  refine WC.ex (fun w sw => sw.len_le (RdSl.h (v := u))) (fun hlu => ?_)
  (repeat (first | refine vgo ?_ | refine ⟨_, rfl, rfl, ?_⟩ | refine ⟨_, rfl, ?_⟩ | refine ⟨rfl, ?_⟩ | intro hb | refine go2 ?_ | refine WC.seq (fun K hK => ?_) | ((first | refine hK _ _ _ ?_ | refine hK _ _ _ _ rfl ?_ | refine WX.thenExit (K := K) ?_); clear hK K) | (refine WX.thenExit (K := KL) ?_; clear hL KL)))
  (first | refine WL.boxA rfl rfl ?_ | refine WL.box rfl rfl rfl ?_); intro b1
  (repeat (first | refine vgo ?_ | refine ⟨_, rfl, rfl, ?_⟩ | refine ⟨_, rfl, ?_⟩ | refine ⟨rfl, ?_⟩ | intro hb | refine go2 ?_ | refine WC.seq (fun K hK => ?_) | ((first | refine hK _ _ _ ?_ | refine hK _ _ _ _ rfl ?_ | refine WX.thenExit (K := K) ?_); clear hK K) | (refine WX.thenExit (K := KL) ?_; clear hL KL)))
  refine WL.alloc rfl ?_; intro b2
  (repeat (first | refine vgo ?_ | refine ⟨_, rfl, rfl, ?_⟩ | refine ⟨_, rfl, ?_⟩ | refine ⟨rfl, ?_⟩ | intro hb | refine go2 ?_ | refine WC.seq (fun K hK => ?_) | ((first | refine hK _ _ _ ?_ | refine hK _ _ _ _ rfl ?_ | refine WX.thenExit (K := K) ?_); clear hK K) | (refine WX.thenExit (K := KL) ?_; clear hL KL)))
  refine WL.alloc rfl ?_; intro b3
  (repeat (first | refine vgo ?_ | refine ⟨_, rfl, rfl, ?_⟩ | refine ⟨_, rfl, ?_⟩ | refine ⟨rfl, ?_⟩ | intro hb | refine go2 ?_ | refine WC.seq (fun K hK => ?_) | ((first | refine hK _ _ _ ?_ | refine hK _ _ _ _ rfl ?_ | refine WX.thenExit (K := K) ?_); clear hK K) | (refine WX.thenExit (K := KL) ?_; clear hL KL)))
  refine WC.loop (I := Nat × Value × List Value) (fun i => [(1, .pointer (some ⟨b1, 0, none⟩)), (2, .pointer (some ⟨b2, 0, none⟩)), (3, .pointer (some ⟨b3, 0, none⟩)), (4, .int .i64 (i.1 : Nat))]) (fun i => rdAll nodeT (a.ar.take i.1) i.2.2 :: rd (Ty.sl nodeT) a.ar u :: Gf)
    (fun i => own 58 12 i.2.1 i.1 (flat i.2.2) :: box b3 58 (ndC a.k a.n a.s a.f a.t i.2.1) :: box b2 58 ndZ :: box b1 73 (ndC a.k a.n a.s a.f a.t u) :: Sf) (fun i => i.1 ≤ a.ar.length) (fun i => a.ar.length - i.1) (0, .slice none 0 0, []) (Nat.zero_le _) (.cons rfl (.cons rfl (.cons rfl (.cons rfl .nil)))) (fun w h => by
    have h2 := Sat.rdAllNil nodeT (h.ownNil 58 12)
    dsimp only [List.take_zero, flat_nil]
    exact h2.to) ?_
  rintro ⟨i, sv, vs⟩ hi KL hL
  dsimp only at hi
  by_cases g : i < a.ar.length
  · obtain ⟨x, hx⟩ : ∃ x, a.ar[i]? = some x := ⟨_, List.getElem?_eq_getElem g⟩
    have hpx := ih x (List.mem_of_getElem? hx)
    have hox := hoks x (List.mem_of_getElem? hx)
    (repeat (first | refine vgo ?_ | refine ⟨_, rfl, rfl, ?_⟩ | refine ⟨_, rfl, ?_⟩ | refine ⟨rfl, ?_⟩ | intro hb | refine go2 ?_ | refine WC.seq (fun K hK => ?_) | ((first | refine hK _ _ _ ?_ | refine hK _ _ _ _ rfl ?_ | refine WX.thenExit (K := K) ?_); clear hK K) | (refine WX.thenExit (K := KL) ?_; clear hL KL)))
    refine WC.drawV (S := (box b2 58 ndZ :: box b1 73 (ndC a.k a.n a.s a.f a.t u) :: Sf)) ([[box b3 58 (ndC a.k a.n a.s a.f a.t sv)], [own 58 12 sv i (flat vs)]]) rfl (by repeat (first | exact Wo.nil | (apply Wo.keep; exact rfl) | (apply Wo.drop; exact rfl))) (fun w sw => by (try simp only [List.flatten_cons, List.flatten_nil, List.append_nil, List.cons_append, List.nil_append]); exact sw.to) ?_; (try dsimp only [chunks])
    (repeat (first | refine ObP3.c0A ?_ | (apply ObP3.cons1 [1000] []; (focus ((repeat (intro _)); (conv => whnf); (try dsimp only [envO, List.cons_append, List.nil_append]); (repeat (first | refine vgo ?_ | refine ⟨_, rfl, rfl, ?_⟩ | refine ⟨_, rfl, ?_⟩ | refine ⟨rfl, ?_⟩ | intro hb | refine go2 ?_ | refine WC.seq (fun K hK => ?_) | ((first | refine hK _ _ _ ?_ | refine hK _ _ _ _ rfl ?_ | refine WX.thenExit (K := K) ?_); clear hK K) | (refine WX.thenExit (K := KL) ?_; clear hL KL))); first | exact WX.pgIs rfl | exact WX.pgRd rfl | exact WX.pgCell rfl | exact WX.pgNone | exact WX.pgOwn rfl)); exact rfl))); try (refine ObP3.nil ?_; (repeat (intro _)); (conv => whnf); (try dsimp only [envO, List.cons_append, List.nil_append]))
    refine ObP3.cons1 [] [] (.ex Value (fun v => ndV x.k x.n x.s x.f x.t v) (fun v => [rd (Ty.sl nodeT) x.ar v]) (fun _ => [])) ?_ rfl ?_
    · (repeat (intro _)); (conv => whnf); (try dsimp only [envO, List.cons_append, List.nil_append])
      (repeat (first | refine vgo ?_ | refine ⟨_, rfl, rfl, ?_⟩ | refine ⟨_, rfl, ?_⟩ | refine ⟨rfl, ?_⟩ | intro hb | refine go2 ?_ | refine WC.seq (fun K hK => ?_) | ((first | refine hK _ _ _ ?_ | refine hK _ _ _ _ rfl ?_ | refine WX.thenExit (K := K) ?_); clear hK K) | (refine WX.thenExit (K := KL) ?_; clear hL KL)))
      refine CallV.by' (hpx _) ?_; rintro _ _ _ ⟨s', rfl, rfl, rfl⟩; (try simp only [List.cons_append]); (try simp only [List.nil_append])
      (repeat (first | refine vgo ?_ | refine ⟨_, rfl, rfl, ?_⟩ | refine ⟨_, rfl, ?_⟩ | refine ⟨rfl, ?_⟩ | intro hb | refine go2 ?_ | refine WC.seq (fun K hK => ?_) | ((first | refine hK _ _ _ ?_ | refine hK _ _ _ _ rfl ?_ | refine WX.thenExit (K := K) ?_); clear hK K) | (refine WX.thenExit (K := KL) ?_; clear hL KL)))
      exact WX.pgEx s' rfl (fun w sw => sw.to)
    refine ObP3.cons1 [] [] (.ex (Value × Value) (fun p => p.1) (fun p => [rd (Ty.sl nodeT) x.ar p.2]) (fun p => [own 58 12 p.1 1 (ndC x.k x.n x.s x.f x.t p.2)])) ?_ rfl ?_
    · (repeat (intro _)); (conv => whnf); (try dsimp only [envO, List.cons_append, List.nil_append])
      (repeat (first | refine vgo ?_ | refine ⟨_, rfl, rfl, ?_⟩ | refine ⟨_, rfl, ?_⟩ | refine ⟨rfl, ?_⟩ | intro hb | refine go2 ?_ | refine WC.seq (fun K hK => ?_) | ((first | refine hK _ _ _ ?_ | refine hK _ _ _ _ rfl ?_ | refine WX.thenExit (K := K) ?_); clear hK K) | (refine WX.thenExit (K := KL) ?_; clear hL KL)))
      rename_i s' _ _
      simp only [List.append_nil]
      exact WX.pgEx (fv := fun p : Value × Value => p.1) (hb, s') rfl (fun w sw => sw.to)
    refine ObP3.cons1 [] [8, 1001] (.ex (Value × Value) (fun p => p.1) (fun p => [rd (Ty.sl nodeT) x.ar p.2]) (fun p => [own 58 12 p.1 (i + 1) (flat vs ++ ndC x.k x.n x.s x.f x.t p.2)])) ?_ rfl ?_
    · (repeat (intro _)); (conv => whnf); (try dsimp only [envO, List.cons_append, List.nil_append])
      (repeat (first | refine vgo ?_ | refine ⟨_, rfl, rfl, ?_⟩ | refine ⟨_, rfl, ?_⟩ | refine ⟨rfl, ?_⟩ | intro hb | refine go2 ?_ | refine WC.seq (fun K hK => ?_) | ((first | refine hK _ _ _ ?_ | refine hK _ _ _ _ rfl ?_ | refine WX.thenExit (K := K) ?_); clear hK K) | (refine WX.thenExit (K := KL) ?_; clear hL KL)))
      rename_i p8 _ _ _ _ _
      exact WX.pgEx (fv := fun p : Value × Value => p.1) (hb, p8.2) rfl (fun w sw => sw.to)
    (repeat refine ObP3.c0B ?_); try (refine ObP3.nil ?_; (repeat (intro _)); (conv => whnf); (try dsimp only [envO, List.cons_append, List.nil_append]))
    refine ObP3.cons1 [] [9, 1000] (.ex (Value × Value) (fun _ => undef) (fun p => [rd (Ty.sl nodeT) x.ar p.2]) (fun p => [own 58 12 p.1 (i + 1) (flat vs ++ ndC x.k x.n x.s x.f x.t p.2), box b3 58 (ndC a.k a.n a.s a.f a.t p.1)])) ?_ rfl ?_
    · (repeat (intro _)); (conv => whnf); (try dsimp only [envO, List.cons_append, List.nil_append])
      (repeat (first | refine vgo ?_ | refine ⟨_, rfl, rfl, ?_⟩ | refine ⟨_, rfl, ?_⟩ | refine ⟨rfl, ?_⟩ | intro hb | refine go2 ?_ | refine WC.seq (fun K hK => ?_) | ((first | refine hK _ _ _ ?_ | refine hK _ _ _ _ rfl ?_ | refine WX.thenExit (K := K) ?_); clear hK K) | (refine WX.thenExit (K := KL) ?_; clear hL KL)))
      rename_i p9 _ _ _ _ _ _
      exact WX.pgEx0 p9 (fun w sw => sw.to)
    (repeat refine ObP3.c0B ?_); try (refine ObP3.nil ?_; (repeat (intro _)); (conv => whnf); (try dsimp only [envO, List.cons_append, List.nil_append]))
    (repeat (first | refine vgo ?_ | refine ⟨_, rfl, rfl, ?_⟩ | refine ⟨_, rfl, ?_⟩ | refine ⟨rfl, ?_⟩ | intro hb | refine go2 ?_ | refine WC.seq (fun K hK => ?_) | ((first | refine hK _ _ _ ?_ | refine hK _ _ _ _ rfl ?_ | refine WX.thenExit (K := K) ?_); clear hK K) | (refine WX.thenExit (K := KL) ?_; clear hL KL)))
    rename_i q _ _ _ _ _ _ _
    have htk : a.ar.take (i + 1) = a.ar.take i ++ [x] := by rw [List.take_add_one, hx]; rfl
    refine (hL (i + 1, q.1, vs ++ [ndV x.k x.n x.s x.f x.t q.2]) g (by dsimp only; omega)).conv (.cons rfl (.cons rfl (.cons rfl (.cons rfl .nil)))) (fun w h => ?_)
    dsimp only
    rw [flat_snoc, htk, show (ndV x.k x.n x.s x.f x.t q.2).cells.toList = ndC x.k x.n x.s x.f x.t q.2 from rfl]
    have h2 := h.more (p := rdAll nodeT (a.ar.take i ++ [x]) (vs ++ [ndV x.k x.n x.s x.f x.t q.2])) (fun m hm => AllR.snoc (hm (rdAll nodeT (a.ar.take i) vs) InG.h) (node_mk hox (hm (rd (Ty.sl nodeT) x.ar q.2) InG.h)))
    exact h2.to
  · have e : a.ar.take i = a.ar := List.take_of_length_le (by omega)
    rw [e]
    obtain rfl : i = a.ar.length := by omega
    (repeat (first | refine vgo ?_ | refine ⟨_, rfl, rfl, ?_⟩ | refine ⟨_, rfl, ?_⟩ | refine ⟨rfl, ?_⟩ | intro hb | refine go2 ?_ | refine WC.seq (fun K hK => ?_) | ((first | refine hK _ _ _ ?_ | refine hK _ _ _ _ rfl ?_ | refine WX.thenExit (K := K) ?_); clear hK K) | (refine WX.thenExit (K := KL) ?_; clear hL KL)))
    refine WX.retC rfl rfl rfl (fun w sw => ⟨_, _, ⟨sv, rfl, rfl, rfl⟩, ?_⟩)
    have h2 := sw.pubR (R := nodeT) (l := a.ar) (v := sv) (vs := vs) SelOwn.h rfl rfl rfl (fun mm hm => hm (rdAll nodeT a.ar vs) InG.h)
    exact h2.to
termination_by SizeOf.sizeOf a
decreasing_by
  obtain ⟨k, n, s, f, t, ar⟩ := a
  have := List.sizeOf_lt_of_mem hx
  simp only [Nd.ar, Nd.mk.sizeOf_spec] at this ⊢
  omega
set_option maxRecDepth 100000 in
set_option synthInstance.maxSize 4000 in
set_option synthInstance.maxHeartbeats 400000 in
theorem opTo15_fun (x : OpD) (u : Value) (hx : okF x.f) (hs : smN upM upM x.F) : Fun Tryz.prog 26 [ropV x u] [rd (Ty.sl nodeT) x.F.ar u] [] (fun r G S => ∃ d s, r = popV x d s ∧ G = [rd (Ty.sl Ty.u64) (trimL x.f) d, rd (Ty.sl nodeT) x.F.ar s] ∧ S = []) := by
  have hfl := hx.1
  have i1 : Len64 x.f := ⟨hfl⟩
  have hnode := fun u => node15_fun upM (Nat.le_refl _) x.F hs u
  refine Fun.enter Tryz.func26 (by kernel_rfl) rfl Tryz.ntmps26 rfl (fun B Gf Sf => ?_); (try simp only [List.cons_append]); (try simp only [List.nil_append]); simp only [argEnv]
  refine WC.ex (fun w sw => sw.slOne (v := u) RdSl.h) (fun hu1 => ?_)
  (repeat (first | refine vgo ?_ | refine ⟨_, rfl, rfl, ?_⟩ | refine ⟨_, rfl, ?_⟩ | refine ⟨rfl, ?_⟩ | intro hb | refine go2 ?_ | refine WC.seq (fun K hK => ?_) | ((first | refine hK _ _ _ ?_ | refine hK _ _ _ _ rfl ?_ | refine WX.thenExit (K := K) ?_); clear hK K) | (refine WX.thenExit (K := KL) ?_; clear hL KL)))
  (first | refine WL.boxA rfl rfl ?_ | refine WL.box rfl rfl rfl ?_); intro b1
  (repeat (first | refine vgo ?_ | refine ⟨_, rfl, rfl, ?_⟩ | refine ⟨_, rfl, ?_⟩ | refine ⟨rfl, ?_⟩ | intro hb | refine go2 ?_ | refine WC.seq (fun K hK => ?_) | ((first | refine hK _ _ _ ?_ | refine hK _ _ _ _ rfl ?_ | refine WX.thenExit (K := K) ?_); clear hK K) | (refine WX.thenExit (K := KL) ?_; clear hL KL)))
  refine WL.alloc rfl ?_; intro b2
  (repeat (first | refine vgo ?_ | refine ⟨_, rfl, rfl, ?_⟩ | refine ⟨_, rfl, ?_⟩ | refine ⟨rfl, ?_⟩ | intro hb | refine go2 ?_ | refine WC.seq (fun K hK => ?_) | ((first | refine hK _ _ _ ?_ | refine hK _ _ _ _ rfl ?_ | refine WX.thenExit (K := K) ?_); clear hK K) | (refine WX.thenExit (K := KL) ?_; clear hL KL)))
  (apply WC.drawE; exact rfl; focus (repeat (first | exact Wo.nil | (apply Wo.keep; exact rfl) | (apply Wo.drop; exact rfl))))
  (repeat refine ObP3.c0B ?_); try (refine ObP3.nil ?_; (repeat (intro _)); (conv => whnf); (try dsimp only [envO, List.cons_append, List.nil_append]))
  refine ObP3.cons1 [] [] (.ex Value (fun s => ndV x.F.k x.F.n x.F.s x.F.f x.F.t s) (fun s => [rd (Ty.sl nodeT) x.F.ar s]) (fun _ => [])) ?_ rfl ?_
  · (repeat (intro _)); (conv => whnf); (try dsimp only [envO, List.cons_append, List.nil_append])
    (repeat (first | refine vgo ?_ | refine ⟨_, rfl, rfl, ?_⟩ | refine ⟨_, rfl, ?_⟩ | refine ⟨rfl, ?_⟩ | intro hb | refine go2 ?_ | refine WC.seq (fun K hK => ?_) | ((first | refine hK _ _ _ ?_ | refine hK _ _ _ _ rfl ?_ | refine WX.thenExit (K := K) ?_); clear hK K) | (refine WX.thenExit (K := KL) ?_; clear hL KL)))
    refine CallV.by' (hnode _) ?_; rintro _ _ _ ⟨s', rfl, rfl, rfl⟩; (try simp only [List.cons_append]); (try simp only [List.nil_append])
    (repeat (first | refine vgo ?_ | refine ⟨_, rfl, rfl, ?_⟩ | refine ⟨_, rfl, ?_⟩ | refine ⟨rfl, ?_⟩ | intro hb | refine go2 ?_ | refine WC.seq (fun K hK => ?_) | ((first | refine hK _ _ _ ?_ | refine hK _ _ _ _ rfl ?_ | refine WX.thenExit (K := K) ?_); clear hK K) | (refine WX.thenExit (K := KL) ?_; clear hL KL)))
    exact WX.pgEx s' rfl (fun w sw => sw.to)
  refine ObP3.cons1 [] [] (.ex Value (fun s => contV x s) (fun s => [rd (Ty.sl nodeT) x.F.ar s]) (fun _ => [])) ?_ rfl ?_
  · (repeat (intro _)); (conv => whnf); (try dsimp only [envO, List.cons_append, List.nil_append])
    refine WL.ex (fun w sw => sw.slOne (v := _) (R := nodeT) (l := x.F.ar) (.head _)) (fun hq1 => ?_)
    (repeat (first | refine vgo ?_ | refine ⟨_, rfl, rfl, ?_⟩ | refine ⟨_, rfl, ?_⟩ | refine ⟨rfl, ?_⟩ | intro hb | refine go2 ?_ | refine WC.seq (fun K hK => ?_) | ((first | refine hK _ _ _ ?_ | refine hK _ _ _ _ rfl ?_ | refine WX.thenExit (K := K) ?_); clear hK K) | (refine WX.thenExit (K := KL) ?_; clear hL KL)))
    exact WX.pgEx _ rfl (fun w sw => sw.to)
  refine ObP3.cons1 [] [] (.ex Nat (fun b => .pointer (some ⟨b, 0, none⟩)) (fun _ => []) (fun b => [box b 60 coZ])) ?_ rfl ?_
  · (repeat (intro _)); (conv => whnf); (try dsimp only [envO, List.cons_append, List.nil_append])
    refine WL.alloc rfl ?_; intro b3
    (repeat (first | refine vgo ?_ | refine ⟨_, rfl, rfl, ?_⟩ | refine ⟨_, rfl, ?_⟩ | refine ⟨rfl, ?_⟩ | intro hb | refine go2 ?_ | refine WC.seq (fun K hK => ?_) | ((first | refine hK _ _ _ ?_ | refine hK _ _ _ _ rfl ?_ | refine WX.thenExit (K := K) ?_); clear hK K) | (refine WX.thenExit (K := KL) ?_; clear hL KL)))
    exact WX.pgEx (fv := fun b => .pointer (some ⟨b, 0, none⟩)) b3 rfl (fun w sw => sw.to)
  refine ObP3.cons2 [] [14] [14] 3 (.ex (Nat × Value) (fun p => .pointer (some ⟨p.1, 0, none⟩)) (fun p => [rd (Ty.sl nodeT) x.F.ar p.2]) (fun p => [box p.1 60 (contC x p.2)])) ?_ rfl ?_
  · (repeat (intro _)); (conv => whnf); (try dsimp only [envO, List.cons_append, List.nil_append])
    (repeat (first | refine vgo ?_ | refine ⟨_, rfl, rfl, ?_⟩ | refine ⟨_, rfl, ?_⟩ | refine ⟨rfl, ?_⟩ | intro hb | refine go2 ?_ | refine WC.seq (fun K hK => ?_) | ((first | refine hK _ _ _ ?_ | refine hK _ _ _ _ rfl ?_ | refine WX.thenExit (K := K) ?_); clear hK K) | (refine WX.thenExit (K := KL) ?_; clear hL KL)))
    rename_i bx sx _
    exact WX.pgEx (fv := fun p : Nat × Value => .pointer (some ⟨p.1, 0, none⟩)) (bx, sx) rfl (fun w sw => sw.to)
  (repeat refine ObP3.c0B ?_); try (refine ObP3.nil ?_; (repeat (intro _)); (conv => whnf); (try dsimp only [envO, List.cons_append, List.nil_append]))
  (repeat (first | refine vgo ?_ | refine ⟨_, rfl, rfl, ?_⟩ | refine ⟨_, rfl, ?_⟩ | refine ⟨rfl, ?_⟩ | intro hb | refine go2 ?_ | refine WC.seq (fun K hK => ?_) | ((first | refine hK _ _ _ ?_ | refine hK _ _ _ _ rfl ?_ | refine WX.thenExit (K := K) ?_); clear hK K) | (refine WX.thenExit (K := KL) ?_; clear hL KL)))
  rename_i q _ _
  obtain ⟨b3, s3⟩ := q
  dsimp only
  refine WC.ex (fun w sw => sw.slOne (v := s3) (R := nodeT) (l := x.F.ar) InG.h) (fun hs3 => ?_)
  refine WC.drawV (S := (box b3 60 (contC x s3) :: box b1 77 (ropC x u) :: Sf)) ([[box b2 62 opZ]]) rfl (by repeat (first | exact Wo.nil | (apply Wo.keep; exact rfl) | (apply Wo.drop; exact rfl))) (fun w sw => by (try simp only [List.flatten_cons, List.flatten_nil, List.append_nil, List.cons_append, List.nil_append]); exact sw.to) ?_; (try dsimp only [chunks])
  (repeat refine ObP3.c0B ?_); try (refine ObP3.nil ?_; (repeat (intro _)); (conv => whnf); (try dsimp only [envO, List.cons_append, List.nil_append]))
  refine ObP3.cons1 [] [] (.ex Value (fun d => popV x d s3) (fun d => [rd (Ty.sl Ty.u64) (trimL x.f) d]) (fun _ => [])) ?_ rfl ?_
  · (repeat (intro _)); (conv => whnf); (try dsimp only [envO, List.cons_append, List.nil_append])
    (repeat (first | refine vgo ?_ | refine ⟨_, rfl, rfl, ?_⟩ | refine ⟨_, rfl, ?_⟩ | refine ⟨rfl, ?_⟩ | intro hb | refine go2 ?_ | refine WC.seq (fun K hK => ?_) | ((first | refine hK _ _ _ ?_ | refine hK _ _ _ _ rfl ?_ | refine WX.thenExit (K := K) ?_); clear hK K) | (refine WX.thenExit (K := KL) ?_; clear hL KL)))
    exact WX.pgEx (fv := fun d => popV x d s3) _ rfl (fun w sw => sw.to)
  refine ObP3.cons1 [] [1000] (.ex Value (fun _ => undef) (fun d => [rd (Ty.sl Ty.u64) (trimL x.f) d]) (fun d => [box b2 62 (popC x d s3)])) ?_ rfl ?_
  · (repeat (intro _)); (conv => whnf); (try dsimp only [envO, List.cons_append, List.nil_append])
    (repeat (first | refine vgo ?_ | refine ⟨_, rfl, rfl, ?_⟩ | refine ⟨_, rfl, ?_⟩ | refine ⟨rfl, ?_⟩ | intro hb | refine go2 ?_ | refine WC.seq (fun K hK => ?_) | ((first | refine hK _ _ _ ?_ | refine hK _ _ _ _ rfl ?_ | refine WX.thenExit (K := K) ?_); clear hK K) | (refine WX.thenExit (K := KL) ?_; clear hL KL)))
    rename_i d _ _
    exact WX.pgEx0 d (fun w sw => sw.to)
  (repeat refine ObP3.c0B ?_); try (refine ObP3.nil ?_; (repeat (intro _)); (conv => whnf); (try dsimp only [envO, List.cons_append, List.nil_append]))
  (repeat (first | refine vgo ?_ | refine ⟨_, rfl, rfl, ?_⟩ | refine ⟨_, rfl, ?_⟩ | refine ⟨rfl, ?_⟩ | intro hb | refine go2 ?_ | refine WC.seq (fun K hK => ?_) | ((first | refine hK _ _ _ ?_ | refine hK _ _ _ _ rfl ?_ | refine WX.thenExit (K := K) ?_); clear hK K) | (refine WX.thenExit (K := KL) ?_; clear hL KL)))
  rename_i d _ _ _
  refine WX.retC rfl rfl rfl (fun w sw => ⟨_, _, ⟨d, s3, rfl, rfl, rfl⟩, sw.to⟩)
def okD (x : OpD) : Prop := okI x.o ∧ okF x.f ∧ x.ct.length ≤ maxLen ∧ smN upM upM x.F
end
/-! ### Messages: their operations as lists; lists compared. -/
section
open Go Go.Proofs Go.ChangeShapes Go.WideShapes Go.RowKit
theorem ropC_len {x : OpD} {u : Value} (h : x.f.length = 64) : (ropC x u).length = 87 := by
  simp [h]
theorem uV_one (l : List Nat) : ∀ c ∈ l.map uV, c.oneCell' = true := fun c hc => by
  obtain ⟨a, _, rfl⟩ := List.mem_map.1 hc; rfl
theorem sl_one {α : Type} {R : Ty α} {l : List α} {u : Value} {h : Hp} (hu : slRel R l u h) : u.oneCell' = true := by
  obtain ⟨p, c, rfl, _⟩ := slRel.shape hu; rfl
def opdT : Ty OpD := ⟨87, true, fun x v h => ∃ u, v = ropV x u ∧ okD x ∧ slRel nodeT x.F.ar u h, fun le ⟨u, e, o, h⟩ => ⟨u, e, o, h.mono le⟩,
  fun ⟨u, e, o, _⟩ => by subst e; exact ropC_len o.2.1.1, fun ⟨u, e, _, _⟩ => by subst e; exact ⟨_, rfl⟩, fun ⟨u, e, _, hu⟩ c hc => by
    subst e
    have hc : c ∈ ropC _ u := hc
    have h1 := sl_one hu
    simp only [List.mem_cons, List.mem_append, List.not_mem_nil, or_false] at hc
    rcases hc with rfl | rfl | rfl | hc | hc
    all_goals first | rfl | exact uV_one _ c hc | skip
    rcases hc with rfl | rfl | rfl | rfl | rfl | rfl | rfl | rfl | rfl | rfl | rfl | rfl | rfl | rfl | rfl | rfl | rfl | rfl | rfl | rfl
    all_goals first | rfl | exact h1⟩
instance : Ty.Sz opdT 87 := ⟨rfl, by decide⟩
theorem okD_F {x : OpD} (h : okD x) : okNd x.F := (smN_ok h.2.2.2).1
def condT : Ty OpD := ⟨15, true, fun x v h => ∃ u, v = contV x u ∧ okD x ∧ slRel nodeT x.F.ar u h, fun le ⟨u, e, o, h⟩ => ⟨u, e, o, h.mono le⟩,
  fun ⟨u, e, o, _⟩ => by subst e; rfl, fun ⟨u, e, _, _⟩ => by subst e; exact ⟨_, rfl⟩, fun ⟨u, e, _, hu⟩ c hc => by
    subst e
    have hc : c ∈ contC _ u := hc
    have h1 := sl_one hu
    simp only [List.mem_cons, List.not_mem_nil, or_false] at hc
    rcases hc with rfl | rfl | rfl | rfl | rfl | rfl | rfl | rfl | rfl | rfl | rfl | rfl | rfl | rfl | rfl
    all_goals first | rfl | exact h1⟩
instance : Ty.Sz condT 15 := ⟨rfl, by decide⟩
instance {x : OpD} : Fld condT 2 x Ty.str x.ct := ⟨fun v h hr => by
  obtain ⟨u, rfl, ok, hu⟩ := hr
  refine ⟨.string (bs x.ct), ⟨rfl, ok.2.2.1⟩, fun j c hc => ?_⟩
  obtain rfl : j = 0 := by
    have := (List.getElem?_eq_some_iff.1 hc).1
    have e : (Value.string (bs x.ct)).cells.toList.length = 1 := rfl
    omega
  exact hc⟩
instance {x : OpD} : Fld condT 3 x nodeT x.F := ⟨fun v h hr => by
  obtain ⟨u, rfl, ok, hu⟩ := hr
  refine ⟨ndV x.F.k x.F.n x.F.s x.F.f x.F.t u, node_mk (okD_F ok) hu, fun j c hc => ?_⟩
  have e : (contV x u).cells.toList = [.int .i64 x.ck, .int .i64 x.cn, .string (bs x.ct)] ++ ndC x.F.k x.F.n x.F.s x.F.f x.F.t u := rfl
  rw [e, List.getElem?_append_right (by simp only [List.length_cons, List.length_nil]; omega)]
  rw [show 3 + j - [Value.int .i64 x.ck, .int .i64 x.cn, .string (bs x.ct)].length = j from by simp only [List.length_cons, List.length_nil]; omega]
  exact hc⟩
instance {x : OpD} : Fld opdT 72 x condT x := ⟨fun v h hr => by
  obtain ⟨u, rfl, ok, hu⟩ := hr
  refine ⟨contV x u, ⟨u, rfl, ok, hu⟩, fun j c hc => ?_⟩
  have e : (ropV x u).cells.toList = (.int .i64 x.o :: .int .u64 x.n :: .int .u64 x.t :: (x.f.map uV ++ [.int .i64 x.k, .int .u64 x.r.1, .int .i64 x.r.2, .int .u64 x.c.1, .int .i64 x.c.2])) ++ contC x u := by
    show ropC x u = _
    simp
  rw [e, List.getElem?_append_right (by simp only [List.length_cons, List.length_append, List.length_map, List.length_nil, ok.2.1.1]; omega)]
  have e2 : 72 + j - (Value.int .i64 x.o :: .int .u64 x.n :: .int .u64 x.t :: (x.f.map uV ++ [.int .i64 x.k, .int .u64 x.r.1, .int .i64 x.r.2, .int .u64 x.c.1, .int .i64 x.c.2])).length = j := by
    simp only [List.length_cons, List.length_append, List.length_map, List.length_nil, ok.2.1.1]; omega
  rw [e2]; exact hc⟩
/-! The program's -/
def popT : Ty OpD := ⟨24, true, fun x v h => ∃ d u, v = popV x d u ∧ okD x ∧ slRel Ty.u64 (trimL x.f) d h ∧ slRel nodeT x.F.ar u h, fun le ⟨d, u, e, o, h, k⟩ => ⟨d, u, e, o, h.mono le, k.mono le⟩,
  fun ⟨d, u, e, o, _⟩ => by subst e; rfl, fun ⟨d, u, e, _⟩ => by subst e; exact ⟨_, rfl⟩, fun ⟨d, u, e, _, hd, hu⟩ c hc => by
    subst e
    have hc : c ∈ popC _ d u := hc
    have h1 := sl_one hu
    have h2 := sl_one hd
    simp only [List.mem_cons, List.not_mem_nil, or_false] at hc
    rcases hc with rfl | rfl | rfl | rfl | rfl | rfl | rfl | rfl | rfl | rfl | rfl | rfl | rfl | rfl | rfl | rfl | rfl | rfl | rfl | rfl | rfl | rfl | rfl | rfl
    all_goals first | rfl | exact h1 | exact h2⟩
instance : Ty.Sz popT 24 := ⟨rfl, by decide⟩
theorem Sat.pop {B w : World} {G : List Pers} {S : List Res} {x : OpD} {v : Value} (h : Sat B G S w) (hm : Qd.rd popT x v ∈ G) : ∃ d u, v = popV x d u ∧ okD x :=
  h.pure fun m hg => by
    obtain ⟨d, u, h1, h2, _⟩ := hg _ hm
    exact ⟨d, u, h1, h2⟩
theorem popV_inj {x : OpD} {d e u v : Value} (h : popV x d u = popV x e v) : d = e ∧ u = v := by
  have h3 := List.toArray_inj (Value.agg.inj h)
  simp only [List.cons.injEq, true_and, and_true] at h3
  exact h3
theorem Sat.popK {B w : World} {G : List Pers} {S : List Res} {x : OpD} {d u : Value} (h : Sat B G S w) (hm : Qd.rd popT x (popV x d u) ∈ G) : Sat B (Qd.rd (Ty.sl Ty.u64) (trimL x.f) d :: Qd.rd (Ty.sl nodeT) x.F.ar u :: G) S w :=
  h.pers fun m hg => by
    obtain ⟨d', u', h1, _, h2, h3⟩ := hg _ hm
    obtain ⟨rfl, rfl⟩ := popV_inj h1
    intro g hgg
    rcases List.mem_cons.1 hgg with e | e
    · subst e; exact h2
    · rcases List.mem_cons.1 e with e | e
      · subst e; exact h3
      · exact hg g e
theorem pop_mk {x : OpD} {d u : Value} {m : Hp} (h : okD x) (hd : (rd (Ty.sl Ty.u64) (trimL x.f) d).holds m) (hu : (rd (Ty.sl nodeT) x.F.ar u).holds m) : (rd popT x (popV x d u)).holds m := ⟨d, u, rfl, h, hd, hu⟩
/-! Lists compared -/
abbrev eqO (a b : List OpD) : Prop := a.length = b.length ∧ ∀ (i : Nat) (x y : OpD), a[i]? = some x → b[i]? = some y → rsameP x y
noncomputable instance (a b : List OpD) : Decidable (eqO a b) := Classical.propDecidable _
def eqF (a b : List OpD) (k : Nat) : Prop := ∀ (i : Nat) (x y : OpD), k ≤ i → a[i]? = some x → b[i]? = some y → rsameP x y
theorem eqF_step {a b : List OpD} {k : Nat} {x y : OpD} (hx : a[k]? = some x) (hy : b[k]? = some y) : eqF a b k ↔ rsameP x y ∧ eqF a b (k + 1) := by
  constructor
  · intro h
    exact ⟨h k x y (Nat.le_refl _) hx hy, fun i u v hi => h i u v (by omega)⟩
  · rintro ⟨h1, h2⟩ i u v hi hu hv
    by_cases e : i = k
    · subst e; rw [hx] at hu; rw [hy] at hv; cases hu; cases hv; exact h1
    · exact h2 i u v (by omega) hu hv
theorem eqF_end {a b : List OpD} {k : Nat} (h : a.length ≤ k) : eqF a b k := fun i x y hi hx _ => by
  have := (List.getElem?_eq_some_iff.1 hx).1; omega
theorem within_both15 {f g : List Nat} (hf : f.length = 64) (hg : g.length = 64) : (withinL (trimL f) (trimL g) ∧ withinL (trimL g) (trimL f)) ↔ f = g := by
  simp only [withinL_iff, trimL_getD]
  constructor
  · rintro ⟨h1, h2⟩
    apply List.ext_getElem (by omega)
    intro i hi hj
    have a := h1 i
    have b := h2 i
    rw [getD_of (List.getElem?_eq_getElem hi), getD_of (List.getElem?_eq_getElem hj)] at a b
    omega
  · rintro rfl
    exact ⟨fun _ => Nat.le_refl _, fun _ => Nat.le_refl _⟩
theorem opsame_fun {x y : OpD} (hx : okD x) (hy : okD y) (d u e v : Value) : Fun Tryz.prog 24 [popV x d u, popV y e v] [rd (Ty.sl nodeT) x.F.ar u, rd (Ty.sl nodeT) y.F.ar v, rd (Ty.sl Ty.u64) (trimL x.f) d, rd (Ty.sl Ty.u64) (trimL y.f) e] [] (fun r G S => r = .bool (decide (rsameP x y)) ∧ G = [] ∧ S = []) := by
  have es : decide (osameP {x with f := trimL x.f} {y with f := trimL y.f}) = decide (rsameP x y) := by
    refine decide_eq_decide.2 ?_
    unfold osameP rsameP
    dsimp only
    rw [within_both15 hx.2.1.1 hy.2.1.1]
  rw [← es]
  exact osame_fun {x with f := trimL x.f} {y with f := trimL y.f} d e u v
set_option maxHeartbeats 1600000 in
set_option maxRecDepth 100000 in
theorem oequal_fun (a b : List OpD) (va vb : Value) :
    Fun Tryz.prog 23 [va, vb, .func (.func 24) #[] #[]] [rd (Ty.sl popT) a va, rd (Ty.sl popT) b vb] [] (fun r G S => r = .bool (decide (eqO a b)) ∧ G = [] ∧ S = []) := by
  refine Fun.enter Tryz.func23 (by kernel_rfl) rfl Tryz.ntmps23 rfl (fun B Gf Sf => ?_); (try simp only [List.cons_append]); (try simp only [List.nil_append]); simp only [argEnv]
  refine WC.ex (fun w sw => sw.len_le (RdSl.h (v := va))) (fun hla => ?_)
  by_cases hlen : a.length = b.length
  · (repeat (first | refine vgo ?_ | refine ⟨_, rfl, rfl, ?_⟩ | refine ⟨_, rfl, ?_⟩ | refine ⟨rfl, ?_⟩ | intro hb | refine go2 ?_ | refine WC.seq (fun K hK => ?_) | ((first | refine hK _ _ _ ?_ | refine hK _ _ _ _ rfl ?_ | refine WX.thenExit (K := K) ?_); clear hK K) | (refine WX.thenExit (K := KL) ?_; clear hL KL)))
    refine WC.loop (I := Nat) (fun k => [(0, va), (1, vb), (2, .func (.func 24) #[] #[]), (15, va), (16, .int .i64 (a.length : Nat)), (17, .int .i64 (k : Nat))]) (fun _ => rd (Ty.sl popT) a va :: rd (Ty.sl popT) b vb :: Gf) (fun _ => Sf) (fun k => k ≤ a.length ∧ (eqO a b ↔ eqF a b k)) (fun k => a.length - k) 0 ⟨Nat.zero_le _, ⟨fun h i x y _ => h.2 i x y, fun h => ⟨hlen, fun i x y => h i x y (Nat.zero_le _)⟩⟩⟩ (.cons rfl (.cons rfl (.cons rfl (.cons rfl (.cons rfl (.cons rfl .nil)))))) (fun w h => h.to) ?_
    rintro k ⟨hk, he⟩ KL hL
    by_cases g : k < a.length
    · obtain ⟨x, hx⟩ : ∃ x, a[k]? = some x := ⟨_, List.getElem?_eq_getElem g⟩
      obtain ⟨y, hy⟩ : ∃ y, b[k]? = some y := ⟨_, List.getElem?_eq_getElem (by omega)⟩
      rw [eqF_step hx hy] at he
      (repeat (first | refine vgo ?_ | refine ⟨_, rfl, rfl, ?_⟩ | refine ⟨_, rfl, ?_⟩ | refine ⟨rfl, ?_⟩ | intro hb | refine go2 ?_ | refine WC.seq (fun K hK => ?_) | ((first | refine hK _ _ _ ?_ | refine hK _ _ _ _ rfl ?_ | refine WX.thenExit (K := K) ?_); clear hK K) | (refine WX.thenExit (K := KL) ?_; clear hL KL)))
      refine WL.ex (fun w sw => sw.pop (x := x) (v := hb) Rd.h) (fun hsx => ?_)
      obtain ⟨dx, sx, rfl, okx⟩ := hsx
      refine WL.sat (fun w sw => sw.popK (x := x) (d := dx) (u := sx) Rd.h) ?_
      refine WL.ex (fun w sw => sw.slOne (v := sx) (R := nodeT) (l := x.F.ar) InG.h) (fun hq1 => ?_)
      refine WL.ex (fun w sw => sw.slOne (v := dx) (R := Ty.u64) (l := trimL x.f) InG.h) (fun hq2 => ?_)
      refine WL.alloc rfl ?_; intro bx
      (repeat (first | refine vgo ?_ | refine ⟨_, rfl, rfl, ?_⟩ | refine ⟨_, rfl, ?_⟩ | refine ⟨rfl, ?_⟩ | intro hb | refine go2 ?_ | refine WC.seq (fun K hK => ?_) | ((first | refine hK _ _ _ ?_ | refine hK _ _ _ _ rfl ?_ | refine WX.thenExit (K := K) ?_); clear hK K) | (refine WX.thenExit (K := KL) ?_; clear hL KL)))
      refine WL.ex (fun w sw => sw.pop (x := y) (v := hb) Rd.h) (fun hsy => ?_)
      obtain ⟨dy, sy, rfl, oky⟩ := hsy
      refine WL.sat (fun w sw => sw.popK (x := y) (d := dy) (u := sy) Rd.h) ?_
      refine WL.ex (fun w sw => sw.slOne (v := sy) (R := nodeT) (l := y.F.ar) InG.h) (fun hq3 => ?_)
      refine WL.ex (fun w sw => sw.slOne (v := dy) (R := Ty.u64) (l := trimL y.f) InG.h) (fun hq4 => ?_)
      refine WL.alloc rfl ?_; intro bY
      (repeat (first | refine vgo ?_ | refine ⟨_, rfl, rfl, ?_⟩ | refine ⟨_, rfl, ?_⟩ | refine ⟨rfl, ?_⟩ | intro hb | refine go2 ?_ | refine WC.seq (fun K hK => ?_) | ((first | refine hK _ _ _ ?_ | refine hK _ _ _ _ rfl ?_ | refine WX.thenExit (K := K) ?_); clear hK K) | (refine WX.thenExit (K := KL) ?_; clear hL KL)))
      refine CallV.by' (opsame_fun okx oky dx sx dy sy) ?_; rintro _ _ _ ⟨rfl, rfl, rfl⟩; (try simp only [List.cons_append]); (try simp only [List.nil_append])
      by_cases hxy : rsameP x y
      · rw [decide_eq_true hxy]
        (repeat (first | refine vgo ?_ | refine ⟨_, rfl, rfl, ?_⟩ | refine ⟨_, rfl, ?_⟩ | refine ⟨rfl, ?_⟩ | intro hb | refine go2 ?_ | refine WC.seq (fun K hK => ?_) | ((first | refine hK _ _ _ ?_ | refine hK _ _ _ _ rfl ?_ | refine WX.thenExit (K := K) ?_); clear hK K) | (refine WX.thenExit (K := KL) ?_; clear hL KL)))
        exact (hL (k + 1) ⟨g, he.trans ⟨fun h => h.2, fun h => ⟨hxy, h⟩⟩⟩ (by omega)).conv (.cons rfl (.cons rfl (.cons rfl (.cons rfl (.cons rfl (.cons rfl .nil)))))) (fun w h => h.to)
      · rw [decide_eq_false hxy]
        (repeat (first | refine vgo ?_ | refine ⟨_, rfl, rfl, ?_⟩ | refine ⟨_, rfl, ?_⟩ | refine ⟨rfl, ?_⟩ | intro hb | refine go2 ?_ | refine WC.seq (fun K hK => ?_) | ((first | refine hK _ _ _ ?_ | refine hK _ _ _ _ rfl ?_ | refine WX.thenExit (K := K) ?_); clear hK K) | (refine WX.thenExit (K := KL) ?_; clear hL KL)))
        exact WX.ret1 rfl rfl (fun w sw => ⟨[], [], ⟨by rw [decide_eq_false (fun h => hxy (he.1 h).1)], rfl, rfl⟩, sw.to⟩)
    · have hT : eqO a b := he.2 (eqF_end (by omega))
      (repeat (first | refine vgo ?_ | refine ⟨_, rfl, rfl, ?_⟩ | refine ⟨_, rfl, ?_⟩ | refine ⟨rfl, ?_⟩ | intro hb | refine go2 ?_ | refine WC.seq (fun K hK => ?_) | ((first | refine hK _ _ _ ?_ | refine hK _ _ _ _ rfl ?_ | refine WX.thenExit (K := K) ?_); clear hK K) | (refine WX.thenExit (K := KL) ?_; clear hL KL)))
      exact WX.ret1 rfl rfl (fun w sw => ⟨[], [], ⟨by rw [decide_eq_true hT], rfl, rfl⟩, sw.to⟩)
  · have hne : ¬ eqO a b := fun h => hlen h.1
    (repeat (first | refine vgo ?_ | refine ⟨_, rfl, rfl, ?_⟩ | refine ⟨_, rfl, ?_⟩ | refine ⟨rfl, ?_⟩ | intro hb | refine go2 ?_ | refine WC.seq (fun K hK => ?_) | ((first | refine hK _ _ _ ?_ | refine hK _ _ _ _ rfl ?_ | refine WX.thenExit (K := K) ?_); clear hK K) | (refine WX.thenExit (K := KL) ?_; clear hL KL)))
    exact WX.ret1 rfl rfl (fun w sw => ⟨[], [], ⟨by rw [decide_eq_false hne], rfl, rfl⟩, sw.to⟩)
end
end
/-! ### Messages: which are light; the document's as the program's. -/
section
/-! ### Messages: which are light; the document's as the program's. -/
section
open Go Go.Proofs
structure MsD where
  k : Int
  f : Int
  t : Int
  c : List Nat
  l : List OpD
abbrev rmsC (m : MsD) (u : Value) : List Value := .int .i64 m.k :: .int .i64 m.f :: .int .i64 m.t :: (m.c.map uV ++ [u])
abbrev rmsV (m : MsD) (u : Value) : Value := .agg (rmsC m u).toArray
abbrev pmsC (m : MsD) (d s : Value) : List Value := [.int .i64 m.k, .int .i64 m.f, .int .i64 m.t, d, s]
abbrev pmsV (m : MsD) (d s : Value) : Value := .agg (pmsC m d s).toArray
theorem Sat.opdOk {B w : World} {G : List Pers} {S : List Res} {l : List OpD} {v : Value} (h : Sat B G S w) (hm : Qd.rd (Ty.sl opdT) l v ∈ G) : ∀ x ∈ l, okD x := fun x hx => by
  obtain ⟨m, hall⟩ := h.all hm
  obtain ⟨u, hu⟩ := hall x hx
  obtain ⟨_, _, ok, _⟩ := hu
  exact ok
abbrev lightO (x : OpD) : Prop := x.ct.length ≤ 300 ∧ deepV x.F ≤ 60
def lightB : List OpD → Nat → Prop
  | _, 0 => True
  | [], _ + 1 => True
  | x :: l, n + 1 => lightO x ∧ lightB l n
abbrev lightL (l : List OpD) : Prop := l.length ≤ 60 ∧ lightB l 60
noncomputable instance (l : List OpD) : Decidable (lightL l) := Classical.propDecidable _
end
/-! ### Messages: the document's as the program's. -/
section
open Go Go.Proofs
theorem op15_fun {x : OpD} (hx : okD x) (va : Value) : Fun Tryz.prog 26 [va] [rd opdT x va] [] (fun r G S => ∃ d s, r = popV x d s ∧ G = [rd (Ty.sl Ty.u64) (trimL x.f) d, rd (Ty.sl nodeT) x.F.ar s] ∧ S = []) :=
  Fun.look (ι := Value) (fun i => [ropV x i]) (fun i => [rd (Ty.sl nodeT) x.F.ar i]) undef (fun m hm => by
    obtain ⟨u, rfl, _, h1⟩ := hm _ (.head _)
    exact ⟨u, rfl, fun g hg => by
      rcases List.mem_cons.1 hg with rfl | hg
      · exact h1
      · cases hg⟩) (fun i => opTo15_fun x i hx.2.1 hx.2.2.2)
abbrev msZ : List Value := [.int .i64 0, .int .i64 0, .int .i64 0, .slice none 0 0, .slice none 0 0]
abbrev pmB (b : Nat) (m : MsD) (d s : Value) : Res := box b 28 (pmsC m d s)
abbrev rmB (b : Nat) (m : MsD) (u : Value) : Res := box b 37 (rmsC m u)
abbrev opO (v : Value) (i : Nat) (cs : List Value) : Res := own 62 24 v i cs
set_option maxHeartbeats 3200000 in
set_option maxRecDepth 100000 in
set_option synthInstance.maxSize 4000 in
set_option synthInstance.maxHeartbeats 400000 in
theorem msTo_fun (m : MsD) (u : Value) (hm : okF m.c) (hl60 : m.l.length ≤ 60) : Fun Tryz.prog 8 [rmsV m u] [rd (Ty.sl opdT) m.l u] [] (fun r G S => ∃ d s, r = pmsV m d s ∧ G = [rd (Ty.sl Ty.u64) (trimL m.c) d, rd (Ty.sl popT) m.l s] ∧ S = []) := by
  have hfl := hm.1
  have i1 : Len64 m.c := ⟨hfl⟩
  refine Fun.enter Tryz.func8 (by kernel_rfl) rfl Tryz.ntmps8 rfl (fun B Gf Sf => ?_); (try simp only [List.cons_append]); (try simp only [List.nil_append]); simp only [argEnv]
  refine WC.ex (fun w sw => sw.slOne (v := u) RdSl.h) (fun hu1 => ?_)
  refine WC.ex (fun w sw => sw.opdOk (l := m.l) (v := u) RdSl.h) (fun okl => ?_)
  (repeat (first | refine vgo ?_ | refine ⟨_, rfl, rfl, ?_⟩ | refine ⟨_, rfl, ?_⟩ | refine ⟨rfl, ?_⟩ | intro hb | refine go2 ?_ | refine WC.seq (fun K hK => ?_) | ((first | refine hK _ _ _ ?_ | refine hK _ _ _ _ rfl ?_ | refine WX.thenExit (K := K) ?_); clear hK K) | (refine WX.thenExit (K := KL) ?_; clear hL KL)))
  (first | refine WL.boxA rfl rfl ?_ | refine WL.box rfl rfl rfl ?_); intro b1
  (repeat (first | refine vgo ?_ | refine ⟨_, rfl, rfl, ?_⟩ | refine ⟨_, rfl, ?_⟩ | refine ⟨rfl, ?_⟩ | intro hb | refine go2 ?_ | refine WC.seq (fun K hK => ?_) | ((first | refine hK _ _ _ ?_ | refine hK _ _ _ _ rfl ?_ | refine WX.thenExit (K := K) ?_); clear hK K) | (refine WX.thenExit (K := KL) ?_; clear hL KL)))
  refine WL.alloc rfl ?_; intro b2
  (repeat (first | refine vgo ?_ | refine ⟨_, rfl, rfl, ?_⟩ | refine ⟨_, rfl, ?_⟩ | refine ⟨rfl, ?_⟩ | intro hb | refine go2 ?_ | refine WC.seq (fun K hK => ?_) | ((first | refine hK _ _ _ ?_ | refine hK _ _ _ _ rfl ?_ | refine WX.thenExit (K := K) ?_); clear hK K) | (refine WX.thenExit (K := KL) ?_; clear hL KL)))
  (apply WC.drawE; exact rfl; focus (repeat (first | exact Wo.nil | (apply Wo.keep; exact rfl) | (apply Wo.drop; exact rfl))))
  (repeat refine ObP3.c0B ?_); try (refine ObP3.nil ?_; (repeat (intro _)); (conv => whnf); (try dsimp only [envO, List.cons_append, List.nil_append]))
  refine ObP3.cons1 [] [] (.ex Value (fun d => pmsV m d (.slice none 0 0)) (fun d => [rd (Ty.sl Ty.u64) (trimL m.c) d]) (fun _ => [])) ?_ rfl ?_
  · (repeat (intro _)); (conv => whnf); (try dsimp only [envO, List.cons_append, List.nil_append])
    (repeat (first | refine vgo ?_ | refine ⟨_, rfl, rfl, ?_⟩ | refine ⟨_, rfl, ?_⟩ | refine ⟨rfl, ?_⟩ | intro hb | refine go2 ?_ | refine WC.seq (fun K hK => ?_) | ((first | refine hK _ _ _ ?_ | refine hK _ _ _ _ rfl ?_ | refine WX.thenExit (K := K) ?_); clear hK K) | (refine WX.thenExit (K := KL) ?_; clear hL KL)))
    exact WX.pgEx (fv := fun d => pmsV m d (.slice none 0 0)) _ rfl (fun w sw => sw.to)
  refine ObP3.cons1 [] [] (.ex Nat (fun b => .pointer (some ⟨b, 0, none⟩)) (fun _ => []) (fun b => [box b 28 msZ])) ?_ rfl ?_
  · (repeat (intro _)); (conv => whnf); (try dsimp only [envO, List.cons_append, List.nil_append])
    refine WL.alloc rfl ?_; intro b3
    (repeat (first | refine vgo ?_ | refine ⟨_, rfl, rfl, ?_⟩ | refine ⟨_, rfl, ?_⟩ | refine ⟨rfl, ?_⟩ | intro hb | refine go2 ?_ | refine WC.seq (fun K hK => ?_) | ((first | refine hK _ _ _ ?_ | refine hK _ _ _ _ rfl ?_ | refine WX.thenExit (K := K) ?_); clear hK K) | (refine WX.thenExit (K := KL) ?_; clear hL KL)))
    exact WX.pgEx (fv := fun b => .pointer (some ⟨b, 0, none⟩)) b3 rfl (fun w sw => sw.to)
  refine ObP3.cons2 [] [10] [10] 3 (.ex (Nat × Value) (fun p => .pointer (some ⟨p.1, 0, none⟩)) (fun p => [rd (Ty.sl Ty.u64) (trimL m.c) p.2]) (fun p => [pmB p.1 m p.2 (.slice none 0 0)])) ?_ rfl ?_
  · (repeat (intro _)); (conv => whnf); (try dsimp only [envO, List.cons_append, List.nil_append])
    (repeat (first | refine vgo ?_ | refine ⟨_, rfl, rfl, ?_⟩ | refine ⟨_, rfl, ?_⟩ | refine ⟨rfl, ?_⟩ | intro hb | refine go2 ?_ | refine WC.seq (fun K hK => ?_) | ((first | refine hK _ _ _ ?_ | refine hK _ _ _ _ rfl ?_ | refine WX.thenExit (K := K) ?_); clear hK K) | (refine WX.thenExit (K := KL) ?_; clear hL KL)))
    rename_i bx dx _
    exact WX.pgEx (fv := fun p : Nat × Value => .pointer (some ⟨p.1, 0, none⟩)) (bx, dx) rfl (fun w sw => sw.to)
  (repeat refine ObP3.c0B ?_); try (refine ObP3.nil ?_; (repeat (intro _)); (conv => whnf); (try dsimp only [envO, List.cons_append, List.nil_append]))
  (repeat (first | refine vgo ?_ | refine ⟨_, rfl, rfl, ?_⟩ | refine ⟨_, rfl, ?_⟩ | refine ⟨rfl, ?_⟩ | intro hb | refine go2 ?_ | refine WC.seq (fun K hK => ?_) | ((first | refine hK _ _ _ ?_ | refine hK _ _ _ _ rfl ?_ | refine WX.thenExit (K := K) ?_); clear hK K) | (refine WX.thenExit (K := KL) ?_; clear hL KL)))
  rename_i q _ _
  obtain ⟨b3, d⟩ := q
  dsimp only
  refine WC.ex (fun w sw => sw.slOne (v := d) (R := Ty.u64) (l := trimL m.c) InG.h) (fun hd1 => ?_)
  refine WC.loop (I := Nat × Value × List Value) (fun i => [(1, .pointer (some ⟨b1, 0, none⟩)), (2, .pointer (some ⟨b2, 0, none⟩)), (3, .pointer (some ⟨b3, 0, none⟩)), (4, .int .i64 (i.1 : Nat))]) (fun i => rdAll popT (m.l.take i.1) i.2.2 :: rd (Ty.sl Ty.u64) (trimL m.c) d :: rd (Ty.sl opdT) m.l u :: Gf)
    (fun i => opO i.2.1 i.1 (flat i.2.2) :: pmB b3 m d i.2.1 :: box b2 28 msZ :: rmB b1 m u :: Sf) (fun i => i.1 ≤ m.l.length) (fun i => m.l.length - i.1) (0, .slice none 0 0, []) (Nat.zero_le _) (.cons rfl (.cons rfl (.cons rfl (.cons rfl .nil)))) (fun w h => by
    have h2 := Sat.rdAllNil popT (h.ownNil 62 24)
    dsimp only [List.take_zero, flat_nil]
    exact h2.to) ?_
  rintro ⟨i, sv, vs⟩ hi KL hL
  dsimp only at hi
  by_cases g : i < m.l.length
  · obtain ⟨x, hx⟩ : ∃ x, m.l[i]? = some x := ⟨_, List.getElem?_eq_getElem g⟩
    have okx := okl x (List.mem_of_getElem? hx)
    have hpx := op15_fun okx
    (repeat (first | refine vgo ?_ | refine ⟨_, rfl, rfl, ?_⟩ | refine ⟨_, rfl, ?_⟩ | refine ⟨rfl, ?_⟩ | intro hb | refine go2 ?_ | refine WC.seq (fun K hK => ?_) | ((first | refine hK _ _ _ ?_ | refine hK _ _ _ _ rfl ?_ | refine WX.thenExit (K := K) ?_); clear hK K) | (refine WX.thenExit (K := KL) ?_; clear hL KL)))
    refine WC.drawV (S := (box b2 28 msZ :: rmB b1 m u :: Sf)) ([[pmB b3 m d sv], [opO sv i (flat vs)]]) rfl (by repeat (first | exact Wo.nil | (apply Wo.keep; exact rfl) | (apply Wo.drop; exact rfl))) (fun w sw => by (try simp only [List.flatten_cons, List.flatten_nil, List.append_nil, List.cons_append, List.nil_append]); exact sw.to) ?_; (try dsimp only [chunks])
    (repeat (first | refine ObP3.c0A ?_ | (apply ObP3.cons1 [1000] []; (focus ((repeat (intro _)); (conv => whnf); (try dsimp only [envO, List.cons_append, List.nil_append]); (repeat (first | refine vgo ?_ | refine ⟨_, rfl, rfl, ?_⟩ | refine ⟨_, rfl, ?_⟩ | refine ⟨rfl, ?_⟩ | intro hb | refine go2 ?_ | refine WC.seq (fun K hK => ?_) | ((first | refine hK _ _ _ ?_ | refine hK _ _ _ _ rfl ?_ | refine WX.thenExit (K := K) ?_); clear hK K) | (refine WX.thenExit (K := KL) ?_; clear hL KL))); first | exact WX.pgIs rfl | exact WX.pgRd rfl | exact WX.pgCell rfl | exact WX.pgNone | exact WX.pgOwn rfl)); exact rfl))); try (refine ObP3.nil ?_; (repeat (intro _)); (conv => whnf); (try dsimp only [envO, List.cons_append, List.nil_append]))
    refine ObP3.cons1 [] [] (.ex (Value × Value) (fun p => popV x p.1 p.2) (fun p => [rd (Ty.sl Ty.u64) (trimL x.f) p.1, rd (Ty.sl nodeT) x.F.ar p.2]) (fun _ => [])) ?_ rfl ?_
    · (repeat (intro _)); (conv => whnf); (try dsimp only [envO, List.cons_append, List.nil_append])
      (repeat (first | refine vgo ?_ | refine ⟨_, rfl, rfl, ?_⟩ | refine ⟨_, rfl, ?_⟩ | refine ⟨rfl, ?_⟩ | intro hb | refine go2 ?_ | refine WC.seq (fun K hK => ?_) | ((first | refine hK _ _ _ ?_ | refine hK _ _ _ _ rfl ?_ | refine WX.thenExit (K := K) ?_); clear hK K) | (refine WX.thenExit (K := KL) ?_; clear hL KL)))
      refine CallV.by' (hpx _) ?_; rintro _ _ _ ⟨d', s', rfl, rfl, rfl⟩; (try simp only [List.cons_append]); (try simp only [List.nil_append])
      (repeat (first | refine vgo ?_ | refine ⟨_, rfl, rfl, ?_⟩ | refine ⟨_, rfl, ?_⟩ | refine ⟨rfl, ?_⟩ | intro hb | refine go2 ?_ | refine WC.seq (fun K hK => ?_) | ((first | refine hK _ _ _ ?_ | refine hK _ _ _ _ rfl ?_ | refine WX.thenExit (K := K) ?_); clear hK K) | (refine WX.thenExit (K := KL) ?_; clear hL KL)))
      exact WX.pgEx (fv := fun p : Value × Value => popV x p.1 p.2) (d', s') rfl (fun w sw => sw.to)
    refine ObP3.cons1 [] [] (.ex (Value × Value × Value) (fun p => p.1) (fun p => [rd (Ty.sl Ty.u64) (trimL x.f) p.2.1, rd (Ty.sl nodeT) x.F.ar p.2.2]) (fun p => [opO p.1 1 (popC x p.2.1 p.2.2)])) ?_ rfl ?_
    · (repeat (intro _)); (conv => whnf); (try dsimp only [envO, List.cons_append, List.nil_append])
      (repeat (first | refine vgo ?_ | refine ⟨_, rfl, rfl, ?_⟩ | refine ⟨_, rfl, ?_⟩ | refine ⟨rfl, ?_⟩ | intro hb | refine go2 ?_ | refine WC.seq (fun K hK => ?_) | ((first | refine hK _ _ _ ?_ | refine hK _ _ _ _ rfl ?_ | refine WX.thenExit (K := K) ?_); clear hK K) | (refine WX.thenExit (K := KL) ?_; clear hL KL)))
      rename_i p7 _ _
      simp only [List.append_nil]
      exact WX.pgEx (fv := fun p : Value × Value × Value => p.1) (hb, p7.1, p7.2) rfl (fun w sw => sw.to)
    refine ObP3.cons1 [] [8, 1001] (.ex (Value × Value × Value) (fun p => p.1) (fun p => [rd (Ty.sl Ty.u64) (trimL x.f) p.2.1, rd (Ty.sl nodeT) x.F.ar p.2.2]) (fun p => [opO p.1 (i + 1) (flat vs ++ popC x p.2.1 p.2.2)])) ?_ rfl ?_
    · (repeat (intro _)); (conv => whnf); (try dsimp only [envO, List.cons_append, List.nil_append])
      (repeat (first | refine vgo ?_ | refine ⟨_, rfl, rfl, ?_⟩ | refine ⟨_, rfl, ?_⟩ | refine ⟨rfl, ?_⟩ | intro hb | refine go2 ?_ | refine WC.seq (fun K hK => ?_) | ((first | refine hK _ _ _ ?_ | refine hK _ _ _ _ rfl ?_ | refine WX.thenExit (K := K) ?_); clear hK K) | (refine WX.thenExit (K := KL) ?_; clear hL KL)))
      rename_i p8 _ _ _ _ _
      exact WX.pgEx (fv := fun p : Value × Value × Value => p.1) (hb, p8.2) rfl (fun w sw => sw.to)
    (repeat refine ObP3.c0B ?_); try (refine ObP3.nil ?_; (repeat (intro _)); (conv => whnf); (try dsimp only [envO, List.cons_append, List.nil_append]))
    refine ObP3.cons1 [] [9, 1000] (.ex (Value × Value × Value) (fun _ => undef) (fun p => [rd (Ty.sl Ty.u64) (trimL x.f) p.2.1, rd (Ty.sl nodeT) x.F.ar p.2.2]) (fun p => [opO p.1 (i + 1) (flat vs ++ popC x p.2.1 p.2.2), pmB b3 m d p.1])) ?_ rfl ?_
    · (repeat (intro _)); (conv => whnf); (try dsimp only [envO, List.cons_append, List.nil_append])
      (repeat (first | refine vgo ?_ | refine ⟨_, rfl, rfl, ?_⟩ | refine ⟨_, rfl, ?_⟩ | refine ⟨rfl, ?_⟩ | intro hb | refine go2 ?_ | refine WC.seq (fun K hK => ?_) | ((first | refine hK _ _ _ ?_ | refine hK _ _ _ _ rfl ?_ | refine WX.thenExit (K := K) ?_); clear hK K) | (refine WX.thenExit (K := KL) ?_; clear hL KL)))
      rename_i p9 _ _ _ _ _ _
      exact WX.pgEx0 p9 (fun w sw => sw.to)
    (repeat refine ObP3.c0B ?_); try (refine ObP3.nil ?_; (repeat (intro _)); (conv => whnf); (try dsimp only [envO, List.cons_append, List.nil_append]))
    (repeat (first | refine vgo ?_ | refine ⟨_, rfl, rfl, ?_⟩ | refine ⟨_, rfl, ?_⟩ | refine ⟨rfl, ?_⟩ | intro hb | refine go2 ?_ | refine WC.seq (fun K hK => ?_) | ((first | refine hK _ _ _ ?_ | refine hK _ _ _ _ rfl ?_ | refine WX.thenExit (K := K) ?_); clear hK K) | (refine WX.thenExit (K := KL) ?_; clear hL KL)))
    rename_i q _ _ _ _ _ _ _
    have htk : m.l.take (i + 1) = m.l.take i ++ [x] := by rw [List.take_add_one, hx]; rfl
    refine (hL (i + 1, q.1, vs ++ [popV x q.2.1 q.2.2]) g (by dsimp only; omega)).conv (.cons rfl (.cons rfl (.cons rfl (.cons rfl .nil)))) (fun w h => ?_)
    dsimp only
    rw [flat_snoc, htk, show (popV x q.2.1 q.2.2).cells.toList = popC x q.2.1 q.2.2 from rfl]
    have h2 := h.more (p := rdAll popT (m.l.take i ++ [x]) (vs ++ [popV x q.2.1 q.2.2])) (fun mm hmm => AllR.snoc (hmm (rdAll popT (m.l.take i) vs) InG.h) (pop_mk okx (hmm (rd (Ty.sl Ty.u64) (trimL x.f) q.2.1) InG.h) (hmm (rd (Ty.sl nodeT) x.F.ar q.2.2) InG.h)))
    exact h2.to
  · have e : m.l.take i = m.l := List.take_of_length_le (by omega)
    rw [e]
    obtain rfl : i = m.l.length := by omega
    (repeat (first | refine vgo ?_ | refine ⟨_, rfl, rfl, ?_⟩ | refine ⟨_, rfl, ?_⟩ | refine ⟨rfl, ?_⟩ | intro hb | refine go2 ?_ | refine WC.seq (fun K hK => ?_) | ((first | refine hK _ _ _ ?_ | refine hK _ _ _ _ rfl ?_ | refine WX.thenExit (K := K) ?_); clear hK K) | (refine WX.thenExit (K := KL) ?_; clear hL KL)))
    refine WX.retC rfl rfl rfl (fun w sw => ⟨_, _, ⟨d, sv, rfl, rfl, rfl⟩, ?_⟩)
    have h2 := sw.pubR (R := popT) (l := m.l) (v := sv) (vs := vs) SelOwn.h rfl rfl rfl (fun mm hmm => hmm (rdAll popT m.l vs) InG.h)
    exact h2.to
end
/-! ### Messages compared. -/
section
open Go Go.Proofs
section
variable {P : Program} {n : Nat} {Q : Exit → Act → World → Prop} {B : Base} {env : Env} {G : List Pers} {S : List Res} {L rest : List Oper} {d : Nat} {T E : TypeId}
instance neqA {m : Nat} {l l' : List Nat} [hT : TU P T (.array m E)] [hs : TS P E 1] [hA : TA P E false] [hE : TU P E (.int .u64)] [hq : EQT P T] : V (BinV P n L Q rest B env G S d .neq T (.agg (l.map uV).toArray) (.agg (l'.map uV).toArray)) (Side (l.length = m ∧ l'.length = m) (WL P n L Q rest B ((d, .bool (decide (¬ l = l'))) :: env) G S)) := ⟨fun h => by
  have : EqV P T (.agg (l.map uV).toArray) (.agg (l'.map uV).toArray) 10 (l = l') := EqV.arr h.c.1 h.c.2 (fun a b => ⟨fun d hd w => by
    obtain ⟨b', h1, h2⟩ := (inferInstance : EqV P E (.int .u64 (a : Int)) (.int .u64 (b : Int)) 1 ((a : Int) = b)).h d (by omega) w
    exact ⟨b', h1, h2.trans (by omega)⟩⟩)
  exact .nea h.p⟩
end
def msP (m n : MsD) : Prop := m.k = n.k ∧ m.f = n.f ∧ m.t = n.t ∧ m.c = n.c ∧ eqO m.l n.l
noncomputable instance (m n : MsD) : Decidable (msP m n) := Classical.propDecidable _
instance oequal_pure {G : List Pers} {a b : List OpD} {va vb : Value} [i : RdSl va G popT a] [j : RdSl vb G popT b] : PureF Tryz.prog 23 [va, vb, .func (.func 24) #[] #[]] G True (.bool (decide (eqO a b))) := ⟨fun _ => ⟨_, by simpa using ⟨i.h, j.h⟩, oequal_fun a b va vb⟩⟩
set_option maxHeartbeats 1600000 in
set_option maxRecDepth 100000 in
theorem msame_fun (m n : MsD) (hm : m.c.length = 64) (hn : n.c.length = 64) (d s e t : Value) : Fun Tryz.prog 7 [pmsV m d s, pmsV n e t] [rd (Ty.sl Ty.u64) (trimL m.c) d, rd (Ty.sl popT) m.l s, rd (Ty.sl Ty.u64) (trimL n.c) e, rd (Ty.sl popT) n.l t] [] (fun r G S => r = .bool (decide (msP m n)) ∧ G = [] ∧ S = []) := by
  have hw := within_both15 hm hn
  refine Fun.enter Tryz.func7 (by kernel_rfl) rfl Tryz.ntmps7 rfl (fun B Gf Sf => ?_); (try simp only [List.cons_append]); (try simp only [List.nil_append]); simp only [argEnv]
  refine WC.ex (fun w sw => sw.slOne (v := d) RdSl.h) (fun hu1 => ?_)
  refine WC.ex (fun w sw => sw.slOne (v := e) RdSl.h) (fun hv1 => ?_)
  refine WC.ex (fun w sw => sw.slOne (v := s) RdSl.h) (fun hu2 => ?_)
  refine WC.ex (fun w sw => sw.slOne (v := t) RdSl.h) (fun hv2 => ?_)
  (repeat (first | refine vgo ?_ | refine ⟨_, rfl, rfl, ?_⟩ | refine ⟨_, rfl, ?_⟩ | refine ⟨rfl, ?_⟩ | intro hb | refine go2 ?_ | refine WC.seq (fun K hK => ?_) | ((first | refine hK _ _ _ ?_ | refine hK _ _ _ _ rfl ?_ | refine WX.thenExit (K := K) ?_); clear hK K) | (refine WX.thenExit (K := KL) ?_; clear hL KL)))
  (first | refine WL.boxA rfl rfl ?_ | refine WL.box rfl rfl rfl ?_); intro b1
  (repeat (first | refine vgo ?_ | refine ⟨_, rfl, rfl, ?_⟩ | refine ⟨_, rfl, ?_⟩ | refine ⟨rfl, ?_⟩ | intro hb | refine go2 ?_ | refine WC.seq (fun K hK => ?_) | ((first | refine hK _ _ _ ?_ | refine hK _ _ _ _ rfl ?_ | refine WX.thenExit (K := K) ?_); clear hK K) | (refine WX.thenExit (K := KL) ?_; clear hL KL)))
  (first | refine WL.boxA rfl rfl ?_ | refine WL.box rfl rfl rfl ?_); intro b2
  by_cases h1 : ¬ m.k = n.k
  · have ee : decide (msP m n) = false := decide_eq_false fun h => h1 h.1
    (repeat (first | refine vgo ?_ | refine ⟨_, rfl, rfl, ?_⟩ | refine ⟨_, rfl, ?_⟩ | refine ⟨rfl, ?_⟩ | intro hb | refine go2 ?_ | refine WC.seq (fun K hK => ?_) | ((first | refine hK _ _ _ ?_ | refine hK _ _ _ _ rfl ?_ | refine WX.thenExit (K := K) ?_); clear hK K) | (refine WX.thenExit (K := KL) ?_; clear hL KL)))
    exact WX.ret1 rfl rfl (fun w sw => ⟨[], [], ⟨by rw [ee], rfl, rfl⟩, sw.to⟩)
  have h1 := Classical.not_not.1 h1
  by_cases h2 : ¬ m.f = n.f
  · have ee : decide (msP m n) = false := decide_eq_false fun h => h2 h.2.1
    (repeat (first | refine vgo ?_ | refine ⟨_, rfl, rfl, ?_⟩ | refine ⟨_, rfl, ?_⟩ | refine ⟨rfl, ?_⟩ | intro hb | refine go2 ?_ | refine WC.seq (fun K hK => ?_) | ((first | refine hK _ _ _ ?_ | refine hK _ _ _ _ rfl ?_ | refine WX.thenExit (K := K) ?_); clear hK K) | (refine WX.thenExit (K := KL) ?_; clear hL KL)))
    exact WX.ret1 rfl rfl (fun w sw => ⟨[], [], ⟨by rw [ee], rfl, rfl⟩, sw.to⟩)
  have h2 := Classical.not_not.1 h2
  by_cases h3 : ¬ m.t = n.t
  · have ee : decide (msP m n) = false := decide_eq_false fun h => h3 h.2.2.1
    (repeat (first | refine vgo ?_ | refine ⟨_, rfl, rfl, ?_⟩ | refine ⟨_, rfl, ?_⟩ | refine ⟨rfl, ?_⟩ | intro hb | refine go2 ?_ | refine WC.seq (fun K hK => ?_) | ((first | refine hK _ _ _ ?_ | refine hK _ _ _ _ rfl ?_ | refine WX.thenExit (K := K) ?_); clear hK K) | (refine WX.thenExit (K := KL) ?_; clear hL KL)))
    exact WX.ret1 rfl rfl (fun w sw => ⟨[], [], ⟨by rw [ee], rfl, rfl⟩, sw.to⟩)
  have h3 := Classical.not_not.1 h3
  by_cases h4 : ¬ (withinL (trimL m.c) (trimL n.c) ∧ withinL (trimL n.c) (trimL m.c))
  · have ee : decide (msP m n) = false := decide_eq_false fun h => h4 (hw.2 h.2.2.2.1)
    (repeat (first | refine vgo ?_ | refine ⟨_, rfl, rfl, ?_⟩ | refine ⟨_, rfl, ?_⟩ | refine ⟨rfl, ?_⟩ | intro hb | refine go2 ?_ | refine WC.seq (fun K hK => ?_) | ((first | refine hK _ _ _ ?_ | refine hK _ _ _ _ rfl ?_ | refine WX.thenExit (K := K) ?_); clear hK K) | (refine WX.thenExit (K := KL) ?_; clear hL KL)))
    exact WX.ret1 rfl rfl (fun w sw => ⟨[], [], ⟨by rw [ee], rfl, rfl⟩, sw.to⟩)
  have h4 := Classical.not_not.1 h4
  have ee : decide (eqO m.l n.l) = decide (msP m n) := decide_eq_decide.2 ⟨fun h => ⟨h1, h2, h3, hw.1 h4, h⟩, fun h => h.2.2.2.2⟩
  (repeat (first | refine vgo ?_ | refine ⟨_, rfl, rfl, ?_⟩ | refine ⟨_, rfl, ?_⟩ | refine ⟨rfl, ?_⟩ | intro hb | refine go2 ?_ | refine WC.seq (fun K hK => ?_) | ((first | refine hK _ _ _ ?_ | refine hK _ _ _ _ rfl ?_ | refine WX.thenExit (K := K) ?_); clear hK K) | (refine WX.thenExit (K := KL) ?_; clear hL KL)))
  exact WX.ret1 rfl rfl (fun w sw => ⟨[], [], ⟨by rw [ee], rfl, rfl⟩, sw.to⟩)
end
end
end
/-! ### Messages: the chapter's example. -/
section
/-! ### Messages: the chapter's example. -/
section
open Go Go.Proofs
theorem member_fun (n : Int) (h : 1 ≤ n ∧ n ≤ 64) : Fun Tryz.prog 38 [.int .i64 n] [] [] (fun r G S => r = .bool true ∧ G = [] ∧ S = []) := by
  have h1 := h.1
  have h2 := h.2
  refine Fun.enter Tryz.func38 (by kernel_rfl) rfl Tryz.ntmps38 rfl (fun B Gf Sf => ?_); (try simp only [List.cons_append]); (try simp only [List.nil_append]); simp only [argEnv]
  (repeat (first | refine vgo ?_ | refine ⟨_, rfl, rfl, ?_⟩ | refine ⟨_, rfl, ?_⟩ | refine ⟨rfl, ?_⟩ | intro hb | refine go2 ?_ | refine WC.seq (fun K hK => ?_) | ((first | refine hK _ _ _ ?_ | refine hK _ _ _ _ rfl ?_ | refine WX.thenExit (K := K) ?_); clear hK K) | (refine WX.thenExit (K := KL) ?_; clear hL KL)))
  exact WX.ret1 rfl rfl (fun w sw => ⟨[], [], ⟨by rw [decide_eq_true h2], rfl, rfl⟩, sw.to⟩)
instance member_pure {G : List Pers} {n : Int} : PureF Tryz.prog 38 [.int .i64 n] G (1 ≤ n ∧ n ≤ 64) (.bool true) := ⟨fun h => PureF.of0 (member_fun n h)⟩
abbrev msE : List Value := [.int .i64 2, .int .i64 1, .int .i64 2, .slice none 0 0, .slice none 0 0]
theorem mright_fun : Fun Tryz.prog 16 [.agg msE.toArray] [] [] (fun r G S => r = .bool true ∧ G = [] ∧ S = []) := by
  have h1 : (1 : Int) ≤ 1 ∧ (1 : Int) ≤ 64 := by decide
  have h2 : (1 : Int) ≤ 2 ∧ (2 : Int) ≤ 64 := by decide
  refine Fun.enter Tryz.func16 (by kernel_rfl) rfl Tryz.ntmps16 rfl (fun B Gf Sf => ?_); (try simp only [List.cons_append]); (try simp only [List.nil_append]); simp only [argEnv]
  refine WC.sat (fun w sw => sw.rdNil (Ty.u64)) ?_
  refine WC.sat (fun w sw => sw.rdNil (popT)) ?_
  (repeat (first | refine vgo ?_ | refine ⟨_, rfl, rfl, ?_⟩ | refine ⟨_, rfl, ?_⟩ | refine ⟨rfl, ?_⟩ | intro hb | refine go2 ?_ | refine WC.seq (fun K hK => ?_) | ((first | refine hK _ _ _ ?_ | refine hK _ _ _ _ rfl ?_ | refine WX.thenExit (K := K) ?_); clear hK K) | (refine WX.thenExit (K := KL) ?_; clear hL KL)))
  (first | refine WL.boxA rfl rfl ?_ | refine WL.box rfl rfl rfl ?_); intro b1
  (repeat (first | refine vgo ?_ | refine ⟨_, rfl, rfl, ?_⟩ | refine ⟨_, rfl, ?_⟩ | refine ⟨rfl, ?_⟩ | intro hb | refine go2 ?_ | refine WC.seq (fun K hK => ?_) | ((first | refine hK _ _ _ ?_ | refine hK _ _ _ _ rfl ?_ | refine WX.thenExit (K := K) ?_); clear hK K) | (refine WX.thenExit (K := KL) ?_; clear hL KL)))
  exact WX.ret1 rfl rfl (fun w sw => ⟨[], [], ⟨rfl, rfl, rfl⟩, sw.to⟩)
instance mright_pure {G : List Pers} : PureF Tryz.prog 16 [.agg msE.toArray] G True (.bool true) := ⟨fun _ => PureF.of0 mright_fun⟩
set_option maxHeartbeats 1600000 in
theorem encode_fun : Fun Tryz.prog 9 [.agg msE.toArray] [] [] (fun r G S => ∃ l : List UInt8, l.length = 9 ∧ G = [rd (Ty.sl Ty.u8) l r] ∧ S = []) := by
  have e1 : numB 1 = [1] := numB_small (by decide)
  have e2 : numB 2 = [2] := numB_small (by decide)
  have e0 : numB 0 = [0] := numB_small (by decide)
  refine Fun.enter Tryz.func9 (by kernel_rfl) rfl Tryz.ntmps9 rfl (fun B Gf Sf => ?_); (try simp only [List.cons_append]); (try simp only [List.nil_append]); simp only [argEnv]
  refine WC.sat (fun w sw => sw.rdNil (Ty.u64)) ?_
  refine WC.sat (fun w sw => sw.rdNil (popT)) ?_
  (repeat (first | refine vgo ?_ | refine ⟨_, rfl, rfl, ?_⟩ | refine ⟨_, rfl, ?_⟩ | refine ⟨rfl, ?_⟩ | intro hb | refine go2 ?_ | refine WC.seq (fun K hK => ?_) | ((first | refine hK _ _ _ ?_ | refine hK _ _ _ _ rfl ?_ | refine WX.thenExit (K := K) ?_); clear hK K) | (refine WX.thenExit (K := KL) ?_; clear hL KL)))
  (first | refine WL.boxA rfl rfl ?_ | refine WL.box rfl rfl rfl ?_); intro b1
  (repeat (first | refine vgo ?_ | refine ⟨_, rfl, rfl, ?_⟩ | refine ⟨_, rfl, ?_⟩ | refine ⟨rfl, ?_⟩ | intro hb | refine go2 ?_ | refine WC.seq (fun K hK => ?_) | ((first | refine hK _ _ _ ?_ | refine hK _ _ _ _ rfl ?_ | refine WX.thenExit (K := K) ?_); clear hK K) | (refine WX.thenExit (K := KL) ?_; clear hL KL)))
  refine WL.sat (fun w sw => sw.ownNil 5 1) ?_
  refine WL.alloc rfl ?_; intro bw
  refine WL.sat (S' := (wrB bw (.slice none 0 0) :: wrO (.slice none 0 0) [] :: box b1 28 msE :: Sf)) (fun _ h => h) ?_
  (repeat (first | refine vgo ?_ | refine ⟨_, rfl, rfl, ?_⟩ | refine ⟨_, rfl, ?_⟩ | refine ⟨rfl, ?_⟩ | intro hb | refine go2 ?_ | refine WC.seq (fun K hK => ?_) | ((first | refine hK _ _ _ ?_ | refine hK _ _ _ _ rfl ?_ | refine WX.thenExit (K := K) ?_); clear hK K) | (refine WX.thenExit (K := KL) ?_; clear hL KL)))
  refine WC.drawV (S := (box b1 28 msE :: Sf)) ([[wrB bw (.slice none 0 0), wrO (.slice none 0 0) []]]) rfl (by repeat (first | exact Wo.nil | (apply Wo.keep; exact rfl) | (apply Wo.drop; exact rfl))) (fun w sw => by (try simp only [List.flatten_cons, List.flatten_nil, List.append_nil, List.cons_append, List.nil_append]); exact sw.to) ?_; (try dsimp only [chunks])
  (repeat refine ObP3.c0B ?_); try (refine ObP3.nil ?_; (repeat (intro _)); (conv => whnf); (try dsimp only [envO, List.cons_append, List.nil_append]))
  refine ObP3.cons1 [] [1000] (.ex Value (fun _ => .pointer (some ⟨bw, 0, none⟩)) (fun _ => []) (fun v' => [wrB bw v', wrO v' (numB 2)])) ?_ rfl ?_
  · (repeat (intro _)); (conv => whnf); (try dsimp only [envO, List.cons_append, List.nil_append])
    (repeat (first | refine vgo ?_ | refine ⟨_, rfl, rfl, ?_⟩ | refine ⟨_, rfl, ?_⟩ | refine ⟨rfl, ?_⟩ | intro hb | refine go2 ?_ | refine WC.seq (fun K hK => ?_) | ((first | refine hK _ _ _ ?_ | refine hK _ _ _ _ rfl ?_ | refine WX.thenExit (K := K) ?_); clear hK K) | (refine WX.thenExit (K := KL) ?_; clear hL KL)))
    refine CallV.by' (wnum_fun bw (.slice none 0 0) [] 2 (by decide) (by decide)) ?_; rintro _ _ _ ⟨rfl, rfl, v', rfl⟩; (try simp only [List.cons_append]); (try simp only [List.nil_append])
    (repeat (first | refine vgo ?_ | refine ⟨_, rfl, rfl, ?_⟩ | refine ⟨_, rfl, ?_⟩ | refine ⟨rfl, ?_⟩ | intro hb | refine go2 ?_ | refine WC.seq (fun K hK => ?_) | ((first | refine hK _ _ _ ?_ | refine hK _ _ _ _ rfl ?_ | refine WX.thenExit (K := K) ?_); clear hK K) | (refine WX.thenExit (K := KL) ?_; clear hL KL)))
    exact WX.pgEx (fv := fun _ => .pointer (some ⟨bw, 0, none⟩)) v' rfl (fun w sw => sw.to)
  (repeat refine ObP3.c0B ?_); try (refine ObP3.nil ?_; (repeat (intro _)); (conv => whnf); (try dsimp only [envO, List.cons_append, List.nil_append]))
  refine ObP3.cons1 [] [3] (.ex Value (fun _ => .pointer (some ⟨bw, 0, none⟩)) (fun _ => []) (fun v' => [wrB bw v', wrO v' (numB 2 ++ numB 1)])) ?_ rfl ?_
  · (repeat (intro _)); (conv => whnf); (try dsimp only [envO, List.cons_append, List.nil_append])
    (repeat (first | refine vgo ?_ | refine ⟨_, rfl, rfl, ?_⟩ | refine ⟨_, rfl, ?_⟩ | refine ⟨rfl, ?_⟩ | intro hb | refine go2 ?_ | refine WC.seq (fun K hK => ?_) | ((first | refine hK _ _ _ ?_ | refine hK _ _ _ _ rfl ?_ | refine WX.thenExit (K := K) ?_); clear hK K) | (refine WX.thenExit (K := KL) ?_; clear hL KL)))
    rename_i v1 _
    refine CallV.by' (wnum_fun bw v1 (numB 2) 1 (by decide) (by rw [e2]; decide)) ?_; rintro _ _ _ ⟨rfl, rfl, v', rfl⟩; (try simp only [List.cons_append]); (try simp only [List.nil_append])
    (repeat (first | refine vgo ?_ | refine ⟨_, rfl, rfl, ?_⟩ | refine ⟨_, rfl, ?_⟩ | refine ⟨rfl, ?_⟩ | intro hb | refine go2 ?_ | refine WC.seq (fun K hK => ?_) | ((first | refine hK _ _ _ ?_ | refine hK _ _ _ _ rfl ?_ | refine WX.thenExit (K := K) ?_); clear hK K) | (refine WX.thenExit (K := KL) ?_; clear hL KL)))
    exact WX.pgEx (fv := fun _ => .pointer (some ⟨bw, 0, none⟩)) v' rfl (fun w sw => sw.to)
  (repeat refine ObP3.c0B ?_); try (refine ObP3.nil ?_; (repeat (intro _)); (conv => whnf); (try dsimp only [envO, List.cons_append, List.nil_append]))
  refine ObP3.cons1 [] [7] (.ex Value (fun _ => .pointer (some ⟨bw, 0, none⟩)) (fun _ => []) (fun v' => [wrB bw v', wrO v' (numB 2 ++ numB 1 ++ numB 2)])) ?_ rfl ?_
  · (repeat (intro _)); (conv => whnf); (try dsimp only [envO, List.cons_append, List.nil_append])
    (repeat (first | refine vgo ?_ | refine ⟨_, rfl, rfl, ?_⟩ | refine ⟨_, rfl, ?_⟩ | refine ⟨rfl, ?_⟩ | intro hb | refine go2 ?_ | refine WC.seq (fun K hK => ?_) | ((first | refine hK _ _ _ ?_ | refine hK _ _ _ _ rfl ?_ | refine WX.thenExit (K := K) ?_); clear hK K) | (refine WX.thenExit (K := KL) ?_; clear hL KL)))
    rename_i v1 _ _
    refine CallV.by' (wnum_fun bw v1 (numB 2 ++ numB 1) 2 (by decide) (by rw [e2, e1]; decide)) ?_; rintro _ _ _ ⟨rfl, rfl, v', rfl⟩; (try simp only [List.cons_append]); (try simp only [List.nil_append])
    (repeat (first | refine vgo ?_ | refine ⟨_, rfl, rfl, ?_⟩ | refine ⟨_, rfl, ?_⟩ | refine ⟨rfl, ?_⟩ | intro hb | refine go2 ?_ | refine WC.seq (fun K hK => ?_) | ((first | refine hK _ _ _ ?_ | refine hK _ _ _ _ rfl ?_ | refine WX.thenExit (K := K) ?_); clear hK K) | (refine WX.thenExit (K := KL) ?_; clear hL KL)))
    exact WX.pgEx (fv := fun _ => .pointer (some ⟨bw, 0, none⟩)) v' rfl (fun w sw => sw.to)
  (repeat refine ObP3.c0B ?_); try (refine ObP3.nil ?_; (repeat (intro _)); (conv => whnf); (try dsimp only [envO, List.cons_append, List.nil_append]))
  rename_i v3 _ _ _
  have htr : trimL [] = [] := trimL_done (by simp)
  have h1 : (numB 2 ++ numB 1 ++ numB 2).length ≤ 800000 := by rw [e2, e1]; decide
  have hcp : ([] : List Nat).length ≤ 1000 ∧ (numB 2 ++ numB 1 ++ numB 2).length ≤ 800000 ∧ ∀ x ∈ ([] : List Nat), x < 18446744073709551616 := ⟨by decide, h1, by simp⟩
  (repeat (first | refine vgo ?_ | refine ⟨_, rfl, rfl, ?_⟩ | refine ⟨_, rfl, ?_⟩ | refine ⟨rfl, ?_⟩ | intro hb | refine go2 ?_ | refine WC.seq (fun K hK => ?_) | ((first | refine hK _ _ _ ?_ | refine hK _ _ _ _ rfl ?_ | refine WX.thenExit (K := K) ?_); clear hK K) | (refine WX.thenExit (K := KL) ?_; clear hL KL)))
  rw [htr]
  obtain ⟨w5, hw5⟩ : ∃ w5, w5 = numB 2 ++ numB 1 ++ numB 2 ++ putB [] ++ numB 0 := ⟨_, rfl⟩
  have hl5 : w5.length = 5 := by rw [hw5, e1, e2, e0, show putB [] = [0] from by unfold putB numsB; rw [List.length_nil, e0]; rfl]; decide
  have hs5 : (numB 2 ++ numB 1 ++ numB 2 ++ putB []).length ≤ 1000000 := by rw [hw5, List.length_append] at hl5; omega
  refine side ⟨by decide, hs5⟩ ?_
  rw [← hw5]
  (repeat (first | refine vgo ?_ | refine ⟨_, rfl, rfl, ?_⟩ | refine ⟨_, rfl, ?_⟩ | refine ⟨rfl, ?_⟩ | intro hb | refine go2 ?_ | refine WC.seq (fun K hK => ?_) | ((first | refine hK _ _ _ ?_ | refine hK _ _ _ _ rfl ?_ | refine WX.thenExit (K := K) ?_); clear hK K) | (refine WX.thenExit (K := KL) ?_; clear hL KL)))
  generalize hb = v6
  refine WC.loop (I := Nat) (fun i => [(2, .slice none 0 0), (3, .pointer (some ⟨bw, 0, none⟩)), (31, .int .i64 0), (32, .int .i64 (i : Nat))]) (fun _ => Gf) (fun _ => wrB bw v6 :: wrO v6 w5 :: box b1 28 msE :: Sf) (fun i => i = 0) (fun _ => 0) 0 rfl (.cons rfl (.cons rfl (.cons rfl (.cons rfl .nil)))) (fun w h => h.to) ?_
  rintro i rfl KL hL
  (repeat (first | refine vgo ?_ | refine ⟨_, rfl, rfl, ?_⟩ | refine ⟨_, rfl, ?_⟩ | refine ⟨rfl, ?_⟩ | intro hb | refine go2 ?_ | refine WC.seq (fun K hK => ?_) | ((first | refine hK _ _ _ ?_ | refine hK _ _ _ _ rfl ?_ | refine WX.thenExit (K := K) ?_); clear hK K) | (refine WX.thenExit (K := KL) ?_; clear hL KL)))
  refine CallV.sat (fun w sw => sw.pub (R := (Ty.u8)) (l := (w5)) (v := v6) SelOwn.h rfl (flat_u8s _).symm rfl (fun _ _ => trivial)) ?_
  (repeat (first | refine vgo ?_ | refine ⟨_, rfl, rfl, ?_⟩ | refine ⟨_, rfl, ?_⟩ | refine ⟨rfl, ?_⟩ | intro hb | refine go2 ?_ | refine WC.seq (fun K hK => ?_) | ((first | refine hK _ _ _ ?_ | refine hK _ _ _ _ rfl ?_ | refine WX.thenExit (K := K) ?_); clear hK K) | (refine WX.thenExit (K := KL) ?_; clear hL KL)))
  refine CallV.by' (seal_fun w5 _ (by omega)) ?_; rintro _ _ _ ⟨rfl, rfl⟩; (try simp only [List.cons_append]); (try simp only [List.nil_append])
  (repeat (first | refine vgo ?_ | refine ⟨_, rfl, rfl, ?_⟩ | refine ⟨_, rfl, ?_⟩ | refine ⟨rfl, ?_⟩ | intro hb | refine go2 ?_ | refine WC.seq (fun K hK => ?_) | ((first | refine hK _ _ _ ?_ | refine hK _ _ _ _ rfl ?_ | refine WX.thenExit (K := K) ?_); clear hK K) | (refine WX.thenExit (K := KL) ?_; clear hL KL)))
  exact WX.ret1 rfl rfl (fun w sw => ⟨_, [], ⟨sealB w5, by rw [length_sealB, hl5], rfl, rfl⟩, sw.to⟩)
end
/-! ### Messages: the law of which are the same. -/
section
open Go Go.Proofs Go.ChangeShapes Go.WideShapes Go.RowKit
theorem awake15_fun : Fun Tryz.prog 4 [] [] [] (fun r G S => r = .bool true ∧ G = [] ∧ S = []) := by
  refine Fun.enter Tryz.func4 (by kernel_rfl) rfl Tryz.ntmps4 rfl (fun B Gf Sf => ?_); (try simp only [List.cons_append]); (try simp only [List.nil_append]); simp only [argEnv]
  (repeat (first | refine vgo ?_ | refine ⟨_, rfl, rfl, ?_⟩ | refine ⟨_, rfl, ?_⟩ | refine ⟨rfl, ?_⟩ | intro hb | refine go2 ?_ | refine WC.seq (fun K hK => ?_) | ((first | refine hK _ _ _ ?_ | refine hK _ _ _ _ rfl ?_ | refine WX.thenExit (K := K) ?_); clear hK K) | (refine WX.thenExit (K := KL) ?_; clear hL KL)))
  refine CallV.by' (encode_fun) ?_; rintro _ _ _ ⟨l, hl, rfl, rfl⟩; (try simp only [List.cons_append]); (try simp only [List.nil_append])
  (repeat (first | refine vgo ?_ | refine ⟨_, rfl, rfl, ?_⟩ | refine ⟨_, rfl, ?_⟩ | refine ⟨rfl, ?_⟩ | intro hb | refine go2 ?_ | refine WC.seq (fun K hK => ?_) | ((first | refine hK _ _ _ ?_ | refine hK _ _ _ _ rfl ?_ | refine WX.thenExit (K := K) ?_); clear hK K) | (refine WX.thenExit (K := KL) ?_; clear hL KL)))
  rw [hl]
  (repeat (first | refine vgo ?_ | refine ⟨_, rfl, rfl, ?_⟩ | refine ⟨_, rfl, ?_⟩ | refine ⟨rfl, ?_⟩ | intro hb | refine go2 ?_ | refine WC.seq (fun K hK => ?_) | ((first | refine hK _ _ _ ?_ | refine hK _ _ _ _ rfl ?_ | refine WX.thenExit (K := K) ?_); clear hK K) | (refine WX.thenExit (K := KL) ?_; clear hL KL)))
  exact WX.ret1 rfl rfl (fun w sw => ⟨_, [], ⟨rfl, rfl, rfl⟩, sw.to⟩)
instance awake15_pure {G : List Pers} : PureF Tryz.prog 4 [] G True (.bool true) := ⟨fun _ => PureF.of0 awake15_fun⟩
abbrev RMs := Int × Int × Int × List Nat × List ROp
abbrev rmsT : Ty RMs := Ty.pair Ty.i64 (Ty.pair Ty.i64 (Ty.pair Ty.i64 (Ty.pair fullT (Ty.rec1 (Ty.sl rop14T)))))
set_option synthInstance.maxSize 8000 in
set_option synthInstance.maxHeartbeats 400000 in
instance reads_rms : ReadsU upM Tryz.prog 37 rmsT := inferInstance
instance msame_pure {G : List Pers} {m n : MsD} {d s e t : Value} [i : RdSl d G Ty.u64 (trimL m.c)] [j : RdSl s G popT m.l] [k : RdSl e G Ty.u64 (trimL n.c)] [o : RdSl t G popT n.l] : PureF Tryz.prog 7 [pmsV m d s, pmsV n e t] G (m.c.length = 64 ∧ n.c.length = 64) (.bool (decide (msP m n))) := ⟨fun h => ⟨_, by simpa using ⟨i.h, j.h, k.h, o.h⟩, msame_fun m n h.1 h.2 d s e t⟩⟩
theorem msP_refl (m : MsD) : msP m m := ⟨rfl, rfl, rfl, rfl, rfl, fun i x y hx hy => by
  rw [hx] at hy; cases hy
  exact ⟨rfl, rfl, rfl, rfl, rfl, rfl, rfl, rfl, rfl, rfl, rfl⟩⟩
end
end
end Go.Qd
