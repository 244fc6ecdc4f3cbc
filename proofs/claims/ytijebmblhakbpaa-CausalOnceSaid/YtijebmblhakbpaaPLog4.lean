/-
  The log: Add, Cut.
-/
import Derived.Test.YtijebmblhakbpaaPLog3
namespace Go.Qd
open Go Go.Proofs
section
variable {P : Program} {n : Nat} {Q : Exit → Act → World → Prop} {B : Base} {env : Env} {G : List Pers} {S S' : List Res} {L rest : List Oper}
variable {ty : TypeId} {pos : String} {af : Array Edge} {x y z : Operand} {T K E : TypeId} {α β : Type} {f : α → Value} {g : β → Value} {r : Nat} {M : List (α × β)} {es : Array MapEntry} {clock : Nat}
end
/-! ### Add. -/
def listK (M : List LgE) (k : Int) : List OpT := match getM M k with | some p => p.2 | none => []
theorem listK_len (M : List LgE) (k : Int) : (listK M k).length = lenK M k := by
  unfold listK lenK; cases getM M k <;> rfl
/-- What Add answers. -/
def addE (most : Int) (cut : List Nat) (M : List LgE) (x : OpT) : Int :=
  if ¬ (0 < x.n ∧ 0 < x.t) then 1 else if x.n < getC cut x.o + lenK M x.o + 1 then 34 else if getC cut x.o + lenK M x.o + 1 < x.n then 6 else if most - (sizeM M : Int) < 1 then 24 else 0
def addTo (most : Int) (cut : List Nat) (M : List LgE) (x : OpT) (M' : List LgE) : Prop := (addE most cut M x ≠ 0 ∧ M' = M) ∨ (addE most cut M x = 0 ∧ ∃ v', M' = putM M x.o (v', listK M x.o ++ [x]))
set_option maxHeartbeats 6400000 in
set_option synthInstance.maxSize 2000 in
set_option synthInstance.maxHeartbeats 400000 in
theorem lgadd_fun (g r : Nat) (most : Int) (cut : List Nat) (cv : Value) (M : List LgE) (ok : LgOk M cut) (hm : 0 ≤ most ∧ most ≤ 1000) (hs : sizeM M ≤ 100000) (o : Int) (n t : Nat) (c : List Nat) (d : Value) (ho : 1 ≤ o ∧ o ≤ 64) (ht : t ≤ 1099511627776) (hn : n < 18446744073709551616) (hc : c.length ≤ 64) (hg : 0 < n → getC c o + 1 = n) :
    Fun Try.prog 41 [.pointer (some ⟨g, 0, none⟩), opV o n t d 1] [rd (Ty.sl Ty.u64) cut cv, rd (Ty.sl Ty.u64) c d] [lgB g most cv r, lgM r M, lgO M] (fun z G S => ∃ M', z = .int .i64 (addE most cut M ⟨o, n, t, c, d, 1⟩) ∧ addTo most cut M ⟨o, n, t, c, d, 1⟩ M' ∧ G = [] ∧ S = [lgB g most cv r, lgM r M', lgO M']) := by
  have hle := ok.le o
  have hco := ok.c o
  have hml := ok.ml
  refine Fun.enter Try.func41 (by kernel_rfl) rfl Try.ntmps41 rfl (fun B Gf Sf => ?_); (try simp only [List.cons_append]); (try simp only [List.nil_append]); simp only [argEnv]
  refine WC.ex (fun w sw => sw.slOne (v := d) (R := Ty.u64) (l := c) (.tail _ (.head _))) (fun hxd => ?_)
  (repeat (first | refine vgo ?_ | refine ⟨_, rfl, rfl, ?_⟩ | refine ⟨_, rfl, ?_⟩ | refine ⟨rfl, ?_⟩ | intro hb | refine altA ?_ | refine altR ?_ | refine sideA ?_ | refine decTA ?_ | refine decFA ?_ | refine decNA ?_ | refine decBTA ?_ | refine decBFA ?_ | refine ⟨_, by assumption, ?_⟩ | refine ⟨_, _, _, rfl, ?_⟩ | refine WC.seq (fun K hK => ?_) | (refine hK _ _ _ ?_; clear hK K) | (refine hK _ _ _ _ rfl ?_; clear hK K) | (refine WX.thenExit (K := K) ?_; clear hK K) | (refine WX.thenExit (K := KL) ?_; clear hL KL)))
  (first | refine WL.boxA rfl rfl ?_ | refine WL.box rfl rfl rfl ?_); intro b3
  (repeat (first | refine vgo ?_ | refine ⟨_, rfl, rfl, ?_⟩ | refine ⟨_, rfl, ?_⟩ | refine ⟨rfl, ?_⟩ | intro hb | refine altA ?_ | refine altR ?_ | refine sideA ?_ | refine decTA ?_ | refine decFA ?_ | refine decNA ?_ | refine decBTA ?_ | refine decBFA ?_ | refine ⟨_, by assumption, ?_⟩ | refine ⟨_, _, _, rfl, ?_⟩ | refine WC.seq (fun K hK => ?_) | (refine hK _ _ _ ?_; clear hK K) | (refine hK _ _ _ _ rfl ?_; clear hK K) | (refine WX.thenExit (K := K) ?_; clear hK K) | (refine WX.thenExit (K := KL) ?_; clear hL KL)))
  refine CallV.by' (oright_fun o n t c d ho ht hn hc hg) ?_; rintro _ _ _ ⟨rfl, rfl, rfl⟩; (try simp only [List.cons_append]); (try simp only [List.nil_append])
  by_cases h1 : ¬ (0 < n ∧ 0 < t)
  · have hE : addE most cut M ⟨o, n, t, c, d, 1⟩ = 1 := if_pos h1
    rw [decide_eq_false h1]
    (repeat (first | refine vgo ?_ | refine ⟨_, rfl, rfl, ?_⟩ | refine ⟨_, rfl, ?_⟩ | refine ⟨rfl, ?_⟩ | intro hb | refine altA ?_ | refine altR ?_ | refine sideA ?_ | refine decTA ?_ | refine decFA ?_ | refine decNA ?_ | refine decBTA ?_ | refine decBFA ?_ | refine ⟨_, by assumption, ?_⟩ | refine ⟨_, _, _, rfl, ?_⟩ | refine WC.seq (fun K hK => ?_) | (refine hK _ _ _ ?_; clear hK K) | (refine hK _ _ _ _ rfl ?_; clear hK K) | (refine WX.thenExit (K := K) ?_; clear hK K) | (refine WX.thenExit (K := KL) ?_; clear hL KL)))
    exact WX.ret1 rfl rfl (fun w sw => ⟨[], [lgB g most cv r, lgM r M, lgO M], ⟨M, by rw [hE], .inl ⟨by rw [hE]; decide, rfl⟩, rfl, rfl⟩, sw.to⟩)
  rw [decide_eq_true (Classical.not_not.1 h1)]
  (repeat (first | refine vgo ?_ | refine ⟨_, rfl, rfl, ?_⟩ | refine ⟨_, rfl, ?_⟩ | refine ⟨rfl, ?_⟩ | intro hb | refine altA ?_ | refine altR ?_ | refine sideA ?_ | refine decTA ?_ | refine decFA ?_ | refine decNA ?_ | refine decBTA ?_ | refine decBFA ?_ | refine ⟨_, by assumption, ?_⟩ | refine ⟨_, _, _, rfl, ?_⟩ | refine WC.seq (fun K hK => ?_) | (refine hK _ _ _ ?_; clear hK K) | (refine hK _ _ _ _ rfl ?_; clear hK K) | (refine WX.thenExit (K := K) ?_; clear hK K) | (refine WX.thenExit (K := KL) ?_; clear hL KL)))
  (apply WC.drawE; exact rfl; focus (repeat (first | exact Wo.nil | (apply Wo.keep; exact rfl) | (apply Wo.drop; exact rfl)))); (repeat refine ObP3.c0A ?_); try (refine ObP3.nil ?_; (repeat (intro _)); (conv => whnf); (try dsimp only [envO, List.cons_append, List.nil_append]))
  refine ObP3.cons1 [] [] (.ex {p : Value × List Nat // knP cut M p.2} (fun p => p.1.1) (fun p => [rd (Ty.sl Ty.u64) p.1.2 p.1.1]) (fun _ => [])) ?_ rfl ?_
  · (repeat (intro _)); (conv => whnf); (try dsimp only [envO, List.cons_append, List.nil_append])
    (repeat (first | refine vgo ?_ | refine ⟨_, rfl, rfl, ?_⟩ | refine ⟨_, rfl, ?_⟩ | refine ⟨rfl, ?_⟩ | intro hb | refine altA ?_ | refine altR ?_ | refine sideA ?_ | refine decTA ?_ | refine decFA ?_ | refine decNA ?_ | refine decBTA ?_ | refine decBFA ?_ | refine ⟨_, by assumption, ?_⟩ | refine ⟨_, _, _, rfl, ?_⟩ | refine WC.seq (fun K hK => ?_) | (refine hK _ _ _ ?_; clear hK K) | (refine hK _ _ _ _ rfl ?_; clear hK K) | (refine WX.thenExit (K := K) ?_; clear hK K) | (refine WX.thenExit (K := KL) ?_; clear hL KL)))
    refine CallV.by' (lgknown_fun g r most cut cv M ok.nd ok.k64 ok.le ok.cl ok.c) ?_; rintro _ _ _ ⟨K1, rfl, rfl, hkn⟩; (try simp only [List.cons_append]); (try simp only [List.nil_append])
    (repeat (first | refine vgo ?_ | refine ⟨_, rfl, rfl, ?_⟩ | refine ⟨_, rfl, ?_⟩ | refine ⟨rfl, ?_⟩ | intro hb | refine altA ?_ | refine altR ?_ | refine sideA ?_ | refine decTA ?_ | refine decFA ?_ | refine decNA ?_ | refine decBTA ?_ | refine decBFA ?_ | refine ⟨_, by assumption, ?_⟩ | refine ⟨_, _, _, rfl, ?_⟩ | refine WC.seq (fun K hK => ?_) | (refine hK _ _ _ ?_; clear hK K) | (refine hK _ _ _ _ rfl ?_; clear hK K) | (refine WX.thenExit (K := K) ?_; clear hK K) | (refine WX.thenExit (K := KL) ?_; clear hL KL)))
    rename_i zv
    exact WX.pgEx (fv := fun p : {p : Value × List Nat // knP cut M p.2} => p.1.1) ⟨(zv, K1), hkn⟩ rfl (fun w sw => sw.to)
  (repeat refine ObP3.c0B ?_); try (refine ObP3.nil ?_; (repeat (intro _)); (conv => whnf); (try dsimp only [envO, List.cons_append, List.nil_append]))
  refine ObP3.cons1 [1] [] (.is (.int .u64 ((getC cut o + lenK M o : Nat) : Int))) ?_ rfl ?_
  · (repeat (intro _)); (conv => whnf); (try dsimp only [envO, List.cons_append, List.nil_append])
    (repeat (first | refine vgo ?_ | refine ⟨_, rfl, rfl, ?_⟩ | refine ⟨_, rfl, ?_⟩ | refine ⟨rfl, ?_⟩ | intro hb | refine altA ?_ | refine altR ?_ | refine sideA ?_ | refine decTA ?_ | refine decFA ?_ | refine decNA ?_ | refine decBTA ?_ | refine decBFA ?_ | refine ⟨_, by assumption, ?_⟩ | refine ⟨_, _, _, rfl, ?_⟩ | refine WC.seq (fun K hK => ?_) | (refine hK _ _ _ ?_; clear hK K) | (refine hK _ _ _ _ rfl ?_; clear hK K) | (refine WX.thenExit (K := K) ?_; clear hK K) | (refine WX.thenExit (K := KL) ?_; clear hL KL)))
    rename_i ξ
    rw [ξ.2.2 o]
    (repeat (first | refine vgo ?_ | refine ⟨_, rfl, rfl, ?_⟩ | refine ⟨_, rfl, ?_⟩ | refine ⟨rfl, ?_⟩ | intro hb | refine altA ?_ | refine altR ?_ | refine sideA ?_ | refine decTA ?_ | refine decFA ?_ | refine decNA ?_ | refine decBTA ?_ | refine decBFA ?_ | refine ⟨_, by assumption, ?_⟩ | refine ⟨_, _, _, rfl, ?_⟩ | refine WC.seq (fun K hK => ?_) | (refine hK _ _ _ ?_; clear hK K) | (refine hK _ _ _ _ rfl ?_; clear hK K) | (refine WX.thenExit (K := K) ?_; clear hK K) | (refine WX.thenExit (K := KL) ?_; clear hL KL)))
    first | exact WX.pgIs rfl | exact WX.pgRd rfl | exact WX.pgCell rfl | exact WX.pgNone | exact WX.pgOwn rfl
  (repeat refine ObP3.c0B ?_); try (refine ObP3.nil ?_; (repeat (intro _)); (conv => whnf); (try dsimp only [envO, List.cons_append, List.nil_append]))
  by_cases h2 : (n : Int) < ((getC cut o + lenK M o : Nat) : Int) + 1
  · have hE : addE most cut M ⟨o, n, t, c, d, 1⟩ = 34 := (if_neg h1).trans (if_pos (by dsimp only; omega))
    (repeat (first | refine vgo ?_ | refine ⟨_, rfl, rfl, ?_⟩ | refine ⟨_, rfl, ?_⟩ | refine ⟨rfl, ?_⟩ | intro hb | refine altA ?_ | refine altR ?_ | refine sideA ?_ | refine decTA ?_ | refine decFA ?_ | refine decNA ?_ | refine decBTA ?_ | refine decBFA ?_ | refine ⟨_, by assumption, ?_⟩ | refine ⟨_, _, _, rfl, ?_⟩ | refine WC.seq (fun K hK => ?_) | (refine hK _ _ _ ?_; clear hK K) | (refine hK _ _ _ _ rfl ?_; clear hK K) | (refine WX.thenExit (K := K) ?_; clear hK K) | (refine WX.thenExit (K := KL) ?_; clear hL KL)))
    exact WX.ret1 rfl rfl (fun w sw => ⟨[], [lgB g most cv r, lgM r M, lgO M], ⟨M, by rw [hE], .inl ⟨by rw [hE]; decide, rfl⟩, rfl, rfl⟩, sw.to⟩)
  by_cases h3 : ((getC cut o + lenK M o : Nat) : Int) + 1 < (n : Int)
  · have hE : addE most cut M ⟨o, n, t, c, d, 1⟩ = 6 := (if_neg h1).trans ((if_neg (by dsimp only; omega)).trans (if_pos (by dsimp only; omega)))
    (repeat (first | refine vgo ?_ | refine ⟨_, rfl, rfl, ?_⟩ | refine ⟨_, rfl, ?_⟩ | refine ⟨rfl, ?_⟩ | intro hb | refine altA ?_ | refine altR ?_ | refine sideA ?_ | refine decTA ?_ | refine decFA ?_ | refine decNA ?_ | refine decBTA ?_ | refine decBFA ?_ | refine ⟨_, by assumption, ?_⟩ | refine ⟨_, _, _, rfl, ?_⟩ | refine WC.seq (fun K hK => ?_) | (refine hK _ _ _ ?_; clear hK K) | (refine hK _ _ _ _ rfl ?_; clear hK K) | (refine WX.thenExit (K := K) ?_; clear hK K) | (refine WX.thenExit (K := KL) ?_; clear hL KL)))
    exact WX.ret1 rfl rfl (fun w sw => ⟨[], [lgB g most cv r, lgM r M, lgO M], ⟨M, by rw [hE], .inl ⟨by rw [hE]; decide, rfl⟩, rfl, rfl⟩, sw.to⟩)
  (repeat (first | refine vgo ?_ | refine ⟨_, rfl, rfl, ?_⟩ | refine ⟨_, rfl, ?_⟩ | refine ⟨rfl, ?_⟩ | intro hb | refine altA ?_ | refine altR ?_ | refine sideA ?_ | refine decTA ?_ | refine decFA ?_ | refine decNA ?_ | refine decBTA ?_ | refine decBFA ?_ | refine ⟨_, by assumption, ?_⟩ | refine ⟨_, _, _, rfl, ?_⟩ | refine WC.seq (fun K hK => ?_) | (refine hK _ _ _ ?_; clear hK K) | (refine hK _ _ _ _ rfl ?_; clear hK K) | (refine WX.thenExit (K := K) ?_; clear hK K) | (refine WX.thenExit (K := KL) ?_; clear hL KL)))
  refine CallV.by' (lgroom_fun g r most cv M hm ok.nd ok.ml ok.le hs) ?_; rintro _ _ _ ⟨rfl, rfl, rfl⟩; (try simp only [List.cons_append]); (try simp only [List.nil_append])
  by_cases h4 : most - (sizeM M : Int) < 1
  · have hE : addE most cut M ⟨o, n, t, c, d, 1⟩ = 24 := (if_neg h1).trans ((if_neg (by dsimp only; omega)).trans ((if_neg (by dsimp only; omega)).trans (if_pos h4)))
    (repeat (first | refine vgo ?_ | refine ⟨_, rfl, rfl, ?_⟩ | refine ⟨_, rfl, ?_⟩ | refine ⟨rfl, ?_⟩ | intro hb | refine altA ?_ | refine altR ?_ | refine sideA ?_ | refine decTA ?_ | refine decFA ?_ | refine decNA ?_ | refine decBTA ?_ | refine decBFA ?_ | refine ⟨_, by assumption, ?_⟩ | refine ⟨_, _, _, rfl, ?_⟩ | refine WC.seq (fun K hK => ?_) | (refine hK _ _ _ ?_; clear hK K) | (refine hK _ _ _ _ rfl ?_; clear hK K) | (refine WX.thenExit (K := K) ?_; clear hK K) | (refine WX.thenExit (K := KL) ?_; clear hL KL)))
    exact WX.ret1 rfl rfl (fun w sw => ⟨[], [lgB g most cv r, lgM r M, lgO M], ⟨M, by rw [hE], .inl ⟨by rw [hE]; decide, rfl⟩, rfl, rfl⟩, sw.to⟩)
  have hE : addE most cut M ⟨o, n, t, c, d, 1⟩ = 0 := (if_neg h1).trans ((if_neg (by dsimp only; omega)).trans ((if_neg (by dsimp only; omega)).trans (if_neg h4)))
  obtain ⟨u, l, hul⟩ : ∃ u l, (getM M o = some (u, l)) ∨ (getM M o = none ∧ u = .slice none 0 0 ∧ l = []) := by
    cases h : getM M o with
    | none => exact ⟨_, _, .inr ⟨rfl, rfl, rfl⟩⟩
    | some p => exact ⟨p.1, p.2, .inl rfl⟩
  have hll : listK M o = l := by
    unfold listK
    rcases hul with h | ⟨h, _, h5⟩
    · rw [h]
    · rw [h, h5]
  have hlk : l.length = lenK M o := by rw [← hll, listK_len]
  (repeat (first | refine vgo ?_ | refine ⟨_, rfl, rfl, ?_⟩ | refine ⟨_, rfl, ?_⟩ | refine ⟨rfl, ?_⟩ | intro hb | refine altA ?_ | refine altR ?_ | refine sideA ?_ | refine decTA ?_ | refine decFA ?_ | refine decNA ?_ | refine decBTA ?_ | refine decBFA ?_ | refine ⟨_, by assumption, ?_⟩ | refine ⟨_, _, _, rfl, ?_⟩ | refine WC.seq (fun K hK => ?_) | (refine hK _ _ _ ?_; clear hK K) | (refine hK _ _ _ _ rfl ?_; clear hK K) | (refine WX.thenExit (K := K) ?_; clear hK K) | (refine WX.thenExit (K := KL) ?_; clear hL KL)))
  refine WC.sat (G' := rd (Ty.sl Ty.u64) cut cv :: rd (Ty.sl Ty.u64) c d :: Gf) (S' := opO u l :: lgO (delM M o) :: lgB g most cv r :: lgM r M :: box b3 56 (opC o n t d 1) :: Sf) (fun w sw => ?_) ?_
  · have sw1 : Sat B (rd (Ty.sl Ty.u64) cut cv :: rd (Ty.sl Ty.u64) c d :: Gf) (lgO M :: lgB g most cv r :: lgM r M :: box b3 56 (opC o n t d 1) :: Sf) w := sw.to
    rcases hul with h | ⟨h, rfl, rfl⟩
    · exact sw1.lgTake h
    · rw [del_none h]
      exact sw1.ownNil 56 24
  refine WC.drawV (S := (lgO (delM M o) :: lgB g most cv r :: box b3 56 (opC o n t d 1) :: Sf)) ([[opO u l], [lgM r M]]) rfl (by repeat (first | exact Wo.nil | (apply Wo.keep; exact rfl) | (apply Wo.drop; exact rfl))) (fun w sw => by (try simp only [List.flatten_cons, List.flatten_nil, List.append_nil, List.cons_append, List.nil_append]); exact sw.to) ?_; (try dsimp only [chunks])
  (repeat refine ObP3.c0A ?_); try (refine ObP3.nil ?_; (repeat (intro _)); (conv => whnf); (try dsimp only [envO, List.cons_append, List.nil_append]))
  refine ObP3.cons1 [1001] [] (.is u) ?_ rfl ?_
  · (repeat (intro _)); (conv => whnf); (try dsimp only [envO, List.cons_append, List.nil_append])
    (repeat (first | refine vgo ?_ | refine ⟨_, rfl, rfl, ?_⟩ | refine ⟨_, rfl, ?_⟩ | refine ⟨rfl, ?_⟩ | intro hb | refine altA ?_ | refine altR ?_ | refine sideA ?_ | refine decTA ?_ | refine decFA ?_ | refine decNA ?_ | refine decBTA ?_ | refine decBFA ?_ | refine ⟨_, by assumption, ?_⟩ | refine ⟨_, _, _, rfl, ?_⟩ | refine WC.seq (fun K hK => ?_) | (refine hK _ _ _ ?_; clear hK K) | (refine hK _ _ _ _ rfl ?_; clear hK K) | (refine WX.thenExit (K := K) ?_; clear hK K) | (refine WX.thenExit (K := KL) ?_; clear hL KL)))
    refine WL.lookupF (f := kI) (g := pV) (r := r) (M := M) (a := o) rfl rfl rfl rfl ?_
    rcases hul with h | ⟨h, rfl, rfl⟩
    · rw [h]
      (repeat (first | refine vgo ?_ | refine ⟨_, rfl, rfl, ?_⟩ | refine ⟨_, rfl, ?_⟩ | refine ⟨rfl, ?_⟩ | intro hb | refine altA ?_ | refine altR ?_ | refine sideA ?_ | refine decTA ?_ | refine decFA ?_ | refine decNA ?_ | refine decBTA ?_ | refine decBFA ?_ | refine ⟨_, by assumption, ?_⟩ | refine ⟨_, _, _, rfl, ?_⟩ | refine WC.seq (fun K hK => ?_) | (refine hK _ _ _ ?_; clear hK K) | (refine hK _ _ _ _ rfl ?_; clear hK K) | (refine WX.thenExit (K := K) ?_; clear hK K) | (refine WX.thenExit (K := KL) ?_; clear hL KL)))
      first | exact WX.pgIs rfl | exact WX.pgRd rfl | exact WX.pgCell rfl | exact WX.pgNone | exact WX.pgOwn rfl
    · rw [h]
      (repeat (first | refine vgo ?_ | refine ⟨_, rfl, rfl, ?_⟩ | refine ⟨_, rfl, ?_⟩ | refine ⟨rfl, ?_⟩ | intro hb | refine altA ?_ | refine altR ?_ | refine sideA ?_ | refine decTA ?_ | refine decFA ?_ | refine decNA ?_ | refine decBTA ?_ | refine decBFA ?_ | refine ⟨_, by assumption, ?_⟩ | refine ⟨_, _, _, rfl, ?_⟩ | refine WC.seq (fun K hK => ?_) | (refine hK _ _ _ ?_; clear hK K) | (refine hK _ _ _ _ rfl ?_; clear hK K) | (refine WX.thenExit (K := K) ?_; clear hK K) | (refine WX.thenExit (K := KL) ?_; clear hL KL)))
      first | exact WX.pgIs rfl | exact WX.pgRd rfl | exact WX.pgCell rfl | exact WX.pgNone | exact WX.pgOwn rfl
  (repeat refine ObP3.c0B ?_); try (refine ObP3.nil ?_; (repeat (intro _)); (conv => whnf); (try dsimp only [envO, List.cons_append, List.nil_append]))
  (apply ObP3.cons1 [] [1000, 14]; (focus ((repeat (intro _)); (conv => whnf); (try dsimp only [envO, List.cons_append, List.nil_append]); (repeat (first | refine vgo ?_ | refine ⟨_, rfl, rfl, ?_⟩ | refine ⟨_, rfl, ?_⟩ | refine ⟨rfl, ?_⟩ | intro hb | refine altA ?_ | refine altR ?_ | refine sideA ?_ | refine decTA ?_ | refine decFA ?_ | refine decNA ?_ | refine decBTA ?_ | refine decBFA ?_ | refine ⟨_, by assumption, ?_⟩ | refine ⟨_, _, _, rfl, ?_⟩ | refine WC.seq (fun K hK => ?_) | (refine hK _ _ _ ?_; clear hK K) | (refine hK _ _ _ _ rfl ?_; clear hK K) | (refine WX.thenExit (K := K) ?_; clear hK K) | (refine WX.thenExit (K := KL) ?_; clear hL KL))); first | exact WX.pgHeadV rfl | exact WX.pgHead | exact WX.pgOwn rfl)); exact rfl)
  refine ObP3.cons1 [] [15, 1001] (.ex Value (fun _ => undef) (fun _ => []) (fun u' => [own 56 24 u' (l.length + 1) (opsC l ++ opC o n t d 1), lgM r (putM M o (u', l ++ [⟨o, n, t, c, d, 1⟩]))])) ?_ rfl ?_
  · (repeat (intro _)); (conv => whnf); (try dsimp only [envO, List.cons_append, List.nil_append])
    (repeat (first | refine vgo ?_ | refine ⟨_, rfl, rfl, ?_⟩ | refine ⟨_, rfl, ?_⟩ | refine ⟨rfl, ?_⟩ | intro hb | refine altA ?_ | refine altR ?_ | refine sideA ?_ | refine decTA ?_ | refine decFA ?_ | refine decNA ?_ | refine decBTA ?_ | refine decBFA ?_ | refine ⟨_, by assumption, ?_⟩ | refine ⟨_, _, _, rfl, ?_⟩ | refine WC.seq (fun K hK => ?_) | (refine hK _ _ _ ?_; clear hK K) | (refine hK _ _ _ _ rfl ?_; clear hK K) | (refine WX.thenExit (K := K) ?_; clear hK K) | (refine WX.thenExit (K := KL) ?_; clear hL KL)))
    rename_i uu _ _ _
    refine WL.mapUpdate (f := kI) (g := pV) (M := M) (r := r) (a := o) (b := (uu, l ++ [⟨o, n, t, c, d, 1⟩])) rfl rfl rfl rfl rfl ?_
    (repeat (first | refine vgo ?_ | refine ⟨_, rfl, rfl, ?_⟩ | refine ⟨_, rfl, ?_⟩ | refine ⟨rfl, ?_⟩ | intro hb | refine altA ?_ | refine altR ?_ | refine sideA ?_ | refine decTA ?_ | refine decFA ?_ | refine decNA ?_ | refine decBTA ?_ | refine decBFA ?_ | refine ⟨_, by assumption, ?_⟩ | refine ⟨_, _, _, rfl, ?_⟩ | refine WC.seq (fun K hK => ?_) | (refine hK _ _ _ ?_; clear hK K) | (refine hK _ _ _ _ rfl ?_; clear hK K) | (refine WX.thenExit (K := K) ?_; clear hK K) | (refine WX.thenExit (K := KL) ?_; clear hL KL)))
    exact WX.pgEx0 uu (fun w sw => sw.to)
  (repeat refine ObP3.c0B ?_); try (refine ObP3.nil ?_; (repeat (intro _)); (conv => whnf); (try dsimp only [envO, List.cons_append, List.nil_append]))
  (repeat (first | refine vgo ?_ | refine ⟨_, rfl, rfl, ?_⟩ | refine ⟨_, rfl, ?_⟩ | refine ⟨rfl, ?_⟩ | intro hb | refine altA ?_ | refine altR ?_ | refine sideA ?_ | refine decTA ?_ | refine decFA ?_ | refine decNA ?_ | refine decBTA ?_ | refine decBFA ?_ | refine ⟨_, by assumption, ?_⟩ | refine ⟨_, _, _, rfl, ?_⟩ | refine WC.seq (fun K hK => ?_) | (refine hK _ _ _ ?_; clear hK K) | (refine hK _ _ _ _ rfl ?_; clear hK K) | (refine WX.thenExit (K := K) ?_; clear hK K) | (refine WX.thenExit (K := KL) ?_; clear hL KL)))
  rename_i uu _ _ _ _
  refine WX.ret1 rfl rfl (fun w sw => ⟨[], [lgB g most cv r, lgM r (putM M o (uu, l ++ [⟨o, n, t, c, d, 1⟩])), lgO (putM M o (uu, l ++ [⟨o, n, t, c, d, 1⟩]))], ⟨_, by rw [hE], .inr ⟨hE, uu, by rw [hll]⟩, rfl, rfl⟩, ?_⟩)
  have sw2 : Sat B (rd (Ty.sl Ty.u64) cut cv :: rd (Ty.sl Ty.u64) c d :: Gf) (own 56 24 uu (l.length + 1) (opsC l ++ opC o n t d 1) :: lgO (delM M o) :: lgB g most cv r :: lgM r (putM M o (uu, l ++ [⟨o, n, t, c, d, 1⟩])) :: Sf) w := sw.to
  have e1 : own 56 24 uu (l.length + 1) (opsC l ++ opC o n t d 1) = opO uu (l ++ [⟨o, n, t, c, d, 1⟩]) := by
    unfold opO; rw [opsC_snoc, List.length_append]; rfl
  rw [e1] at sw2
  exact (sw2.lgPut (M := M) (k := o) (p := (uu, l ++ [⟨o, n, t, c, d, 1⟩]))).to
/-! ### Cut. -/
def cutD (kc cut : List Nat) (M : List LgE) (k : Int) : Nat := min (lenK M k) (max (getC kc k) (getC cut k) - getC cut k)
theorem getM_putL : ∀ (M : List LgE) (a : Int) (b : Value × List OpT) (k : Int), getM (putM M a b) k = if k = a then some b else getM M k
  | [], a, b, k => by
    rw [putM]
    by_cases h : a = k
    · rw [if_pos h.symm]; show (if a = k then some b else none) = _; rw [if_pos h]
    · rw [if_neg fun e => h e.symm]; show (if a = k then some b else none) = _; rw [if_neg h]; rfl
  | p :: M, a, b, k => by
    rw [putM]
    by_cases h : p.1 = a
    · rw [if_pos h, getM, getM]
      by_cases h2 : a = k
      · rw [if_pos h2, if_pos h2.symm]
      · rw [if_neg h2, if_neg fun e => h2 e.symm, if_neg fun e => h2 (h.symm.trans e)]
    · rw [if_neg h, getM, getM_putL M a b k, getM]
      by_cases h2 : p.1 = k
      · rw [if_pos h2, if_pos h2, if_neg fun e => h (h2.trans e)]
      · rw [if_neg h2, if_neg h2]
structure CutI (M : List LgE) (kc cut : List Nat) (es : Array MapEntry) (clock : Nat) (seen : Array Nat) (ks : List Int) (M' : List LgE) (cut' : List Nat) (n : Nat) : Prop where
  is : MapIs kI pV M' es clock
  keys : M'.map (·.1) = M.map (·.1)
  tk : TookK kI (M.map (·.1)) es seen ks
  did : ∀ k p, getM M k = some p → k ∈ ks → ∃ v', getM M' k = some (v', p.2.drop (cutD kc cut M k))
  not : ∀ k, k ∉ ks → getM M' k = getM M k
  cl : cut'.length ≤ 64
  cg : ∀ k, getC cut' k = getC cut k + if k ∈ ks then cutD kc cut M k else 0
  n : n = (ks.map (cutD kc cut M)).sum
end Go.Qd
