/-
  The chapter's example; the law of which was known ahead of which.
-/
import Derived.Test.YtnkpfeaddjkpbaaPTree8
import Derived.Test.YtnkpfeaddjkpbaaPWith
namespace Go.Qd
open Go Go.Proofs
theorem oafter_fun (o : Int) (n t : Nat) (c : List Nat) (d : Value) (k : Int) (h1 : 1 ≤ o) (h64 : o ≤ 64) (hc : c.length ≤ 1048576) (hn : n < 18446744073709551616) : Fun Try.prog 67 [opV o n t d k] [rd (Ty.sl Ty.u64) c d] [] (fun u G S => G = [rd (Ty.sl Ty.u64) (trimL (withL c o n)) u] ∧ S = []) := by
  refine Fun.enter Try.func67 (by kernel_rfl) rfl Try.ntmps67 rfl (fun B Gf Sf => ?_); (try simp only [List.cons_append]); (try simp only [List.nil_append]); simp only [argEnv]
  refine WC.ex (fun w sw => sw.slOne (v := d) RdSl.h) (fun hd1 => ?_)
  (repeat (first | refine vgo ?_ | refine ⟨_, rfl, rfl, ?_⟩ | refine ⟨_, rfl, ?_⟩ | refine ⟨rfl, ?_⟩ | intro hb | (refine altL ?_ ?_; omega) | refine altR ?_ | (refine side ?_ ?_; first | omega | exact True.intro | ((try simp only [List.length_append, List.length_cons, List.length_nil, List.length_map, List.length_replicate, List.length_set, and_true, true_and]); omega) | assumption | (and_intros <;> first | omega | assumption) | decide) | (refine decT ?_ ?_; first | with_reducible assumption | with_reducible rfl | (refine not_not_intro ?_; with_reducible first | assumption | rfl) | omega | decide) | (refine decF ?_ ?_; first | with_reducible assumption | with_reducible rfl | (refine not_not_intro ?_; with_reducible first | assumption | rfl) | omega | decide) | (refine decBT ?_ ?_; with_reducible first | assumption | rfl | exact Bool.not_false) | (refine decBF ?_ ?_; with_reducible first | assumption | rfl | exact Bool.not_true) | refine ⟨_, by assumption, ?_⟩ | refine ⟨_, _, _, rfl, ?_⟩ | refine WC.seq (fun K hK => ?_) | (refine hK _ _ _ ?_; clear hK K) | (refine WX.thenExit (K := K) ?_; clear hK K) | (refine WX.thenExit (K := KL) ?_; clear hL KL)))
  (first | refine WL.boxA rfl rfl ?_ | refine WL.box rfl rfl rfl ?_); intro b1
  (repeat (first | refine vgo ?_ | refine ⟨_, rfl, rfl, ?_⟩ | refine ⟨_, rfl, ?_⟩ | refine ⟨rfl, ?_⟩ | intro hb | (refine altL ?_ ?_; omega) | refine altR ?_ | (refine side ?_ ?_; first | omega | exact True.intro | ((try simp only [List.length_append, List.length_cons, List.length_nil, List.length_map, List.length_replicate, List.length_set, and_true, true_and]); omega) | assumption | (and_intros <;> first | omega | assumption) | decide) | (refine decT ?_ ?_; first | with_reducible assumption | with_reducible rfl | (refine not_not_intro ?_; with_reducible first | assumption | rfl) | omega | decide) | (refine decF ?_ ?_; first | with_reducible assumption | with_reducible rfl | (refine not_not_intro ?_; with_reducible first | assumption | rfl) | omega | decide) | (refine decBT ?_ ?_; with_reducible first | assumption | rfl | exact Bool.not_false) | (refine decBF ?_ ?_; with_reducible first | assumption | rfl | exact Bool.not_true) | refine ⟨_, by assumption, ?_⟩ | refine ⟨_, _, _, rfl, ?_⟩ | refine WC.seq (fun K hK => ?_) | (refine hK _ _ _ ?_; clear hK K) | (refine WX.thenExit (K := K) ?_; clear hK K) | (refine WX.thenExit (K := KL) ?_; clear hL KL)))
  refine CallV.by' (with_fun c d o n h1 h64 hc hn) ?_; rintro _ _ _ ⟨rfl, rfl⟩; (try simp only [List.cons_append]); (try simp only [List.nil_append])
  (repeat (first | refine vgo ?_ | refine ⟨_, rfl, rfl, ?_⟩ | refine ⟨_, rfl, ?_⟩ | refine ⟨rfl, ?_⟩ | intro hb | (refine altL ?_ ?_; omega) | refine altR ?_ | (refine side ?_ ?_; first | omega | exact True.intro | ((try simp only [List.length_append, List.length_cons, List.length_nil, List.length_map, List.length_replicate, List.length_set, and_true, true_and]); omega) | assumption | (and_intros <;> first | omega | assumption) | decide) | (refine decT ?_ ?_; first | with_reducible assumption | with_reducible rfl | (refine not_not_intro ?_; with_reducible first | assumption | rfl) | omega | decide) | (refine decF ?_ ?_; first | with_reducible assumption | with_reducible rfl | (refine not_not_intro ?_; with_reducible first | assumption | rfl) | omega | decide) | (refine decBT ?_ ?_; with_reducible first | assumption | rfl | exact Bool.not_false) | (refine decBF ?_ ?_; with_reducible first | assumption | rfl | exact Bool.not_true) | refine ⟨_, by assumption, ?_⟩ | refine ⟨_, _, _, rfl, ?_⟩ | refine WC.seq (fun K hK => ?_) | (refine hK _ _ _ ?_; clear hK K) | (refine WX.thenExit (K := K) ?_; clear hK K) | (refine WX.thenExit (K := KL) ?_; clear hL KL)))
  exact WX.ret1 rfl rfl (fun w sw => ⟨_, [], ⟨rfl, rfl⟩, sw.to⟩)
theorem awake14_fun : Fun Try.prog 10 [] [] [] (fun r G S => r = .bool true ∧ G = [] ∧ S = []) := by
  have e : trimL (withL [] 2 1) = [0, 1] := trimL_done (by simp [withL])
  refine Fun.enter Try.func10 (by kernel_rfl) rfl Try.ntmps10 rfl (fun B Gf Sf => ?_); (try simp only [List.cons_append]); (try simp only [List.nil_append]); simp only [argEnv]
  refine WC.sat (fun w sw => sw.rdNil (Ty.u64)) ?_
  (repeat (first | refine vgo ?_ | refine ⟨_, rfl, rfl, ?_⟩ | refine ⟨_, rfl, ?_⟩ | refine ⟨rfl, ?_⟩ | intro hb | (refine altL ?_ ?_; omega) | refine altR ?_ | (refine side ?_ ?_; first | omega | exact True.intro | ((try simp only [List.length_append, List.length_cons, List.length_nil, List.length_map, List.length_replicate, List.length_set, and_true, true_and]); omega) | assumption | (and_intros <;> first | omega | assumption) | decide) | (refine decT ?_ ?_; first | with_reducible assumption | with_reducible rfl | (refine not_not_intro ?_; with_reducible first | assumption | rfl) | omega | decide) | (refine decF ?_ ?_; first | with_reducible assumption | with_reducible rfl | (refine not_not_intro ?_; with_reducible first | assumption | rfl) | omega | decide) | (refine decBT ?_ ?_; with_reducible first | assumption | rfl | exact Bool.not_false) | (refine decBF ?_ ?_; with_reducible first | assumption | rfl | exact Bool.not_true) | refine ⟨_, by assumption, ?_⟩ | refine ⟨_, _, _, rfl, ?_⟩ | refine WC.seq (fun K hK => ?_) | (refine hK _ _ _ ?_; clear hK K) | (refine WX.thenExit (K := K) ?_; clear hK K) | (refine WX.thenExit (K := KL) ?_; clear hL KL)))
  refine CallV.by' (oafter_fun 2 1 0 [] (.slice none 0 0) 0 (by decide) (by decide) (by decide) (by decide)) ?_; rintro _ _ _ ⟨rfl, rfl⟩; (try simp only [List.cons_append]); (try simp only [List.nil_append])
  rw [e]
  have g1 : getC [0, 1] 1 = 0 := rfl
  have g2 : getC [0, 1] 2 = 1 := rfl
  (repeat (first | refine vgo ?_ | refine ⟨_, rfl, rfl, ?_⟩ | refine ⟨_, rfl, ?_⟩ | refine ⟨rfl, ?_⟩ | intro hb | (refine altL ?_ ?_; omega) | refine altR ?_ | (refine side ?_ ?_; first | omega | exact True.intro | ((try simp only [List.length_append, List.length_cons, List.length_nil, List.length_map, List.length_replicate, List.length_set, and_true, true_and]); omega) | assumption | (and_intros <;> first | omega | assumption) | decide) | (refine decT ?_ ?_; first | with_reducible assumption | with_reducible rfl | (refine not_not_intro ?_; with_reducible first | assumption | rfl) | omega | decide) | (refine decF ?_ ?_; first | with_reducible assumption | with_reducible rfl | (refine not_not_intro ?_; with_reducible first | assumption | rfl) | omega | decide) | (refine decBT ?_ ?_; with_reducible first | assumption | rfl | exact Bool.not_false) | (refine decBF ?_ ?_; with_reducible first | assumption | rfl | exact Bool.not_true) | refine ⟨_, by assumption, ?_⟩ | refine ⟨_, _, _, rfl, ?_⟩ | refine WC.seq (fun K hK => ?_) | (refine hK _ _ _ ?_; clear hK K) | (refine WX.thenExit (K := K) ?_; clear hK K) | (refine WX.thenExit (K := KL) ?_; clear hL KL)))
  exact WX.ret1 rfl rfl (fun w sw => ⟨[], [], ⟨by rw [g2]; rfl, rfl, rfl⟩, sw.to⟩)
instance awake14_pure {G : List Pers} : PureF Try.prog 10 [] G True (.bool true) := ⟨fun _ => PureF.of0 awake14_fun⟩
def dOf (a : ROp) : OpD := ⟨a.1, a.2.1, a.2.2.1, a.2.2.2.1, a.2.2.2.2.1, a.2.2.2.2.2.1, a.2.2.2.2.2.2.1, a.2.2.2.2.2.2.2.1, a.2.2.2.2.2.2.2.2.1, a.2.2.2.2.2.2.2.2.2.1, a.2.2.2.2.2.2.2.2.2.2⟩
def okD (x : OpD) : Prop := okI x.o ∧ okF x.f ∧ x.ct.length ≤ maxLen ∧ smN upM upM x.F
theorem rop_shape {a : ROp} {v : Value} {m : Hp} (h : (rd rop14T a v).holds m) : ∃ u, v = ropV (dOf a) u ∧ okD (dOf a) ∧ (rd (Ty.sl nodeT) (dOf a).F.ar u).holds m := by
  obtain ⟨o, n, t, f, k, r, c, ck, cn, ct, F⟩ := a
  obtain ⟨x1, y1, rfl, ⟨rfl, h1⟩, x2, y2, rfl, ⟨rfl, _⟩, x3, y3, rfl, ⟨rfl, _⟩, x4, y4, rfl, ⟨rfl, h4⟩, x5, y5, rfl, ⟨rfl, _⟩, x6, y6, rfl, h6, x7, y7, rfl, h7, z, rfl, x8, y8, rfl, ⟨rfl, _⟩, x9, y9, rfl, ⟨rfl, _⟩, x10, y10, rfl, ⟨rfl, h10⟩, zz, rfl, hF, hsm⟩ := h
  obtain ⟨rfl, _⟩ := idT_is h6
  obtain ⟨rfl, _⟩ := idT_is h7
  obtain ⟨sv, rfl, hsv, _⟩ := node_shape hF
  refine ⟨sv, ?_, ⟨h1, h4, h10, hsm⟩, hsv⟩
  simp [Value.cells, idV, dOf]
theorem Sat.rop {B w : World} {G : List Pers} {S : List Res} {a : ROp} {v : Value} (h : Sat B G S w) (hm : Qd.rd rop14T a v ∈ G) : ∃ u, v = ropV (dOf a) u ∧ okD (dOf a) :=
  h.pure fun m hg => by
    obtain ⟨u, h1, h2, _⟩ := rop_shape (hg _ hm)
    exact ⟨u, h1, h2⟩
theorem Sat.ropK {B w : World} {G : List Pers} {S : List Res} {a : ROp} {u : Value} (h : Sat B G S w) (hm : Qd.rd rop14T a (ropV (dOf a) u) ∈ G) : Sat B (Qd.rd (Ty.sl nodeT) (dOf a).F.ar u :: G) S w :=
  h.more fun m hg => by
    obtain ⟨u', h1, _, h2⟩ := rop_shape (hg _ hm)
    have h3 := List.toArray_inj (Value.agg.inj h1)
    simp only [List.cons.injEq, true_and, List.append_cancel_left_eq, and_true] at h3
    rw [h3]; exact h2
end Go.Qd
