/-
  The program's look at a formula's leaves.
-/
import Derived.Test.YthkeakecckiokaaGreatPTk3
import Derived.Test.YthkeakecckiokaaGreatQRangeE
namespace Go.Qd
/-! ### The program's look at a formula's leaves. -/
section
open Go Go.Proofs
theorem r11_fun {M D : Nat} (hM : M ≤ upM) (a : Nd) (u : Value) (hs : smN M D a) : Fun Tryz.prog 78 [ndV a.k a.n a.s a.f a.t u] [rd (Ty.sl nodeT) a.ar u] [] (fun z G S => z = .bool (decide (tRd 64 a ∧ stD 64 a)) ∧ G = [] ∧ S = []) := by
  by_cases ht : tRd 64 a
  · refine (rr11_fun hM 64 (Nat.le_refl _) a u ht hs).imp fun z G S h => ⟨?_, h.2⟩
    rw [h.1, show decide (tRd 64 a ∧ stD 64 a) = decide (stD 64 a) from decide_eq_decide.2 ⟨fun h => h.2, fun h => ⟨ht, h⟩⟩]
  · have e : decide (tRd 64 a ∧ stD 64 a) = false := decide_eq_false fun h => ht h.1
    have hsl : a.s.length ≤ maxLen := by
      cases D with
      | zero => exact hs.elim
      | succ D => exact hs.1.2.2.1
    refine Fun.enter Tryz.func78 (by kernel_rfl) rfl Tryz.ntmps78 rfl (fun B Gf Sf => ?_); (try simp only [List.cons_append]); (try simp only [List.nil_append]); simp only [argEnv]
    refine WC.ex (fun w sw => sw.slOne (v := u) RdSl.h) (fun hu1 => ?_)
    refine WC.ex (fun w sw => sw.len_le (RdSl.h (v := u))) (fun hlu => ?_)
    (repeat (first | refine vgo ?_ | refine ⟨_, rfl, rfl, ?_⟩ | refine ⟨_, rfl, ?_⟩ | refine ⟨rfl, ?_⟩ | intro hb | refine go2 ?_ | refine WC.seq (fun K hK => ?_) | ((first | refine hK _ _ _ ?_ | refine hK _ _ _ _ rfl ?_ | refine WX.thenExit (K := K) ?_); clear hK K) | (refine WX.thenExit (K := KL) ?_; clear hL KL)))
    (first | refine WL.boxA rfl rfl ?_ | refine WL.box rfl rfl rfl ?_); intro b1
    (repeat (first | refine vgo ?_ | refine ⟨_, rfl, rfl, ?_⟩ | refine ⟨_, rfl, ?_⟩ | refine ⟨rfl, ?_⟩ | intro hb | refine go2 ?_ | refine WC.seq (fun K hK => ?_) | ((first | refine hK _ _ _ ?_ | refine hK _ _ _ _ rfl ?_ | refine WX.thenExit (K := K) ?_); clear hK K) | (refine WX.thenExit (K := KL) ?_; clear hL KL)))
    refine CallV.by' (shape_fun D hM a hs u) ?_; rintro _ _ _ ⟨s', rfl, rfl, rfl⟩; (try simp only [List.cons_append]); (try simp only [List.nil_append])
    (repeat (first | refine vgo ?_ | refine ⟨_, rfl, rfl, ?_⟩ | refine ⟨_, rfl, ?_⟩ | refine ⟨rfl, ?_⟩ | intro hb | refine go2 ?_ | refine WC.seq (fun K hK => ?_) | ((first | refine hK _ _ _ ?_ | refine hK _ _ _ _ rfl ?_ | refine WX.thenExit (K := K) ?_); clear hK K) | (refine WX.thenExit (K := KL) ?_; clear hL KL)))
    refine CallV.by' (rright9_fun 64 (by omega) a s' hsl) ?_; rintro _ _ _ ⟨rfl, rfl, rfl⟩; (try simp only [List.cons_append]); (try simp only [List.nil_append])
    rw [decide_eq_false ht]
    (repeat (first | refine vgo ?_ | refine ⟨_, rfl, rfl, ?_⟩ | refine ⟨_, rfl, ?_⟩ | refine ⟨rfl, ?_⟩ | intro hb | refine go2 ?_ | refine WC.seq (fun K hK => ?_) | ((first | refine hK _ _ _ ?_ | refine hK _ _ _ _ rfl ?_ | refine WX.thenExit (K := K) ?_); clear hK K) | (refine WX.thenExit (K := KL) ?_; clear hL KL)))
    exact WX.ret1 rfl rfl (fun w sw => ⟨[], [], ⟨by rw [e], rfl, rfl⟩, sw.to⟩)
section
variable {P : Program} {B : Base} {G : List Pers} {S : List Res}
theorem load1K {b : Nat} {E T : TypeId} {cs : List Value} {v : Value} {S' : List Res} [hm : SelBox b S E cs S'] [hT : TA P T false] (hv : cs[0]? = some v) : ∀ w, Sat B G S w → (loadVar T ⟨b, 0, none⟩).run P w = .ok v w := fun w sw =>
  run_loadVar_plain w hT.h (by rw [sw.box_cell hm.h]; exact hv)
end
section
variable {P : Program} {n : Nat} {B : Base} {env : Env} {G : List Pers} {S : List Res} {fn : Func} {F : Value → World → Prop} [hClean : Clean B]
theorem WX.ret1K {t : Nat} {T : TypeId} {a : Addr} {v : Value} (hr : fn.results = #[.cell t T]) (h1 : env.get t = some (.pointer (some a))) (l1 : ∀ w, Sat B G S w → (loadVar T a).run P w = .ok v w) (h : ∀ w, Sat B G S w → F v w) : WX n (FPost P fn F) .ret B env G S := by
  refine ⟨fun ac w sa sw => ?_⟩
  refine FEnd.clean (sa.defers.trans hClean.h) ⟨v, ?_, _, rfl, h w sw⟩
  have g1 := sa.get _ _ h1
  have e1 := l1 w sw
  simp [results, hr, g1, e1, asAddr]
end
/-! ### Leaves -/
theorem CallFV.yieldE {P : Program} {n : Nat} {Q : Exit → Act → World → Prop} {B : Base} {env : Env} {G Gy : List Pers} {S S0 : List Res} {L rest : List Oper} {d l N k : Nat} {E : Nat → List Value → Prop} {J Jx : Nat → Res} {vs : List Value} (hy : YieldOkE P Gy l N E J Jx) (hk : k < N) (he : E k vs) (hG : ∀ g ∈ Gy, g ∈ G) (hS : Sel S (J k) S0)
    (ht : WL P n L Q rest B ((d, .bool true) :: env) G (J (k + 1) :: S0)) (hf : WL P n L Q rest B ((d, .bool false) :: env) G (Jx k :: S0)) : CallFV P n L Q rest B env G S d (yieldV l) vs :=
  ⟨fun _ _ _ _ _ _ h1 h2 h3 => WL.yieldE hy hk h2 h1 he hG hS h3 ht hf⟩
def leafP (a : Nd) : Prop := a.k = 3 ∨ a.k = 4 ∨ a.k = 8
instance (a : Nd) : Decidable (leafP a) := inferInstanceAs (Decidable (_ ∨ _))
def lvD : Nat → Nd → List Nd
  | 0, _ => []
  | d + 1, a => if leafP a then [a] else a.ar.flatMap (lvD d)
theorem stD_leaves : ∀ (d : Nat) (a : Nd), tRd d a → (stD d a ↔ ∀ x ∈ lvD d a, okF9 x)
  | 0, _, h => h.elim
  | d + 1, a, h => by
    rw [stD, lvD]
    by_cases hl : leafP a
    · rw [if_pos hl]
      have h0 : a.ar = [] := by
        have h2 := h.2.1.2
        unfold hiP at h2
        have : a.ar.length = 0 := by
          rcases hl with h | h | h <;> rw [h] at h2 <;> simp at h2 <;> rw [h2] <;> rfl
        exact List.eq_nil_of_length_eq_zero this
      rw [h0]
      simp
    · rw [if_neg hl]
      have hk : okF9 a := ⟨fun q => absurd q (fun q => hl (q.elim .inl (fun q => .inr (.inl q)))), fun q => absurd q (fun q => hl (.inr (.inl q)))⟩
      constructor
      · rintro ⟨_, hx⟩ y hy
        obtain ⟨x, hx1, hx2⟩ := List.mem_flatMap.1 hy
        exact (stD_leaves d x (h.2.2.2 x hx1)).1 (hx x hx1) y hx2
      · intro hy
        exact ⟨hk, fun x hx => (stD_leaves d x (h.2.2.2 x hx)).2 fun y hy2 => hy y (List.mem_flatMap.2 ⟨x, hx, hy2⟩)⟩
def leafE (l : List Nd) (k : Nat) (args : List Value) : Prop := ∃ x p m c, l[k]? = some x ∧ args = [ndV x.k x.n x.s x.f x.t (.slice p m c)]
set_option maxRecDepth 100000 in
set_option maxHeartbeats 1600000 in
theorem leaves_it {M : Nat} (d : Nat) (a : Nd) (ha : smN M d a) (u : Value) (o N : Nat) (l : List Nd) {Gy : List Pers} (y : Nat) (J Jx : Nat → Res) (hy : YieldOkE Tryz.prog Gy y N (leafE l) J Jx) (hl : ∀ k x, (lvD d a)[k]? = some x → l[o + k]? = some x ∧ o + k < N) :
    Fun Tryz.prog 97 [ndV a.k a.n a.s a.f a.t u, yieldV y] (rd (Ty.sl nodeT) a.ar u :: Gy) [J o] (fun z G S => G = [] ∧ ((z = .bool true ∧ S = [J (o + (lvD d a).length)]) ∨ (z = .bool false ∧ ∃ k, k < N ∧ S = [Jx k]))) := by
  obtain ⟨d, rfl⟩ : ∃ e, d = e + 1 := by
    cases d with
    | zero => exact ha.elim
    | succ e => exact ⟨e, rfl⟩
  refine Fun.enter Tryz.func97 (by kernel_rfl) rfl Tryz.ntmps97 rfl (fun B Gf Sf => ?_); (try simp only [List.cons_append]); (try simp only [List.nil_append]); simp only [argEnv]
  refine WC.ex (fun w sw => sw.slOne (v := u) RdSl.h) (fun hu1 => ?_)
  refine WC.ex (fun w sw => sw.sl_shape (v := u) (.head _)) (fun hu => ?_)
  obtain ⟨pu, cu, hu, _⟩ := hu
  refine WC.ex (fun w sw => sw.len_le (RdSl.h (v := u))) (fun hlu => ?_)
  (repeat (first | refine vgo ?_ | refine ⟨_, rfl, rfl, ?_⟩ | refine ⟨_, rfl, ?_⟩ | refine ⟨rfl, ?_⟩ | intro hb | refine go2 ?_ | refine WC.seq (fun K hK => ?_) | ((first | refine hK _ _ _ ?_ | refine hK _ _ _ _ rfl ?_ | refine WX.thenExit (K := K) ?_); clear hK K) | (refine WX.thenExit (K := KL) ?_; clear hL KL)))
  (first | refine WL.boxA rfl rfl ?_ | refine WL.box rfl rfl rfl ?_); intro b1
  by_cases hlf : leafP a
  · have e : lvD (d + 1) a = [a] := by rw [lvD, if_pos hlf]
    rw [e] at hl ⊢
    obtain ⟨hlo, hoN⟩ := hl 0 a rfl
    rw [Nat.add_zero] at hlo hoN
    rcases hlf with k3 | k3 | k3
    · (repeat (first | refine vgo ?_ | refine ⟨_, rfl, rfl, ?_⟩ | refine ⟨_, rfl, ?_⟩ | refine ⟨rfl, ?_⟩ | intro hb | refine go2 ?_ | refine WC.seq (fun K hK => ?_) | ((first | refine hK _ _ _ ?_ | refine hK _ _ _ _ rfl ?_ | refine WX.thenExit (K := K) ?_); clear hK K) | (refine WX.thenExit (K := KL) ?_; clear hL KL)))
      refine CallFV.yieldE hy hoN ⟨a, pu, a.ar.length, cu, hlo, by rw [hu]⟩ (fun g hg => .tail _ (List.mem_append_left _ hg)) SelC.h ?_ ?_
      · (repeat (first | refine vgo ?_ | refine ⟨_, rfl, rfl, ?_⟩ | refine ⟨_, rfl, ?_⟩ | refine ⟨rfl, ?_⟩ | intro hb | refine go2 ?_ | refine WC.seq (fun K hK => ?_) | ((first | refine hK _ _ _ ?_ | refine hK _ _ _ _ rfl ?_ | refine WX.thenExit (K := K) ?_); clear hK K) | (refine WX.thenExit (K := KL) ?_; clear hL KL)))
        exact WX.ret1 rfl rfl (fun w sw => ⟨[], [J (o + 1)], ⟨rfl, .inl ⟨rfl, by rw [e]; rfl⟩⟩, sw.to⟩)
      · (repeat (first | refine vgo ?_ | refine ⟨_, rfl, rfl, ?_⟩ | refine ⟨_, rfl, ?_⟩ | refine ⟨rfl, ?_⟩ | intro hb | refine go2 ?_ | refine WC.seq (fun K hK => ?_) | ((first | refine hK _ _ _ ?_ | refine hK _ _ _ _ rfl ?_ | refine WX.thenExit (K := K) ?_); clear hK K) | (refine WX.thenExit (K := KL) ?_; clear hL KL)))
        exact WX.ret1 rfl rfl (fun w sw => ⟨[], [Jx o], ⟨rfl, .inr ⟨rfl, o, hoN, rfl⟩⟩, sw.to⟩)
    · (repeat (first | refine vgo ?_ | refine ⟨_, rfl, rfl, ?_⟩ | refine ⟨_, rfl, ?_⟩ | refine ⟨rfl, ?_⟩ | intro hb | refine go2 ?_ | refine WC.seq (fun K hK => ?_) | ((first | refine hK _ _ _ ?_ | refine hK _ _ _ _ rfl ?_ | refine WX.thenExit (K := K) ?_); clear hK K) | (refine WX.thenExit (K := KL) ?_; clear hL KL)))
      refine CallFV.yieldE hy hoN ⟨a, pu, a.ar.length, cu, hlo, by rw [hu]⟩ (fun g hg => .tail _ (List.mem_append_left _ hg)) SelC.h ?_ ?_
      · (repeat (first | refine vgo ?_ | refine ⟨_, rfl, rfl, ?_⟩ | refine ⟨_, rfl, ?_⟩ | refine ⟨rfl, ?_⟩ | intro hb | refine go2 ?_ | refine WC.seq (fun K hK => ?_) | ((first | refine hK _ _ _ ?_ | refine hK _ _ _ _ rfl ?_ | refine WX.thenExit (K := K) ?_); clear hK K) | (refine WX.thenExit (K := KL) ?_; clear hL KL)))
        exact WX.ret1 rfl rfl (fun w sw => ⟨[], [J (o + 1)], ⟨rfl, .inl ⟨rfl, by rw [e]; rfl⟩⟩, sw.to⟩)
      · (repeat (first | refine vgo ?_ | refine ⟨_, rfl, rfl, ?_⟩ | refine ⟨_, rfl, ?_⟩ | refine ⟨rfl, ?_⟩ | intro hb | refine go2 ?_ | refine WC.seq (fun K hK => ?_) | ((first | refine hK _ _ _ ?_ | refine hK _ _ _ _ rfl ?_ | refine WX.thenExit (K := K) ?_); clear hK K) | (refine WX.thenExit (K := KL) ?_; clear hL KL)))
        exact WX.ret1 rfl rfl (fun w sw => ⟨[], [Jx o], ⟨rfl, .inr ⟨rfl, o, hoN, rfl⟩⟩, sw.to⟩)
    · (repeat (first | refine vgo ?_ | refine ⟨_, rfl, rfl, ?_⟩ | refine ⟨_, rfl, ?_⟩ | refine ⟨rfl, ?_⟩ | intro hb | refine go2 ?_ | refine WC.seq (fun K hK => ?_) | ((first | refine hK _ _ _ ?_ | refine hK _ _ _ _ rfl ?_ | refine WX.thenExit (K := K) ?_); clear hK K) | (refine WX.thenExit (K := KL) ?_; clear hL KL)))
      refine CallFV.yieldE hy hoN ⟨a, pu, a.ar.length, cu, hlo, by rw [hu]⟩ (fun g hg => .tail _ (List.mem_append_left _ hg)) SelC.h ?_ ?_
      · (repeat (first | refine vgo ?_ | refine ⟨_, rfl, rfl, ?_⟩ | refine ⟨_, rfl, ?_⟩ | refine ⟨rfl, ?_⟩ | intro hb | refine go2 ?_ | refine WC.seq (fun K hK => ?_) | ((first | refine hK _ _ _ ?_ | refine hK _ _ _ _ rfl ?_ | refine WX.thenExit (K := K) ?_); clear hK K) | (refine WX.thenExit (K := KL) ?_; clear hL KL)))
        exact WX.ret1 rfl rfl (fun w sw => ⟨[], [J (o + 1)], ⟨rfl, .inl ⟨rfl, by rw [e]; rfl⟩⟩, sw.to⟩)
      · (repeat (first | refine vgo ?_ | refine ⟨_, rfl, rfl, ?_⟩ | refine ⟨_, rfl, ?_⟩ | refine ⟨rfl, ?_⟩ | intro hb | refine go2 ?_ | refine WC.seq (fun K hK => ?_) | ((first | refine hK _ _ _ ?_ | refine hK _ _ _ _ rfl ?_ | refine WX.thenExit (K := K) ?_); clear hK K) | (refine WX.thenExit (K := KL) ?_; clear hL KL)))
        exact WX.ret1 rfl rfl (fun w sw => ⟨[], [Jx o], ⟨rfl, .inr ⟨rfl, o, hoN, rfl⟩⟩, sw.to⟩)
  · have e : lvD (d + 1) a = a.ar.flatMap (lvD d) := by rw [lvD, if_neg hlf]
    rw [e] at hl
    have k3 : ¬ a.k = 3 := fun h => hlf (.inl h)
    have k4 : ¬ a.k = 4 := fun h => hlf (.inr (.inl h))
    have k8 : ¬ a.k = 8 := fun h => hlf (.inr (.inr h))
    (repeat (first | refine vgo ?_ | refine ⟨_, rfl, rfl, ?_⟩ | refine ⟨_, rfl, ?_⟩ | refine ⟨rfl, ?_⟩ | intro hb | refine go2 ?_ | refine WC.seq (fun K hK => ?_) | ((first | refine hK _ _ _ ?_ | refine hK _ _ _ _ rfl ?_ | refine WX.thenExit (K := K) ?_); clear hK K) | (refine WX.thenExit (K := KL) ?_; clear hL KL)))
    refine WC.loop (I := Nat) (fun i => [(1, yieldV y), (24, u), (25, .int .i64 (a.ar.length : Nat)), (26, .int .i64 (i : Nat))]) (fun _ => rd (Ty.sl nodeT) a.ar u :: (Gy ++ Gf)) (fun i => J (o + ((a.ar.take i).flatMap (lvD d)).length) :: Sf) (fun i => i ≤ a.ar.length) (fun i => a.ar.length - i) 0 (Nat.zero_le _) (.cons rfl (.cons rfl (.cons rfl (.cons rfl .nil)))) (fun w h => (show Sat B _ (J o :: Sf) w from h.to)) ?_
    rintro i hi KL hL
    by_cases g : i < a.ar.length
    · obtain ⟨x, hx⟩ : ∃ x, a.ar[i]? = some x := ⟨_, List.getElem?_eq_getElem g⟩
      have htk : a.ar.take (i + 1) = a.ar.take i ++ [x] := by rw [List.take_add_one, hx]; rfl
      have hsp : a.ar.flatMap (lvD d) = (a.ar.take i).flatMap (lvD d) ++ (lvD d x ++ (a.ar.drop (i + 1)).flatMap (lvD d)) := by
        have hxg : a.ar[i] = x := (List.getElem?_eq_some_iff.1 hx).2
        have h1 : a.ar = a.ar.take i ++ x :: a.ar.drop (i + 1) := by rw [← hxg, ← List.drop_eq_getElem_cons g, List.take_append_drop]
        conv => lhs; rw [h1]
        rw [List.flatMap_append, List.flatMap_cons]
      have hlen2 : ((a.ar.take (i + 1)).flatMap (lvD d)).length = ((a.ar.take i).flatMap (lvD d)).length + (lvD d x).length := by rw [htk, List.flatMap_append, List.length_append]; simp
      generalize hO : ((a.ar.take i).flatMap (lvD d)).length = O at *
      have ih := fun v => leaves_it (M := M) d x (ha.2.2 x (List.mem_of_getElem? hx)) v (o + O) N l y J Jx hy (fun k z hk => by
        have hkl := (List.getElem?_eq_some_iff.1 hk).1
        have := hl (O + k) z (by
          rw [hsp, List.getElem?_append_right (by omega), hO, Nat.add_sub_cancel_left, List.getElem?_append_left hkl]; exact hk)
        rw [← Nat.add_assoc] at this
        exact this)
      (repeat (first | refine vgo ?_ | refine ⟨_, rfl, rfl, ?_⟩ | refine ⟨_, rfl, ?_⟩ | refine ⟨rfl, ?_⟩ | intro hb | refine go2 ?_ | refine WC.seq (fun K hK => ?_) | ((first | refine hK _ _ _ ?_ | refine hK _ _ _ _ rfl ?_ | refine WX.thenExit (K := K) ?_); clear hK K) | (refine WX.thenExit (K := KL) ?_; clear hL KL)))
      refine WL.ex (fun w sw => sw.node (a := x) (v := hb) Rd.h) (fun hsx => ?_)
      obtain ⟨sx, rfl, hxs⟩ := hsx
      refine WL.sat (fun w sw => sw.nodeK (a := x) (sv := sx) Rd.h) ?_
      refine WL.alloc rfl ?_; intro bx
      (repeat (first | refine vgo ?_ | refine ⟨_, rfl, rfl, ?_⟩ | refine ⟨_, rfl, ?_⟩ | refine ⟨rfl, ?_⟩ | intro hb | refine go2 ?_ | refine WC.seq (fun K hK => ?_) | ((first | refine hK _ _ _ ?_ | refine hK _ _ _ _ rfl ?_ | refine WX.thenExit (K := K) ?_); clear hK K) | (refine WX.thenExit (K := KL) ?_; clear hL KL)))
      refine CallV.by (ih sx) (fun g hg => by
        rcases List.mem_cons.1 hg with rfl | hg
        · exact .head _
        · exact .tail _ (.tail _ (.tail _ (List.mem_append_left _ hg)))) (.cons SelC.h .nil) ?_
      rintro _ _ _ ⟨rfl, ⟨rfl, rfl⟩ | ⟨rfl, k, hk, rfl⟩⟩
      · simp only [List.cons_append, List.nil_append]
        (repeat (first | refine vgo ?_ | refine ⟨_, rfl, rfl, ?_⟩ | refine ⟨_, rfl, ?_⟩ | refine ⟨rfl, ?_⟩ | intro hb | refine go2 ?_ | refine WC.seq (fun K hK => ?_) | ((first | refine hK _ _ _ ?_ | refine hK _ _ _ _ rfl ?_ | refine WX.thenExit (K := K) ?_); clear hK K) | (refine WX.thenExit (K := KL) ?_; clear hL KL)))
        exact (hL (i + 1) g (by omega)).conv (.cons rfl (.cons rfl (.cons rfl (.cons rfl .nil)))) (fun w h => by
          rw [hlen2, ← Nat.add_assoc]
          exact h.to)
      · simp only [List.cons_append, List.nil_append]
        (repeat (first | refine vgo ?_ | refine ⟨_, rfl, rfl, ?_⟩ | refine ⟨_, rfl, ?_⟩ | refine ⟨rfl, ?_⟩ | intro hb | refine go2 ?_ | refine WC.seq (fun K hK => ?_) | ((first | refine hK _ _ _ ?_ | refine hK _ _ _ _ rfl ?_ | refine WX.thenExit (K := K) ?_); clear hK K) | (refine WX.thenExit (K := KL) ?_; clear hL KL)))
        exact WX.ret1 rfl rfl (fun w sw => ⟨[], [Jx k], ⟨rfl, .inr ⟨rfl, k, hk, rfl⟩⟩, sw.to⟩)
    · obtain rfl : i = a.ar.length := by omega
      (repeat (first | refine vgo ?_ | refine ⟨_, rfl, rfl, ?_⟩ | refine ⟨_, rfl, ?_⟩ | refine ⟨rfl, ?_⟩ | intro hb | refine go2 ?_ | refine WC.seq (fun K hK => ?_) | ((first | refine hK _ _ _ ?_ | refine hK _ _ _ _ rfl ?_ | refine WX.thenExit (K := K) ?_); clear hK K) | (refine WX.thenExit (K := KL) ?_; clear hL KL)))
      refine WX.ret1 rfl rfl (fun w sw => ⟨[], [J (o + (a.ar.flatMap (lvD d)).length)], ⟨rfl, .inl ⟨rfl, by rw [e]⟩⟩, ?_⟩)
      rw [List.take_length] at sw
      exact sw.to
abbrev ndB (c : Nat) (a : Nd) (u : Value) : Res := box c 58 (ndC a.k a.n a.s a.f a.t u)
theorem leavesF_fun (a : Nd) (u : Value) : Fun Tryz.prog 87 [ndV a.k a.n a.s a.f a.t u] [rd (Ty.sl nodeT) a.ar u] [] (fun z G S => ∃ c, z = .func (.func 96) #[] (List.toArray [.pointer (some ⟨c, 0, none⟩)]) ∧ G = [] ∧ S = [ndB c a u]) := by
  refine Fun.enter Tryz.func87 (by kernel_rfl) rfl Tryz.ntmps87 rfl (fun B Gf Sf => ?_); (try simp only [List.cons_append]); (try simp only [List.nil_append]); simp only [argEnv]
  refine WC.ex (fun w sw => sw.slOne (v := u) RdSl.h) (fun hu1 => ?_)
  (repeat (first | refine vgo ?_ | refine ⟨_, rfl, rfl, ?_⟩ | refine ⟨_, rfl, ?_⟩ | refine ⟨rfl, ?_⟩ | intro hb | refine go2 ?_ | refine WC.seq (fun K hK => ?_) | ((first | refine hK _ _ _ ?_ | refine hK _ _ _ _ rfl ?_ | refine WX.thenExit (K := K) ?_); clear hK K) | (refine WX.thenExit (K := KL) ?_; clear hL KL)))
  (first | refine WL.boxA rfl rfl ?_ | refine WL.box rfl rfl rfl ?_); intro b1
  (repeat (first | refine vgo ?_ | refine ⟨_, rfl, rfl, ?_⟩ | refine ⟨_, rfl, ?_⟩ | refine ⟨rfl, ?_⟩ | intro hb | refine go2 ?_ | refine WC.seq (fun K hK => ?_) | ((first | refine hK _ _ _ ?_ | refine hK _ _ _ _ rfl ?_ | refine WX.thenExit (K := K) ?_); clear hK K) | (refine WX.thenExit (K := KL) ?_; clear hL KL)))
  exact WX.ret1 rfl rfl (fun w sw => ⟨[], [ndB b1 a u], ⟨b1, rfl, rfl, rfl⟩, sw.to⟩)
theorem leaves1_it {M : Nat} (d : Nat) (a : Nd) (ha : smN M d a) (u : Value) (c : Nat) {Gy : List Pers} (y : Nat) (J Jx : Nat → Res) (hy : YieldOkE Tryz.prog Gy y (lvD d a).length (leafE (lvD d a)) J Jx) :
    Fun Tryz.prog 96 [yieldV y, .pointer (some ⟨c, 0, none⟩)] (rd (Ty.sl nodeT) a.ar u :: Gy) (J 0 :: [ndB c a u]) (IterR (lvD d a).length J Jx [ndB c a u]) := by
  refine Fun.enter Tryz.func96 (by kernel_rfl) rfl Tryz.ntmps96 rfl (fun B Gf Sf => ?_); (try simp only [List.cons_append]); (try simp only [List.nil_append]); simp only [argEnv]
  (repeat (first | refine vgo ?_ | refine ⟨_, rfl, rfl, ?_⟩ | refine ⟨_, rfl, ?_⟩ | refine ⟨rfl, ?_⟩ | intro hb | refine go2 ?_ | refine WC.seq (fun K hK => ?_) | ((first | refine hK _ _ _ ?_ | refine hK _ _ _ _ rfl ?_ | refine WX.thenExit (K := K) ?_); clear hK K) | (refine WX.thenExit (K := KL) ?_; clear hL KL)))
  refine CallV.by (leaves_it d a ha u 0 (lvD d a).length (lvD d a) y J Jx hy (fun k x h => ⟨by rw [Nat.zero_add]; exact h, by rw [Nat.zero_add]; exact (List.getElem?_eq_some_iff.1 h).1⟩)) (fun g hg => by
    rcases List.mem_cons.1 hg with rfl | hg
    · exact .head _
    · exact .tail _ (List.mem_append_left _ hg)) (.cons SelC.h .nil) ?_
  rintro _ _ _ ⟨rfl, ⟨rfl, rfl⟩ | ⟨rfl, k, hk, rfl⟩⟩
  · simp only [List.cons_append, List.nil_append]
    (repeat (first | refine vgo ?_ | refine ⟨_, rfl, rfl, ?_⟩ | refine ⟨_, rfl, ?_⟩ | refine ⟨rfl, ?_⟩ | intro hb | refine go2 ?_ | refine WC.seq (fun K hK => ?_) | ((first | refine hK _ _ _ ?_ | refine hK _ _ _ _ rfl ?_ | refine WX.thenExit (K := K) ?_); clear hK K) | (refine WX.thenExit (K := KL) ?_; clear hL KL)))
    refine WX.end0 rfl (fun w sw => ⟨[], [J (lvD d a).length, ndB c a u], ⟨rfl, .inl rfl⟩, ?_⟩)
    rw [Nat.zero_add] at sw
    exact sw.to
  · simp only [List.cons_append, List.nil_append]
    (repeat (first | refine vgo ?_ | refine ⟨_, rfl, rfl, ?_⟩ | refine ⟨_, rfl, ?_⟩ | refine ⟨rfl, ?_⟩ | intro hb | refine go2 ?_ | refine WC.seq (fun K hK => ?_) | ((first | refine hK _ _ _ ?_ | refine hK _ _ _ _ rfl ?_ | refine WX.thenExit (K := K) ?_); clear hK K) | (refine WX.thenExit (K := KL) ?_; clear hL KL)))
    exact WX.end0 rfl (fun w sw => ⟨[], [Jx k, ndB c a u], ⟨rfl, .inr ⟨k, hk, rfl⟩⟩, sw.to⟩)
theorem named_fun (f : Ref2) : Fun Tryz.prog 88 [.agg #[.int .u64 (f.1.1 : Nat), .int .i64 f.1.2, .int .u64 (f.2.1 : Nat), .int .i64 f.2.2]] [] [] (fun z G S => z = .bool (decide (R2 f)) ∧ G = [] ∧ S = []) := by
  refine Fun.enter Tryz.func88 (by kernel_rfl) rfl Tryz.ntmps88 rfl (fun B Gf Sf => ?_); (try simp only [List.cons_append]); (try simp only [List.nil_append]); simp only [argEnv]
  (repeat (first | refine vgo ?_ | refine ⟨_, rfl, rfl, ?_⟩ | refine ⟨_, rfl, ?_⟩ | refine ⟨rfl, ?_⟩ | intro hb | refine go2 ?_ | refine WC.seq (fun K hK => ?_) | ((first | refine hK _ _ _ ?_ | refine hK _ _ _ _ rfl ?_ | refine WX.thenExit (K := K) ?_); clear hK K) | (refine WX.thenExit (K := KL) ?_; clear hL KL)))
  (first | refine WL.boxA rfl rfl ?_ | refine WL.box rfl rfl rfl ?_); intro b1
  by_cases r1 : idRight (f.1.1, f.1.2)
  · have e : decide (idRight (f.2.1, f.2.2)) = decide (R2 f) := decide_eq_decide.2 ⟨fun h => ⟨r1, h⟩, fun h => h.2⟩
    (repeat (first | refine vgo ?_ | refine ⟨_, rfl, rfl, ?_⟩ | refine ⟨_, rfl, ?_⟩ | refine ⟨rfl, ?_⟩ | intro hb | refine go2 ?_ | refine WC.seq (fun K hK => ?_) | ((first | refine hK _ _ _ ?_ | refine hK _ _ _ _ rfl ?_ | refine WX.thenExit (K := K) ?_); clear hK K) | (refine WX.thenExit (K := KL) ?_; clear hL KL)))
    exact WX.ret1 rfl rfl (fun w sw => ⟨[], [], ⟨by rw [← e], rfl, rfl⟩, sw.to⟩)
  · have e : decide (R2 f) = false := decide_eq_false fun h => r1 h.1
    (repeat (first | refine vgo ?_ | refine ⟨_, rfl, rfl, ?_⟩ | refine ⟨_, rfl, ?_⟩ | refine ⟨rfl, ?_⟩ | intro hb | refine go2 ?_ | refine WC.seq (fun K hK => ?_) | ((first | refine hK _ _ _ ?_ | refine hK _ _ _ _ rfl ?_ | refine WX.thenExit (K := K) ?_); clear hK K) | (refine WX.thenExit (K := KL) ?_; clear hL KL)))
    exact WX.ret1 rfl rfl (fun w sw => ⟨[], [], ⟨by rw [e], rfl, rfl⟩, sw.to⟩)
instance named_pure {G : List Pers} {t1 t2 : Nat} {r1 r2 : Int} : PureF Tryz.prog 88 [.agg #[.int .u64 (t1 : Int), .int .i64 r1, .int .u64 (t2 : Int), .int .i64 r2]] G True (.bool (decide (R2 ((t1, r1), (t2, r2))))) := ⟨fun _ => PureF.of0 (named_fun ((t1, r1), (t2, r2)))⟩
set_option maxRecDepth 100000 in
set_option maxHeartbeats 1600000 in
theorem stamped_fun {M : Nat} (d : Nat) (a : Nd) (ha : smN M d a) (u : Value) : Fun Tryz.prog 74 [ndV a.k a.n a.s a.f a.t u] [rd (Ty.sl nodeT) a.ar u] [] (fun z G S => z = .bool (decide (∀ x ∈ lvD d a, okF9 x)) ∧ G = [] ∧ S = []) := by
  refine Fun.enter Tryz.func74 (by kernel_rfl) rfl Tryz.ntmps74 rfl (fun B Gf Sf => ?_); (try simp only [List.cons_append]); (try simp only [List.nil_append]); simp only [argEnv]
  refine WC.ex (fun w sw => sw.slOne (v := u) RdSl.h) (fun hu1 => ?_)
  (repeat (first | refine vgo ?_ | refine ⟨_, rfl, rfl, ?_⟩ | refine ⟨_, rfl, ?_⟩ | refine ⟨rfl, ?_⟩ | intro hb | refine go2 ?_ | refine WC.seqM (fun K hK => ?_) | ((first | refine hK _ _ _ ?_ | refine hK _ _ _ _ rfl ?_ | refine WX.thenExit (K := K) ?_); clear hK K) | (refine WX.thenExit (K := KL) ?_; clear hL KL)))
  (first | refine WL.boxA rfl rfl ?_ | refine WL.box rfl rfl rfl ?_); intro b1
  (repeat (first | refine vgo ?_ | refine ⟨_, rfl, rfl, ?_⟩ | refine ⟨_, rfl, ?_⟩ | refine ⟨rfl, ?_⟩ | intro hb | refine go2 ?_ | refine WC.seqM (fun K hK => ?_) | ((first | refine hK _ _ _ ?_ | refine hK _ _ _ _ rfl ?_ | refine WX.thenExit (K := K) ?_); clear hK K) | (refine WX.thenExit (K := KL) ?_; clear hL KL)))
  refine WL.alloc rfl ?_; intro b2
  (repeat (first | refine vgo ?_ | refine ⟨_, rfl, rfl, ?_⟩ | refine ⟨_, rfl, ?_⟩ | refine ⟨rfl, ?_⟩ | intro hb | refine go2 ?_ | refine WC.seqM (fun K hK => ?_) | ((first | refine hK _ _ _ ?_ | refine hK _ _ _ _ rfl ?_ | refine WX.thenExit (K := K) ?_); clear hK K) | (refine WX.thenExit (K := KL) ?_; clear hL KL)))
  refine CallV.by' (leavesF_fun a u) ?_; rintro _ _ _ ⟨c, rfl, rfl, rfl⟩; (try simp only [List.cons_append]); (try simp only [List.nil_append])
  (repeat (first | refine vgo ?_ | refine ⟨_, rfl, rfl, ?_⟩ | refine ⟨_, rfl, ?_⟩ | refine ⟨rfl, ?_⟩ | intro hb | refine go2 ?_ | refine WC.seqM (fun K hK => ?_) | ((first | refine hK _ _ _ ?_ | refine hK _ _ _ _ rfl ?_ | refine WX.thenExit (K := K) ?_); clear hK K) | (refine WX.thenExit (K := KL) ?_; clear hL KL)))
  refine WC.rangeFE (gf := 96) (caps := [.pointer (some ⟨c, 0, none⟩)]) (Gy := []) (Gc := [rd (Ty.sl nodeT) a.ar u]) (Sc := [ndB c a u]) (Sr := ndB b1 a u :: Sf) (N := (lvD d a).length) (E := leafE (lvD d a)) (I := Nat) 0 (fun i => i) (fun i => i ≤ (lvD d a).length ∧ ∀ j x, j < i → (lvD d a)[j]? = some x → okF9 x)
    (fun i => [box b2 4 [.bool false]]) (fun cc i => cc = .ret ∧ ¬ ∀ x ∈ lvD d a, okF9 x) (fun _ i => [box b2 4 [.bool false]])
    (fun y J Jx hy => leaves1_it d a ha u c y J Jx hy) rfl rfl (fun k args h => by obtain ⟨x, p, m, c, _, rfl⟩ := h; rfl) (fun g hg => by rw [List.mem_singleton] at hg; subst hg; exact .head _) (fun g hg => by cases hg) ⟨Nat.zero_le _, fun j x h => absurd h (by omega)⟩ rfl (fun w h => ?_) ?_ (fun D j hj hat => ?_) (fun D cc j hj hat => ?_)
  · exact (show Sat B (rd (Ty.sl nodeT) a.ar u :: Gf) (ndB c a u :: box b2 4 [.bool false] :: ndB b1 a u :: Sf) w from h).to
  · intro B' y' Gf' i hi hk args hargs K S0 hK
    obtain ⟨x, p, m, c4, hx, rfl⟩ := hargs
    dsimp only [pEnv, List.zip_cons_cons, List.zip_nil_left, List.zip_nil_right]
    simp only [List.cons_append, List.nil_append]
    (repeat (first | refine vgo ?_ | refine ⟨_, rfl, rfl, ?_⟩ | refine ⟨_, rfl, ?_⟩ | refine ⟨rfl, ?_⟩ | intro hb | refine go2 ?_ | refine WC.seq (fun K hK => ?_) | ((first | refine hK _ _ _ ?_ | refine hK _ _ _ _ rfl ?_ | refine WX.thenExit (K := K) ?_); clear hK K) | (refine WX.thenExit (K := KL) ?_; clear hL KL)))
    refine WL.alloc rfl ?_; intro b4
    (repeat (first | refine vgo ?_ | refine ⟨_, rfl, rfl, ?_⟩ | refine ⟨_, rfl, ?_⟩ | refine ⟨rfl, ?_⟩ | intro hb | refine go2 ?_ | refine WC.seq (fun K hK => ?_) | ((first | refine hK _ _ _ ?_ | refine hK _ _ _ _ rfl ?_ | refine WX.thenExit (K := K) ?_); clear hK K) | (refine WX.thenExit (K := KL) ?_; clear hL KL)))
    refine hK _ _ [ndB b4 x (.slice p m c4), box b2 4 [.bool false]] (fun Sy => ?_)
    simp only [List.cons_append, List.nil_append]
    have good : okF9 x → ∀ j z, j < i + 1 → (lvD d a)[j]? = some z → okF9 z := fun ho j z h1 h2 => by
      by_cases hj : j = i
      · subst hj; rw [hx] at h2; cases h2; exact ho
      · exact hi.2 j z (by omega) h2
    have bad : ¬ okF9 x → ¬ ∀ z ∈ lvD d a, okF9 z := fun ho h => ho (h x (List.mem_of_getElem? hx))
    by_cases k3 : x.k = 3
    · by_cases hf : R2 ((x.f.1.1, x.f.1.2), (x.f.2.1, x.f.2.2))
      · have k4 : ¬ x.k = 4 := by omega
        (repeat (first | refine vgo ?_ | refine ⟨_, rfl, rfl, ?_⟩ | refine ⟨_, rfl, ?_⟩ | refine ⟨rfl, ?_⟩ | intro hb | refine go2 ?_ | refine WC.seq (fun K hK => ?_) | ((first | refine hK _ _ _ ?_ | refine hK _ _ _ _ rfl ?_ | refine WX.thenExit (K := K) ?_); clear hK K) | (refine WX.thenExit (K := KL) ?_; clear hL KL)))
        exact WX.rNormal (fun w sw => ⟨i + 1, ⟨hk, good ⟨fun _ => hf, fun q => absurd q k4⟩⟩, rfl, sw.to⟩)
      · (repeat (first | refine vgo ?_ | refine ⟨_, rfl, rfl, ?_⟩ | refine ⟨_, rfl, ?_⟩ | refine ⟨rfl, ?_⟩ | intro hb | refine go2 ?_ | refine WC.seq (fun K hK => ?_) | ((first | refine hK _ _ _ ?_ | refine hK _ _ _ _ rfl ?_ | refine WX.thenExit (K := K) ?_); clear hK K) | (refine WX.thenExit (K := KL) ?_; clear hL KL)))
        exact WX.rRet (fun w sw => ⟨i, ⟨rfl, bad fun h => hf (h.1 (.inl k3))⟩, rfl, sw.to⟩)
    · by_cases k4 : x.k = 4
      · by_cases hf : R2 ((x.f.1.1, x.f.1.2), (x.f.2.1, x.f.2.2))
        · by_cases ht : R2 ((x.t.1.1, x.t.1.2), (x.t.2.1, x.t.2.2))
          · (repeat (first | refine vgo ?_ | refine ⟨_, rfl, rfl, ?_⟩ | refine ⟨_, rfl, ?_⟩ | refine ⟨rfl, ?_⟩ | intro hb | refine go2 ?_ | refine WC.seq (fun K hK => ?_) | ((first | refine hK _ _ _ ?_ | refine hK _ _ _ _ rfl ?_ | refine WX.thenExit (K := K) ?_); clear hK K) | (refine WX.thenExit (K := KL) ?_; clear hL KL)))
            exact WX.rNormal (fun w sw => ⟨i + 1, ⟨hk, good ⟨fun _ => hf, fun _ => ht⟩⟩, rfl, sw.to⟩)
          · (repeat (first | refine vgo ?_ | refine ⟨_, rfl, rfl, ?_⟩ | refine ⟨_, rfl, ?_⟩ | refine ⟨rfl, ?_⟩ | intro hb | refine go2 ?_ | refine WC.seq (fun K hK => ?_) | ((first | refine hK _ _ _ ?_ | refine hK _ _ _ _ rfl ?_ | refine WX.thenExit (K := K) ?_); clear hK K) | (refine WX.thenExit (K := KL) ?_; clear hL KL)))
            exact WX.rRet (fun w sw => ⟨i, ⟨rfl, bad fun h => ht (h.2 k4)⟩, rfl, sw.to⟩)
        · (repeat (first | refine vgo ?_ | refine ⟨_, rfl, rfl, ?_⟩ | refine ⟨_, rfl, ?_⟩ | refine ⟨rfl, ?_⟩ | intro hb | refine go2 ?_ | refine WC.seq (fun K hK => ?_) | ((first | refine hK _ _ _ ?_ | refine hK _ _ _ _ rfl ?_ | refine WX.thenExit (K := K) ?_); clear hK K) | (refine WX.thenExit (K := KL) ?_; clear hL KL)))
          exact WX.rRet (fun w sw => ⟨i, ⟨rfl, bad fun h => hf (h.1 (.inr k4))⟩, rfl, sw.to⟩)
      · (repeat (first | refine vgo ?_ | refine ⟨_, rfl, rfl, ?_⟩ | refine ⟨_, rfl, ?_⟩ | refine ⟨rfl, ?_⟩ | intro hb | refine go2 ?_ | refine WC.seq (fun K hK => ?_) | ((first | refine hK _ _ _ ?_ | refine hK _ _ _ _ rfl ?_ | refine WX.thenExit (K := K) ?_); clear hK K) | (refine WX.thenExit (K := KL) ?_; clear hL KL)))
        exact WX.rNormal (fun w sw => ⟨i + 1, ⟨hk, good ⟨fun q => absurd q (fun q => q.elim k3 k4), fun q => absurd q k4⟩⟩, rfl, sw.to⟩)
  · have e : decide (∀ x ∈ lvD d a, okF9 x) = true := decide_eq_true fun x hx => by
      obtain ⟨j2, hj2, hjx⟩ := List.getElem_of_mem hx
      exact hj.2 j2 x (by omega) (by rw [← hjx]; exact List.getElem?_eq_getElem hj2)
    (repeat (first | refine vgo ?_ | refine ⟨_, rfl, rfl, ?_⟩ | refine ⟨_, rfl, ?_⟩ | refine ⟨rfl, ?_⟩ | intro hb | refine go2 ?_ | refine WC.seq (fun K hK => ?_) | ((first | refine hK _ _ _ ?_ | refine hK _ _ _ _ rfl ?_ | refine WX.thenExit (K := K) ?_); clear hK K) | (refine WX.thenExit (K := KL) ?_; clear hL KL)))
    simp only [List.cons_append, List.nil_append]
    refine WX.shut (.inl rfl) SelC.h ?_
    exact WX.ret1K rfl rfl (load1K (b := b2) rfl) (fun w sw => ⟨[], [], ⟨by rw [e], rfl, rfl⟩, sw.to⟩)
  · obtain ⟨rfl, hno⟩ := hj
    have e : decide (∀ x ∈ lvD d a, okF9 x) = false := decide_eq_false hno
    (repeat (first | refine vgo ?_ | refine ⟨_, rfl, rfl, ?_⟩ | refine ⟨_, rfl, ?_⟩ | refine ⟨rfl, ?_⟩ | intro hb | refine go2 ?_ | refine WC.seq (fun K hK => ?_) | ((first | refine hK _ _ _ ?_ | refine hK _ _ _ _ rfl ?_ | refine WX.thenExit (K := K) ?_); clear hK K) | (refine WX.thenExit (K := KL) ?_; clear hL KL)))
    simp only [List.cons_append, List.nil_append]
    refine WX.shut (.inl rfl) SelC.h ?_
    exact WX.ret1K rfl rfl (load1K (b := b2) rfl) (fun w sw => ⟨[], [], ⟨by rw [e], rfl, rfl⟩, sw.to⟩)
end
/-! ### Contents and operations that may be. -/
section
open Go Go.Proofs
def cRd (x : OpD) : Prop := x.ck = 0 ∨ x.ck = 1 ∨ (x.ck = 2 ∧ x.ct.length ≤ 256) ∨ (x.ck = 3 ∧ tRd 64 x.F ∧ stD 64 x.F)
noncomputable instance (x : OpD) : Decidable (cRd x) := Classical.propDecidable _
set_option maxRecDepth 100000 in
set_option maxHeartbeats 1600000 in
theorem cright_fun {M : Nat} (x : OpD) (u : Value) (hs : smN M 64 x.F) : Fun Tryz.prog 56 [contV x u] [rd (Ty.sl nodeT) x.F.ar u] [] (fun z G S => z = .bool (decide (cRd x)) ∧ G = [] ∧ S = []) := by
  have hsl : x.F.s.length ≤ maxLen := hs.1.2.2.1
  refine Fun.enter Tryz.func56 (by kernel_rfl) rfl Tryz.ntmps56 rfl (fun B Gf Sf => ?_); (try simp only [List.cons_append]); (try simp only [List.nil_append]); simp only [argEnv]
  refine WC.ex (fun w sw => sw.slOne (v := u) RdSl.h) (fun hu1 => ?_)
  (repeat (first | refine vgo ?_ | refine ⟨_, rfl, rfl, ?_⟩ | refine ⟨_, rfl, ?_⟩ | refine ⟨rfl, ?_⟩ | intro hb | refine go2 ?_ | refine WC.seq (fun K hK => ?_) | ((first | refine hK _ _ _ ?_ | refine hK _ _ _ _ rfl ?_ | refine WX.thenExit (K := K) ?_); clear hK K) | (refine WX.thenExit (K := KL) ?_; clear hL KL)))
  (first | refine WL.boxA rfl rfl ?_ | refine WL.box rfl rfl rfl ?_); intro b1
  by_cases k0 : x.ck = 0
  · have e : decide (cRd x) = true := decide_eq_true (.inl k0)
    (repeat (first | refine vgo ?_ | refine ⟨_, rfl, rfl, ?_⟩ | refine ⟨_, rfl, ?_⟩ | refine ⟨rfl, ?_⟩ | intro hb | refine go2 ?_ | refine WC.seq (fun K hK => ?_) | ((first | refine hK _ _ _ ?_ | refine hK _ _ _ _ rfl ?_ | refine WX.thenExit (K := K) ?_); clear hK K) | (refine WX.thenExit (K := KL) ?_; clear hL KL)))
    exact WX.ret1 rfl rfl (fun w sw => ⟨[], [], ⟨by rw [e], rfl, rfl⟩, sw.to⟩)
  by_cases k1 : x.ck = 1
  · have e : decide (cRd x) = true := decide_eq_true (.inr (.inl k1))
    (repeat (first | refine vgo ?_ | refine ⟨_, rfl, rfl, ?_⟩ | refine ⟨_, rfl, ?_⟩ | refine ⟨rfl, ?_⟩ | intro hb | refine go2 ?_ | refine WC.seq (fun K hK => ?_) | ((first | refine hK _ _ _ ?_ | refine hK _ _ _ _ rfl ?_ | refine WX.thenExit (K := K) ?_); clear hK K) | (refine WX.thenExit (K := KL) ?_; clear hL KL)))
    exact WX.ret1 rfl rfl (fun w sw => ⟨[], [], ⟨by rw [e], rfl, rfl⟩, sw.to⟩)
  by_cases k2 : x.ck = 2
  · have e : decide (((x.ct.length : Nat) : Int) ≤ 256) = decide (cRd x) := decide_eq_decide.2 ⟨fun h => .inr (.inr (.inl ⟨k2, by omega⟩)), fun h => by
      rcases h with h | h | ⟨_, h⟩ | ⟨h, _⟩ <;> omega⟩
    (repeat (first | refine vgo ?_ | refine ⟨_, rfl, rfl, ?_⟩ | refine ⟨_, rfl, ?_⟩ | refine ⟨rfl, ?_⟩ | intro hb | refine go2 ?_ | refine WC.seq (fun K hK => ?_) | ((first | refine hK _ _ _ ?_ | refine hK _ _ _ _ rfl ?_ | refine WX.thenExit (K := K) ?_); clear hK K) | (refine WX.thenExit (K := KL) ?_; clear hL KL)))
    exact WX.ret1 rfl rfl (fun w sw => ⟨[], [], ⟨by rw [← e], rfl, rfl⟩, sw.to⟩)
  by_cases k3 : x.ck = 3
  · by_cases ht : tRd 64 x.F
    · have e : decide (∀ z ∈ lvD 64 x.F, okF9 z) = decide (cRd x) := decide_eq_decide.2 ⟨fun h => .inr (.inr (.inr ⟨k3, ht, (stD_leaves 64 x.F ht).2 h⟩)), fun h => by
        rcases h with h | h | ⟨h, _⟩ | ⟨_, _, h⟩
        · omega
        · omega
        · omega
        · exact (stD_leaves 64 x.F ht).1 h⟩
      (repeat (first | refine vgo ?_ | refine ⟨_, rfl, rfl, ?_⟩ | refine ⟨_, rfl, ?_⟩ | refine ⟨rfl, ?_⟩ | intro hb | refine go2 ?_ | refine WC.seq (fun K hK => ?_) | ((first | refine hK _ _ _ ?_ | refine hK _ _ _ _ rfl ?_ | refine WX.thenExit (K := K) ?_); clear hK K) | (refine WX.thenExit (K := KL) ?_; clear hL KL)))
      refine CallV.by' (stamped_fun 64 x.F hs u) ?_; rintro _ _ _ ⟨rfl, rfl, rfl⟩; (try simp only [List.cons_append]); (try simp only [List.nil_append])
      (repeat (first | refine vgo ?_ | refine ⟨_, rfl, rfl, ?_⟩ | refine ⟨_, rfl, ?_⟩ | refine ⟨rfl, ?_⟩ | intro hb | refine go2 ?_ | refine WC.seq (fun K hK => ?_) | ((first | refine hK _ _ _ ?_ | refine hK _ _ _ _ rfl ?_ | refine WX.thenExit (K := K) ?_); clear hK K) | (refine WX.thenExit (K := KL) ?_; clear hL KL)))
      exact WX.ret1 rfl rfl (fun w sw => ⟨[], [], ⟨by rw [← e], rfl, rfl⟩, sw.to⟩)
    · have e : decide (cRd x) = false := decide_eq_false fun h => by
        rcases h with h | h | ⟨h, _⟩ | ⟨_, h, _⟩
        · omega
        · omega
        · omega
        · exact ht h
      (repeat (first | refine vgo ?_ | refine ⟨_, rfl, rfl, ?_⟩ | refine ⟨_, rfl, ?_⟩ | refine ⟨rfl, ?_⟩ | intro hb | refine go2 ?_ | refine WC.seq (fun K hK => ?_) | ((first | refine hK _ _ _ ?_ | refine hK _ _ _ _ rfl ?_ | refine WX.thenExit (K := K) ?_); clear hK K) | (refine WX.thenExit (K := KL) ?_; clear hL KL)))
      exact WX.ret1 rfl rfl (fun w sw => ⟨[], [], ⟨by rw [e], rfl, rfl⟩, sw.to⟩)
  have e : decide (cRd x) = false := decide_eq_false fun h => by
    rcases h with h | h | ⟨h, _⟩ | ⟨h, _⟩ <;> omega
  (repeat (first | refine vgo ?_ | refine ⟨_, rfl, rfl, ?_⟩ | refine ⟨_, rfl, ?_⟩ | refine ⟨rfl, ?_⟩ | intro hb | refine go2 ?_ | refine WC.seq (fun K hK => ?_) | ((first | refine hK _ _ _ ?_ | refine hK _ _ _ _ rfl ?_ | refine WX.thenExit (K := K) ?_); clear hK K) | (refine WX.thenExit (K := KL) ?_; clear hL KL)))
  exact WX.ret1 rfl rfl (fun w sw => ⟨[], [], ⟨by rw [e], rfl, rfl⟩, sw.to⟩)
set_option maxRecDepth 100000 in
set_option maxHeartbeats 1600000 in
theorem rcright_fun {M D : Nat} (hM : M ≤ upM) (x : OpD) (u : Value) (hs : smN M D x.F) : Fun Tryz.prog 66 [contV x u] [rd (Ty.sl nodeT) x.F.ar u] [] (fun z G S => z = .bool (decide (cRd x)) ∧ G = [] ∧ S = []) := by
  refine Fun.enter Tryz.func66 (by kernel_rfl) rfl Tryz.ntmps66 rfl (fun B Gf Sf => ?_); (try simp only [List.cons_append]); (try simp only [List.nil_append]); simp only [argEnv]
  refine WC.ex (fun w sw => sw.slOne (v := u) RdSl.h) (fun hu1 => ?_)
  (repeat (first | refine vgo ?_ | refine ⟨_, rfl, rfl, ?_⟩ | refine ⟨_, rfl, ?_⟩ | refine ⟨rfl, ?_⟩ | intro hb | refine go2 ?_ | refine WC.seq (fun K hK => ?_) | ((first | refine hK _ _ _ ?_ | refine hK _ _ _ _ rfl ?_ | refine WX.thenExit (K := K) ?_); clear hK K) | (refine WX.thenExit (K := KL) ?_; clear hL KL)))
  (first | refine WL.boxA rfl rfl ?_ | refine WL.box rfl rfl rfl ?_); intro b1
  by_cases k2 : x.ck = 2
  · have e : decide (((x.ct.length : Nat) : Int) ≤ 256) = decide (cRd x) := decide_eq_decide.2 ⟨fun h => .inr (.inr (.inl ⟨k2, by omega⟩)), fun h => by
      rcases h with h | h | ⟨_, h⟩ | ⟨h, _⟩ <;> omega⟩
    (repeat (first | refine vgo ?_ | refine ⟨_, rfl, rfl, ?_⟩ | refine ⟨_, rfl, ?_⟩ | refine ⟨rfl, ?_⟩ | intro hb | refine go2 ?_ | refine WC.seq (fun K hK => ?_) | ((first | refine hK _ _ _ ?_ | refine hK _ _ _ _ rfl ?_ | refine WX.thenExit (K := K) ?_); clear hK K) | (refine WX.thenExit (K := KL) ?_; clear hL KL)))
    exact WX.ret1 rfl rfl (fun w sw => ⟨[], [], ⟨by rw [← e], rfl, rfl⟩, sw.to⟩)
  by_cases k3 : x.ck = 3
  · have e : decide (tRd 64 x.F ∧ stD 64 x.F) = decide (cRd x) := decide_eq_decide.2 ⟨fun h => .inr (.inr (.inr ⟨k3, h⟩)), fun h => by
      rcases h with h | h | ⟨h, _⟩ | ⟨_, h⟩
      · omega
      · omega
      · omega
      · exact h⟩
    (repeat (first | refine vgo ?_ | refine ⟨_, rfl, rfl, ?_⟩ | refine ⟨_, rfl, ?_⟩ | refine ⟨rfl, ?_⟩ | intro hb | refine go2 ?_ | refine WC.seq (fun K hK => ?_) | ((first | refine hK _ _ _ ?_ | refine hK _ _ _ _ rfl ?_ | refine WX.thenExit (K := K) ?_); clear hK K) | (refine WX.thenExit (K := KL) ?_; clear hL KL)))
    refine CallV.by' (r11_fun hM x.F u hs) ?_; rintro _ _ _ ⟨rfl, rfl, rfl⟩; (try simp only [List.cons_append]); (try simp only [List.nil_append])
    (repeat (first | refine vgo ?_ | refine ⟨_, rfl, rfl, ?_⟩ | refine ⟨_, rfl, ?_⟩ | refine ⟨rfl, ?_⟩ | intro hb | refine go2 ?_ | refine WC.seq (fun K hK => ?_) | ((first | refine hK _ _ _ ?_ | refine hK _ _ _ _ rfl ?_ | refine WX.thenExit (K := K) ?_); clear hK K) | (refine WX.thenExit (K := KL) ?_; clear hL KL)))
    exact WX.ret1 rfl rfl (fun w sw => ⟨[], [], ⟨by rw [← e], rfl, rfl⟩, sw.to⟩)
  by_cases k0 : x.ck = 0
  · have e : decide (cRd x) = true := decide_eq_true (.inl k0)
    (repeat (first | refine vgo ?_ | refine ⟨_, rfl, rfl, ?_⟩ | refine ⟨_, rfl, ?_⟩ | refine ⟨rfl, ?_⟩ | intro hb | refine go2 ?_ | refine WC.seq (fun K hK => ?_) | ((first | refine hK _ _ _ ?_ | refine hK _ _ _ _ rfl ?_ | refine WX.thenExit (K := K) ?_); clear hK K) | (refine WX.thenExit (K := KL) ?_; clear hL KL)))
    exact WX.ret1 rfl rfl (fun w sw => ⟨[], [], ⟨by rw [e], rfl, rfl⟩, sw.to⟩)
  · have e : decide (x.ck = 1) = decide (cRd x) := decide_eq_decide.2 ⟨fun h => .inr (.inl h), fun h => by
      rcases h with h | h | ⟨h, _⟩ | ⟨h, _⟩
      · omega
      · exact h
      · omega
      · omega⟩
    (repeat (first | refine vgo ?_ | refine ⟨_, rfl, rfl, ?_⟩ | refine ⟨_, rfl, ?_⟩ | refine ⟨rfl, ?_⟩ | intro hb | refine go2 ?_ | refine WC.seq (fun K hK => ?_) | ((first | refine hK _ _ _ ?_ | refine hK _ _ _ _ rfl ?_ | refine WX.thenExit (K := K) ?_); clear hK K) | (refine WX.thenExit (K := KL) ?_; clear hL KL)))
    exact WX.ret1 rfl rfl (fun w sw => ⟨[], [], ⟨by rw [← e], rfl, rfl⟩, sw.to⟩)
/-! ### Stamps of lines -/
abbrev emP (a : Nat × Int) : Prop := ((a.1 : Nat) : Int) = 0 ∧ a.2 = 0
theorem empty_fun (a : Nat × Int) : Fun Tryz.prog 75 [idV a.1 a.2] [] [] (fun z G S => z = .bool (decide (((a.1 : Nat) : Int) = 0 ∧ a.2 = 0)) ∧ G = [] ∧ S = []) := by
  refine Fun.enter Tryz.func75 (by kernel_rfl) rfl Tryz.ntmps75 rfl (fun B Gf Sf => ?_); (try simp only [List.cons_append]); (try simp only [List.nil_append]); simp only [argEnv]
  (repeat (first | refine vgo ?_ | refine ⟨_, rfl, rfl, ?_⟩ | refine ⟨_, rfl, ?_⟩ | refine ⟨rfl, ?_⟩ | intro hb | refine go2 ?_ | refine WC.seq (fun K hK => ?_) | ((first | refine hK _ _ _ ?_ | refine hK _ _ _ _ rfl ?_ | refine WX.thenExit (K := K) ?_); clear hK K) | (refine WX.thenExit (K := KL) ?_; clear hL KL)))
  (first | refine WL.boxA rfl rfl ?_ | refine WL.box rfl rfl rfl ?_); intro b1
  (repeat (first | refine vgo ?_ | refine ⟨_, rfl, rfl, ?_⟩ | refine ⟨_, rfl, ?_⟩ | refine ⟨rfl, ?_⟩ | intro hb | refine go2 ?_ | refine WC.seq (fun K hK => ?_) | ((first | refine hK _ _ _ ?_ | refine hK _ _ _ _ rfl ?_ | refine WX.thenExit (K := K) ?_); clear hK K) | (refine WX.thenExit (K := KL) ?_; clear hL KL)))
  exact WX.ret1 rfl rfl (fun w sw => ⟨[], [], ⟨rfl, rfl, rfl⟩, sw.to⟩)
instance empty_pure {G : List Pers} {t : Nat} {r : Int} : PureF Tryz.prog 75 [idV t r] G True (.bool (decide (((t : Nat) : Int) = 0 ∧ r = 0))) := ⟨fun _ => PureF.of0 (empty_fun (t, r))⟩
def lnP (x : OpD) : Prop := (x.k = 1 ∧ (emP x.r ∨ idRight x.r) ∧ emP x.c) ∨ (x.k = 2 ∧ (emP x.c ∨ idRight x.c) ∧ emP x.r) ∨ (x.k = 3 ∧ idRight x.r ∧ emP x.c) ∨ (x.k = 4 ∧ idRight x.c ∧ emP x.r) ∨ (x.k = 5 ∧ idRight x.r ∧ idRight x.c)
noncomputable instance (x : OpD) : Decidable (lnP x) := Classical.propDecidable _
theorem lnP1 {x : OpD} (k : x.k = 1) : lnP x ↔ (emP x.r ∨ idRight x.r) ∧ emP x.c := by
  unfold lnP; rw [k]; simp
theorem lnP2 {x : OpD} (k : x.k = 2) : lnP x ↔ (emP x.c ∨ idRight x.c) ∧ emP x.r := by
  unfold lnP; rw [k]; simp
theorem lnP3 {x : OpD} (k : x.k = 3) : lnP x ↔ idRight x.r ∧ emP x.c := by
  unfold lnP; rw [k]; simp
theorem lnP4 {x : OpD} (k : x.k = 4) : lnP x ↔ idRight x.c ∧ emP x.r := by
  unfold lnP; rw [k]; simp
theorem lnP5 {x : OpD} (k : x.k = 5) : lnP x ↔ idRight x.r ∧ idRight x.c := by
  unfold lnP; rw [k]; simp
theorem lnP0 {x : OpD} (k1 : ¬ x.k = 1) (k2 : ¬ x.k = 2) (k3 : ¬ x.k = 3) (k4 : ¬ x.k = 4) (k5 : ¬ x.k = 5) : ¬ lnP x := by
  unfold lnP
  rintro (⟨h, _⟩ | ⟨h, _⟩ | ⟨h, _⟩ | ⟨h, _⟩ | ⟨h, _⟩) <;> omega
set_option maxRecDepth 100000 in
set_option maxHeartbeats 1600000 in
theorem lines_fun (x : OpD) (d u : Value) (c : List Nat) : Fun Tryz.prog 58 [popV x d u] [rd (Ty.sl nodeT) x.F.ar u, rd (Ty.sl Ty.u64) c d] [] (fun z G S => z = .bool (decide (lnP x)) ∧ G = [] ∧ S = []) := by
  refine Fun.enter Tryz.func58 (by kernel_rfl) rfl Tryz.ntmps58 rfl (fun B Gf Sf => ?_); (try simp only [List.cons_append]); (try simp only [List.nil_append]); simp only [argEnv]
  refine WC.ex (fun w sw => sw.slOne (v := u) RdSl.h) (fun hu1 => ?_)
  refine WC.ex (fun w sw => sw.slOne (v := d) RdSl.h) (fun hd1 => ?_)
  (repeat (first | refine vgo ?_ | refine ⟨_, rfl, rfl, ?_⟩ | refine ⟨_, rfl, ?_⟩ | refine ⟨rfl, ?_⟩ | intro hb | refine go2 ?_ | refine WC.seq (fun K hK => ?_) | ((first | refine hK _ _ _ ?_ | refine hK _ _ _ _ rfl ?_ | refine WX.thenExit (K := K) ?_); clear hK K) | (refine WX.thenExit (K := KL) ?_; clear hL KL)))
  (first | refine WL.boxA rfl rfl ?_ | refine WL.box rfl rfl rfl ?_); intro b1
  by_cases k1 : x.k = 1
  · by_cases e1 : ((x.r.1 : Nat) : Int) = 0 ∧ x.r.2 = 0
    · have e : decide (((x.c.1 : Nat) : Int) = 0 ∧ x.c.2 = 0) = decide (lnP x) := decide_eq_decide.2 ((lnP1 k1).trans ⟨fun h => h.2, fun h => ⟨.inl e1, h⟩⟩).symm
      (repeat (first | refine vgo ?_ | refine ⟨_, rfl, rfl, ?_⟩ | refine ⟨_, rfl, ?_⟩ | refine ⟨rfl, ?_⟩ | intro hb | refine go2 ?_ | refine WC.seq (fun K hK => ?_) | ((first | refine hK _ _ _ ?_ | refine hK _ _ _ _ rfl ?_ | refine WX.thenExit (K := K) ?_); clear hK K) | (refine WX.thenExit (K := KL) ?_; clear hL KL)))
      exact WX.ret1 rfl rfl (fun w sw => ⟨[], [], ⟨by rw [← e], rfl, rfl⟩, sw.to⟩)
    · by_cases e2 : idRight (x.r.1, x.r.2)
      · have e : decide (((x.c.1 : Nat) : Int) = 0 ∧ x.c.2 = 0) = decide (lnP x) := decide_eq_decide.2 ((lnP1 k1).trans ⟨fun h => h.2, fun h => ⟨.inr e2, h⟩⟩).symm
        (repeat (first | refine vgo ?_ | refine ⟨_, rfl, rfl, ?_⟩ | refine ⟨_, rfl, ?_⟩ | refine ⟨rfl, ?_⟩ | intro hb | refine go2 ?_ | refine WC.seq (fun K hK => ?_) | ((first | refine hK _ _ _ ?_ | refine hK _ _ _ _ rfl ?_ | refine WX.thenExit (K := K) ?_); clear hK K) | (refine WX.thenExit (K := KL) ?_; clear hL KL)))
        exact WX.ret1 rfl rfl (fun w sw => ⟨[], [], ⟨by rw [← e], rfl, rfl⟩, sw.to⟩)
      · have e : decide (lnP x) = false := decide_eq_false fun h => ((lnP1 k1).1 h).1.elim e1 e2
        (repeat (first | refine vgo ?_ | refine ⟨_, rfl, rfl, ?_⟩ | refine ⟨_, rfl, ?_⟩ | refine ⟨rfl, ?_⟩ | intro hb | refine go2 ?_ | refine WC.seq (fun K hK => ?_) | ((first | refine hK _ _ _ ?_ | refine hK _ _ _ _ rfl ?_ | refine WX.thenExit (K := K) ?_); clear hK K) | (refine WX.thenExit (K := KL) ?_; clear hL KL)))
        exact WX.ret1 rfl rfl (fun w sw => ⟨[], [], ⟨by rw [e], rfl, rfl⟩, sw.to⟩)
  by_cases k2 : x.k = 2
  · by_cases e1 : ((x.c.1 : Nat) : Int) = 0 ∧ x.c.2 = 0
    · have e : decide (((x.r.1 : Nat) : Int) = 0 ∧ x.r.2 = 0) = decide (lnP x) := decide_eq_decide.2 ((lnP2 k2).trans ⟨fun h => h.2, fun h => ⟨.inl e1, h⟩⟩).symm
      (repeat (first | refine vgo ?_ | refine ⟨_, rfl, rfl, ?_⟩ | refine ⟨_, rfl, ?_⟩ | refine ⟨rfl, ?_⟩ | intro hb | refine go2 ?_ | refine WC.seq (fun K hK => ?_) | ((first | refine hK _ _ _ ?_ | refine hK _ _ _ _ rfl ?_ | refine WX.thenExit (K := K) ?_); clear hK K) | (refine WX.thenExit (K := KL) ?_; clear hL KL)))
      exact WX.ret1 rfl rfl (fun w sw => ⟨[], [], ⟨by rw [← e], rfl, rfl⟩, sw.to⟩)
    · by_cases e2 : idRight (x.c.1, x.c.2)
      · have e : decide (((x.r.1 : Nat) : Int) = 0 ∧ x.r.2 = 0) = decide (lnP x) := decide_eq_decide.2 ((lnP2 k2).trans ⟨fun h => h.2, fun h => ⟨.inr e2, h⟩⟩).symm
        (repeat (first | refine vgo ?_ | refine ⟨_, rfl, rfl, ?_⟩ | refine ⟨_, rfl, ?_⟩ | refine ⟨rfl, ?_⟩ | intro hb | refine go2 ?_ | refine WC.seq (fun K hK => ?_) | ((first | refine hK _ _ _ ?_ | refine hK _ _ _ _ rfl ?_ | refine WX.thenExit (K := K) ?_); clear hK K) | (refine WX.thenExit (K := KL) ?_; clear hL KL)))
        exact WX.ret1 rfl rfl (fun w sw => ⟨[], [], ⟨by rw [← e], rfl, rfl⟩, sw.to⟩)
      · have e : decide (lnP x) = false := decide_eq_false fun h => ((lnP2 k2).1 h).1.elim e1 e2
        (repeat (first | refine vgo ?_ | refine ⟨_, rfl, rfl, ?_⟩ | refine ⟨_, rfl, ?_⟩ | refine ⟨rfl, ?_⟩ | intro hb | refine go2 ?_ | refine WC.seq (fun K hK => ?_) | ((first | refine hK _ _ _ ?_ | refine hK _ _ _ _ rfl ?_ | refine WX.thenExit (K := K) ?_); clear hK K) | (refine WX.thenExit (K := KL) ?_; clear hL KL)))
        exact WX.ret1 rfl rfl (fun w sw => ⟨[], [], ⟨by rw [e], rfl, rfl⟩, sw.to⟩)
  by_cases k3 : x.k = 3
  · by_cases e2 : idRight (x.r.1, x.r.2)
    · have e : decide (((x.c.1 : Nat) : Int) = 0 ∧ x.c.2 = 0) = decide (lnP x) := decide_eq_decide.2 ((lnP3 k3).trans ⟨fun h => h.2, fun h => ⟨e2, h⟩⟩).symm
      (repeat (first | refine vgo ?_ | refine ⟨_, rfl, rfl, ?_⟩ | refine ⟨_, rfl, ?_⟩ | refine ⟨rfl, ?_⟩ | intro hb | refine go2 ?_ | refine WC.seq (fun K hK => ?_) | ((first | refine hK _ _ _ ?_ | refine hK _ _ _ _ rfl ?_ | refine WX.thenExit (K := K) ?_); clear hK K) | (refine WX.thenExit (K := KL) ?_; clear hL KL)))
      exact WX.ret1 rfl rfl (fun w sw => ⟨[], [], ⟨by rw [← e], rfl, rfl⟩, sw.to⟩)
    · have e : decide (lnP x) = false := decide_eq_false fun h => e2 ((lnP3 k3).1 h).1
      (repeat (first | refine vgo ?_ | refine ⟨_, rfl, rfl, ?_⟩ | refine ⟨_, rfl, ?_⟩ | refine ⟨rfl, ?_⟩ | intro hb | refine go2 ?_ | refine WC.seq (fun K hK => ?_) | ((first | refine hK _ _ _ ?_ | refine hK _ _ _ _ rfl ?_ | refine WX.thenExit (K := K) ?_); clear hK K) | (refine WX.thenExit (K := KL) ?_; clear hL KL)))
      exact WX.ret1 rfl rfl (fun w sw => ⟨[], [], ⟨by rw [e], rfl, rfl⟩, sw.to⟩)
  by_cases k4 : x.k = 4
  · by_cases e2 : idRight (x.c.1, x.c.2)
    · have e : decide (((x.r.1 : Nat) : Int) = 0 ∧ x.r.2 = 0) = decide (lnP x) := decide_eq_decide.2 ((lnP4 k4).trans ⟨fun h => h.2, fun h => ⟨e2, h⟩⟩).symm
      (repeat (first | refine vgo ?_ | refine ⟨_, rfl, rfl, ?_⟩ | refine ⟨_, rfl, ?_⟩ | refine ⟨rfl, ?_⟩ | intro hb | refine go2 ?_ | refine WC.seq (fun K hK => ?_) | ((first | refine hK _ _ _ ?_ | refine hK _ _ _ _ rfl ?_ | refine WX.thenExit (K := K) ?_); clear hK K) | (refine WX.thenExit (K := KL) ?_; clear hL KL)))
      exact WX.ret1 rfl rfl (fun w sw => ⟨[], [], ⟨by rw [← e], rfl, rfl⟩, sw.to⟩)
    · have e : decide (lnP x) = false := decide_eq_false fun h => e2 ((lnP4 k4).1 h).1
      (repeat (first | refine vgo ?_ | refine ⟨_, rfl, rfl, ?_⟩ | refine ⟨_, rfl, ?_⟩ | refine ⟨rfl, ?_⟩ | intro hb | refine go2 ?_ | refine WC.seq (fun K hK => ?_) | ((first | refine hK _ _ _ ?_ | refine hK _ _ _ _ rfl ?_ | refine WX.thenExit (K := K) ?_); clear hK K) | (refine WX.thenExit (K := KL) ?_; clear hL KL)))
      exact WX.ret1 rfl rfl (fun w sw => ⟨[], [], ⟨by rw [e], rfl, rfl⟩, sw.to⟩)
  by_cases k5 : x.k = 5
  · by_cases e2 : idRight (x.r.1, x.r.2)
    · have e : decide (idRight (x.c.1, x.c.2)) = decide (lnP x) := decide_eq_decide.2 ((lnP5 k5).trans ⟨fun h => h.2, fun h => ⟨e2, h⟩⟩).symm
      (repeat (first | refine vgo ?_ | refine ⟨_, rfl, rfl, ?_⟩ | refine ⟨_, rfl, ?_⟩ | refine ⟨rfl, ?_⟩ | intro hb | refine go2 ?_ | refine WC.seq (fun K hK => ?_) | ((first | refine hK _ _ _ ?_ | refine hK _ _ _ _ rfl ?_ | refine WX.thenExit (K := K) ?_); clear hK K) | (refine WX.thenExit (K := KL) ?_; clear hL KL)))
      exact WX.ret1 rfl rfl (fun w sw => ⟨[], [], ⟨by rw [← e], rfl, rfl⟩, sw.to⟩)
    · have e : decide (lnP x) = false := decide_eq_false fun h => e2 ((lnP5 k5).1 h).1
      (repeat (first | refine vgo ?_ | refine ⟨_, rfl, rfl, ?_⟩ | refine ⟨_, rfl, ?_⟩ | refine ⟨rfl, ?_⟩ | intro hb | refine go2 ?_ | refine WC.seq (fun K hK => ?_) | ((first | refine hK _ _ _ ?_ | refine hK _ _ _ _ rfl ?_ | refine WX.thenExit (K := K) ?_); clear hK K) | (refine WX.thenExit (K := KL) ?_; clear hL KL)))
      exact WX.ret1 rfl rfl (fun w sw => ⟨[], [], ⟨by rw [e], rfl, rfl⟩, sw.to⟩)
  have e : decide (lnP x) = false := decide_eq_false (lnP0 k1 k2 k3 k4 k5)
  (repeat (first | refine vgo ?_ | refine ⟨_, rfl, rfl, ?_⟩ | refine ⟨_, rfl, ?_⟩ | refine ⟨rfl, ?_⟩ | intro hb | refine go2 ?_ | refine WC.seq (fun K hK => ?_) | ((first | refine hK _ _ _ ?_ | refine hK _ _ _ _ rfl ?_ | refine WX.thenExit (K := K) ?_); clear hK K) | (refine WX.thenExit (K := KL) ?_; clear hL KL)))
  exact WX.ret1 rfl rfl (fun w sw => ⟨[], [], ⟨by rw [e], rfl, rfl⟩, sw.to⟩)
end
/-! ### Operations that may be: the program's Right and the document's. -/
section
open Go Go.Proofs
abbrev zNt : Nd := .mk 0 0 [] ((0, 0), (0, 0)) ((0, 0), (0, 0)) []
abbrev zOd : OpD := ⟨0, 0, 0, [], 0, (0, 0), (0, 0), 0, 0, [], zNt⟩
abbrev nlS : Value := .slice none 0 0
def zcP (x : OpD) : Prop := csameP x zOd
noncomputable instance (x : OpD) : Decidable (zcP x) := Classical.propDecidable _
theorem ctz_fun (x : OpD) (u : Value) : Fun Tryz.prog 47 [contV x u, contV zOd nlS] [rd (Ty.sl nodeT) x.F.ar u, rd (Ty.sl nodeT) [] nlS] [] (fun r G S => r = .bool (decide (zcP x)) ∧ G = [] ∧ S = []) :=
  (ctsame_fun x zOd u nlS).imp fun r G S h => ⟨h.1.trans (by congr 1; exact decide_eq_decide.2 Iff.rfl), h.2⟩
theorem rctz_fun (x : OpD) (u : Value) : Fun Tryz.prog 65 [contV x u, contV zOd nlS] [rd (Ty.sl nodeT) x.F.ar u, rd (Ty.sl nodeT) [] nlS] [] (fun r G S => r = .bool (decide (zcP x)) ∧ G = [] ∧ S = []) :=
  (rcsame_fun x zOd u nlS).imp fun r G S h => ⟨h.1.trans (by congr 1; exact decide_eq_decide.2 Iff.rfl), h.2⟩
def opP (x : OpD) : Prop := (1 ≤ x.o ∧ x.o ≤ 64) ∧ 1 ≤ x.n ∧ (1 ≤ x.t ∧ x.t ≤ 1099511627776) ∧ getC x.f x.o = x.n - 1 ∧ (x.k ≠ 5 → zcP x) ∧ lnP x ∧ cRd x
noncomputable instance (x : OpD) : Decidable (opP x) := Classical.propDecidable _
theorem zc_cRd {x : OpD} (h : zcP x) : cRd x := .inl h.1
set_option maxRecDepth 100000 in
set_option maxHeartbeats 3200000 in
theorem opright_fun {M : Nat} (x : OpD) (d u : Value) (c : List Nat) (hc : c.length ≤ 64) (hg : getC c x.o = getC x.f x.o) (hn : x.n < 18446744073709551616) (hs : smN M 64 x.F) : Fun Tryz.prog 37 [popV x d u] [rd (Ty.sl nodeT) x.F.ar u, rd (Ty.sl Ty.u64) c d] [] (fun z G S => z = .bool (decide (opP x)) ∧ G = [] ∧ S = []) := by
  refine Fun.enter Tryz.func37 (by kernel_rfl) rfl Tryz.ntmps37 rfl (fun B Gf Sf => ?_); (try simp only [List.cons_append]); (try simp only [List.nil_append]); simp only [argEnv]
  refine WC.ex (fun w sw => sw.slOne (v := u) RdSl.h) (fun hu1 => ?_)
  refine WC.ex (fun w sw => sw.slOne (v := d) RdSl.h) (fun hd1 => ?_)
  refine WC.sat (fun w sw => sw.rdNil (nodeT)) ?_
  (repeat (first | refine vgo ?_ | refine ⟨_, rfl, rfl, ?_⟩ | refine ⟨_, rfl, ?_⟩ | refine ⟨rfl, ?_⟩ | intro hb | refine go2 ?_ | refine WC.seq (fun K hK => ?_) | ((first | refine hK _ _ _ ?_ | refine hK _ _ _ _ rfl ?_ | refine WX.thenExit (K := K) ?_); clear hK K) | (refine WX.thenExit (K := KL) ?_; clear hL KL)))
  (first | refine WL.boxA rfl rfl ?_ | refine WL.box rfl rfl rfl ?_); intro b1
  by_cases h1 : x.o < 1
  · have e : decide (opP x) = false := decide_eq_false fun h => by have := h.1.1; omega
    (repeat (first | refine vgo ?_ | refine ⟨_, rfl, rfl, ?_⟩ | refine ⟨_, rfl, ?_⟩ | refine ⟨rfl, ?_⟩ | intro hb | refine go2 ?_ | refine WC.seq (fun K hK => ?_) | ((first | refine hK _ _ _ ?_ | refine hK _ _ _ _ rfl ?_ | refine WX.thenExit (K := K) ?_); clear hK K) | (refine WX.thenExit (K := KL) ?_; clear hL KL)))
    exact WX.ret1 rfl rfl (fun w sw => ⟨[], [], ⟨by rw [e], rfl, rfl⟩, sw.to⟩)
  by_cases h2 : 64 < x.o
  · have e : decide (opP x) = false := decide_eq_false fun h => by have := h.1.2; omega
    (repeat (first | refine vgo ?_ | refine ⟨_, rfl, rfl, ?_⟩ | refine ⟨_, rfl, ?_⟩ | refine ⟨rfl, ?_⟩ | intro hb | refine go2 ?_ | refine WC.seq (fun K hK => ?_) | ((first | refine hK _ _ _ ?_ | refine hK _ _ _ _ rfl ?_ | refine WX.thenExit (K := K) ?_); clear hK K) | (refine WX.thenExit (K := KL) ?_; clear hL KL)))
    exact WX.ret1 rfl rfl (fun w sw => ⟨[], [], ⟨by rw [e], rfl, rfl⟩, sw.to⟩)
  by_cases h3 : x.n < 1
  · have e : decide (opP x) = false := decide_eq_false fun h => by have := h.2.1; omega
    (repeat (first | refine vgo ?_ | refine ⟨_, rfl, rfl, ?_⟩ | refine ⟨_, rfl, ?_⟩ | refine ⟨rfl, ?_⟩ | intro hb | refine go2 ?_ | refine WC.seq (fun K hK => ?_) | ((first | refine hK _ _ _ ?_ | refine hK _ _ _ _ rfl ?_ | refine WX.thenExit (K := K) ?_); clear hK K) | (refine WX.thenExit (K := KL) ?_; clear hL KL)))
    exact WX.ret1 rfl rfl (fun w sw => ⟨[], [], ⟨by rw [e], rfl, rfl⟩, sw.to⟩)
  by_cases h4 : x.t < 1
  · have e : decide (opP x) = false := decide_eq_false fun h => by have := h.2.2.1.1; omega
    (repeat (first | refine vgo ?_ | refine ⟨_, rfl, rfl, ?_⟩ | refine ⟨_, rfl, ?_⟩ | refine ⟨rfl, ?_⟩ | intro hb | refine go2 ?_ | refine WC.seq (fun K hK => ?_) | ((first | refine hK _ _ _ ?_ | refine hK _ _ _ _ rfl ?_ | refine WX.thenExit (K := K) ?_); clear hK K) | (refine WX.thenExit (K := KL) ?_; clear hL KL)))
    exact WX.ret1 rfl rfl (fun w sw => ⟨[], [], ⟨by rw [e], rfl, rfl⟩, sw.to⟩)
  by_cases h5 : 1099511627776 < x.t
  · have e : decide (opP x) = false := decide_eq_false fun h => by have := h.2.2.1.2; omega
    (repeat (first | refine vgo ?_ | refine ⟨_, rfl, rfl, ?_⟩ | refine ⟨_, rfl, ?_⟩ | refine ⟨rfl, ?_⟩ | intro hb | refine go2 ?_ | refine WC.seq (fun K hK => ?_) | ((first | refine hK _ _ _ ?_ | refine hK _ _ _ _ rfl ?_ | refine WX.thenExit (K := K) ?_); clear hK K) | (refine WX.thenExit (K := KL) ?_; clear hL KL)))
    exact WX.ret1 rfl rfl (fun w sw => ⟨[], [], ⟨by rw [e], rfl, rfl⟩, sw.to⟩)
  by_cases h6 : ((getC c x.o : Nat) : Int) = (x.n : Int) - 1
  rotate_left
  · have e : decide (opP x) = false := decide_eq_false fun h => h6 (by rw [hg, h.2.2.2.1]; omega)
    (repeat (first | refine vgo ?_ | refine ⟨_, rfl, rfl, ?_⟩ | refine ⟨_, rfl, ?_⟩ | refine ⟨rfl, ?_⟩ | intro hb | refine go2 ?_ | refine WC.seq (fun K hK => ?_) | ((first | refine hK _ _ _ ?_ | refine hK _ _ _ _ rfl ?_ | refine WX.thenExit (K := K) ?_); clear hK K) | (refine WX.thenExit (K := KL) ?_; clear hL KL)))
    (apply WC.drawE; exact rfl; focus (repeat (first | exact Wo.nil | (apply Wo.keep; exact rfl) | (apply Wo.drop; exact rfl)))); (repeat refine ObP3.c0A ?_); try (refine ObP3.nil ?_; (repeat (intro _)); (conv => whnf); (try dsimp only [envO, List.cons_append, List.nil_append]))
    (repeat (first | refine vgo ?_ | refine ⟨_, rfl, rfl, ?_⟩ | refine ⟨_, rfl, ?_⟩ | refine ⟨rfl, ?_⟩ | intro hb | refine go2 ?_ | refine WC.seq (fun K hK => ?_) | ((first | refine hK _ _ _ ?_ | refine hK _ _ _ _ rfl ?_ | refine WX.thenExit (K := K) ?_); clear hK K) | (refine WX.thenExit (K := KL) ?_; clear hL KL)))
    exact WX.ret1 rfl rfl (fun w sw => ⟨[], [], ⟨by rw [e], rfl, rfl⟩, sw.to⟩)
  by_cases k5 : x.k = 5
  · (repeat (first | refine vgo ?_ | refine ⟨_, rfl, rfl, ?_⟩ | refine ⟨_, rfl, ?_⟩ | refine ⟨rfl, ?_⟩ | intro hb | refine go2 ?_ | refine WC.seq (fun K hK => ?_) | ((first | refine hK _ _ _ ?_ | refine hK _ _ _ _ rfl ?_ | refine WX.thenExit (K := K) ?_); clear hK K) | (refine WX.thenExit (K := KL) ?_; clear hL KL)))
    (apply WC.drawE; exact rfl; focus (repeat (first | exact Wo.nil | (apply Wo.keep; exact rfl) | (apply Wo.drop; exact rfl)))); (repeat refine ObP3.c0A ?_); try (refine ObP3.nil ?_; (repeat (intro _)); (conv => whnf); (try dsimp only [envO, List.cons_append, List.nil_append]))
    (repeat (first | refine vgo ?_ | refine ⟨_, rfl, rfl, ?_⟩ | refine ⟨_, rfl, ?_⟩ | refine ⟨rfl, ?_⟩ | intro hb | refine go2 ?_ | refine WC.seq (fun K hK => ?_) | ((first | refine hK _ _ _ ?_ | refine hK _ _ _ _ rfl ?_ | refine WX.thenExit (K := K) ?_); clear hK K) | (refine WX.thenExit (K := KL) ?_; clear hL KL)))
    refine CallV.by' (lines_fun x d u c) ?_; rintro _ _ _ ⟨rfl, rfl, rfl⟩; (try simp only [List.cons_append]); (try simp only [List.nil_append])
    by_cases hl : lnP x
    · rw [decide_eq_true hl]
      (repeat (first | refine vgo ?_ | refine ⟨_, rfl, rfl, ?_⟩ | refine ⟨_, rfl, ?_⟩ | refine ⟨rfl, ?_⟩ | intro hb | refine go2 ?_ | refine WC.seq (fun K hK => ?_) | ((first | refine hK _ _ _ ?_ | refine hK _ _ _ _ rfl ?_ | refine WX.thenExit (K := K) ?_); clear hK K) | (refine WX.thenExit (K := KL) ?_; clear hL KL)))
      refine CallV.by' (cright_fun x u hs) ?_; rintro _ _ _ ⟨rfl, rfl, rfl⟩; (try simp only [List.cons_append]); (try simp only [List.nil_append])
      have e : decide (cRd x) = decide (opP x) := decide_eq_decide.2 ⟨fun h => ⟨⟨by omega, by omega⟩, by omega, ⟨by omega, by omega⟩, by omega, fun h => absurd k5 h, hl, h⟩, fun h => h.2.2.2.2.2.2⟩
      (repeat (first | refine vgo ?_ | refine ⟨_, rfl, rfl, ?_⟩ | refine ⟨_, rfl, ?_⟩ | refine ⟨rfl, ?_⟩ | intro hb | refine go2 ?_ | refine WC.seq (fun K hK => ?_) | ((first | refine hK _ _ _ ?_ | refine hK _ _ _ _ rfl ?_ | refine WX.thenExit (K := K) ?_); clear hK K) | (refine WX.thenExit (K := KL) ?_; clear hL KL)))
      exact WX.ret1 rfl rfl (fun w sw => ⟨[], [], ⟨by rw [← e], rfl, rfl⟩, sw.to⟩)
    · rw [decide_eq_false hl]
      have e : decide (opP x) = false := decide_eq_false fun h => hl h.2.2.2.2.2.1
      (repeat (first | refine vgo ?_ | refine ⟨_, rfl, rfl, ?_⟩ | refine ⟨_, rfl, ?_⟩ | refine ⟨rfl, ?_⟩ | intro hb | refine go2 ?_ | refine WC.seq (fun K hK => ?_) | ((first | refine hK _ _ _ ?_ | refine hK _ _ _ _ rfl ?_ | refine WX.thenExit (K := K) ?_); clear hK K) | (refine WX.thenExit (K := KL) ?_; clear hL KL)))
      exact WX.ret1 rfl rfl (fun w sw => ⟨[], [], ⟨by rw [e], rfl, rfl⟩, sw.to⟩)
  · (repeat (first | refine vgo ?_ | refine ⟨_, rfl, rfl, ?_⟩ | refine ⟨_, rfl, ?_⟩ | refine ⟨rfl, ?_⟩ | intro hb | refine go2 ?_ | refine WC.seq (fun K hK => ?_) | ((first | refine hK _ _ _ ?_ | refine hK _ _ _ _ rfl ?_ | refine WX.thenExit (K := K) ?_); clear hK K) | (refine WX.thenExit (K := KL) ?_; clear hL KL)))
    (apply WC.drawE; exact rfl; focus (repeat (first | exact Wo.nil | (apply Wo.keep; exact rfl) | (apply Wo.drop; exact rfl)))); (repeat refine ObP3.c0A ?_); try (refine ObP3.nil ?_; (repeat (intro _)); (conv => whnf); (try dsimp only [envO, List.cons_append, List.nil_append]))
    (repeat (first | refine vgo ?_ | refine ⟨_, rfl, rfl, ?_⟩ | refine ⟨_, rfl, ?_⟩ | refine ⟨rfl, ?_⟩ | intro hb | refine go2 ?_ | refine WC.seq (fun K hK => ?_) | ((first | refine hK _ _ _ ?_ | refine hK _ _ _ _ rfl ?_ | refine WX.thenExit (K := K) ?_); clear hK K) | (refine WX.thenExit (K := KL) ?_; clear hL KL)))
    refine CallV.by' (ctz_fun x u) ?_; rintro _ _ _ ⟨rfl, rfl, rfl⟩; (try simp only [List.cons_append]); (try simp only [List.nil_append])
    by_cases hz : zcP x
    · rw [decide_eq_true hz]
      (repeat (first | refine vgo ?_ | refine ⟨_, rfl, rfl, ?_⟩ | refine ⟨_, rfl, ?_⟩ | refine ⟨rfl, ?_⟩ | intro hb | refine go2 ?_ | refine WC.seq (fun K hK => ?_) | ((first | refine hK _ _ _ ?_ | refine hK _ _ _ _ rfl ?_ | refine WX.thenExit (K := K) ?_); clear hK K) | (refine WX.thenExit (K := KL) ?_; clear hL KL)))
      refine CallV.by' (lines_fun x d u c) ?_; rintro _ _ _ ⟨rfl, rfl, rfl⟩; (try simp only [List.cons_append]); (try simp only [List.nil_append])
      by_cases hl : lnP x
      · rw [decide_eq_true hl]
        (repeat (first | refine vgo ?_ | refine ⟨_, rfl, rfl, ?_⟩ | refine ⟨_, rfl, ?_⟩ | refine ⟨rfl, ?_⟩ | intro hb | refine go2 ?_ | refine WC.seq (fun K hK => ?_) | ((first | refine hK _ _ _ ?_ | refine hK _ _ _ _ rfl ?_ | refine WX.thenExit (K := K) ?_); clear hK K) | (refine WX.thenExit (K := KL) ?_; clear hL KL)))
        refine CallV.by' (cright_fun x u hs) ?_; rintro _ _ _ ⟨rfl, rfl, rfl⟩; (try simp only [List.cons_append]); (try simp only [List.nil_append])
        have e : decide (cRd x) = decide (opP x) := decide_eq_decide.2 ⟨fun h => ⟨⟨by omega, by omega⟩, by omega, ⟨by omega, by omega⟩, by omega, fun _ => hz, hl, h⟩, fun h => h.2.2.2.2.2.2⟩
        (repeat (first | refine vgo ?_ | refine ⟨_, rfl, rfl, ?_⟩ | refine ⟨_, rfl, ?_⟩ | refine ⟨rfl, ?_⟩ | intro hb | refine go2 ?_ | refine WC.seq (fun K hK => ?_) | ((first | refine hK _ _ _ ?_ | refine hK _ _ _ _ rfl ?_ | refine WX.thenExit (K := K) ?_); clear hK K) | (refine WX.thenExit (K := KL) ?_; clear hL KL)))
        exact WX.ret1 rfl rfl (fun w sw => ⟨[], [], ⟨by rw [← e], rfl, rfl⟩, sw.to⟩)
      · rw [decide_eq_false hl]
        have e : decide (opP x) = false := decide_eq_false fun h => hl h.2.2.2.2.2.1
        (repeat (first | refine vgo ?_ | refine ⟨_, rfl, rfl, ?_⟩ | refine ⟨_, rfl, ?_⟩ | refine ⟨rfl, ?_⟩ | intro hb | refine go2 ?_ | refine WC.seq (fun K hK => ?_) | ((first | refine hK _ _ _ ?_ | refine hK _ _ _ _ rfl ?_ | refine WX.thenExit (K := K) ?_); clear hK K) | (refine WX.thenExit (K := KL) ?_; clear hL KL)))
        exact WX.ret1 rfl rfl (fun w sw => ⟨[], [], ⟨by rw [e], rfl, rfl⟩, sw.to⟩)
    · rw [decide_eq_false hz]
      have e : decide (opP x) = false := decide_eq_false fun h => hz (h.2.2.2.2.1 k5)
      (repeat (first | refine vgo ?_ | refine ⟨_, rfl, rfl, ?_⟩ | refine ⟨_, rfl, ?_⟩ | refine ⟨rfl, ?_⟩ | intro hb | refine go2 ?_ | refine WC.seq (fun K hK => ?_) | ((first | refine hK _ _ _ ?_ | refine hK _ _ _ _ rfl ?_ | refine WX.thenExit (K := K) ?_); clear hK K) | (refine WX.thenExit (K := KL) ?_; clear hL KL)))
      exact WX.ret1 rfl rfl (fun w sw => ⟨[], [], ⟨by rw [e], rfl, rfl⟩, sw.to⟩)
set_option maxRecDepth 100000 in
set_option maxHeartbeats 3200000 in
theorem rright14_fun {M D : Nat} (hM : M ≤ upM) (x : OpD) (u : Value) (hx : x.f.length = 64) (hn : x.n < 18446744073709551616) (hs : smN M D x.F) : Fun Tryz.prog 45 [ropV x u] [rd (Ty.sl nodeT) x.F.ar u] [] (fun z G S => z = .bool (decide (opP x)) ∧ G = [] ∧ S = []) := by
  have i1 : Len64 x.f := ⟨hx⟩
  refine Fun.enter Tryz.func45 (by kernel_rfl) rfl Tryz.ntmps45 rfl (fun B Gf Sf => ?_); (try simp only [List.cons_append]); (try simp only [List.nil_append]); simp only [argEnv]
  refine WC.ex (fun w sw => sw.slOne (v := u) RdSl.h) (fun hu1 => ?_)
  refine WC.sat (fun w sw => sw.rdNil (nodeT)) ?_
  (repeat (first | refine vgo ?_ | refine ⟨_, rfl, rfl, ?_⟩ | refine ⟨_, rfl, ?_⟩ | refine ⟨rfl, ?_⟩ | intro hb | refine go2 ?_ | refine WC.seq (fun K hK => ?_) | ((first | refine hK _ _ _ ?_ | refine hK _ _ _ _ rfl ?_ | refine WX.thenExit (K := K) ?_); clear hK K) | (refine WX.thenExit (K := KL) ?_; clear hL KL)))
  (first | refine WL.boxA rfl rfl ?_ | refine WL.box rfl rfl rfl ?_); intro b1
  by_cases h1 : x.o < 1
  · have e : decide (opP x) = false := decide_eq_false fun h => by have := h.1.1; omega
    (repeat (first | refine vgo ?_ | refine ⟨_, rfl, rfl, ?_⟩ | refine ⟨_, rfl, ?_⟩ | refine ⟨rfl, ?_⟩ | intro hb | refine go2 ?_ | refine WC.seq (fun K hK => ?_) | ((first | refine hK _ _ _ ?_ | refine hK _ _ _ _ rfl ?_ | refine WX.thenExit (K := K) ?_); clear hK K) | (refine WX.thenExit (K := KL) ?_; clear hL KL)))
    (apply WC.drawE; exact rfl; focus (repeat (first | exact Wo.nil | (apply Wo.keep; exact rfl) | (apply Wo.drop; exact rfl)))); (repeat refine ObP3.c0A ?_); try (refine ObP3.nil ?_; (repeat (intro _)); (conv => whnf); (try dsimp only [envO, List.cons_append, List.nil_append]))
    (repeat (first | refine vgo ?_ | refine ⟨_, rfl, rfl, ?_⟩ | refine ⟨_, rfl, ?_⟩ | refine ⟨rfl, ?_⟩ | intro hb | refine go2 ?_ | refine WC.seq (fun K hK => ?_) | ((first | refine hK _ _ _ ?_ | refine hK _ _ _ _ rfl ?_ | refine WX.thenExit (K := K) ?_); clear hK K) | (refine WX.thenExit (K := KL) ?_; clear hL KL)))
    exact WX.ret1 rfl rfl (fun w sw => ⟨[], [], ⟨by rw [e], rfl, rfl⟩, sw.to⟩)
  by_cases h2 : 64 < x.o
  · have e : decide (opP x) = false := decide_eq_false fun h => by have := h.1.2; omega
    (repeat (first | refine vgo ?_ | refine ⟨_, rfl, rfl, ?_⟩ | refine ⟨_, rfl, ?_⟩ | refine ⟨rfl, ?_⟩ | intro hb | refine go2 ?_ | refine WC.seq (fun K hK => ?_) | ((first | refine hK _ _ _ ?_ | refine hK _ _ _ _ rfl ?_ | refine WX.thenExit (K := K) ?_); clear hK K) | (refine WX.thenExit (K := KL) ?_; clear hL KL)))
    (apply WC.drawE; exact rfl; focus (repeat (first | exact Wo.nil | (apply Wo.keep; exact rfl) | (apply Wo.drop; exact rfl)))); (repeat refine ObP3.c0A ?_); try (refine ObP3.nil ?_; (repeat (intro _)); (conv => whnf); (try dsimp only [envO, List.cons_append, List.nil_append]))
    (repeat (first | refine vgo ?_ | refine ⟨_, rfl, rfl, ?_⟩ | refine ⟨_, rfl, ?_⟩ | refine ⟨rfl, ?_⟩ | intro hb | refine go2 ?_ | refine WC.seq (fun K hK => ?_) | ((first | refine hK _ _ _ ?_ | refine hK _ _ _ _ rfl ?_ | refine WX.thenExit (K := K) ?_); clear hK K) | (refine WX.thenExit (K := KL) ?_; clear hL KL)))
    exact WX.ret1 rfl rfl (fun w sw => ⟨[], [], ⟨by rw [e], rfl, rfl⟩, sw.to⟩)
  by_cases h3 : (x.n : Int) = 0
  · have e : decide (opP x) = false := decide_eq_false fun h => by have := h.2.1; omega
    (repeat (first | refine vgo ?_ | refine ⟨_, rfl, rfl, ?_⟩ | refine ⟨_, rfl, ?_⟩ | refine ⟨rfl, ?_⟩ | intro hb | refine go2 ?_ | refine WC.seq (fun K hK => ?_) | ((first | refine hK _ _ _ ?_ | refine hK _ _ _ _ rfl ?_ | refine WX.thenExit (K := K) ?_); clear hK K) | (refine WX.thenExit (K := KL) ?_; clear hL KL)))
    (apply WC.drawE; exact rfl; focus (repeat (first | exact Wo.nil | (apply Wo.keep; exact rfl) | (apply Wo.drop; exact rfl)))); (repeat refine ObP3.c0A ?_); try (refine ObP3.nil ?_; (repeat (intro _)); (conv => whnf); (try dsimp only [envO, List.cons_append, List.nil_append]))
    (repeat (first | refine vgo ?_ | refine ⟨_, rfl, rfl, ?_⟩ | refine ⟨_, rfl, ?_⟩ | refine ⟨rfl, ?_⟩ | intro hb | refine go2 ?_ | refine WC.seq (fun K hK => ?_) | ((first | refine hK _ _ _ ?_ | refine hK _ _ _ _ rfl ?_ | refine WX.thenExit (K := K) ?_); clear hK K) | (refine WX.thenExit (K := KL) ?_; clear hL KL)))
    exact WX.ret1 rfl rfl (fun w sw => ⟨[], [], ⟨by rw [e], rfl, rfl⟩, sw.to⟩)
  by_cases h4 : (x.t : Int) = 0
  · have e : decide (opP x) = false := decide_eq_false fun h => by have := h.2.2.1.1; omega
    (repeat (first | refine vgo ?_ | refine ⟨_, rfl, rfl, ?_⟩ | refine ⟨_, rfl, ?_⟩ | refine ⟨rfl, ?_⟩ | intro hb | refine go2 ?_ | refine WC.seq (fun K hK => ?_) | ((first | refine hK _ _ _ ?_ | refine hK _ _ _ _ rfl ?_ | refine WX.thenExit (K := K) ?_); clear hK K) | (refine WX.thenExit (K := KL) ?_; clear hL KL)))
    (apply WC.drawE; exact rfl; focus (repeat (first | exact Wo.nil | (apply Wo.keep; exact rfl) | (apply Wo.drop; exact rfl)))); (repeat refine ObP3.c0A ?_); try (refine ObP3.nil ?_; (repeat (intro _)); (conv => whnf); (try dsimp only [envO, List.cons_append, List.nil_append]))
    (repeat (first | refine vgo ?_ | refine ⟨_, rfl, rfl, ?_⟩ | refine ⟨_, rfl, ?_⟩ | refine ⟨rfl, ?_⟩ | intro hb | refine go2 ?_ | refine WC.seq (fun K hK => ?_) | ((first | refine hK _ _ _ ?_ | refine hK _ _ _ _ rfl ?_ | refine WX.thenExit (K := K) ?_); clear hK K) | (refine WX.thenExit (K := KL) ?_; clear hL KL)))
    exact WX.ret1 rfl rfl (fun w sw => ⟨[], [], ⟨by rw [e], rfl, rfl⟩, sw.to⟩)
  by_cases h5 : 1099511627776 < x.t
  · have e : decide (opP x) = false := decide_eq_false fun h => by have := h.2.2.1.2; omega
    (repeat (first | refine vgo ?_ | refine ⟨_, rfl, rfl, ?_⟩ | refine ⟨_, rfl, ?_⟩ | refine ⟨rfl, ?_⟩ | intro hb | refine go2 ?_ | refine WC.seq (fun K hK => ?_) | ((first | refine hK _ _ _ ?_ | refine hK _ _ _ _ rfl ?_ | refine WX.thenExit (K := K) ?_); clear hK K) | (refine WX.thenExit (K := KL) ?_; clear hL KL)))
    (apply WC.drawE; exact rfl; focus (repeat (first | exact Wo.nil | (apply Wo.keep; exact rfl) | (apply Wo.drop; exact rfl)))); (repeat refine ObP3.c0A ?_); try (refine ObP3.nil ?_; (repeat (intro _)); (conv => whnf); (try dsimp only [envO, List.cons_append, List.nil_append]))
    (repeat (first | refine vgo ?_ | refine ⟨_, rfl, rfl, ?_⟩ | refine ⟨_, rfl, ?_⟩ | refine ⟨rfl, ?_⟩ | intro hb | refine go2 ?_ | refine WC.seq (fun K hK => ?_) | ((first | refine hK _ _ _ ?_ | refine hK _ _ _ _ rfl ?_ | refine WX.thenExit (K := K) ?_); clear hK K) | (refine WX.thenExit (K := KL) ?_; clear hL KL)))
    exact WX.ret1 rfl rfl (fun w sw => ⟨[], [], ⟨by rw [e], rfl, rfl⟩, sw.to⟩)
  by_cases h6 : ((getC x.f x.o : Nat) : Int) = (x.n : Int) - 1
  rotate_left
  · have e : decide (opP x) = false := decide_eq_false fun h => h6 (by rw [h.2.2.2.1]; omega)
    (repeat (first | refine vgo ?_ | refine ⟨_, rfl, rfl, ?_⟩ | refine ⟨_, rfl, ?_⟩ | refine ⟨rfl, ?_⟩ | intro hb | refine go2 ?_ | refine WC.seq (fun K hK => ?_) | ((first | refine hK _ _ _ ?_ | refine hK _ _ _ _ rfl ?_ | refine WX.thenExit (K := K) ?_); clear hK K) | (refine WX.thenExit (K := KL) ?_; clear hL KL)))
    (apply WC.drawE; exact rfl; focus (repeat (first | exact Wo.nil | (apply Wo.keep; exact rfl) | (apply Wo.drop; exact rfl)))); (repeat refine ObP3.c0A ?_); try (refine ObP3.nil ?_; (repeat (intro _)); (conv => whnf); (try dsimp only [envO, List.cons_append, List.nil_append]))
    (repeat (first | refine vgo ?_ | refine ⟨_, rfl, rfl, ?_⟩ | refine ⟨_, rfl, ?_⟩ | refine ⟨rfl, ?_⟩ | intro hb | refine go2 ?_ | refine WC.seq (fun K hK => ?_) | ((first | refine hK _ _ _ ?_ | refine hK _ _ _ _ rfl ?_ | refine WX.thenExit (K := K) ?_); clear hK K) | (refine WX.thenExit (K := KL) ?_; clear hL KL)))
    exact WX.ret1 rfl rfl (fun w sw => ⟨[], [], ⟨by rw [e], rfl, rfl⟩, sw.to⟩)
  (repeat (first | refine vgo ?_ | refine ⟨_, rfl, rfl, ?_⟩ | refine ⟨_, rfl, ?_⟩ | refine ⟨rfl, ?_⟩ | intro hb | refine go2 ?_ | refine WC.seq (fun K hK => ?_) | ((first | refine hK _ _ _ ?_ | refine hK _ _ _ _ rfl ?_ | refine WX.thenExit (K := K) ?_); clear hK K) | (refine WX.thenExit (K := KL) ?_; clear hL KL)))
  (apply WC.drawE; exact rfl; focus (repeat (first | exact Wo.nil | (apply Wo.keep; exact rfl) | (apply Wo.drop; exact rfl)))); (repeat refine ObP3.c0A ?_); try (refine ObP3.nil ?_; (repeat (intro _)); (conv => whnf); (try dsimp only [envO, List.cons_append, List.nil_append]))
  (repeat (first | refine vgo ?_ | refine ⟨_, rfl, rfl, ?_⟩ | refine ⟨_, rfl, ?_⟩ | refine ⟨rfl, ?_⟩ | intro hb | refine go2 ?_ | refine WC.seq (fun K hK => ?_) | ((first | refine hK _ _ _ ?_ | refine hK _ _ _ _ rfl ?_ | refine WX.thenExit (K := K) ?_); clear hK K) | (refine WX.thenExit (K := KL) ?_; clear hL KL)))
  (apply WC.drawE; exact rfl; focus (repeat (first | exact Wo.nil | (apply Wo.keep; exact rfl) | (apply Wo.drop; exact rfl)))); (repeat refine ObP3.c0A ?_); try (refine ObP3.nil ?_; (repeat (intro _)); (conv => whnf); (try dsimp only [envO, List.cons_append, List.nil_append]))
  refine ObP3.cons1 [] [] (.ex Nat (fun p => .pointer (some ⟨p, 0, none⟩)) (fun _ => []) (fun p => [box p 52 [.int .u64 0, .int .i64 0]])) ?_ rfl ?_
  · (repeat (intro _)); (conv => whnf); (try dsimp only [envO, List.cons_append, List.nil_append])
    (repeat (first | refine vgo ?_ | refine ⟨_, rfl, rfl, ?_⟩ | refine ⟨_, rfl, ?_⟩ | refine ⟨rfl, ?_⟩ | intro hb | refine go2 ?_ | refine WC.seq (fun K hK => ?_) | ((first | refine hK _ _ _ ?_ | refine hK _ _ _ _ rfl ?_ | refine WX.thenExit (K := K) ?_); clear hK K) | (refine WX.thenExit (K := KL) ?_; clear hL KL)))
    refine WL.alloc rfl ?_; intro bx
    (repeat (first | refine vgo ?_ | refine ⟨_, rfl, rfl, ?_⟩ | refine ⟨_, rfl, ?_⟩ | refine ⟨rfl, ?_⟩ | intro hb | refine go2 ?_ | refine WC.seq (fun K hK => ?_) | ((first | refine hK _ _ _ ?_ | refine hK _ _ _ _ rfl ?_ | refine WX.thenExit (K := K) ?_); clear hK K) | (refine WX.thenExit (K := KL) ?_; clear hL KL)))
    exact WX.pgEx (fv := fun p : Nat => .pointer (some ⟨p, 0, none⟩)) bx rfl (fun w sw => sw.to)
  refine ObP3.cons1 [] [] (.ex Nat (fun p => .pointer (some ⟨p, 0, none⟩)) (fun _ => []) (fun p => [box p 52 [.int .u64 0, .int .i64 0]])) ?_ rfl ?_
  · (repeat (intro _)); (conv => whnf); (try dsimp only [envO, List.cons_append, List.nil_append])
    (repeat (first | refine vgo ?_ | refine ⟨_, rfl, rfl, ?_⟩ | refine ⟨_, rfl, ?_⟩ | refine ⟨rfl, ?_⟩ | intro hb | refine go2 ?_ | refine WC.seq (fun K hK => ?_) | ((first | refine hK _ _ _ ?_ | refine hK _ _ _ _ rfl ?_ | refine WX.thenExit (K := K) ?_); clear hK K) | (refine WX.thenExit (K := KL) ?_; clear hL KL)))
    refine WL.alloc rfl ?_; intro bx
    (repeat (first | refine vgo ?_ | refine ⟨_, rfl, rfl, ?_⟩ | refine ⟨_, rfl, ?_⟩ | refine ⟨rfl, ?_⟩ | intro hb | refine go2 ?_ | refine WC.seq (fun K hK => ?_) | ((first | refine hK _ _ _ ?_ | refine hK _ _ _ _ rfl ?_ | refine WX.thenExit (K := K) ?_); clear hK K) | (refine WX.thenExit (K := KL) ?_; clear hL KL)))
    exact WX.pgEx (fv := fun p : Nat => .pointer (some ⟨p, 0, none⟩)) bx rfl (fun w sw => sw.to)
  refine ObP3.cons2 [] [4] [4] 3 (.ex Nat (fun p => .pointer (some ⟨p, 0, none⟩)) (fun _ => []) (fun p => [box p 52 [.int .u64 (x.r.1 : Nat), .int .i64 x.r.2]])) ?_ rfl ?_
  · (repeat (intro _)); (conv => whnf); (try dsimp only [envO, List.cons_append, List.nil_append])
    (repeat (first | refine vgo ?_ | refine ⟨_, rfl, rfl, ?_⟩ | refine ⟨_, rfl, ?_⟩ | refine ⟨rfl, ?_⟩ | intro hb | refine go2 ?_ | refine WC.seq (fun K hK => ?_) | ((first | refine hK _ _ _ ?_ | refine hK _ _ _ _ rfl ?_ | refine WX.thenExit (K := K) ?_); clear hK K) | (refine WX.thenExit (K := KL) ?_; clear hL KL)))
    rename_i bx
    exact WX.pgEx (fv := fun p : Nat => .pointer (some ⟨p, 0, none⟩)) bx rfl (fun w sw => sw.to)
  refine ObP3.cons2 [] [5] [5] 4 (.ex Nat (fun p => .pointer (some ⟨p, 0, none⟩)) (fun _ => []) (fun p => [box p 52 [.int .u64 (x.c.1 : Nat), .int .i64 x.c.2]])) ?_ rfl ?_
  · (repeat (intro _)); (conv => whnf); (try dsimp only [envO, List.cons_append, List.nil_append])
    (repeat (first | refine vgo ?_ | refine ⟨_, rfl, rfl, ?_⟩ | refine ⟨_, rfl, ?_⟩ | refine ⟨rfl, ?_⟩ | intro hb | refine go2 ?_ | refine WC.seq (fun K hK => ?_) | ((first | refine hK _ _ _ ?_ | refine hK _ _ _ _ rfl ?_ | refine WX.thenExit (K := K) ?_); clear hK K) | (refine WX.thenExit (K := KL) ?_; clear hL KL)))
    rename_i bx
    exact WX.pgEx (fv := fun p : Nat => .pointer (some ⟨p, 0, none⟩)) bx rfl (fun w sw => sw.to)
  (repeat refine ObP3.c0B ?_); try (refine ObP3.nil ?_; (repeat (intro _)); (conv => whnf); (try dsimp only [envO, List.cons_append, List.nil_append]))
  (repeat (first | refine vgo ?_ | refine ⟨_, rfl, rfl, ?_⟩ | refine ⟨_, rfl, ?_⟩ | refine ⟨rfl, ?_⟩ | intro hb | refine go2 ?_ | refine WC.seq (fun K hK => ?_) | ((first | refine hK _ _ _ ?_ | refine hK _ _ _ _ rfl ?_ | refine WX.thenExit (K := K) ?_); clear hK K) | (refine WX.thenExit (K := KL) ?_; clear hL KL)))
  rename_i bo bl Ko hKo
  have hop : opP x ↔ (x.k ≠ 5 → zcP x) ∧ lnP x ∧ cRd x := ⟨fun h => h.2.2.2.2, fun h => ⟨⟨by omega, by omega⟩, by omega, ⟨by omega, by omega⟩, by omega, h⟩⟩
  have hA : ∀ l o : Nat × Int, (x.k = 2 ∨ x.k = 4 → l = x.c ∧ o = x.r) → (¬ (x.k = 2 ∨ x.k = 4) → l = x.r ∧ o = x.c) → WK 109 Ko { w := B, r := none, ds := [] } [(1, .pointer (some ⟨b1, 0, none⟩)), (2, .bool false), (3, .pointer (some ⟨bl, 0, none⟩)), (4, .pointer (some ⟨bo, 0, none⟩))] (rd (Ty.sl nodeT) [] (.slice none 0 0) :: rd (Ty.sl nodeT) x.F.ar u :: Gf) (box bl 52 [.int .u64 (l.1 : Nat), .int .i64 l.2] :: box bo 52 [.int .u64 (o.1 : Nat), .int .i64 o.2] :: box b1 77 (ropC x u) :: Sf) := fun l o ha hb => hKo _ _ _ (by
    clear hKo hK
    (repeat (first | refine vgo ?_ | refine ⟨_, rfl, rfl, ?_⟩ | refine ⟨_, rfl, ?_⟩ | refine ⟨rfl, ?_⟩ | intro hb | refine go2 ?_ | refine WC.seq (fun K hK => ?_) | ((first | refine hK _ _ _ ?_ | refine hK _ _ _ _ rfl ?_ | refine WX.thenExit (K := K) ?_); clear hK K) | (refine WX.thenExit (K := KL) ?_; clear hL KL)))
    refine WL.alloc rfl ?_; intro b5
    by_cases k1 : x.k = 1
    · obtain ⟨rfl, rfl⟩ := hb (by omega)
      have hq := lnP1 k1
      have k5 : ¬ x.k = 5 := by omega
      by_cases e1 : ((x.r.1 : Nat) : Int) = 0 ∧ x.r.2 = 0
      · by_cases e3 : ((x.c.1 : Nat) : Int) = 0 ∧ x.c.2 = 0
        · (repeat (first | refine vgo ?_ | refine ⟨_, rfl, rfl, ?_⟩ | refine ⟨_, rfl, ?_⟩ | refine ⟨rfl, ?_⟩ | intro hb | refine go2 ?_ | refine WC.seq (fun K hK => ?_) | ((first | refine hK _ _ _ ?_ | refine hK _ _ _ _ rfl ?_ | refine WX.thenExit (K := K) ?_); clear hK K) | (refine WX.thenExit (K := KL) ?_; clear hL KL)))
          refine CallV.by' (rctz_fun x u) ?_; rintro _ _ _ ⟨rfl, rfl, rfl⟩; (try simp only [List.cons_append]); (try simp only [List.nil_append])
          have e : decide (zcP x) = decide (opP x) := decide_eq_decide.2 ⟨fun h => hop.2 ⟨fun _ => h, hq.2 ⟨.inl e1, e3⟩, zc_cRd h⟩, fun h => (hop.1 h).1 k5⟩
          (repeat (first | refine vgo ?_ | refine ⟨_, rfl, rfl, ?_⟩ | refine ⟨_, rfl, ?_⟩ | refine ⟨rfl, ?_⟩ | intro hb | refine go2 ?_ | refine WC.seq (fun K hK => ?_) | ((first | refine hK _ _ _ ?_ | refine hK _ _ _ _ rfl ?_ | refine WX.thenExit (K := K) ?_); clear hK K) | (refine WX.thenExit (K := KL) ?_; clear hL KL)))
          exact WX.ret1 rfl rfl (fun w sw => ⟨[], [], ⟨by rw [← e], rfl, rfl⟩, sw.to⟩)
        · have e : decide (opP x) = false := decide_eq_false fun h => e3 (hq.1 (hop.1 h).2.1).2
          (repeat (first | refine vgo ?_ | refine ⟨_, rfl, rfl, ?_⟩ | refine ⟨_, rfl, ?_⟩ | refine ⟨rfl, ?_⟩ | intro hb | refine go2 ?_ | refine WC.seq (fun K hK => ?_) | ((first | refine hK _ _ _ ?_ | refine hK _ _ _ _ rfl ?_ | refine WX.thenExit (K := K) ?_); clear hK K) | (refine WX.thenExit (K := KL) ?_; clear hL KL)))
          exact WX.ret1 rfl rfl (fun w sw => ⟨[], [], ⟨by rw [e], rfl, rfl⟩, sw.to⟩)
      · by_cases e2 : idRight (x.r.1, x.r.2)
        · by_cases e3 : ((x.c.1 : Nat) : Int) = 0 ∧ x.c.2 = 0
          · (repeat (first | refine vgo ?_ | refine ⟨_, rfl, rfl, ?_⟩ | refine ⟨_, rfl, ?_⟩ | refine ⟨rfl, ?_⟩ | intro hb | refine go2 ?_ | refine WC.seq (fun K hK => ?_) | ((first | refine hK _ _ _ ?_ | refine hK _ _ _ _ rfl ?_ | refine WX.thenExit (K := K) ?_); clear hK K) | (refine WX.thenExit (K := KL) ?_; clear hL KL)))
            refine CallV.by' (rctz_fun x u) ?_; rintro _ _ _ ⟨rfl, rfl, rfl⟩; (try simp only [List.cons_append]); (try simp only [List.nil_append])
            have e : decide (zcP x) = decide (opP x) := decide_eq_decide.2 ⟨fun h => hop.2 ⟨fun _ => h, hq.2 ⟨.inr e2, e3⟩, zc_cRd h⟩, fun h => (hop.1 h).1 k5⟩
            (repeat (first | refine vgo ?_ | refine ⟨_, rfl, rfl, ?_⟩ | refine ⟨_, rfl, ?_⟩ | refine ⟨rfl, ?_⟩ | intro hb | refine go2 ?_ | refine WC.seq (fun K hK => ?_) | ((first | refine hK _ _ _ ?_ | refine hK _ _ _ _ rfl ?_ | refine WX.thenExit (K := K) ?_); clear hK K) | (refine WX.thenExit (K := KL) ?_; clear hL KL)))
            exact WX.ret1 rfl rfl (fun w sw => ⟨[], [], ⟨by rw [← e], rfl, rfl⟩, sw.to⟩)
          · have e : decide (opP x) = false := decide_eq_false fun h => e3 (hq.1 (hop.1 h).2.1).2
            (repeat (first | refine vgo ?_ | refine ⟨_, rfl, rfl, ?_⟩ | refine ⟨_, rfl, ?_⟩ | refine ⟨rfl, ?_⟩ | intro hb | refine go2 ?_ | refine WC.seq (fun K hK => ?_) | ((first | refine hK _ _ _ ?_ | refine hK _ _ _ _ rfl ?_ | refine WX.thenExit (K := K) ?_); clear hK K) | (refine WX.thenExit (K := KL) ?_; clear hL KL)))
            exact WX.ret1 rfl rfl (fun w sw => ⟨[], [], ⟨by rw [e], rfl, rfl⟩, sw.to⟩)
        · have e : decide (opP x) = false := decide_eq_false fun h => (hq.1 (hop.1 h).2.1).1.elim e1 e2
          (repeat (first | refine vgo ?_ | refine ⟨_, rfl, rfl, ?_⟩ | refine ⟨_, rfl, ?_⟩ | refine ⟨rfl, ?_⟩ | intro hb | refine go2 ?_ | refine WC.seq (fun K hK => ?_) | ((first | refine hK _ _ _ ?_ | refine hK _ _ _ _ rfl ?_ | refine WX.thenExit (K := K) ?_); clear hK K) | (refine WX.thenExit (K := KL) ?_; clear hL KL)))
          exact WX.ret1 rfl rfl (fun w sw => ⟨[], [], ⟨by rw [e], rfl, rfl⟩, sw.to⟩)
    by_cases k2 : x.k = 2
    · obtain ⟨rfl, rfl⟩ := ha (.inl k2)
      have hq := lnP2 k2
      have k5 : ¬ x.k = 5 := by omega
      by_cases e1 : ((x.c.1 : Nat) : Int) = 0 ∧ x.c.2 = 0
      · by_cases e3 : ((x.r.1 : Nat) : Int) = 0 ∧ x.r.2 = 0
        · (repeat (first | refine vgo ?_ | refine ⟨_, rfl, rfl, ?_⟩ | refine ⟨_, rfl, ?_⟩ | refine ⟨rfl, ?_⟩ | intro hb | refine go2 ?_ | refine WC.seq (fun K hK => ?_) | ((first | refine hK _ _ _ ?_ | refine hK _ _ _ _ rfl ?_ | refine WX.thenExit (K := K) ?_); clear hK K) | (refine WX.thenExit (K := KL) ?_; clear hL KL)))
          refine CallV.by' (rctz_fun x u) ?_; rintro _ _ _ ⟨rfl, rfl, rfl⟩; (try simp only [List.cons_append]); (try simp only [List.nil_append])
          have e : decide (zcP x) = decide (opP x) := decide_eq_decide.2 ⟨fun h => hop.2 ⟨fun _ => h, hq.2 ⟨.inl e1, e3⟩, zc_cRd h⟩, fun h => (hop.1 h).1 k5⟩
          (repeat (first | refine vgo ?_ | refine ⟨_, rfl, rfl, ?_⟩ | refine ⟨_, rfl, ?_⟩ | refine ⟨rfl, ?_⟩ | intro hb | refine go2 ?_ | refine WC.seq (fun K hK => ?_) | ((first | refine hK _ _ _ ?_ | refine hK _ _ _ _ rfl ?_ | refine WX.thenExit (K := K) ?_); clear hK K) | (refine WX.thenExit (K := KL) ?_; clear hL KL)))
          exact WX.ret1 rfl rfl (fun w sw => ⟨[], [], ⟨by rw [← e], rfl, rfl⟩, sw.to⟩)
        · have e : decide (opP x) = false := decide_eq_false fun h => e3 (hq.1 (hop.1 h).2.1).2
          (repeat (first | refine vgo ?_ | refine ⟨_, rfl, rfl, ?_⟩ | refine ⟨_, rfl, ?_⟩ | refine ⟨rfl, ?_⟩ | intro hb | refine go2 ?_ | refine WC.seq (fun K hK => ?_) | ((first | refine hK _ _ _ ?_ | refine hK _ _ _ _ rfl ?_ | refine WX.thenExit (K := K) ?_); clear hK K) | (refine WX.thenExit (K := KL) ?_; clear hL KL)))
          exact WX.ret1 rfl rfl (fun w sw => ⟨[], [], ⟨by rw [e], rfl, rfl⟩, sw.to⟩)
      · by_cases e2 : idRight (x.c.1, x.c.2)
        · by_cases e3 : ((x.r.1 : Nat) : Int) = 0 ∧ x.r.2 = 0
          · (repeat (first | refine vgo ?_ | refine ⟨_, rfl, rfl, ?_⟩ | refine ⟨_, rfl, ?_⟩ | refine ⟨rfl, ?_⟩ | intro hb | refine go2 ?_ | refine WC.seq (fun K hK => ?_) | ((first | refine hK _ _ _ ?_ | refine hK _ _ _ _ rfl ?_ | refine WX.thenExit (K := K) ?_); clear hK K) | (refine WX.thenExit (K := KL) ?_; clear hL KL)))
            refine CallV.by' (rctz_fun x u) ?_; rintro _ _ _ ⟨rfl, rfl, rfl⟩; (try simp only [List.cons_append]); (try simp only [List.nil_append])
            have e : decide (zcP x) = decide (opP x) := decide_eq_decide.2 ⟨fun h => hop.2 ⟨fun _ => h, hq.2 ⟨.inr e2, e3⟩, zc_cRd h⟩, fun h => (hop.1 h).1 k5⟩
            (repeat (first | refine vgo ?_ | refine ⟨_, rfl, rfl, ?_⟩ | refine ⟨_, rfl, ?_⟩ | refine ⟨rfl, ?_⟩ | intro hb | refine go2 ?_ | refine WC.seq (fun K hK => ?_) | ((first | refine hK _ _ _ ?_ | refine hK _ _ _ _ rfl ?_ | refine WX.thenExit (K := K) ?_); clear hK K) | (refine WX.thenExit (K := KL) ?_; clear hL KL)))
            exact WX.ret1 rfl rfl (fun w sw => ⟨[], [], ⟨by rw [← e], rfl, rfl⟩, sw.to⟩)
          · have e : decide (opP x) = false := decide_eq_false fun h => e3 (hq.1 (hop.1 h).2.1).2
            (repeat (first | refine vgo ?_ | refine ⟨_, rfl, rfl, ?_⟩ | refine ⟨_, rfl, ?_⟩ | refine ⟨rfl, ?_⟩ | intro hb | refine go2 ?_ | refine WC.seq (fun K hK => ?_) | ((first | refine hK _ _ _ ?_ | refine hK _ _ _ _ rfl ?_ | refine WX.thenExit (K := K) ?_); clear hK K) | (refine WX.thenExit (K := KL) ?_; clear hL KL)))
            exact WX.ret1 rfl rfl (fun w sw => ⟨[], [], ⟨by rw [e], rfl, rfl⟩, sw.to⟩)
        · have e : decide (opP x) = false := decide_eq_false fun h => (hq.1 (hop.1 h).2.1).1.elim e1 e2
          (repeat (first | refine vgo ?_ | refine ⟨_, rfl, rfl, ?_⟩ | refine ⟨_, rfl, ?_⟩ | refine ⟨rfl, ?_⟩ | intro hb | refine go2 ?_ | refine WC.seq (fun K hK => ?_) | ((first | refine hK _ _ _ ?_ | refine hK _ _ _ _ rfl ?_ | refine WX.thenExit (K := K) ?_); clear hK K) | (refine WX.thenExit (K := KL) ?_; clear hL KL)))
          exact WX.ret1 rfl rfl (fun w sw => ⟨[], [], ⟨by rw [e], rfl, rfl⟩, sw.to⟩)
    by_cases k3 : x.k = 3
    · obtain ⟨rfl, rfl⟩ := hb (by omega)
      have hq := lnP3 k3
      have k5 : ¬ x.k = 5 := by omega
      by_cases e2 : idRight (x.r.1, x.r.2)
      · by_cases e3 : ((x.c.1 : Nat) : Int) = 0 ∧ x.c.2 = 0
        · (repeat (first | refine vgo ?_ | refine ⟨_, rfl, rfl, ?_⟩ | refine ⟨_, rfl, ?_⟩ | refine ⟨rfl, ?_⟩ | intro hb | refine go2 ?_ | refine WC.seq (fun K hK => ?_) | ((first | refine hK _ _ _ ?_ | refine hK _ _ _ _ rfl ?_ | refine WX.thenExit (K := K) ?_); clear hK K) | (refine WX.thenExit (K := KL) ?_; clear hL KL)))
          refine CallV.by' (rctz_fun x u) ?_; rintro _ _ _ ⟨rfl, rfl, rfl⟩; (try simp only [List.cons_append]); (try simp only [List.nil_append])
          have e : decide (zcP x) = decide (opP x) := decide_eq_decide.2 ⟨fun h => hop.2 ⟨fun _ => h, hq.2 ⟨e2, e3⟩, zc_cRd h⟩, fun h => (hop.1 h).1 k5⟩
          (repeat (first | refine vgo ?_ | refine ⟨_, rfl, rfl, ?_⟩ | refine ⟨_, rfl, ?_⟩ | refine ⟨rfl, ?_⟩ | intro hb | refine go2 ?_ | refine WC.seq (fun K hK => ?_) | ((first | refine hK _ _ _ ?_ | refine hK _ _ _ _ rfl ?_ | refine WX.thenExit (K := K) ?_); clear hK K) | (refine WX.thenExit (K := KL) ?_; clear hL KL)))
          exact WX.ret1 rfl rfl (fun w sw => ⟨[], [], ⟨by rw [← e], rfl, rfl⟩, sw.to⟩)
        · have e : decide (opP x) = false := decide_eq_false fun h => e3 (hq.1 (hop.1 h).2.1).2
          (repeat (first | refine vgo ?_ | refine ⟨_, rfl, rfl, ?_⟩ | refine ⟨_, rfl, ?_⟩ | refine ⟨rfl, ?_⟩ | intro hb | refine go2 ?_ | refine WC.seq (fun K hK => ?_) | ((first | refine hK _ _ _ ?_ | refine hK _ _ _ _ rfl ?_ | refine WX.thenExit (K := K) ?_); clear hK K) | (refine WX.thenExit (K := KL) ?_; clear hL KL)))
          exact WX.ret1 rfl rfl (fun w sw => ⟨[], [], ⟨by rw [e], rfl, rfl⟩, sw.to⟩)
      · have e : decide (opP x) = false := decide_eq_false fun h => e2 (hq.1 (hop.1 h).2.1).1
        (repeat (first | refine vgo ?_ | refine ⟨_, rfl, rfl, ?_⟩ | refine ⟨_, rfl, ?_⟩ | refine ⟨rfl, ?_⟩ | intro hb | refine go2 ?_ | refine WC.seq (fun K hK => ?_) | ((first | refine hK _ _ _ ?_ | refine hK _ _ _ _ rfl ?_ | refine WX.thenExit (K := K) ?_); clear hK K) | (refine WX.thenExit (K := KL) ?_; clear hL KL)))
        exact WX.ret1 rfl rfl (fun w sw => ⟨[], [], ⟨by rw [e], rfl, rfl⟩, sw.to⟩)
    by_cases k4 : x.k = 4
    · obtain ⟨rfl, rfl⟩ := ha (.inr k4)
      have hq := lnP4 k4
      have k5 : ¬ x.k = 5 := by omega
      by_cases e2 : idRight (x.c.1, x.c.2)
      · by_cases e3 : ((x.r.1 : Nat) : Int) = 0 ∧ x.r.2 = 0
        · (repeat (first | refine vgo ?_ | refine ⟨_, rfl, rfl, ?_⟩ | refine ⟨_, rfl, ?_⟩ | refine ⟨rfl, ?_⟩ | intro hb | refine go2 ?_ | refine WC.seq (fun K hK => ?_) | ((first | refine hK _ _ _ ?_ | refine hK _ _ _ _ rfl ?_ | refine WX.thenExit (K := K) ?_); clear hK K) | (refine WX.thenExit (K := KL) ?_; clear hL KL)))
          refine CallV.by' (rctz_fun x u) ?_; rintro _ _ _ ⟨rfl, rfl, rfl⟩; (try simp only [List.cons_append]); (try simp only [List.nil_append])
          have e : decide (zcP x) = decide (opP x) := decide_eq_decide.2 ⟨fun h => hop.2 ⟨fun _ => h, hq.2 ⟨e2, e3⟩, zc_cRd h⟩, fun h => (hop.1 h).1 k5⟩
          (repeat (first | refine vgo ?_ | refine ⟨_, rfl, rfl, ?_⟩ | refine ⟨_, rfl, ?_⟩ | refine ⟨rfl, ?_⟩ | intro hb | refine go2 ?_ | refine WC.seq (fun K hK => ?_) | ((first | refine hK _ _ _ ?_ | refine hK _ _ _ _ rfl ?_ | refine WX.thenExit (K := K) ?_); clear hK K) | (refine WX.thenExit (K := KL) ?_; clear hL KL)))
          exact WX.ret1 rfl rfl (fun w sw => ⟨[], [], ⟨by rw [← e], rfl, rfl⟩, sw.to⟩)
        · have e : decide (opP x) = false := decide_eq_false fun h => e3 (hq.1 (hop.1 h).2.1).2
          (repeat (first | refine vgo ?_ | refine ⟨_, rfl, rfl, ?_⟩ | refine ⟨_, rfl, ?_⟩ | refine ⟨rfl, ?_⟩ | intro hb | refine go2 ?_ | refine WC.seq (fun K hK => ?_) | ((first | refine hK _ _ _ ?_ | refine hK _ _ _ _ rfl ?_ | refine WX.thenExit (K := K) ?_); clear hK K) | (refine WX.thenExit (K := KL) ?_; clear hL KL)))
          exact WX.ret1 rfl rfl (fun w sw => ⟨[], [], ⟨by rw [e], rfl, rfl⟩, sw.to⟩)
      · have e : decide (opP x) = false := decide_eq_false fun h => e2 (hq.1 (hop.1 h).2.1).1
        (repeat (first | refine vgo ?_ | refine ⟨_, rfl, rfl, ?_⟩ | refine ⟨_, rfl, ?_⟩ | refine ⟨rfl, ?_⟩ | intro hb | refine go2 ?_ | refine WC.seq (fun K hK => ?_) | ((first | refine hK _ _ _ ?_ | refine hK _ _ _ _ rfl ?_ | refine WX.thenExit (K := K) ?_); clear hK K) | (refine WX.thenExit (K := KL) ?_; clear hL KL)))
        exact WX.ret1 rfl rfl (fun w sw => ⟨[], [], ⟨by rw [e], rfl, rfl⟩, sw.to⟩)
    by_cases k5 : x.k = 5
    · obtain ⟨rfl, rfl⟩ := hb (by omega)
      have hq := lnP5 k5
      by_cases e2 : idRight (x.r.1, x.r.2)
      · by_cases e3 : idRight (x.c.1, x.c.2)
        · (repeat (first | refine vgo ?_ | refine ⟨_, rfl, rfl, ?_⟩ | refine ⟨_, rfl, ?_⟩ | refine ⟨rfl, ?_⟩ | intro hb | refine go2 ?_ | refine WC.seq (fun K hK => ?_) | ((first | refine hK _ _ _ ?_ | refine hK _ _ _ _ rfl ?_ | refine WX.thenExit (K := K) ?_); clear hK K) | (refine WX.thenExit (K := KL) ?_; clear hL KL)))
          refine CallV.by' (rcright_fun hM x u hs) ?_; rintro _ _ _ ⟨rfl, rfl, rfl⟩; (try simp only [List.cons_append]); (try simp only [List.nil_append])
          have e : decide (cRd x) = decide (opP x) := decide_eq_decide.2 ⟨fun h => hop.2 ⟨fun h5 => absurd k5 h5, hq.2 ⟨e2, e3⟩, h⟩, fun h => (hop.1 h).2.2⟩
          (repeat (first | refine vgo ?_ | refine ⟨_, rfl, rfl, ?_⟩ | refine ⟨_, rfl, ?_⟩ | refine ⟨rfl, ?_⟩ | intro hb | refine go2 ?_ | refine WC.seq (fun K hK => ?_) | ((first | refine hK _ _ _ ?_ | refine hK _ _ _ _ rfl ?_ | refine WX.thenExit (K := K) ?_); clear hK K) | (refine WX.thenExit (K := KL) ?_; clear hL KL)))
          exact WX.ret1 rfl rfl (fun w sw => ⟨[], [], ⟨by rw [← e], rfl, rfl⟩, sw.to⟩)
        · have e : decide (opP x) = false := decide_eq_false fun h => e3 (hq.1 (hop.1 h).2.1).2
          (repeat (first | refine vgo ?_ | refine ⟨_, rfl, rfl, ?_⟩ | refine ⟨_, rfl, ?_⟩ | refine ⟨rfl, ?_⟩ | intro hb | refine go2 ?_ | refine WC.seq (fun K hK => ?_) | ((first | refine hK _ _ _ ?_ | refine hK _ _ _ _ rfl ?_ | refine WX.thenExit (K := K) ?_); clear hK K) | (refine WX.thenExit (K := KL) ?_; clear hL KL)))
          exact WX.ret1 rfl rfl (fun w sw => ⟨[], [], ⟨by rw [e], rfl, rfl⟩, sw.to⟩)
      · have e : decide (opP x) = false := decide_eq_false fun h => e2 (hq.1 (hop.1 h).2.1).1
        (repeat (first | refine vgo ?_ | refine ⟨_, rfl, rfl, ?_⟩ | refine ⟨_, rfl, ?_⟩ | refine ⟨rfl, ?_⟩ | intro hb | refine go2 ?_ | refine WC.seq (fun K hK => ?_) | ((first | refine hK _ _ _ ?_ | refine hK _ _ _ _ rfl ?_ | refine WX.thenExit (K := K) ?_); clear hK K) | (refine WX.thenExit (K := KL) ?_; clear hL KL)))
        exact WX.ret1 rfl rfl (fun w sw => ⟨[], [], ⟨by rw [e], rfl, rfl⟩, sw.to⟩)
    have e : decide (opP x) = false := decide_eq_false fun h => lnP0 k1 k2 k3 k4 k5 (hop.1 h).2.1
    (repeat (first | refine vgo ?_ | refine ⟨_, rfl, rfl, ?_⟩ | refine ⟨_, rfl, ?_⟩ | refine ⟨rfl, ?_⟩ | intro hb | refine go2 ?_ | refine WC.seq (fun K hK => ?_) | ((first | refine hK _ _ _ ?_ | refine hK _ _ _ _ rfl ?_ | refine WX.thenExit (K := K) ?_); clear hK K) | (refine WX.thenExit (K := KL) ?_; clear hL KL)))
    exact WX.ret1 rfl rfl (fun w sw => ⟨[], [], ⟨by rw [e], rfl, rfl⟩, sw.to⟩))
  clear hKo
  by_cases k2 : x.k = 2
  · (repeat (first | refine vgo ?_ | refine ⟨_, rfl, rfl, ?_⟩ | refine ⟨_, rfl, ?_⟩ | refine ⟨rfl, ?_⟩ | intro hb | refine go2 ?_ | refine WC.seq (fun K hK => ?_) | ((first | refine hK _ _ _ ?_ | refine hK _ _ _ _ rfl ?_ | refine WX.thenExit (K := K) ?_); clear hK K) | (refine WX.thenExit (K := KL) ?_; clear hL KL)))
    refine WC.drawV (S := (box b1 77 (ropC x u) :: Sf)) ([[box bl 52 [.int .u64 (x.r.1 : Nat), .int .i64 x.r.2]], [box bo 52 [.int .u64 (x.c.1 : Nat), .int .i64 x.c.2]]]) rfl (by repeat (first | exact Wo.nil | (apply Wo.keep; exact rfl) | (apply Wo.drop; exact rfl))) (fun w sw => by (try simp only [List.flatten_cons, List.flatten_nil, List.append_nil, List.cons_append, List.nil_append]); exact sw.to) ?_; (try dsimp only [chunks])
    (repeat refine ObP3.c0A ?_); try (refine ObP3.nil ?_; (repeat (intro _)); (conv => whnf); (try dsimp only [envO, List.cons_append, List.nil_append]))
    (apply ObP3.cons1 [] [1000]; (focus ((repeat (intro _)); (conv => whnf); (try dsimp only [envO, List.cons_append, List.nil_append]); (repeat (first | refine vgo ?_ | refine ⟨_, rfl, rfl, ?_⟩ | refine ⟨_, rfl, ?_⟩ | refine ⟨rfl, ?_⟩ | intro hb | refine go2 ?_ | refine WC.seq (fun K hK => ?_) | ((first | refine hK _ _ _ ?_ | refine hK _ _ _ _ rfl ?_ | refine WX.thenExit (K := K) ?_); clear hK K) | (refine WX.thenExit (K := KL) ?_; clear hL KL))); first | exact WX.pgHeadV rfl | exact WX.pgHead | exact WX.pgOwn rfl)); exact rfl)
    (apply ObP3.cons1 [] [1001]; (focus ((repeat (intro _)); (conv => whnf); (try dsimp only [envO, List.cons_append, List.nil_append]); (repeat (first | refine vgo ?_ | refine ⟨_, rfl, rfl, ?_⟩ | refine ⟨_, rfl, ?_⟩ | refine ⟨rfl, ?_⟩ | intro hb | refine go2 ?_ | refine WC.seq (fun K hK => ?_) | ((first | refine hK _ _ _ ?_ | refine hK _ _ _ _ rfl ?_ | refine WX.thenExit (K := K) ?_); clear hK K) | (refine WX.thenExit (K := KL) ?_; clear hL KL))); first | exact WX.pgHeadV rfl | exact WX.pgHead | exact WX.pgOwn rfl)); exact rfl)
    (repeat refine ObP3.c0B ?_); try (refine ObP3.nil ?_; (repeat (intro _)); (conv => whnf); (try dsimp only [envO, List.cons_append, List.nil_append]))
    (repeat (first | refine vgo ?_ | refine ⟨_, rfl, rfl, ?_⟩ | refine ⟨_, rfl, ?_⟩ | refine ⟨rfl, ?_⟩ | intro hb | refine go2 ?_ | refine WC.seq (fun K hK => ?_) | ((first | refine hK _ _ _ ?_ | refine hK _ _ _ _ rfl ?_ | refine WX.thenExit (K := K) ?_); clear hK K) | (refine WX.thenExit (K := KL) ?_; clear hL KL)))
    exact (hA x.c x.r (fun _ => ⟨rfl, rfl⟩) (fun h => absurd (.inl k2) h)).conv (.cons rfl (.cons rfl (.cons rfl (.cons rfl .nil)))) (fun w h => h.to)
  by_cases k4 : x.k = 4
  · (repeat (first | refine vgo ?_ | refine ⟨_, rfl, rfl, ?_⟩ | refine ⟨_, rfl, ?_⟩ | refine ⟨rfl, ?_⟩ | intro hb | refine go2 ?_ | refine WC.seq (fun K hK => ?_) | ((first | refine hK _ _ _ ?_ | refine hK _ _ _ _ rfl ?_ | refine WX.thenExit (K := K) ?_); clear hK K) | (refine WX.thenExit (K := KL) ?_; clear hL KL)))
    refine WC.drawV (S := (box b1 77 (ropC x u) :: Sf)) ([[box bl 52 [.int .u64 (x.r.1 : Nat), .int .i64 x.r.2]], [box bo 52 [.int .u64 (x.c.1 : Nat), .int .i64 x.c.2]]]) rfl (by repeat (first | exact Wo.nil | (apply Wo.keep; exact rfl) | (apply Wo.drop; exact rfl))) (fun w sw => by (try simp only [List.flatten_cons, List.flatten_nil, List.append_nil, List.cons_append, List.nil_append]); exact sw.to) ?_; (try dsimp only [chunks])
    (repeat refine ObP3.c0A ?_); try (refine ObP3.nil ?_; (repeat (intro _)); (conv => whnf); (try dsimp only [envO, List.cons_append, List.nil_append]))
    (apply ObP3.cons1 [] [1000]; (focus ((repeat (intro _)); (conv => whnf); (try dsimp only [envO, List.cons_append, List.nil_append]); (repeat (first | refine vgo ?_ | refine ⟨_, rfl, rfl, ?_⟩ | refine ⟨_, rfl, ?_⟩ | refine ⟨rfl, ?_⟩ | intro hb | refine go2 ?_ | refine WC.seq (fun K hK => ?_) | ((first | refine hK _ _ _ ?_ | refine hK _ _ _ _ rfl ?_ | refine WX.thenExit (K := K) ?_); clear hK K) | (refine WX.thenExit (K := KL) ?_; clear hL KL))); first | exact WX.pgHeadV rfl | exact WX.pgHead | exact WX.pgOwn rfl)); exact rfl)
    (apply ObP3.cons1 [] [1001]; (focus ((repeat (intro _)); (conv => whnf); (try dsimp only [envO, List.cons_append, List.nil_append]); (repeat (first | refine vgo ?_ | refine ⟨_, rfl, rfl, ?_⟩ | refine ⟨_, rfl, ?_⟩ | refine ⟨rfl, ?_⟩ | intro hb | refine go2 ?_ | refine WC.seq (fun K hK => ?_) | ((first | refine hK _ _ _ ?_ | refine hK _ _ _ _ rfl ?_ | refine WX.thenExit (K := K) ?_); clear hK K) | (refine WX.thenExit (K := KL) ?_; clear hL KL))); first | exact WX.pgHeadV rfl | exact WX.pgHead | exact WX.pgOwn rfl)); exact rfl)
    (repeat refine ObP3.c0B ?_); try (refine ObP3.nil ?_; (repeat (intro _)); (conv => whnf); (try dsimp only [envO, List.cons_append, List.nil_append]))
    (repeat (first | refine vgo ?_ | refine ⟨_, rfl, rfl, ?_⟩ | refine ⟨_, rfl, ?_⟩ | refine ⟨rfl, ?_⟩ | intro hb | refine go2 ?_ | refine WC.seq (fun K hK => ?_) | ((first | refine hK _ _ _ ?_ | refine hK _ _ _ _ rfl ?_ | refine WX.thenExit (K := K) ?_); clear hK K) | (refine WX.thenExit (K := KL) ?_; clear hL KL)))
    exact (hA x.c x.r (fun _ => ⟨rfl, rfl⟩) (fun h => absurd (.inr k4) h)).conv (.cons rfl (.cons rfl (.cons rfl (.cons rfl .nil)))) (fun w h => h.to)
  · (repeat (first | refine vgo ?_ | refine ⟨_, rfl, rfl, ?_⟩ | refine ⟨_, rfl, ?_⟩ | refine ⟨rfl, ?_⟩ | intro hb | refine go2 ?_ | refine WC.seq (fun K hK => ?_) | ((first | refine hK _ _ _ ?_ | refine hK _ _ _ _ rfl ?_ | refine WX.thenExit (K := K) ?_); clear hK K) | (refine WX.thenExit (K := KL) ?_; clear hL KL)))
    exact (hA x.r x.c (fun h => absurd h (by omega)) (fun _ => ⟨rfl, rfl⟩)).conv (.cons rfl (.cons rfl (.cons rfl (.cons rfl .nil)))) (fun w h => h.to)
end
end Go.Qd
