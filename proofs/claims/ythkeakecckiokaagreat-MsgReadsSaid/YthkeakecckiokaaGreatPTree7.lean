/-
  Trees copied and measured.
-/
import Derived.Test.YthkeakecckiokaaGreatPTree3
import Derived.Test.YthkeakecckiokaaGreatPHold3
namespace Go.Qd
/-! ### Trees copied and measured. -/
section
/-! ### Trees copied and measured. -/
section
open Go Go.Proofs
theorem node_mk {a : Nd} {sv : Value} {m : Hp} (ho : okNd a) (h : (rd (Ty.sl nodeT) a.ar sv).holds m) : (rd nodeT a (ndV a.k a.n a.s a.f a.t sv)).holds m := by
  obtain ⟨k, n, s, ⟨f1, f2⟩, ⟨t1, t2⟩, ar⟩ := a
  obtain ⟨h1, h2, h3, h4, h5, h6, h7⟩ := ho
  obtain ⟨p, c, rfl, _⟩ := slRel.shape h
  have id : ∀ x : Nat × Int, okId x → idT.rel x (idV x.1 x.2) m := fun x hx => ⟨.int .u64 x.1, .agg #[.int .i64 x.2], rfl, ⟨rfl, hx.1⟩, .int .i64 x.2, rfl, rfl, hx.2⟩
  refine node_rel.2 ⟨.int .i64 k, _, ?_, ⟨rfl, h1⟩, .int .i64 n, _, rfl, ⟨rfl, h2⟩, .string (bs s), _, rfl, ⟨rfl, h3⟩, .agg ((idV f1.1 f1.2).cells ++ (Value.agg (idV f2.1 f2.2).cells).cells), _, rfl, ⟨_, _, rfl, id _ h4, _, rfl, id _ h5⟩,
    .agg ((idV t1.1 t1.2).cells ++ (Value.agg (idV t2.1 t2.2).cells).cells), _, rfl, ⟨_, _, rfl, id _ h6, _, rfl, id _ h7⟩, _, rfl, h⟩
  simp [Value.cells, idV, Nd.k, Nd.n, Nd.s, Nd.f, Nd.t]
theorem Fun.node1 {f : FuncId} {a : Nd} {R : Value → List Pers → List Res → Prop} (hF : ∀ u : Value, Fun Tryz.prog f [ndV a.k a.n a.s a.f a.t u] [rd (Ty.sl nodeT) a.ar u] [] R) (va : Value) : Fun Tryz.prog f [va] [rd nodeT a va] [] R :=
  Fun.look (ι := Value) (fun i => [ndV a.k a.n a.s a.f a.t i]) (fun i => [rd (Ty.sl nodeT) a.ar i]) undef (fun m hm => by
    obtain ⟨u, rfl, h1, _⟩ := node_shape (hm _ (.head _))
    exact ⟨u, rfl, fun g hg => by
      rcases List.mem_cons.1 hg with rfl | hg
      · exact h1
      · cases hg⟩) (fun i => hF i)
mutual
def deepV : Nd → Int
  | .mk _ _ s _ _ ar => deepL (1 + ((s.length / 100 : Nat) : Int)) ar
def deepL : Int → List Nd → Int
  | k, [] => k
  | k, x :: l => if k ≤ 200 then deepL (k + deepV x) l else k
end
end
/-! ### Trees copied. -/
section
open Go Go.Proofs
section
variable {P : Program} {n : Nat} {Q : Exit → Act → World → Prop} {B : Base} {env : Env} {G : List Pers} {S S' : List Res} {L rest : List Oper} {d b o s m r : Nat} {T E : TypeId} {kd : IntKind}
instance (priority := 1700) adr0 [hT : TU P T (.array m E)] [hs : TS P E s] : V (AdrV P n L Q rest B env G S d T (.pointer (some ⟨b, o, none⟩)) (.int kd 0)) (Nat.blt 0 m = true ∧ WL P n L Q rest B ((d, .pointer (some ⟨b, o, none⟩)) :: env) G S) := ⟨fun h => by
  have e : V (AdrV P n L Q rest B env G S d T (.pointer (some ⟨b, o, none⟩)) (.int kd 0)) (Side ((0 : Int) ≤ 0 ∧ (0 : Int) < ((m : Nat) : Int)) (WL P n L Q rest B ((d, .pointer (some ⟨b, o + (0 : Int).toNat * s, none⟩)) :: env) G S)) := inferInstance
  have hm := h.1
  rw [Nat.blt_eq] at hm
  refine e.go ⟨⟨by omega, by omega⟩, ?_⟩
  rw [show o + (0 : Int).toNat * s = o from by simp]; exact h.2⟩
instance (priority := 1700) adr1 [hT : TU P T (.array m E)] [hs : TS P E s] [p : Plus o s r] : V (AdrV P n L Q rest B env G S d T (.pointer (some ⟨b, o, none⟩)) (.int kd 1)) (Nat.blt 1 m = true ∧ WL P n L Q rest B ((d, .pointer (some ⟨b, r, none⟩)) :: env) G S) := ⟨fun h => by
  have e : V (AdrV P n L Q rest B env G S d T (.pointer (some ⟨b, o, none⟩)) (.int kd 1)) (Side ((0 : Int) ≤ 1 ∧ (1 : Int) < ((m : Nat) : Int)) (WL P n L Q rest B ((d, .pointer (some ⟨b, o + (1 : Int).toNat * s, none⟩)) :: env) G S)) := inferInstance
  have hm := h.1
  rw [Nat.blt_eq] at hm
  refine e.go ⟨⟨by omega, by omega⟩, ?_⟩
  rw [show o + (1 : Int).toNat * s = r from by rw [← p.h]; simp]; exact h.2⟩
end
abbrev ndZ : List Value := [.int .i64 0, .int .i64 0, .string .empty, .int .u64 0, .int .i64 0, .int .u64 0, .int .i64 0, .int .u64 0, .int .i64 0, .int .u64 0, .int .i64 0, .slice none 0 0]
theorem AllR.snoc {α : Type} {R : Ty α} {h : Hp} {l : List α} {vs : List Value} {a : α} {v : Value} (x : AllR R l vs h) (y : R.rel a v h) : AllR R (l ++ [a]) (vs ++ [v]) h := x.append ⟨y, trivial⟩
theorem flat_snoc (vs : List Value) (v : Value) : flat (vs ++ [v]) = flat vs ++ v.cells.toList := by simp [flat]
end
end
/-! ### Operations compared. -/
section
/-! ### Operations compared. -/
section
open Go Go.Proofs
structure OpD where
  o : Int
  n : Nat
  t : Nat
  f : List Nat
  k : Int
  r : Nat × Int
  c : Nat × Int
  ck : Int
  cn : Int
  ct : List UInt8
  F : Nd
abbrev contC (x : OpD) (u : Value) : List Value := .int .i64 x.ck :: .int .i64 x.cn :: .string (bs x.ct) :: ndC x.F.k x.F.n x.F.s x.F.f x.F.t u
abbrev contV (x : OpD) (u : Value) : Value := .agg (contC x u).toArray
abbrev opTl (x : OpD) (u : Value) : List Value := .int .i64 x.k :: .int .u64 x.r.1 :: .int .i64 x.r.2 :: .int .u64 x.c.1 :: .int .i64 x.c.2 :: contC x u
abbrev popC (x : OpD) (d u : Value) : List Value := .int .i64 x.o :: .int .u64 x.n :: .int .u64 x.t :: d :: opTl x u
abbrev popV (x : OpD) (d u : Value) : Value := .agg (popC x d u).toArray
abbrev ropC (x : OpD) (u : Value) : List Value := .int .i64 x.o :: .int .u64 x.n :: .int .u64 x.t :: (x.f.map uV ++ opTl x u)
abbrev ropV (x : OpD) (u : Value) : Value := .agg (ropC x u).toArray
abbrev csameP (x y : OpD) : Prop := x.ck = y.ck ∧ x.cn = y.cn ∧ x.ct = y.ct ∧ x.F = y.F
abbrev osameP (x y : OpD) : Prop := x.o = y.o ∧ x.n = y.n ∧ x.t = y.t ∧ (withinL x.f y.f ∧ withinL y.f x.f) ∧ x.k = y.k ∧ x.r = y.r ∧ x.c = y.c ∧ csameP x y
abbrev rsameP (x y : OpD) : Prop := x.o = y.o ∧ x.n = y.n ∧ x.t = y.t ∧ x.f = y.f ∧ x.k = y.k ∧ x.r = y.r ∧ x.c = y.c ∧ csameP x y
abbrev idP (x y : Nat × Int) : Prop := ((x.1 : Nat) : Int) = ((y.1 : Nat) : Int) ∧ x.2 = y.2
theorem id_eq {x y : Nat × Int} : x = y ↔ idP x y := by
  obtain ⟨a, b⟩ := x
  obtain ⟨c, d⟩ := y
  simp only [idP, Prod.mk.injEq, Int.ofNat_inj]
instance tsame_pure {G : List Pers} {a b : Nd} {u v : Value} [i : RdSl u G nodeT a.ar] [j : RdSl v G nodeT b.ar] : PureF Tryz.prog 67 [ndV a.k a.n a.s a.f a.t u, ndV b.k b.n b.s b.f b.t v] G True (.bool (decide (a = b))) := ⟨fun _ => ⟨_, by simpa using ⟨i.h, j.h⟩, tsame_fun a b u v⟩⟩
instance rtsame_pure {G : List Pers} {a b : Nd} {u v : Value} [i : RdSl u G nodeT a.ar] [j : RdSl v G nodeT b.ar] : PureF Tryz.prog 79 [ndV a.k a.n a.s a.f a.t u, ndV b.k b.n b.s b.f b.t v] G True (.bool (decide (a = b))) := ⟨fun _ => ⟨_, by simpa using ⟨i.h, j.h⟩, rtsame_fun a b u v⟩⟩

set_option maxRecDepth 100000 in
set_option maxHeartbeats 1600000 in
theorem ctsame_fun (x y : OpD) (u v : Value) : Fun Tryz.prog 47 [contV x u, contV y v] [rd (Ty.sl nodeT) x.F.ar u, rd (Ty.sl nodeT) y.F.ar v] [] (fun r G S => r = .bool (decide (csameP x y)) ∧ G = [] ∧ S = []) := by
  refine Fun.enter Tryz.func47 (by kernel_rfl) rfl Tryz.ntmps47 rfl (fun B Gf Sf => ?_); (try simp only [List.cons_append]); (try simp only [List.nil_append]); simp only [argEnv]
  refine WC.ex (fun w sw => sw.slOne (v := u) RdSl.h) (fun hu1 => ?_)
  refine WC.ex (fun w sw => sw.slOne (v := v) RdSl.h) (fun hv1 => ?_)
  (repeat (first | refine vgo ?_ | refine ⟨_, rfl, rfl, ?_⟩ | refine ⟨_, rfl, ?_⟩ | refine ⟨rfl, ?_⟩ | intro hb | refine go2 ?_ | refine WC.seq (fun K hK => ?_) | ((first | refine hK _ _ _ ?_ | refine hK _ _ _ _ rfl ?_ | refine WX.thenExit (K := K) ?_); clear hK K) | (refine WX.thenExit (K := KL) ?_; clear hL KL)))
  (first | refine WL.boxA rfl rfl ?_ | refine WL.box rfl rfl rfl ?_); intro b1
  (repeat (first | refine vgo ?_ | refine ⟨_, rfl, rfl, ?_⟩ | refine ⟨_, rfl, ?_⟩ | refine ⟨rfl, ?_⟩ | intro hb | refine go2 ?_ | refine WC.seq (fun K hK => ?_) | ((first | refine hK _ _ _ ?_ | refine hK _ _ _ _ rfl ?_ | refine WX.thenExit (K := K) ?_); clear hK K) | (refine WX.thenExit (K := KL) ?_; clear hL KL)))
  (first | refine WL.boxA rfl rfl ?_ | refine WL.box rfl rfl rfl ?_); intro b2
  by_cases h1 : ¬ x.ck = y.ck
  · have e : decide (csameP x y) = false := decide_eq_false fun h => h1 h.1
    (repeat (first | refine vgo ?_ | refine ⟨_, rfl, rfl, ?_⟩ | refine ⟨_, rfl, ?_⟩ | refine ⟨rfl, ?_⟩ | intro hb | refine go2 ?_ | refine WC.seq (fun K hK => ?_) | ((first | refine hK _ _ _ ?_ | refine hK _ _ _ _ rfl ?_ | refine WX.thenExit (K := K) ?_); clear hK K) | (refine WX.thenExit (K := KL) ?_; clear hL KL)))
    exact WX.ret1 rfl rfl (fun w sw => ⟨[], [], ⟨by rw [e], rfl, rfl⟩, sw.to⟩)
  have h1 := Classical.not_not.1 h1
  by_cases h2 : ¬ x.cn = y.cn
  · have e : decide (csameP x y) = false := decide_eq_false fun h => h2 h.2.1
    (repeat (first | refine vgo ?_ | refine ⟨_, rfl, rfl, ?_⟩ | refine ⟨_, rfl, ?_⟩ | refine ⟨rfl, ?_⟩ | intro hb | refine go2 ?_ | refine WC.seq (fun K hK => ?_) | ((first | refine hK _ _ _ ?_ | refine hK _ _ _ _ rfl ?_ | refine WX.thenExit (K := K) ?_); clear hK K) | (refine WX.thenExit (K := KL) ?_; clear hL KL)))
    exact WX.ret1 rfl rfl (fun w sw => ⟨[], [], ⟨by rw [e], rfl, rfl⟩, sw.to⟩)
  have h2 := Classical.not_not.1 h2
  by_cases h3 : ¬ x.ct = y.ct
  · have e : decide (csameP x y) = false := decide_eq_false fun h => h3 h.2.2.1
    (repeat (first | refine vgo ?_ | refine ⟨_, rfl, rfl, ?_⟩ | refine ⟨_, rfl, ?_⟩ | refine ⟨rfl, ?_⟩ | intro hb | refine go2 ?_ | refine WC.seq (fun K hK => ?_) | ((first | refine hK _ _ _ ?_ | refine hK _ _ _ _ rfl ?_ | refine WX.thenExit (K := K) ?_); clear hK K) | (refine WX.thenExit (K := KL) ?_; clear hL KL)))
    exact WX.ret1 rfl rfl (fun w sw => ⟨[], [], ⟨by rw [e], rfl, rfl⟩, sw.to⟩)
  have h3 := Classical.not_not.1 h3
  have e : decide (x.F = y.F) = decide (csameP x y) := decide_eq_decide.2 ⟨fun h => ⟨h1, h2, h3, h⟩, fun h => h.2.2.2⟩
  (repeat (first | refine vgo ?_ | refine ⟨_, rfl, rfl, ?_⟩ | refine ⟨_, rfl, ?_⟩ | refine ⟨rfl, ?_⟩ | intro hb | refine go2 ?_ | refine WC.seq (fun K hK => ?_) | ((first | refine hK _ _ _ ?_ | refine hK _ _ _ _ rfl ?_ | refine WX.thenExit (K := K) ?_); clear hK K) | (refine WX.thenExit (K := KL) ?_; clear hL KL)))
  exact WX.ret1 rfl rfl (fun w sw => ⟨[], [], ⟨by rw [e], rfl, rfl⟩, sw.to⟩)
set_option maxRecDepth 100000 in
set_option maxHeartbeats 1600000 in
theorem rcsame_fun (x y : OpD) (u v : Value) : Fun Tryz.prog 65 [contV x u, contV y v] [rd (Ty.sl nodeT) x.F.ar u, rd (Ty.sl nodeT) y.F.ar v] [] (fun r G S => r = .bool (decide (csameP x y)) ∧ G = [] ∧ S = []) := by
  refine Fun.enter Tryz.func65 (by kernel_rfl) rfl Tryz.ntmps65 rfl (fun B Gf Sf => ?_); (try simp only [List.cons_append]); (try simp only [List.nil_append]); simp only [argEnv]
  refine WC.ex (fun w sw => sw.slOne (v := u) RdSl.h) (fun hu1 => ?_)
  refine WC.ex (fun w sw => sw.slOne (v := v) RdSl.h) (fun hv1 => ?_)
  (repeat (first | refine vgo ?_ | refine ⟨_, rfl, rfl, ?_⟩ | refine ⟨_, rfl, ?_⟩ | refine ⟨rfl, ?_⟩ | intro hb | refine go2 ?_ | refine WC.seq (fun K hK => ?_) | ((first | refine hK _ _ _ ?_ | refine hK _ _ _ _ rfl ?_ | refine WX.thenExit (K := K) ?_); clear hK K) | (refine WX.thenExit (K := KL) ?_; clear hL KL)))
  (first | refine WL.boxA rfl rfl ?_ | refine WL.box rfl rfl rfl ?_); intro b1
  (repeat (first | refine vgo ?_ | refine ⟨_, rfl, rfl, ?_⟩ | refine ⟨_, rfl, ?_⟩ | refine ⟨rfl, ?_⟩ | intro hb | refine go2 ?_ | refine WC.seq (fun K hK => ?_) | ((first | refine hK _ _ _ ?_ | refine hK _ _ _ _ rfl ?_ | refine WX.thenExit (K := K) ?_); clear hK K) | (refine WX.thenExit (K := KL) ?_; clear hL KL)))
  (first | refine WL.boxA rfl rfl ?_ | refine WL.box rfl rfl rfl ?_); intro b2
  by_cases h1 : ¬ x.ck = y.ck
  · have e : decide (csameP x y) = false := decide_eq_false fun h => h1 h.1
    (repeat (first | refine vgo ?_ | refine ⟨_, rfl, rfl, ?_⟩ | refine ⟨_, rfl, ?_⟩ | refine ⟨rfl, ?_⟩ | intro hb | refine go2 ?_ | refine WC.seq (fun K hK => ?_) | ((first | refine hK _ _ _ ?_ | refine hK _ _ _ _ rfl ?_ | refine WX.thenExit (K := K) ?_); clear hK K) | (refine WX.thenExit (K := KL) ?_; clear hL KL)))
    exact WX.ret1 rfl rfl (fun w sw => ⟨[], [], ⟨by rw [e], rfl, rfl⟩, sw.to⟩)
  have h1 := Classical.not_not.1 h1
  by_cases h2 : ¬ x.cn = y.cn
  · have e : decide (csameP x y) = false := decide_eq_false fun h => h2 h.2.1
    (repeat (first | refine vgo ?_ | refine ⟨_, rfl, rfl, ?_⟩ | refine ⟨_, rfl, ?_⟩ | refine ⟨rfl, ?_⟩ | intro hb | refine go2 ?_ | refine WC.seq (fun K hK => ?_) | ((first | refine hK _ _ _ ?_ | refine hK _ _ _ _ rfl ?_ | refine WX.thenExit (K := K) ?_); clear hK K) | (refine WX.thenExit (K := KL) ?_; clear hL KL)))
    exact WX.ret1 rfl rfl (fun w sw => ⟨[], [], ⟨by rw [e], rfl, rfl⟩, sw.to⟩)
  have h2 := Classical.not_not.1 h2
  by_cases h3 : ¬ x.ct = y.ct
  · have e : decide (csameP x y) = false := decide_eq_false fun h => h3 h.2.2.1
    (repeat (first | refine vgo ?_ | refine ⟨_, rfl, rfl, ?_⟩ | refine ⟨_, rfl, ?_⟩ | refine ⟨rfl, ?_⟩ | intro hb | refine go2 ?_ | refine WC.seq (fun K hK => ?_) | ((first | refine hK _ _ _ ?_ | refine hK _ _ _ _ rfl ?_ | refine WX.thenExit (K := K) ?_); clear hK K) | (refine WX.thenExit (K := KL) ?_; clear hL KL)))
    exact WX.ret1 rfl rfl (fun w sw => ⟨[], [], ⟨by rw [e], rfl, rfl⟩, sw.to⟩)
  have h3 := Classical.not_not.1 h3
  have e : decide (x.F = y.F) = decide (csameP x y) := decide_eq_decide.2 ⟨fun h => ⟨h1, h2, h3, h⟩, fun h => h.2.2.2⟩
  (repeat (first | refine vgo ?_ | refine ⟨_, rfl, rfl, ?_⟩ | refine ⟨_, rfl, ?_⟩ | refine ⟨rfl, ?_⟩ | intro hb | refine go2 ?_ | refine WC.seq (fun K hK => ?_) | ((first | refine hK _ _ _ ?_ | refine hK _ _ _ _ rfl ?_ | refine WX.thenExit (K := K) ?_); clear hK K) | (refine WX.thenExit (K := KL) ?_; clear hL KL)))
  exact WX.ret1 rfl rfl (fun w sw => ⟨[], [], ⟨by rw [e], rfl, rfl⟩, sw.to⟩)
instance ctsame_pure {G : List Pers} {x y : OpD} {u v : Value} [i : RdSl u G nodeT x.F.ar] [j : RdSl v G nodeT y.F.ar] : PureF Tryz.prog 47 [contV x u, contV y v] G True (.bool (decide (csameP x y))) := ⟨fun _ => ⟨_, by simpa using ⟨i.h, j.h⟩, ctsame_fun x y u v⟩⟩
instance rcsame_pure {G : List Pers} {x y : OpD} {u v : Value} [i : RdSl u G nodeT x.F.ar] [j : RdSl v G nodeT y.F.ar] : PureF Tryz.prog 65 [contV x u, contV y v] G True (.bool (decide (csameP x y))) := ⟨fun _ => ⟨_, by simpa using ⟨i.h, j.h⟩, rcsame_fun x y u v⟩⟩
set_option maxRecDepth 100000 in
set_option maxHeartbeats 1600000 in
theorem osame_fun (x y : OpD) (d e0 u v : Value) : Fun Tryz.prog 24 [popV x d u, popV y e0 v] [rd (Ty.sl nodeT) x.F.ar u, rd (Ty.sl nodeT) y.F.ar v, rd (Ty.sl Ty.u64) x.f d, rd (Ty.sl Ty.u64) y.f e0] [] (fun r G S => r = .bool (decide (osameP x y)) ∧ G = [] ∧ S = []) := by
  refine Fun.enter Tryz.func24 (by kernel_rfl) rfl Tryz.ntmps24 rfl (fun B Gf Sf => ?_); (try simp only [List.cons_append]); (try simp only [List.nil_append]); simp only [argEnv]
  refine WC.ex (fun w sw => sw.slOne (v := u) RdSl.h) (fun hu1 => ?_)
  refine WC.ex (fun w sw => sw.slOne (v := v) RdSl.h) (fun hv1 => ?_)
  refine WC.ex (fun w sw => sw.slOne (v := d) RdSl.h) (fun hd1 => ?_)
  refine WC.ex (fun w sw => sw.slOne (v := e0) RdSl.h) (fun he1 => ?_)
  (repeat (first | refine vgo ?_ | refine ⟨_, rfl, rfl, ?_⟩ | refine ⟨_, rfl, ?_⟩ | refine ⟨rfl, ?_⟩ | intro hb | refine go2 ?_ | refine WC.seq (fun K hK => ?_) | ((first | refine hK _ _ _ ?_ | refine hK _ _ _ _ rfl ?_ | refine WX.thenExit (K := K) ?_); clear hK K) | (refine WX.thenExit (K := KL) ?_; clear hL KL)))
  (first | refine WL.boxA rfl rfl ?_ | refine WL.box rfl rfl rfl ?_); intro b1
  (repeat (first | refine vgo ?_ | refine ⟨_, rfl, rfl, ?_⟩ | refine ⟨_, rfl, ?_⟩ | refine ⟨rfl, ?_⟩ | intro hb | refine go2 ?_ | refine WC.seq (fun K hK => ?_) | ((first | refine hK _ _ _ ?_ | refine hK _ _ _ _ rfl ?_ | refine WX.thenExit (K := K) ?_); clear hK K) | (refine WX.thenExit (K := KL) ?_; clear hL KL)))
  (first | refine WL.boxA rfl rfl ?_ | refine WL.box rfl rfl rfl ?_); intro b2
  by_cases h1 : ¬ x.o = y.o
  · have e : decide (osameP x y) = false := decide_eq_false fun h => h1 h.1
    (repeat (first | refine vgo ?_ | refine ⟨_, rfl, rfl, ?_⟩ | refine ⟨_, rfl, ?_⟩ | refine ⟨rfl, ?_⟩ | intro hb | refine go2 ?_ | refine WC.seq (fun K hK => ?_) | ((first | refine hK _ _ _ ?_ | refine hK _ _ _ _ rfl ?_ | refine WX.thenExit (K := K) ?_); clear hK K) | (refine WX.thenExit (K := KL) ?_; clear hL KL)))
    exact WX.ret1 rfl rfl (fun w sw => ⟨[], [], ⟨by rw [e], rfl, rfl⟩, sw.to⟩)
  have h1 := Classical.not_not.1 h1
  by_cases h2 : ¬ x.n = y.n
  · have e : decide (osameP x y) = false := decide_eq_false fun h => h2 h.2.1
    (repeat (first | refine vgo ?_ | refine ⟨_, rfl, rfl, ?_⟩ | refine ⟨_, rfl, ?_⟩ | refine ⟨rfl, ?_⟩ | intro hb | refine go2 ?_ | refine WC.seq (fun K hK => ?_) | ((first | refine hK _ _ _ ?_ | refine hK _ _ _ _ rfl ?_ | refine WX.thenExit (K := K) ?_); clear hK K) | (refine WX.thenExit (K := KL) ?_; clear hL KL)))
    exact WX.ret1 rfl rfl (fun w sw => ⟨[], [], ⟨by rw [e], rfl, rfl⟩, sw.to⟩)
  have h2 := Classical.not_not.1 h2
  by_cases h3 : ¬ x.t = y.t
  · have e : decide (osameP x y) = false := decide_eq_false fun h => h3 h.2.2.1
    (repeat (first | refine vgo ?_ | refine ⟨_, rfl, rfl, ?_⟩ | refine ⟨_, rfl, ?_⟩ | refine ⟨rfl, ?_⟩ | intro hb | refine go2 ?_ | refine WC.seq (fun K hK => ?_) | ((first | refine hK _ _ _ ?_ | refine hK _ _ _ _ rfl ?_ | refine WX.thenExit (K := K) ?_); clear hK K) | (refine WX.thenExit (K := KL) ?_; clear hL KL)))
    exact WX.ret1 rfl rfl (fun w sw => ⟨[], [], ⟨by rw [e], rfl, rfl⟩, sw.to⟩)
  have h3 := Classical.not_not.1 h3
  by_cases h4 : ¬ (withinL x.f y.f ∧ withinL y.f x.f)
  · have e : decide (osameP x y) = false := decide_eq_false fun h => h4 h.2.2.2.1
    (repeat (first | refine vgo ?_ | refine ⟨_, rfl, rfl, ?_⟩ | refine ⟨_, rfl, ?_⟩ | refine ⟨rfl, ?_⟩ | intro hb | refine go2 ?_ | refine WC.seq (fun K hK => ?_) | ((first | refine hK _ _ _ ?_ | refine hK _ _ _ _ rfl ?_ | refine WX.thenExit (K := K) ?_); clear hK K) | (refine WX.thenExit (K := KL) ?_; clear hL KL)))
    exact WX.ret1 rfl rfl (fun w sw => ⟨[], [], ⟨by rw [e], rfl, rfl⟩, sw.to⟩)
  have h4 := Classical.not_not.1 h4
  by_cases h5 : ¬ x.k = y.k
  · have e : decide (osameP x y) = false := decide_eq_false fun h => h5 h.2.2.2.2.1
    (repeat (first | refine vgo ?_ | refine ⟨_, rfl, rfl, ?_⟩ | refine ⟨_, rfl, ?_⟩ | refine ⟨rfl, ?_⟩ | intro hb | refine go2 ?_ | refine WC.seq (fun K hK => ?_) | ((first | refine hK _ _ _ ?_ | refine hK _ _ _ _ rfl ?_ | refine WX.thenExit (K := K) ?_); clear hK K) | (refine WX.thenExit (K := KL) ?_; clear hL KL)))
    exact WX.ret1 rfl rfl (fun w sw => ⟨[], [], ⟨by rw [e], rfl, rfl⟩, sw.to⟩)
  have h5 := Classical.not_not.1 h5
  by_cases h6 : ¬ idP x.r y.r
  · have e : decide (osameP x y) = false := decide_eq_false fun h => h6 (id_eq.1 h.2.2.2.2.2.1)
    (repeat (first | refine vgo ?_ | refine ⟨_, rfl, rfl, ?_⟩ | refine ⟨_, rfl, ?_⟩ | refine ⟨rfl, ?_⟩ | intro hb | refine go2 ?_ | refine WC.seq (fun K hK => ?_) | ((first | refine hK _ _ _ ?_ | refine hK _ _ _ _ rfl ?_ | refine WX.thenExit (K := K) ?_); clear hK K) | (refine WX.thenExit (K := KL) ?_; clear hL KL)))
    exact WX.ret1 rfl rfl (fun w sw => ⟨[], [], ⟨by rw [e], rfl, rfl⟩, sw.to⟩)
  have h6 := Classical.not_not.1 h6
  by_cases h7 : ¬ idP x.c y.c
  · have e : decide (osameP x y) = false := decide_eq_false fun h => h7 (id_eq.1 h.2.2.2.2.2.2.1)
    (repeat (first | refine vgo ?_ | refine ⟨_, rfl, rfl, ?_⟩ | refine ⟨_, rfl, ?_⟩ | refine ⟨rfl, ?_⟩ | intro hb | refine go2 ?_ | refine WC.seq (fun K hK => ?_) | ((first | refine hK _ _ _ ?_ | refine hK _ _ _ _ rfl ?_ | refine WX.thenExit (K := K) ?_); clear hK K) | (refine WX.thenExit (K := KL) ?_; clear hL KL)))
    exact WX.ret1 rfl rfl (fun w sw => ⟨[], [], ⟨by rw [e], rfl, rfl⟩, sw.to⟩)
  have h7 := Classical.not_not.1 h7
  have e : decide (csameP x y) = decide (osameP x y) := decide_eq_decide.2 ⟨fun h => ⟨h1, h2, h3, h4, h5, id_eq.2 h6, id_eq.2 h7, h⟩, fun h => h.2.2.2.2.2.2.2⟩
  (repeat (first | refine vgo ?_ | refine ⟨_, rfl, rfl, ?_⟩ | refine ⟨_, rfl, ?_⟩ | refine ⟨rfl, ?_⟩ | intro hb | refine go2 ?_ | refine WC.seq (fun K hK => ?_) | ((first | refine hK _ _ _ ?_ | refine hK _ _ _ _ rfl ?_ | refine WX.thenExit (K := K) ?_); clear hK K) | (refine WX.thenExit (K := KL) ?_; clear hL KL)))
  exact WX.ret1 rfl rfl (fun w sw => ⟨[], [], ⟨by rw [e], rfl, rfl⟩, sw.to⟩)
end
/-! ### Operations of the document as the program's. -/
section
open Go Go.Proofs
theorem smN_ok {M d : Nat} {a : Nd} (h : smN M d a) : okNd a ∧ a.ar.length ≤ M := by
  cases d with
  | zero => exact h.elim
  | succ d => exact ⟨h.1, h.2.1⟩
abbrev opZ : List Value := .int .i64 0 :: .int .u64 0 :: .int .u64 0 :: .slice none 0 0 :: .int .i64 0 :: oTail
abbrev coZ : List Value := .int .i64 0 :: .int .i64 0 :: .string .empty :: ndZ
end
end
end Go.Qd
