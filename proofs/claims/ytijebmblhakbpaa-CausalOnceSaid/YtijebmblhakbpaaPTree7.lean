/-
  Trees copied and measured.
-/
import Derived.Test.YtijebmblhakbpaaPTree3
import Derived.Test.YtijebmblhakbpaaPHold3
namespace Go.Qd
/-! ### Trees copied and measured. -/
section
/-! ### Trees copied and measured. -/
section
open Go Go.Proofs
mutual
def deepV : Nd → Int
  | .mk _ _ s _ _ ar => deepL (1 + ((s.length / 100 : Nat) : Int)) ar
def deepL : Int → List Nd → Int
  | k, [] => k
  | k, x :: l => if k ≤ 200 then deepL (k + deepV x) l else k
end
end
/-! ### Trees copied. -/
section
open Go Go.Proofs
section
variable {P : Program} {n : Nat} {Q : Exit → Act → World → Prop} {B : Base} {env : Env} {G : List Pers} {S S' : List Res} {L rest : List Oper} {d b o s m r : Nat} {T E : TypeId} {kd : IntKind}
instance (priority := 1700) adr0 [hT : TU P T (.array m E)] [hs : TS P E s] : V (AdrV P n L Q rest B env G S d T (.pointer (some ⟨b, o, none⟩)) (.int kd 0)) (Nat.blt 0 m = true ∧ WL P n L Q rest B ((d, .pointer (some ⟨b, o, none⟩)) :: env) G S) := ⟨fun h => by
  have e : V (AdrV P n L Q rest B env G S d T (.pointer (some ⟨b, o, none⟩)) (.int kd 0)) (Side ((0 : Int) ≤ 0 ∧ (0 : Int) < ((m : Nat) : Int)) (WL P n L Q rest B ((d, .pointer (some ⟨b, o + (0 : Int).toNat * s, none⟩)) :: env) G S)) := inferInstance
  have hm := h.1
  rw [Nat.blt_eq] at hm
  refine e.go ⟨⟨by omega, by omega⟩, ?_⟩
  rw [show o + (0 : Int).toNat * s = o from by simp]; exact h.2⟩
instance (priority := 1700) adr1 [hT : TU P T (.array m E)] [hs : TS P E s] [p : Plus o s r] : V (AdrV P n L Q rest B env G S d T (.pointer (some ⟨b, o, none⟩)) (.int kd 1)) (Nat.blt 1 m = true ∧ WL P n L Q rest B ((d, .pointer (some ⟨b, r, none⟩)) :: env) G S) := ⟨fun h => by
  have e : V (AdrV P n L Q rest B env G S d T (.pointer (some ⟨b, o, none⟩)) (.int kd 1)) (Side ((0 : Int) ≤ 1 ∧ (1 : Int) < ((m : Nat) : Int)) (WL P n L Q rest B ((d, .pointer (some ⟨b, o + (1 : Int).toNat * s, none⟩)) :: env) G S)) := inferInstance
  have hm := h.1
  rw [Nat.blt_eq] at hm
  refine e.go ⟨⟨by omega, by omega⟩, ?_⟩
  rw [show o + (1 : Int).toNat * s = r from by rw [← p.h]; simp]; exact h.2⟩
end
abbrev ndZ : List Value := [.int .i64 0, .int .i64 0, .string .empty, .int .u64 0, .int .i64 0, .int .u64 0, .int .i64 0, .int .u64 0, .int .i64 0, .int .u64 0, .int .i64 0, .slice none 0 0]
theorem AllR.snoc {α : Type} {R : Ty α} {h : Hp} {l : List α} {vs : List Value} {a : α} {v : Value} (x : AllR R l vs h) (y : R.rel a v h) : AllR R (l ++ [a]) (vs ++ [v]) h := x.append ⟨y, trivial⟩
theorem flat_snoc (vs : List Value) (v : Value) : flat (vs ++ [v]) = flat vs ++ v.cells.toList := by simp [flat]
end
end
/-! ### Operations compared. -/
section
/-! ### Operations compared. -/
section
open Go Go.Proofs
structure OpD where
  o : Int
  n : Nat
  t : Nat
  f : List Nat
  k : Int
  r : Nat × Int
  c : Nat × Int
  ck : Int
  cn : Int
  ct : List UInt8
  F : Nd
abbrev contC (x : OpD) (u : Value) : List Value := .int .i64 x.ck :: .int .i64 x.cn :: .string (bs x.ct) :: ndC x.F.k x.F.n x.F.s x.F.f x.F.t u
abbrev contV (x : OpD) (u : Value) : Value := .agg (contC x u).toArray
abbrev csameP (x y : OpD) : Prop := x.ck = y.ck ∧ x.cn = y.cn ∧ x.ct = y.ct ∧ x.F = y.F
instance tsame_pure {G : List Pers} {a b : Nd} {u v : Value} [i : RdSl u G nodeT a.ar] [j : RdSl v G nodeT b.ar] : PureF Try.prog 67 [ndV a.k a.n a.s a.f a.t u, ndV b.k b.n b.s b.f b.t v] G True (.bool (decide (a = b))) := ⟨fun _ => ⟨_, by simpa using ⟨i.h, j.h⟩, tsame_fun a b u v⟩⟩
instance rtsame_pure {G : List Pers} {a b : Nd} {u v : Value} [i : RdSl u G nodeT a.ar] [j : RdSl v G nodeT b.ar] : PureF Try.prog 114 [ndV a.k a.n a.s a.f a.t u, ndV b.k b.n b.s b.f b.t v] G True (.bool (decide (a = b))) := ⟨fun _ => ⟨_, by simpa using ⟨i.h, j.h⟩, rtsame_fun a b u v⟩⟩

set_option maxRecDepth 100000 in
set_option maxHeartbeats 1600000 in
theorem ctsame_fun (x y : OpD) (u v : Value) : Fun Try.prog 39 [contV x u, contV y v] [rd (Ty.sl nodeT) x.F.ar u, rd (Ty.sl nodeT) y.F.ar v] [] (fun r G S => r = .bool (decide (csameP x y)) ∧ G = [] ∧ S = []) := by
  refine Fun.enter Try.func39 (by kernel_rfl) rfl Try.ntmps39 rfl (fun B Gf Sf => ?_); (try simp only [List.cons_append]); (try simp only [List.nil_append]); simp only [argEnv]
  refine WC.ex (fun w sw => sw.slOne (v := u) RdSl.h) (fun hu1 => ?_)
  refine WC.ex (fun w sw => sw.slOne (v := v) RdSl.h) (fun hv1 => ?_)
  (repeat (first | refine vgo ?_ | refine ⟨_, rfl, rfl, ?_⟩ | refine ⟨_, rfl, ?_⟩ | refine ⟨rfl, ?_⟩ | intro hb | refine altA ?_ | refine altR ?_ | refine sideA ?_ | refine decTA ?_ | refine decFA ?_ | refine decNA ?_ | refine decBTA ?_ | refine decBFA ?_ | refine ⟨_, by assumption, ?_⟩ | refine ⟨_, _, _, rfl, ?_⟩ | refine WC.seq (fun K hK => ?_) | (refine hK _ _ _ ?_; clear hK K) | (refine hK _ _ _ _ rfl ?_; clear hK K) | (refine WX.thenExit (K := K) ?_; clear hK K) | (refine WX.thenExit (K := KL) ?_; clear hL KL)))
  (first | refine WL.boxA rfl rfl ?_ | refine WL.box rfl rfl rfl ?_); intro b1
  (repeat (first | refine vgo ?_ | refine ⟨_, rfl, rfl, ?_⟩ | refine ⟨_, rfl, ?_⟩ | refine ⟨rfl, ?_⟩ | intro hb | refine altA ?_ | refine altR ?_ | refine sideA ?_ | refine decTA ?_ | refine decFA ?_ | refine decNA ?_ | refine decBTA ?_ | refine decBFA ?_ | refine ⟨_, by assumption, ?_⟩ | refine ⟨_, _, _, rfl, ?_⟩ | refine WC.seq (fun K hK => ?_) | (refine hK _ _ _ ?_; clear hK K) | (refine hK _ _ _ _ rfl ?_; clear hK K) | (refine WX.thenExit (K := K) ?_; clear hK K) | (refine WX.thenExit (K := KL) ?_; clear hL KL)))
  (first | refine WL.boxA rfl rfl ?_ | refine WL.box rfl rfl rfl ?_); intro b2
  by_cases h1 : ¬ x.ck = y.ck
  · have e : decide (csameP x y) = false := decide_eq_false fun h => h1 h.1
    (repeat (first | refine vgo ?_ | refine ⟨_, rfl, rfl, ?_⟩ | refine ⟨_, rfl, ?_⟩ | refine ⟨rfl, ?_⟩ | intro hb | refine altA ?_ | refine altR ?_ | refine sideA ?_ | refine decTA ?_ | refine decFA ?_ | refine decNA ?_ | refine decBTA ?_ | refine decBFA ?_ | refine ⟨_, by assumption, ?_⟩ | refine ⟨_, _, _, rfl, ?_⟩ | refine WC.seq (fun K hK => ?_) | (refine hK _ _ _ ?_; clear hK K) | (refine hK _ _ _ _ rfl ?_; clear hK K) | (refine WX.thenExit (K := K) ?_; clear hK K) | (refine WX.thenExit (K := KL) ?_; clear hL KL)))
    exact WX.ret1 rfl rfl (fun w sw => ⟨[], [], ⟨by rw [e], rfl, rfl⟩, sw.to⟩)
  have h1 := Classical.not_not.1 h1
  by_cases h2 : ¬ x.cn = y.cn
  · have e : decide (csameP x y) = false := decide_eq_false fun h => h2 h.2.1
    (repeat (first | refine vgo ?_ | refine ⟨_, rfl, rfl, ?_⟩ | refine ⟨_, rfl, ?_⟩ | refine ⟨rfl, ?_⟩ | intro hb | refine altA ?_ | refine altR ?_ | refine sideA ?_ | refine decTA ?_ | refine decFA ?_ | refine decNA ?_ | refine decBTA ?_ | refine decBFA ?_ | refine ⟨_, by assumption, ?_⟩ | refine ⟨_, _, _, rfl, ?_⟩ | refine WC.seq (fun K hK => ?_) | (refine hK _ _ _ ?_; clear hK K) | (refine hK _ _ _ _ rfl ?_; clear hK K) | (refine WX.thenExit (K := K) ?_; clear hK K) | (refine WX.thenExit (K := KL) ?_; clear hL KL)))
    exact WX.ret1 rfl rfl (fun w sw => ⟨[], [], ⟨by rw [e], rfl, rfl⟩, sw.to⟩)
  have h2 := Classical.not_not.1 h2
  by_cases h3 : ¬ x.ct = y.ct
  · have e : decide (csameP x y) = false := decide_eq_false fun h => h3 h.2.2.1
    (repeat (first | refine vgo ?_ | refine ⟨_, rfl, rfl, ?_⟩ | refine ⟨_, rfl, ?_⟩ | refine ⟨rfl, ?_⟩ | intro hb | refine altA ?_ | refine altR ?_ | refine sideA ?_ | refine decTA ?_ | refine decFA ?_ | refine decNA ?_ | refine decBTA ?_ | refine decBFA ?_ | refine ⟨_, by assumption, ?_⟩ | refine ⟨_, _, _, rfl, ?_⟩ | refine WC.seq (fun K hK => ?_) | (refine hK _ _ _ ?_; clear hK K) | (refine hK _ _ _ _ rfl ?_; clear hK K) | (refine WX.thenExit (K := K) ?_; clear hK K) | (refine WX.thenExit (K := KL) ?_; clear hL KL)))
    exact WX.ret1 rfl rfl (fun w sw => ⟨[], [], ⟨by rw [e], rfl, rfl⟩, sw.to⟩)
  have h3 := Classical.not_not.1 h3
  have e : decide (x.F = y.F) = decide (csameP x y) := decide_eq_decide.2 ⟨fun h => ⟨h1, h2, h3, h⟩, fun h => h.2.2.2⟩
  (repeat (first | refine vgo ?_ | refine ⟨_, rfl, rfl, ?_⟩ | refine ⟨_, rfl, ?_⟩ | refine ⟨rfl, ?_⟩ | intro hb | refine altA ?_ | refine altR ?_ | refine sideA ?_ | refine decTA ?_ | refine decFA ?_ | refine decNA ?_ | refine decBTA ?_ | refine decBFA ?_ | refine ⟨_, by assumption, ?_⟩ | refine ⟨_, _, _, rfl, ?_⟩ | refine WC.seq (fun K hK => ?_) | (refine hK _ _ _ ?_; clear hK K) | (refine hK _ _ _ _ rfl ?_; clear hK K) | (refine WX.thenExit (K := K) ?_; clear hK K) | (refine WX.thenExit (K := KL) ?_; clear hL KL)))
  exact WX.ret1 rfl rfl (fun w sw => ⟨[], [], ⟨by rw [e], rfl, rfl⟩, sw.to⟩)
set_option maxRecDepth 100000 in
set_option maxHeartbeats 1600000 in
theorem rcsame_fun (x y : OpD) (u v : Value) : Fun Try.prog 92 [contV x u, contV y v] [rd (Ty.sl nodeT) x.F.ar u, rd (Ty.sl nodeT) y.F.ar v] [] (fun r G S => r = .bool (decide (csameP x y)) ∧ G = [] ∧ S = []) := by
  refine Fun.enter Try.func92 (by kernel_rfl) rfl Try.ntmps92 rfl (fun B Gf Sf => ?_); (try simp only [List.cons_append]); (try simp only [List.nil_append]); simp only [argEnv]
  refine WC.ex (fun w sw => sw.slOne (v := u) RdSl.h) (fun hu1 => ?_)
  refine WC.ex (fun w sw => sw.slOne (v := v) RdSl.h) (fun hv1 => ?_)
  (repeat (first | refine vgo ?_ | refine ⟨_, rfl, rfl, ?_⟩ | refine ⟨_, rfl, ?_⟩ | refine ⟨rfl, ?_⟩ | intro hb | refine altA ?_ | refine altR ?_ | refine sideA ?_ | refine decTA ?_ | refine decFA ?_ | refine decNA ?_ | refine decBTA ?_ | refine decBFA ?_ | refine ⟨_, by assumption, ?_⟩ | refine ⟨_, _, _, rfl, ?_⟩ | refine WC.seq (fun K hK => ?_) | (refine hK _ _ _ ?_; clear hK K) | (refine hK _ _ _ _ rfl ?_; clear hK K) | (refine WX.thenExit (K := K) ?_; clear hK K) | (refine WX.thenExit (K := KL) ?_; clear hL KL)))
  (first | refine WL.boxA rfl rfl ?_ | refine WL.box rfl rfl rfl ?_); intro b1
  (repeat (first | refine vgo ?_ | refine ⟨_, rfl, rfl, ?_⟩ | refine ⟨_, rfl, ?_⟩ | refine ⟨rfl, ?_⟩ | intro hb | refine altA ?_ | refine altR ?_ | refine sideA ?_ | refine decTA ?_ | refine decFA ?_ | refine decNA ?_ | refine decBTA ?_ | refine decBFA ?_ | refine ⟨_, by assumption, ?_⟩ | refine ⟨_, _, _, rfl, ?_⟩ | refine WC.seq (fun K hK => ?_) | (refine hK _ _ _ ?_; clear hK K) | (refine hK _ _ _ _ rfl ?_; clear hK K) | (refine WX.thenExit (K := K) ?_; clear hK K) | (refine WX.thenExit (K := KL) ?_; clear hL KL)))
  (first | refine WL.boxA rfl rfl ?_ | refine WL.box rfl rfl rfl ?_); intro b2
  by_cases h1 : ¬ x.ck = y.ck
  · have e : decide (csameP x y) = false := decide_eq_false fun h => h1 h.1
    (repeat (first | refine vgo ?_ | refine ⟨_, rfl, rfl, ?_⟩ | refine ⟨_, rfl, ?_⟩ | refine ⟨rfl, ?_⟩ | intro hb | refine altA ?_ | refine altR ?_ | refine sideA ?_ | refine decTA ?_ | refine decFA ?_ | refine decNA ?_ | refine decBTA ?_ | refine decBFA ?_ | refine ⟨_, by assumption, ?_⟩ | refine ⟨_, _, _, rfl, ?_⟩ | refine WC.seq (fun K hK => ?_) | (refine hK _ _ _ ?_; clear hK K) | (refine hK _ _ _ _ rfl ?_; clear hK K) | (refine WX.thenExit (K := K) ?_; clear hK K) | (refine WX.thenExit (K := KL) ?_; clear hL KL)))
    exact WX.ret1 rfl rfl (fun w sw => ⟨[], [], ⟨by rw [e], rfl, rfl⟩, sw.to⟩)
  have h1 := Classical.not_not.1 h1
  by_cases h2 : ¬ x.cn = y.cn
  · have e : decide (csameP x y) = false := decide_eq_false fun h => h2 h.2.1
    (repeat (first | refine vgo ?_ | refine ⟨_, rfl, rfl, ?_⟩ | refine ⟨_, rfl, ?_⟩ | refine ⟨rfl, ?_⟩ | intro hb | refine altA ?_ | refine altR ?_ | refine sideA ?_ | refine decTA ?_ | refine decFA ?_ | refine decNA ?_ | refine decBTA ?_ | refine decBFA ?_ | refine ⟨_, by assumption, ?_⟩ | refine ⟨_, _, _, rfl, ?_⟩ | refine WC.seq (fun K hK => ?_) | (refine hK _ _ _ ?_; clear hK K) | (refine hK _ _ _ _ rfl ?_; clear hK K) | (refine WX.thenExit (K := K) ?_; clear hK K) | (refine WX.thenExit (K := KL) ?_; clear hL KL)))
    exact WX.ret1 rfl rfl (fun w sw => ⟨[], [], ⟨by rw [e], rfl, rfl⟩, sw.to⟩)
  have h2 := Classical.not_not.1 h2
  by_cases h3 : ¬ x.ct = y.ct
  · have e : decide (csameP x y) = false := decide_eq_false fun h => h3 h.2.2.1
    (repeat (first | refine vgo ?_ | refine ⟨_, rfl, rfl, ?_⟩ | refine ⟨_, rfl, ?_⟩ | refine ⟨rfl, ?_⟩ | intro hb | refine altA ?_ | refine altR ?_ | refine sideA ?_ | refine decTA ?_ | refine decFA ?_ | refine decNA ?_ | refine decBTA ?_ | refine decBFA ?_ | refine ⟨_, by assumption, ?_⟩ | refine ⟨_, _, _, rfl, ?_⟩ | refine WC.seq (fun K hK => ?_) | (refine hK _ _ _ ?_; clear hK K) | (refine hK _ _ _ _ rfl ?_; clear hK K) | (refine WX.thenExit (K := K) ?_; clear hK K) | (refine WX.thenExit (K := KL) ?_; clear hL KL)))
    exact WX.ret1 rfl rfl (fun w sw => ⟨[], [], ⟨by rw [e], rfl, rfl⟩, sw.to⟩)
  have h3 := Classical.not_not.1 h3
  have e : decide (x.F = y.F) = decide (csameP x y) := decide_eq_decide.2 ⟨fun h => ⟨h1, h2, h3, h⟩, fun h => h.2.2.2⟩
  (repeat (first | refine vgo ?_ | refine ⟨_, rfl, rfl, ?_⟩ | refine ⟨_, rfl, ?_⟩ | refine ⟨rfl, ?_⟩ | intro hb | refine altA ?_ | refine altR ?_ | refine sideA ?_ | refine decTA ?_ | refine decFA ?_ | refine decNA ?_ | refine decBTA ?_ | refine decBFA ?_ | refine ⟨_, by assumption, ?_⟩ | refine ⟨_, _, _, rfl, ?_⟩ | refine WC.seq (fun K hK => ?_) | (refine hK _ _ _ ?_; clear hK K) | (refine hK _ _ _ _ rfl ?_; clear hK K) | (refine WX.thenExit (K := K) ?_; clear hK K) | (refine WX.thenExit (K := KL) ?_; clear hL KL)))
  exact WX.ret1 rfl rfl (fun w sw => ⟨[], [], ⟨by rw [e], rfl, rfl⟩, sw.to⟩)
instance ctsame_pure {G : List Pers} {x y : OpD} {u v : Value} [i : RdSl u G nodeT x.F.ar] [j : RdSl v G nodeT y.F.ar] : PureF Try.prog 39 [contV x u, contV y v] G True (.bool (decide (csameP x y))) := ⟨fun _ => ⟨_, by simpa using ⟨i.h, j.h⟩, ctsame_fun x y u v⟩⟩
instance rcsame_pure {G : List Pers} {x y : OpD} {u v : Value} [i : RdSl u G nodeT x.F.ar] [j : RdSl v G nodeT y.F.ar] : PureF Try.prog 92 [contV x u, contV y v] G True (.bool (decide (csameP x y))) := ⟨fun _ => ⟨_, by simpa using ⟨i.h, j.h⟩, rcsame_fun x y u v⟩⟩
end
/-! ### Operations of the document as the program's. -/
section
open Go Go.Proofs
end
end
end Go.Qd
