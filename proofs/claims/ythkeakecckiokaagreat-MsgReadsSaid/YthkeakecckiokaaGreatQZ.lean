import Derived.Test.YthkeakecckiokaaGreatQW
import Derived.Test.YthkeakecckiokaaGreatQPar
namespace Go.Qd
open Go
section
variable {P : Program} {n : Nat} {Q : Exit → Act → World → Prop} {B : Base} {env : Env} {G : List Pers} {S S' : List Res} {L rest : List Oper} {K : Act → World → Prop}
variable {d sz : Nat} {ty : TypeId} {pos : String} {af : Array Edge} {x y z : Operand} {T T' E E' : TypeId} {u v v' : Value} {α β : Type} {R : Ty α} {l l' : List α} {a : α} {g : α → Value}
/-! An element of an array that is a value -/
theorem WL.ixa {xs : List Value} {m : Nat} {i : Int} {k : IntKind} (hx : env.ev x = some (.agg xs.toArray)) (hy : env.ev y = some (.int k i)) [hT : TU P T (.array m E)] [hs : TS P E 1] [hA : TA P E false] (hi : 0 ≤ i ∧ i < m) (hv : xs[i.toNat]? = some v) (hd : Nat.blt d n = true)
    (h : WL P n L Q rest B ((d, v) :: env) G S) : WL P n L Q (⟨some d, .index T x y, ty, pos, af, none⟩ :: rest) B env G S :=
  .val rfl rfl hd (fun a w sa _ => by
    have h1 : (Instr.index T (.agg xs.toArray) (.int k i)).run P w = .ok v w := by
      simp [Instr.index, asIntOf, run_underlying hT.h, hi, run_sizeOf_of w hs.h, part, run_isAgg_of w hA.h, hv]
    simp [execOp, sa.ev hx, sa.ev hy, h1]) h
instance {xs : List Value} {m : Nat} {i : Int} {k : IntKind} [hT : TU P T (.array m E)] [hs : TS P E 1] [hA : TA P E false] : V (IxsV P n L Q rest B env G S d T (.agg xs.toArray) (.int k i)) (Side (0 ≤ i ∧ i < m) (∃ v, xs[i.toNat]? = some v ∧ WL P n L Q rest B ((d, v) :: env) G S)) :=
  ⟨fun ⟨h0, _, h1, h2⟩ => ⟨fun _ _ _ _ _ e1 e2 e3 => .ixa e1 e2 h0 h1 e3 h2⟩⟩
end
end Go.Qd
