import Derived.Test.YthkeakecckiokaaGreatQApp
namespace Go.Qd
open Go
/-! ### A region that draws its order: a slot that is read ahead of being written -/
section
variable {P : Program} {n : Nat} {Q : Exit → Act → World → Prop} {B : Base} {env env' : Env} {G : List Pers} {S S₀ : List Res} {L L' : List Oper}
/-- At place j stands another operation. -/
class SetOp (L : List Oper) (j : Nat) (o : Oper) (L' : outParam (List Oper)) : Prop where
  h : L.set j o = L'
instance SetOp.zero {q o : Oper} {r : List Oper} : SetOp (q :: r) 0 o (o :: r) := ⟨rfl⟩
instance SetOp.succ {q o : Oper} {r r' : List Oper} {j : Nat} [i : SetOp r j o r'] : SetOp (q :: r) (j + 1) o (q :: r') := ⟨by rw [List.set_cons_succ, i.h]⟩
end
end Go.Qd
