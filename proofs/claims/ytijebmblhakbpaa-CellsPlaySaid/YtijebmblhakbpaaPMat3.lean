/-
  What replicas know: the plain law, and the law's own small functions.
-/
import Derived.Test.YtijebmblhakbpaaPMat2
namespace Go.Qd
open Go Go.Proofs
section
variable {P : Program} {n : Nat} {Q : Exit → Act → World → Prop} {B : Base} {env : Env} {G : List Pers} {S S' : List Res} {L rest : List Oper}
variable {d : Nat} {ty : TypeId} {pos : String} {af : Array Edge} {x y : Operand} {T E : TypeId} {v : Value}
end
end Go.Qd
