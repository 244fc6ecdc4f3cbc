import Derived.Test.YthkeakecckiokaaGreatQDel
import Derived.Laws.CopyRow
namespace Go.Qd
open Go
section
variable {P : Program} {n : Nat} {Q : Exit → Act → World → Prop} {B : Base} {env : Env} {G : List Pers} {S S' : List Res} {L rest : List Oper}
variable {d b m c : Nat} {ty : TypeId} {pos : String} {af : Array Edge} {x y : Operand} {T T' E E' : TypeId} {u v : Value} {cs : List Value} {α : Type} {R : Ty α} {l : List α}
end
end Go.Qd
