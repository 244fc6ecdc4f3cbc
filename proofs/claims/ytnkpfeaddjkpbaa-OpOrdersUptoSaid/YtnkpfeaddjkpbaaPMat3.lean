/-
  What replicas know: the plain law, and the law's own small functions.
-/
import Derived.Test.YtnkpfeaddjkpbaaPMat2
namespace Go.Qd
open Go Go.Proofs
theorem getD0 {l : List Nat} {i : Nat} (h : l.length ≤ i) : l.getD i 0 = 0 := by
  rw [List.getD_eq_getElem?_getD, List.getElem?_eq_none h]; rfl
section
variable {P : Program} {n : Nat} {Q : Exit → Act → World → Prop} {B : World} {env : Env} {G : List Pers} {S S' : List Res} {L rest : List Oper}
variable {d : Nat} {ty : TypeId} {pos : String} {af : Array Edge} {x y : Operand} {T E : TypeId} {v : Value}
end
end Go.Qd
