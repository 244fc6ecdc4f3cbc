/-
  What replicas know: the plain law, and the law's own small functions.
-/
import Derived.Test.YtijebmblhakbpaaPMat2
namespace Go.Qd
open Go Go.Proofs
theorem getD0 {l : List Nat} {i : Nat} (h : l.length ≤ i) : l.getD i 0 = 0 := by
  rw [List.getD_eq_getElem?_getD, List.getElem?_eq_none h]; rfl
theorem rep_ok : okF (List.replicate 64 0) := ⟨by simp, fun x hx => by have := List.eq_of_mem_replicate hx; omega⟩
theorem ofL_ok19 {l : List Nat} (h : ∀ x ∈ l, x < 18446744073709551616) : ∀ x ∈ ofL l, x < 18446744073709551616 := by
  intro x hx
  rw [ofL] at hx
  rcases List.mem_append.1 hx with hx | hx
  · exact h x (List.mem_of_mem_take hx)
  · have := List.eq_of_mem_replicate hx; omega
section
variable {P : Program} {n : Nat} {Q : Exit → Act → World → Prop} {B : Base} {env : Env} {G : List Pers} {S S' : List Res} {L rest : List Oper}
variable {d : Nat} {ty : TypeId} {pos : String} {af : Array Edge} {x y : Operand} {T E : TypeId} {v : Value}
end
end Go.Qd
