/-
  What the functions of package clock, and of the document's answer to it, compute.
-/
import Derived.Test.YtijebmblhakbpaaQTab
import Derived.Test.YtijebmblhakbpaaQW
namespace Go.Qd
open Go Go.Proofs

/-! ### Clocks as lists of numbers -/
def withinL (a b : List Nat) : Prop := ∀ i, i < a.length → a.getD i 0 ≤ b.getD i 0
instance (a b : List Nat) : Decidable (withinL a b) := inferInstanceAs (Decidable (∀ i, i < a.length → _))
end Go.Qd
