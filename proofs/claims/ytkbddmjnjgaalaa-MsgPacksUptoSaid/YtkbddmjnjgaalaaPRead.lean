/-
  What the reader of package wire computes.
-/
import Derived.Test.YtkbddmjnjgaalaaPWire
namespace Go.Qd
open Go Go.Proofs

def brk (k c : Nat) : Prop := (k = 9 ∧ 1 < c) ∨ (0 < k ∧ c = 0)
instance (k c : Nat) : Decidable (brk k c) := inferInstanceAs (Decidable (_ ∨ _))
end Go.Qd
