/-
  What the functions of package stamp, and of the document's answer to it, compute: the order of stamps.
-/
import Derived.Test.YtaachikpbdgdnaaQTab
import Derived.Test.YtaachikpbdgdnaaQV
namespace Go.Qd
open Go Go.Proofs

def idLess (a b : Nat × Int) : Prop := a.1 < b.1 ∨ a.1 = b.1 ∧ a.2 < b.2
instance (a b : Nat × Int) : Decidable (idLess a b) := inferInstanceAs (Decidable (_ ∨ _))
def idRight (a : Nat × Int) : Prop := a.1 ≤ 1099511627776 ∧ 0 ≤ a.2 ∧ a.2 ≤ 64 ∧ (0 < a.1 ∨ 0 < a.2)
instance (a : Nat × Int) : Decidable (idRight a) := inferInstanceAs (Decidable (_ ∧ _))
/-! ### Numbers as texts -/
end Go.Qd
