/-
  Numbers as decimal digits: sums with a sign, back to numbers; both Adds.
-/
import Derived.Test.YtaachikpbdgdnaaPDec4
import Derived.Test.YtaachikpbdgdnaaPTab1
namespace Go.Qd
open Go Go.Proofs
def inI (n : Int) : Bool := decide (-9223372036854775808 ≤ n ∧ n ≤ 9223372036854775807)
end Go.Qd
