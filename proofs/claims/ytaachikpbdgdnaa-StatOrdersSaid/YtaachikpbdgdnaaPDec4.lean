/-
  Numbers as decimal digits: differences; whole numbers with a sign.
-/
import Derived.Test.YtaachikpbdgdnaaPDec3
namespace Go.Qd
open Go Go.Proofs
end Go.Qd
