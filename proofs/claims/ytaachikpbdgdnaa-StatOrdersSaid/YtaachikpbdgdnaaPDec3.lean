/-
  Numbers as decimal digits: which is less, differences.
-/
import Derived.Test.YtaachikpbdgdnaaPDec2
namespace Go.Qd
open Go Go.Proofs
end Go.Qd
