/-
  Numbers as decimal digits: sums, differences, which is less.
-/
import Derived.Test.YtaachikpbdgdnaaPDec1
namespace Go.Qd
open Go Go.Proofs
end Go.Qd
