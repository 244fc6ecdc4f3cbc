/-
  Numbers as decimal digits, the least one first (chapter 01's own reckoning).
-/
import Derived.Test.YtaachikpbdgdnaaPMat2
import Derived.Test.YtaachikpbdgdnaaQApp
namespace Go.Qd
open Go Go.Proofs
end Go.Qd
