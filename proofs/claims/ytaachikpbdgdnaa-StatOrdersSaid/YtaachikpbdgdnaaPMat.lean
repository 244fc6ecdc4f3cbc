/-
  What replicas know of each other: what the program's functions compute.
-/
import Derived.Test.YtaachikpbdgdnaaPClockR
import Derived.Test.YtaachikpbdgdnaaQSlz
namespace Go.Qd
open Go Go.Proofs
end Go.Qd
