/-
  A cut text has no more signs than asked for.
-/
import Derived.Test.YtkpblibaddjcgaaDoorPGr1
namespace Go.Qd
open Go Go.Proofs
end Go.Qd
