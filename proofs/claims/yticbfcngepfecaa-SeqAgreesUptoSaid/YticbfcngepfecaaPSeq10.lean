/-
  Lines in an order: Sweep.
-/
import Derived.Test.YticbfcngepfecaaPSeq9
namespace Go.Qd
open Go Go.Proofs
end Go.Qd
