/-
  Lines in an order: what is turned round; the law's 'in'; Sweep.
-/
import Derived.Test.YticbfcngepfecaaPSeq8
import Derived.Test.YticbfcngepfecaaQFlat
namespace Go.Qd
open Go Go.Proofs
/-! ### Turned round -/
end Go.Qd
