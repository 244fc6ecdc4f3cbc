/-
  Tables: the last row that is not told behind a value.
-/
import Derived.Test.YticbfcngepfecaaPTab14
namespace Go.Qd
open Go Go.Proofs
end Go.Qd
