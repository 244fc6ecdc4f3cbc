/-
  Tables: rows of which none ahead has the same values; rows as columns.
-/
import Derived.Test.YticbfcngepfecaaPTab8
namespace Go.Qd
open Go Go.Proofs
end Go.Qd
