/-
  Tables: the law of columns and of rows told once, walked.
-/
import Derived.Test.YticbfcngepfecaaPTab12
import Derived.Test.YticbfcngepfecaaQLate
namespace Go.Qd
open Go Go.Proofs
end Go.Qd
