/-
  A whole number as a text (the document's).
-/
import Derived.Test.YtkpblibaddjcgaaDoorPA1
namespace Go.Qd
open Go Go.Proofs

/-! ### A whole number as a text (the document's) -/
end Go.Qd
