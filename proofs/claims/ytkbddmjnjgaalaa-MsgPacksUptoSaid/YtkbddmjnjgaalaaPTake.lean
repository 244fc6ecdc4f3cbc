/-
  What the document's reader of numbers and bytes computes, and the rest of the reader's methods.
-/
import Derived.Test.YtkbddmjnjgaalaaPRead
namespace Go.Qd
open Go Go.Proofs

end Go.Qd
