/-
  What waits: Put, Next.
-/
import Derived.Test.YtkbddmjnjgaalaaPHold
namespace Go.Qd
open Go Go.Proofs
end Go.Qd
