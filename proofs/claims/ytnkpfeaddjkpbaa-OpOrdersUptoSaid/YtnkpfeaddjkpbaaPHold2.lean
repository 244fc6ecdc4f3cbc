/-
  What waits: Put, Next.
-/
import Derived.Test.YtnkpfeaddjkpbaaPHold
namespace Go.Qd
open Go Go.Proofs
end Go.Qd
