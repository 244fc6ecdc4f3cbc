/-
  What waits: Put, Next.
-/
import Derived.Test.YtijebmblhakbpaaPHold
namespace Go.Qd
open Go Go.Proofs
end Go.Qd
