/-
  What the document's clocks (sixty-four numbers each) compute.
-/
import Derived.Test.YtijebmblhakbpaaPClock
namespace Go.Qd
open Go Go.Proofs

abbrev fV (l : List Nat) : Value := .agg (l.map uV).toArray

end Go.Qd
