/-
  Trees copied and measured.
-/
import Derived.Test.YtnkpfeaddjkpbaaPTree3
namespace Go.Qd
open Go Go.Proofs
mutual
def deepV : Nd → Int
  | .mk _ _ s _ _ ar => deepL (1 + ((s.length / 100 : Nat) : Int)) ar
def deepL : Int → List Nd → Int
  | k, [] => k
  | k, x :: l => if k ≤ 200 then deepL (k + deepV x) l else k
end
end Go.Qd
