/-
  Tables: the law of looking up, walked.
-/
import Derived.Test.YticbfcngepfecaaPTab15
import Derived.Test.YticbfcngepfecaaPTab13
namespace Go.Qd
open Go Go.Proofs
abbrev xBox (b : Nat) (a : VT) : Res := box b 53 [.int .i64 a.1, .int .i64 a.2.1, .string (bs a.2.2)]
def K1 (c : Int) : List (Int × Bool) := [(c, false)]
theorem rowCmp_one (a b : List VT) (c : Int) : rowCmp a b (K1 c) = tcmp (cellL a c) (cellL b c) := by
  have e : keyCmp a b (c, false) = tcmp (cellL a c) (cellL b c) := by unfold keyCmp; rw [if_neg (by simp)]
  unfold K1
  rw [rowCmp, e]
  split
  · rename_i h; rw [h]; rfl
  · rfl
end Go.Qd
