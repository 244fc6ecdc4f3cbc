/-
  Operations of the document as the program's.
-/
import Derived.Test.YtkbddmjnjgaalaaPTree6
namespace Go.Qd
open Go Go.Proofs
theorem smN_ok {M d : Nat} {a : Nd} (h : smN M d a) : okNd a ∧ a.ar.length ≤ M := by
  cases d with
  | zero => exact h.elim
  | succ d => exact ⟨h.1, h.2.1⟩
abbrev opZ : List Value := .int .i64 0 :: .int .u64 0 :: .int .u64 0 :: .slice none 0 0 :: .int .i64 0 :: oTail
abbrev coZ : List Value := .int .i64 0 :: .int .i64 0 :: .string .empty :: ndZ
end Go.Qd
