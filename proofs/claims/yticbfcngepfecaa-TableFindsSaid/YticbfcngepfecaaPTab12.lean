/-
  Tables: Unique and Turn.
-/
import Derived.Test.YticbfcngepfecaaPTab11
import Derived.Test.YticbfcngepfecaaPTab7
namespace Go.Qd
open Go Go.Proofs
def rowN (rows : List (List VT)) (i : Nat) : List VT := rows.getD i []
theorem rowN_get {rows : List (List VT)} {i : Nat} (h : i < rows.length) : rows[i]? = some (rowN rows i) := by
  unfold rowN
  rw [List.getD_eq_getElem?_getD, List.getElem?_eq_getElem h]; rfl
end Go.Qd
