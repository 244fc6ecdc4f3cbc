/-
  Tables: Unique and Turn.
-/
import Derived.Test.YticbfcngepfecaaPTab11
import Derived.Test.YticbfcngepfecaaPTab7
namespace Go.Qd
open Go Go.Proofs
theorem okV_cell {l : List VT} (h : ∀ y ∈ l, okV y) (k : Int) : okV (cellL l k) := by
  by_cases g : 0 ≤ k ∧ k < l.length
  · exact h _ (List.mem_of_getElem? (cell_in g.1 g.2))
  · rw [cell_out (by omega)]; exact ⟨by decide, by decide, by decide⟩
end Go.Qd
