/-
  What the functions of package stamp, and of the document's answer to it, compute: the order of stamps.
-/
import Derived.Test.YticbfcngepfecaaQTab
import Derived.Test.YticbfcngepfecaaQV
namespace Go.Qd
open Go Go.Proofs

def cmpI (a b : Int) : Int := if a < b then -1 else if b < a then 1 else 0
def idLess (a b : Nat × Int) : Prop := a.1 < b.1 ∨ a.1 = b.1 ∧ a.2 < b.2
instance (a b : Nat × Int) : Decidable (idLess a b) := inferInstanceAs (Decidable (_ ∨ _))
def idRight (a : Nat × Int) : Prop := a.1 ≤ 1099511627776 ∧ 0 ≤ a.2 ∧ a.2 ≤ 64 ∧ (0 < a.1 ∨ 0 < a.2)
instance (a : Nat × Int) : Decidable (idRight a) := inferInstanceAs (Decidable (_ ∧ _))
theorem cmpI_lt {a b : Int} (h : a < b) : cmpI a b = -1 := by rw [cmpI, if_pos h]
theorem cmpI_gt {a b : Int} (h : b < a) : cmpI a b = 1 := by rw [cmpI, if_neg (by omega), if_pos h]
theorem cmpI_eq {a b : Int} (h1 : ¬ a < b) (h2 : ¬ b < a) : cmpI a b = 0 := by rw [cmpI, if_neg h1, if_neg h2]
theorem cmpI_b (a b : Int) : -1 ≤ cmpI a b ∧ cmpI a b ≤ 1 := by unfold cmpI; split; omega; split <;> omega

/-! ### Numbers as texts -/
end Go.Qd
