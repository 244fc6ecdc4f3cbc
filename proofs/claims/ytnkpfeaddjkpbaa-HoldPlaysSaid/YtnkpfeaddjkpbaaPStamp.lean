/-
  What the functions of package stamp, and of the document's answer to it, compute: the order of stamps.
-/
import Derived.Test.YtnkpfeaddjkpbaaQTab
import Derived.Test.YtnkpfeaddjkpbaaQV
namespace Go.Qd
open Go Go.Proofs

abbrev idV (t : Nat) (r : Int) : Value := .agg #[.int .u64 (t : Int), .int .i64 r]
abbrev idT : Ty (Nat × Int) := Ty.pair Ty.u64 (Ty.rec1 Ty.i64)
theorem idT_is {a : Nat × Int} {v : Value} {h : Hp} (x : idT.rel a v h) : v = idV a.1 a.2 ∧ a.1 < 18446744073709551616 ∧ -9223372036854775808 ≤ a.2 ∧ a.2 ≤ 9223372036854775807 := by
  obtain ⟨p, q, rfl, ⟨rfl, h1⟩, y, rfl, rfl, h2⟩ := x
  exact ⟨rfl, h1, h2⟩
def idLess (a b : Nat × Int) : Prop := a.1 < b.1 ∨ a.1 = b.1 ∧ a.2 < b.2
instance (a b : Nat × Int) : Decidable (idLess a b) := inferInstanceAs (Decidable (_ ∨ _))
def idRight (a : Nat × Int) : Prop := a.1 ≤ 1099511627776 ∧ 0 ≤ a.2 ∧ a.2 ≤ 64 ∧ (0 < a.1 ∨ 0 < a.2)
instance (a : Nat × Int) : Decidable (idRight a) := inferInstanceAs (Decidable (_ ∧ _))
/-! ### Numbers as texts -/
end Go.Qd
