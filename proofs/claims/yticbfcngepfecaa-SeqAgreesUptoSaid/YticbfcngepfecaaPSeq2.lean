/-
  Lines in an order: the document's lists that are made.
-/
import Derived.Test.YticbfcngepfecaaPSeq1
namespace Go.Qd
open Go Go.Proofs
def newL (m : Nat) : List Ln := (List.range m).map fun (k : Nat) => ⟨0, (k : Int) + 1, false⟩
theorem newL_snoc (m : Nat) : newL (m + 1) = newL m ++ [⟨0, (m : Int) + 1, false⟩] := by unfold newL; rw [List.range_succ, List.map_append]; rfl
theorem newL_len (m : Nat) : (newL m).length = m := by unfold newL; rw [List.length_map, List.length_range]
theorem newL_ok {m : Nat} (h : m ≤ 64) : ∀ x ∈ newL m, okLn x := fun x hx => by
  unfold newL at hx
  obtain ⟨k, hk, rfl⟩ := List.mem_map.1 hx
  have := List.mem_range.1 hk
  unfold okLn okId; dsimp only; omega
abbrev lnC (l : List Ln) : List Value := flat (l.map fun a => a.V)
theorem lnC_app (a b : List Ln) : lnC (a ++ b) = lnC a ++ lnC b := by simp [lnC, flat]
theorem take_snoc12 {α : Type} {l : List α} {i : Nat} {x : α} (h : l[i]? = some x) : l.take (i + 1) = l.take i ++ [x] := by
  rw [List.take_add_one, h]; rfl
def nOf (n : Int) : Nat := (min (max n 0) 64).toNat
theorem seenL_snoc {l : List Ln} {i : Nat} {x : Ln} (h : l[i]? = some x) : seenL (l.take (i + 1)) = seenL (l.take i) ++ (if x.d then [] else [(x.t, x.r)]) := by
  unfold seenL
  rw [take_snoc12 h, List.filter_append, List.map_append, List.filter_cons]
  cases x.d <;> simp
theorem seenL_len (l : List Ln) : (seenL l).length ≤ l.length := by unfold seenL; rw [List.length_map]; exact List.length_filter_le _ _
theorem seenL_ok {l : List Ln} (h : ∀ x ∈ l, okLn x) : ∀ a ∈ seenL l, okId a.1 a.2 := fun a ha => by
  unfold seenL at ha
  obtain ⟨x, hx, rfl⟩ := List.mem_map.1 ha
  exact h x (List.mem_filter.1 hx).1
end Go.Qd
