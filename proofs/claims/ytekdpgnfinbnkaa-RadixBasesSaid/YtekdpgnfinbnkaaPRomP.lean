/-
  Roman signs: plain facts.
-/
import Derived.Test.YtekdpgnfinbnkaaPJoin
import Derived.Test.YtekdpgnfinbnkaaQOwn
namespace Go.Qd
open Go Go.Proofs
abbrev romTL : List (List UInt8) := [[77], [67, 77], [68], [67, 68], [67], [88, 67], [76], [88, 76], [88], [73, 88], [86], [73, 86], [73]]
abbrev romWL : List Int := [1000, 900, 500, 400, 100, 90, 50, 40, 10, 9, 5, 4, 1]
abbrev oneL : List (List UInt8) := [[], [73], [73, 73], [73, 73, 73], [73, 86], [86], [86, 73], [86, 73, 73], [86, 73, 73, 73], [73, 88]]
abbrev tenL : List (List UInt8) := [[], [88], [88, 88], [88, 88, 88], [88, 76], [76], [76, 88], [76, 88, 88], [76, 88, 88, 88], [88, 67]]
abbrev hunL : List (List UInt8) := [[], [67], [67, 67], [67, 67, 67], [67, 68], [68], [68, 67], [68, 67, 67], [68, 67, 67, 67], [67, 77]]
abbrev thoL : List (List UInt8) := [[], [77], [77, 77], [77, 77, 77]]
def romT (i : Nat) : List UInt8 := romTL.getD i []
def romW (i : Nat) : Nat := [1000, 900, 500, 400, 100, 90, 50, 40, 10, 9, 5, 4, 1].getD i 0
def romD (n : Nat) : List UInt8 := thoL.getD (n / 1000) [] ++ hunL.getD (n / 100 % 10) [] ++ tenL.getD (n / 10 % 10) [] ++ oneL.getD (n % 10) []
def romF : Nat → Nat → Nat → Option (List UInt8)
  | 0, _, n => if n = 0 then some [] else none
  | f + 1, i, n => if n = 0 then some [] else if 13 ≤ i then none else if romW i ≤ n then (romF f i (n - romW i)).map (romT i ++ ·) else romF f (i + 1) n
theorem romF_ok {n : Nat} (h : n ≤ 3999) : romF 30 0 n = some (romD n) := by
  have : (List.range 4000).all (fun n => decide (romF 30 0 n = some (romD n))) = true := by decide +kernel
  rw [List.all_eq_true] at this
  exact of_decide_eq_true (this n (List.mem_range.2 (by omega)))
def arF : Nat → Nat → Nat → List UInt8 → Option Nat
  | 0, _, n, r => if r = [] then some n else none
  | f + 1, i, n, r => if r = [] then some n else if 3999 < n then none else if 13 ≤ i then none else if Lib.hasPrefix r (romT i) then arF f i (n + romW i) (Lib.trimPrefix r (romT i)) else arF f (i + 1) n r
theorem arF_ok {n : Nat} (h : n ≤ 3999) : arF 30 0 0 (romD n) = some n := by
  have : (List.range 4000).all (fun n => decide (arF 30 0 0 (romD n) = some n)) = true := by decide +kernel
  rw [List.all_eq_true] at this
  exact of_decide_eq_true (this n (List.mem_range.2 (by omega)))
theorem romD_inj {n m : Nat} (hn : n ≤ 3999) (hm : m ≤ 3999) (h : romD n = romD m) : n = m := by
  have h1 := arF_ok hn
  rw [h, arF_ok hm] at h1
  exact (Option.some.inj h1).symm
def arab (s : List UInt8) : Nat := ((List.range 4000).find? fun n => decide (1 ≤ n) && decide (romD n = s)).getD 0
theorem arab_le (s : List UInt8) : arab s ≤ 3999 := by
  unfold arab
  cases h : (List.range 4000).find? fun n => decide (1 ≤ n) && decide (romD n = s) with
  | none => simp
  | some n =>
    have := List.mem_of_find?_eq_some h
    rw [List.mem_range] at this
    simp; omega
theorem arab_pos {s : List UInt8} (h : 0 < arab s) : romD (arab s) = s := by
  unfold arab at h ⊢
  cases hq : (List.range 4000).find? fun n => decide (1 ≤ n) && decide (romD n = s) with
  | none => rw [hq] at h; simp at h
  | some n =>
    have := List.find?_some hq
    simp only [Bool.and_eq_true, decide_eq_true_eq] at this
    exact this.2
theorem arab_of {s : List UInt8} {n : Nat} (h1 : 1 ≤ n) (h2 : n ≤ 3999) (h : romD n = s) : arab s = n := by
  have hp : 0 < arab s := by
    unfold arab
    cases hq : (List.range 4000).find? fun n => decide (1 ≤ n) && decide (romD n = s) with
    | none =>
      rw [List.find?_eq_none] at hq
      have := hq n (List.mem_range.2 (by omega))
      simp [h1, h] at this
    | some m =>
      have := List.find?_some hq
      simp only [Bool.and_eq_true, decide_eq_true_eq] at this
      exact this.1
  exact romD_inj (arab_le s) h2 ((arab_pos hp).trans h.symm)
theorem arab_zero {s : List UInt8} (h : ∀ n, 1 ≤ n → n ≤ 3999 → romD n ≠ s) : arab s = 0 := by
  refine Decidable.byContradiction fun hn => ?_
  exact h _ (by omega) (arab_le s) (arab_pos (by omega))
theorem romT_le (i : Nat) : (romT i).length ≤ 2 := by
  have : ∀ x ∈ romTL, x.length ≤ 2 := by decide
  unfold romT
  by_cases h : i < romTL.length
  · exact this _ (List.mem_of_getElem? (getD_some h))
  · rw [List.getD_eq_getElem?_getD, List.getElem?_eq_none (by omega)]; simp
theorem romT_pos {i : Nat} (h : i < 13) : 1 ≤ (romT i).length := by
  have : ∀ j < 13, 1 ≤ (romT j).length := by decide
  exact this i h
theorem romW_pos {i : Nat} (h : i < 13) : 1 ≤ romW i ∧ romW i ≤ 1000 := by
  have : ∀ j < 13, 1 ≤ romW j ∧ romW j ≤ 1000 := by decide
  exact this i h
theorem romTL_get {i : Nat} (h : i < 13) : romTL[i]? = some (romT i) := by
  have : ∀ j < 13, romTL[j]? = some (romT j) := by decide
  exact this i h
theorem romWL_get {i : Nat} (h : i < 13) : romWL[i]? = some (romW i : Int) := by
  have : ∀ j < 13, romWL[j]? = some (romW j : Int) := by decide
  exact this i h
theorem romD_le {n : Nat} (h : n ≤ 3999) : (romD n).length ≤ 15 := by
  have : (List.range 4000).all (fun n => decide ((romD n).length ≤ 15)) = true := by decide +kernel
  rw [List.all_eq_true] at this
  exact of_decide_eq_true (this n (List.mem_range.2 (by omega)))
end Go.Qd
