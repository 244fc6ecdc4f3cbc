/-
  Grids' differences: plain facts.
-/
import Derived.Test.YticbfcngepfecaaQApp
import Derived.Test.YticbfcngepfecaaQTab
namespace Go.Qd
open Go Go.Proofs
abbrev Row := List (List UInt8)
def tx (l : Row) (k : Nat) : List UInt8 := l.getD k []
def costP (a b : Row) : Nat → Nat
  | 0 => 0
  | n + 1 => costP a b n + if tx a n = tx b n then 0 else 1
def costL (a b : Row) : Nat := costP a b (max a.length b.length)
theorem costP_le (a b : Row) : ∀ n, costP a b n ≤ n
  | 0 => Nat.le_refl _
  | n + 1 => by have := costP_le a b n; rw [costP]; split <;> omega
theorem costL_le (a b : Row) : costL a b ≤ max a.length b.length := costP_le _ _ _
def fillL (b : Row) : Nat := costL [] b
theorem costL_symm_nil (b : Row) : costL b [] = costL [] b := by
  unfold costL
  rw [Nat.max_comm]
  generalize max b.length ([] : Row).length = n
  rw [Nat.max_comm]
  show costP b [] (max b.length ([] : Row).length) = _
  have : ∀ n, costP b [] n = costP [] b n := by
    intro n
    induction n with
    | zero => rfl
    | succ n ih => rw [costP, costP, ih]; simp only [eq_comm]
  exact this _
def dist : List Row → List Row → Nat
  | [], [] => 0
  | [], y :: b => dist [] b + 1 + fillL y
  | _ :: a, [] => dist a [] + 1
  | x :: a, y :: b => min (min (dist a b + costL x y) (dist a (y :: b) + 1)) (dist (x :: a) b + 1 + fillL y)
termination_by a b => a.length + b.length
theorem dist_nn : dist [] [] = 0 := by rw [dist]
theorem dist_nc (y : Row) (b : List Row) : dist [] (y :: b) = dist [] b + 1 + fillL y := by rw [dist]
theorem dist_cn (x : Row) (a : List Row) : dist (x :: a) [] = dist a [] + 1 := by rw [dist]
theorem dist_cc (x y : Row) (a b : List Row) : dist (x :: a) (y :: b) = min (min (dist a b + costL x y) (dist a (y :: b) + 1)) (dist (x :: a) b + 1 + fillL y) := by rw [dist]
theorem fillL_le (y : Row) : fillL y ≤ y.length := by have := costL_le [] y; simpa [fillL] using this
theorem dist_n_le {m : Nat} : ∀ b : List Row, (∀ y ∈ b, y.length ≤ m) → dist [] b ≤ b.length * (m + 1)
  | [], _ => by rw [dist_nn]; omega
  | y :: b, h => by
    have h1 := dist_n_le b fun z hz => h z (.tail _ hz)
    have h2 := h y (.head _)
    have h3 := fillL_le y
    rw [dist_nc, List.length_cons, Nat.succ_mul]; omega
theorem dist_le {m : Nat} : ∀ (a b : List Row), (∀ y ∈ b, y.length ≤ m) → dist a b ≤ a.length + b.length * (m + 1)
  | [], b, h => by have := dist_n_le b h; simp only [List.length_nil]; omega
  | x :: a, [], h => by
    have := dist_le a [] h
    rw [dist_cn]; simp only [List.length_cons, List.length_nil] at this ⊢; omega
  | x :: a, y :: b, h => by
    have := dist_le a (y :: b) h
    rw [dist_cc]; simp only [List.length_cons] at this ⊢
    omega
/-! Changes -/
abbrev Chg := Int × Int × Int × List UInt8
def setsP (a b : Row) (row : Int) : Nat → List Chg
  | 0 => []
  | n + 1 => setsP a b row n ++ if tx a n = tx b n then [] else [(1, (n : Int) + 1, row, tx b n)]
def setsL (a b : Row) (row : Int) : List Chg := setsP a b row (max a.length b.length)
theorem setsP_len (a b : Row) (row : Int) : ∀ n, (setsP a b row n).length = costP a b n
  | 0 => rfl
  | n + 1 => by rw [setsP, costP, List.length_append, setsP_len a b row n]; split <;> simp
theorem setsL_len (a b : Row) (row : Int) : (setsL a b row).length = costL a b := setsP_len a b row _
def ofD : List Row → List Row → Int → List Chg
  | [], [], _ => []
  | [], y :: b, k => (2, 0, k, []) :: (setsL [] y (k + 1) ++ ofD [] b (k + 1))
  | _ :: a, [], k => (3, 0, k + 1, []) :: ofD a [] k
  | x :: a, y :: b, k => if dist (x :: a) (y :: b) = dist a b + costL x y then setsL x y (k + 1) ++ ofD a b (k + 1) else if dist (x :: a) (y :: b) = dist a (y :: b) + 1 then (3, 0, k + 1, []) :: ofD a (y :: b) k else (2, 0, k, []) :: (setsL [] y (k + 1) ++ ofD (x :: a) b (k + 1))
termination_by a b => a.length + b.length
theorem ofD_nn (k : Int) : ofD [] [] k = [] := by rw [ofD]
theorem ofD_nc (y : Row) (b : List Row) (k : Int) : ofD [] (y :: b) k = (2, 0, k, []) :: (setsL [] y (k + 1) ++ ofD [] b (k + 1)) := by rw [ofD]
theorem ofD_cn (x : Row) (a : List Row) (k : Int) : ofD (x :: a) [] k = (3, 0, k + 1, []) :: ofD a [] k := by rw [ofD]
theorem ofD_cc (x y : Row) (a b : List Row) (k : Int) : ofD (x :: a) (y :: b) k = if dist (x :: a) (y :: b) = dist a b + costL x y then setsL x y (k + 1) ++ ofD a b (k + 1) else if dist (x :: a) (y :: b) = dist a (y :: b) + 1 then (3, 0, k + 1, []) :: ofD a (y :: b) k else (2, 0, k, []) :: (setsL [] y (k + 1) ++ ofD (x :: a) b (k + 1)) := by rw [ofD]
theorem ofD_len : ∀ (a b : List Row) (k : Int), (ofD a b k).length = dist a b
  | [], [], k => by rw [ofD_nn, dist_nn]; rfl
  | [], y :: b, k => by
    rw [ofD_nc, dist_nc, List.length_cons, List.length_append, setsL_len, ofD_len [] b (k + 1)]
    show fillL y + dist [] b + 1 = _
    omega
  | x :: a, [], k => by rw [ofD_cn, dist_cn, List.length_cons, ofD_len a [] k]
  | x :: a, y :: b, k => by
    rw [ofD_cc]
    split
    · rename_i h; rw [List.length_append, setsL_len, ofD_len a b (k + 1)]; omega
    · split
      · rename_i h; rw [List.length_cons, ofD_len a (y :: b) k]; omega
      · rename_i h1 h2
        rw [List.length_cons, List.length_append, setsL_len, ofD_len (x :: a) b (k + 1)]
        show fillL y + dist (x :: a) b + 1 = _
        have := dist_cc x y a b
        omega
termination_by a b => a.length + b.length
/-! The same texts -/
def sameG : List Row → List Row → Bool
  | [], [] => true
  | x :: a, y :: b => decide (costL x y = 0) && sameG a b
  | _, _ => false
def planR (a b : List Row) (i : Nat) : List Int := (List.range (b.length + 1)).map fun k => (dist (a.drop i) (b.drop k) : Int)
def planL (a b : List Row) : List (List Int) := (List.range (a.length + 1)).map fun i => planR a b i
theorem planR_len (a b : List Row) (i : Nat) : (planR a b i).length = b.length + 1 := by simp [planR]
theorem planL_len (a b : List Row) : (planL a b).length = a.length + 1 := by simp [planL]
theorem planR_get {a b : List Row} {i k : Nat} (h : k ≤ b.length) : (planR a b i)[k]? = some (dist (a.drop i) (b.drop k) : Int) := by
  have : k < b.length + 1 := by omega
  simp [planR, this]
theorem planL_get {a b : List Row} {i : Nat} (h : i ≤ a.length) : (planL a b)[i]? = some (planR a b i) := by
  have : i < a.length + 1 := by omega
  simp [planL, this]
theorem planR_drop {a b : List Row} {i k : Nat} (h : k ≤ b.length) : (planR a b i).drop k = (dist (a.drop i) (b.drop k) : Int) :: (planR a b i).drop (k + 1) := by
  have := planR_get (a := a) (i := i) h
  obtain ⟨h1, h2⟩ := List.getElem?_eq_some_iff.1 this
  rw [List.drop_eq_getElem_cons h1, h2]
theorem planL_drop {a b : List Row} {i : Nat} (h : i ≤ a.length) : (planL a b).drop i = planR a b i :: (planL a b).drop (i + 1) := by
  have := planL_get (b := b) h
  obtain ⟨h1, h2⟩ := List.getElem?_eq_some_iff.1 this
  rw [List.drop_eq_getElem_cons h1, h2]
end Go.Qd
