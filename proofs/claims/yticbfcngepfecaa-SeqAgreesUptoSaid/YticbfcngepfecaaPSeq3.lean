/-
  Lines in an order: the document's Insert, Delete, Sweep.
-/
import Derived.Test.YticbfcngepfecaaPSeq2
namespace Go.Qd
open Go Go.Proofs
def isZ (t : Nat) (r : Int) : Prop := (t : Int) = 0 ∧ r = 0
instance (t : Nat) (r : Int) : Decidable (isZ t r) := inferInstanceAs (Decidable (_ ∧ _))
def advK (l : List Ln) (t : Nat) (r : Int) (k : Nat) : Nat := k + ((l.drop k).takeWhile fun x => decide (idLess (t, r) (x.t, x.r))).length
theorem advK_step {l : List Ln} {t : Nat} {r : Int} {k : Nat} {x : Ln} (hx : l[k]? = some x) (h : idLess (t, r) (x.t, x.r)) : advK l t r k = advK l t r (k + 1) := by
  obtain ⟨hk, e⟩ := List.getElem?_eq_some_iff.1 hx
  unfold advK
  rw [List.drop_eq_getElem_cons hk, e, List.takeWhile_cons, if_pos (decide_eq_true h), List.length_cons]
  omega
theorem advK_stop {l : List Ln} {t : Nat} {r : Int} {k : Nat} {x : Ln} (hx : l[k]? = some x) (h : ¬ idLess (t, r) (x.t, x.r)) : advK l t r k = k := by
  obtain ⟨hk, e⟩ := List.getElem?_eq_some_iff.1 hx
  unfold advK
  rw [List.drop_eq_getElem_cons hk, e, List.takeWhile_cons, if_neg (by rw [decide_eq_false h]; decide)]
  rfl
theorem advK_end {l : List Ln} {t : Nat} {r : Int} {k : Nat} (h : l.length ≤ k) : advK l t r k = k := by
  unfold advK
  rw [List.drop_of_length_le h]; rfl
def insE (l : List Ln) (at_ : Nat) (ar : Int) (t : Nat) (r : Int) : Int := if ¬ idRight (t, r) then 1 else if 0 ≤ ixZ l t r then 7 else if ¬ isZ at_ ar ∧ ixZ l at_ ar = -1 then 6 else 0
def insK (l : List Ln) (at_ : Nat) (ar : Int) : Nat := if isZ at_ ar then 0 else (ixZ l at_ ar + 1).toNat
def putAtL (l : List Ln) (k t : Nat) (r : Int) : List Ln := l.take k ++ ([⟨t, r, false⟩] ++ l.drop k)
def insL (l : List Ln) (at_ : Nat) (ar : Int) (t : Nat) (r : Int) : List Ln := if insE l at_ ar t r = 0 then putAtL l (advK l t r (insK l at_ ar)) t r else l
theorem insK_le (l : List Ln) (at_ : Nat) (ar : Int) : insK l at_ ar ≤ l.length := by
  have := ixZ_b l at_ ar
  unfold insK; split <;> omega
theorem putAtL_len {l : List Ln} {k t : Nat} {r : Int} : (putAtL l k t r).length = l.length + 1 := by
  unfold putAtL
  rw [List.length_append, List.length_append, List.length_take, List.length_drop]
  simp only [List.length_cons, List.length_nil]; omega
theorem putAtL_C (l : List Ln) (k t : Nat) (r : Int) : flat ((l.take k).map fun a => a.V) ++ [.int .u64 (t : Int), .int .i64 r, .bool false] ++ flat ((l.drop k).map fun a => a.V) = flat ((putAtL l k t r).map fun a => a.V) := by
  simp [putAtL, flat, Value.cells]
theorem putAtL_ok {l : List Ln} {k t : Nat} {r : Int} (h : ∀ x ∈ l, okLn x) (ht : okId t r) : ∀ x ∈ putAtL l k t r, okLn x := fun x hx => by
  unfold putAtL at hx
  rcases List.mem_append.1 hx with hx | hx
  · exact h x (List.mem_of_mem_take hx)
  · rcases List.mem_append.1 hx with hx | hx
    · rw [List.mem_singleton] at hx; subst hx; exact ht
    · exact h x (List.mem_of_mem_drop hx)
theorem insL_ok {l : List Ln} {at_ t : Nat} {ar r : Int} (h : ∀ x ∈ l, okLn x) (ht : okId t r) : ∀ x ∈ insL l at_ ar t r, okLn x := by
  unfold insL; split
  · exact putAtL_ok h ht
  · exact h
end Go.Qd
