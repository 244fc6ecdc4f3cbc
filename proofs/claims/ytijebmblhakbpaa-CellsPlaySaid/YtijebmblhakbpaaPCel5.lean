/-
  Cells: their references sorted.
-/
import Derived.Test.YtijebmblhakbpaaPCel4
import Derived.Test.YtijebmblhakbpaaQSort
import Derived.Test.YtijebmblhakbpaaSSortR
namespace Go.Qd
open Go Go.Proofs Go.RowKit Go.Lib Go.Sort Go.Shelf
theorem cmpRf_lt (a b : RfI) : cmpRf a b < 0 ↔ rfLess a b := by
  unfold cmpRf rfLess
  rw [orI2]
  by_cases h : cmpID a.1 b.1 = 0
  · rw [if_pos h, cmpID_lt]
    have he : a.1 = b.1 := by
      rw [cmpID_eq] at h
      by_cases h1 : idLess a.1 b.1
      · rw [if_pos h1] at h; cases h
      · rw [if_neg h1] at h
        by_cases h2 : idLess b.1 a.1
        · rw [if_pos h2] at h; cases h
        · by_cases e : a.1 = b.1
          · exact e
          · exact absurd (idLess_tri2 h1 e) h2
    exact ⟨fun h2 => .inr ⟨he, h2⟩, fun h2 => by
      rcases h2 with h2 | h2
      · rw [he] at h2; exact absurd h2 (idLess_irr2 _)
      · exact h2.2⟩
  · rw [if_neg h, cmpID_lt]
    exact ⟨.inl, fun h2 => by
      rcases h2 with h2 | h2
      · exact h2
      · rw [h2.1, cmpID_eq, if_neg (idLess_irr2 _), if_neg (idLess_irr2 _)] at h
        exact absurd rfl h⟩
def leRf (a b : RfI) : Bool := !ltOf cmpRf b a
theorem ltRf (a b : RfI) : ltOf cmpRf a b = decide (rfLess a b) := by
  unfold ltOf; exact decide_eq_decide.2 (cmpRf_lt a b)
theorem rfC_flat (l : List RfI) : l.flatMap rfC = flat (l.map rfV) := by
  unfold flat; rw [List.flatMap_map]; rfl
theorem sortRf_fun (l : List RfI) (hl : l.length ≤ 1000000000) (v : Value) : Fun Try.prog 87 [v, .func (.func 88) #[] #[]] [] [own 49 4 v l.length (flat (l.map rfV))]
    (fun _ G S => G = [] ∧ S = [own 49 4 v (l.mergeSort leRf).length (flat ((l.mergeSort leRf).map rfV))]) := by
  have hO : SWO (ltOf cmpRf) := by
    have hl := ltRf
    refine ⟨fun x => ?_, fun x y z h1 h2 => ?_, fun x y z h1 h2 => ?_⟩ <;> simp only [hl, decide_eq_true_eq, decide_eq_false_iff_not] at *
    · exact rfLess_irr x
    · exact rfLess_trans h1 h2
    · intro h3
      by_cases e : x = y
      · subst e; exact h2 h3
      · exact h2 (rfLess_trans (rfLess_tri h1 e) h3)
  have hT : ∀ x y, ltOf cmpRf x y = false → ltOf cmpRf y x = false → x = y := fun x y h1 h2 => by
    rw [ltRf] at h1 h2
    simp only [decide_eq_false_iff_not] at h1 h2
    by_cases e : x = y
    · exact e
    · exact absurd (rfLess_tri h1 e) h2
  have h := sortFuncK (P := Try.prog) (α := RfI) Try.sortRef (E := 49) rfl 4 Try.isAgg49 Try.sizeOf49 rfC (fun _ => rfl) (by intro x u hu; simp at hu; rcases hu with rfl | rfl | rfl | rfl <;> rfl) cmpRf hO hT (f := 87) (g := 88) rfl Try.func87 (by kernel_rfl) rfl (fun x y => ccompare_fun x y) l hl v
  rw [rfC_flat] at h
  refine h.imp ?_
  rintro r G S ⟨rfl, rfl⟩
  refine ⟨rfl, ?_⟩
  rw [rfC_flat, List.length_mergeSort]; rfl
end Go.Qd
