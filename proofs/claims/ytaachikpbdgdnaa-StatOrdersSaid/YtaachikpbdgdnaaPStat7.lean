/-
  Numbers in order: the one that comes most often.
-/
import Derived.Test.YtaachikpbdgdnaaPStat6
namespace Go.Qd
open Go Go.Proofs Go.RowKit
/-- The program's state behind some numbers that rise: the best, how often, the last one's run. -/
structure MdP (t : List Int) (best : Int) (most run : Nat) : Prop where
  one : 1 ≤ most
  cnt : ∀ x ∈ t, t.count x ≤ most
  bst : 2 ≤ most → best ∈ t ∧ t.count best = most ∧ ∀ x ∈ t, t.count x = most → best ≤ x
  run : ∀ x, t.getLast? = some x → run = t.count x
theorem MdP.nil : MdP [] 0 1 0 := ⟨by omega, by simp, by omega, by simp⟩
theorem count_snoc (t : List Int) (d x : Int) : (t ++ [d]).count x = t.count x + if d = x then 1 else 0 := by
  rw [List.count_append, List.count_singleton]
  congr 1
  by_cases h : d = x <;> simp [h]
theorem MdP.step {t : List Int} {best d : Int} {most run r : Nat} (h : MdP t best most run) (hs : (t ++ [d]).Pairwise fun a b => a ≤ b) (hr : r = (t ++ [d]).count d) : MdP (t ++ [d]) (if most < r then d else best) (if most < r then r else most) r := by
  have hle : ∀ x ∈ t, x ≤ d := fun x hx => (List.pairwise_append.1 hs).2.2 x hx d (.head _)
  have hrun : ∀ x, (t ++ [d]).getLast? = some x → r = (t ++ [d]).count x := by
    intro x hx
    rw [List.getLast?_append] at hx
    simp at hx
    subst hx; exact hr
  have hrd : r = t.count d + 1 := by rw [hr, count_snoc, if_pos rfl]
  by_cases g : most < r
  · rw [if_pos g, if_pos g]
    refine ⟨by have := h.one; omega, fun x hx => ?_, fun _ => ⟨by simp, hr.symm, fun x hx hc => ?_⟩, hrun⟩
    · by_cases e : d = x
      · subst e; omega
      · rw [count_snoc, if_neg e]
        rcases List.mem_append.1 hx with hx | hx
        · have := h.cnt x hx; omega
        · exact absurd (List.mem_singleton.1 hx).symm e
    · by_cases e : d = x
      · omega
      · rw [count_snoc, if_neg e] at hc
        rcases List.mem_append.1 hx with hx | hx
        · have := h.cnt x hx; omega
        · exact absurd (List.mem_singleton.1 hx).symm e
  · rw [if_neg g, if_neg g]
    refine ⟨h.one, fun x hx => ?_, fun h2 => ?_, hrun⟩
    · by_cases e : d = x
      · subst e; omega
      · rw [count_snoc, if_neg e]
        rcases List.mem_append.1 hx with hx | hx
        · have := h.cnt x hx; omega
        · exact absurd (List.mem_singleton.1 hx).symm e
    · obtain ⟨b1, b2, b3⟩ := h.bst h2
      have hne : ¬ d = best := fun e => by subst e; omega
      refine ⟨List.mem_append_left _ b1, by rw [count_snoc, if_neg hne]; exact b2, fun x hx hc => ?_⟩
      by_cases e : d = x
      · subst e; exact hle _ b1
      · rw [count_snoc, if_neg e] at hc
        rcases List.mem_append.1 hx with hx | hx
        · exact b3 x hx hc
        · exact absurd (List.mem_singleton.1 hx).symm e
/-- The document's state behind some of the numbers. -/
structure MdR (s t : List Int) (best : Int) (most : Nat) : Prop where
  cnt : ∀ x ∈ t, s.count x ≤ most
  bst : 1 ≤ most → best ∈ t ∧ s.count best = most ∧ ∀ x ∈ t, s.count x = most → best ≤ x
theorem MdR.nil (s : List Int) : MdR s [] 0 0 := ⟨by simp, by omega⟩
theorem MdR.step {s t : List Int} {best d : Int} {most : Nat} (h : MdR s t best most) (hs : (t ++ [d]).Pairwise fun a b => a ≤ b) : MdR s (t ++ [d]) (if most < s.count d then d else best) (if most < s.count d then s.count d else most) := by
  have hle : ∀ x ∈ t, x ≤ d := fun x hx => (List.pairwise_append.1 hs).2.2 x hx d (.head _)
  by_cases g : most < s.count d
  · rw [if_pos g, if_pos g]
    refine ⟨fun x hx => ?_, fun _ => ⟨by simp, rfl, fun x hx hc => ?_⟩⟩
    · rcases List.mem_append.1 hx with hx | hx
      · have := h.cnt x hx; omega
      · rw [List.mem_singleton.1 hx]; omega
    · rcases List.mem_append.1 hx with hx | hx
      · have := h.cnt x hx; omega
      · rw [List.mem_singleton.1 hx]; omega
  · rw [if_neg g, if_neg g]
    refine ⟨fun x hx => ?_, fun h2 => ?_⟩
    · rcases List.mem_append.1 hx with hx | hx
      · exact h.cnt x hx
      · rw [List.mem_singleton.1 hx]; omega
    · obtain ⟨b1, b2, b3⟩ := h.bst h2
      refine ⟨List.mem_append_left _ b1, b2, fun x hx hc => ?_⟩
      rcases List.mem_append.1 hx with hx | hx
      · exact b3 x hx hc
      · rw [List.mem_singleton.1 hx]; exact hle _ b1
theorem mode_same {s : List Int} {b1 b2 : Int} {m1 m2 r : Nat} (h : MdP s b1 m1 r) (k : MdR s s b2 m2) : (m1 < 2 ↔ m2 < 2) ∧ (2 ≤ m2 → b1 = b2) := by
  have key : 2 ≤ m1 → m1 ≤ m2 := fun h2 => by
    obtain ⟨c1, c2, _⟩ := h.bst h2
    have := k.cnt _ c1; omega
  have key2 : 1 ≤ m2 → m2 ≤ m1 := fun h2 => by
    obtain ⟨c1, c2, _⟩ := k.bst h2
    have := h.cnt _ c1; omega
  refine ⟨by omega, fun h2 => ?_⟩
  have e : m1 = m2 := by omega
  subst e
  obtain ⟨c1, c2, c3⟩ := h.bst h2
  obtain ⟨d1, d2, d3⟩ := k.bst (by omega)
  exact Int.le_antisymm (c3 _ d1 d2) (d3 _ c1 c2)
end Go.Qd
