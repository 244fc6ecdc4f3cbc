/-
  What waits: Put, Next.
-/
import Derived.Test.YtijebmblhakbpaaPHold
namespace Go.Qd
open Go Go.Proofs
theorem opsC_snoc (l : List OpT) (x : OpT) : opsC (l ++ [x]) = opsC l ++ x.C := by
  unfold opsC; rw [List.flatMap_append, List.flatMap_cons, List.flatMap_nil, List.append_nil]
theorem ops_one {B w : World} {G : List Pers} {S : List Res} {l : List OpT} (h : Sat B G S w) (hm : hG l ∈ G) : ∀ u ∈ opsC l, u.oneCell' = true := by
  have : ∀ x ∈ l, x.d.oneCell' = true := h.pure fun m hg => by
    have ha : AllR (Ty.sl Ty.u64) (l.map OpT.c) (l.map OpT.d) m := hg _ hm
    clear hm h
    induction l with
    | nil => intro x hx; cases hx
    | cons y l ih =>
      intro x hx
      rcases List.mem_cons.1 hx with rfl | hx
      · exact (Ty.sl Ty.u64).form ha.1
      · exact ih ha.2 x hx
  intro u hu
  unfold opsC at hu
  obtain ⟨x, hx, hu⟩ := List.mem_flatMap.1 hu
  have hd := this x hx
  simp only [OpT.C, opC, oTail, List.mem_cons, List.not_mem_nil, or_false] at hu
  rcases hu with rfl | rfl | rfl | rfl | rfl | rfl | rfl | rfl | rfl | rfl | rfl | rfl | rfl | rfl | rfl | rfl | rfl | rfl | rfl | rfl | rfl | rfl | rfl | rfl <;> first | rfl | exact hd
end Go.Qd
