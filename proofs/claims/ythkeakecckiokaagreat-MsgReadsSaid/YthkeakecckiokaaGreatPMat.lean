/-
  What replicas know of each other: what the program's functions compute.
-/
import Derived.Test.YthkeakecckiokaaGreatPClockR
import Derived.Test.YthkeakecckiokaaGreatQSlz
namespace Go.Qd
open Go Go.Proofs
theorem Sat.slOne {B w : World} {G : List Pers} {S : List Res} {α : Type} {R : Ty α} {l : List α} {v : Value} (h : Sat B G S w) (hm : Qd.rd (Ty.sl R) l v ∈ G) : v.cells.toList = [v] := by
  obtain ⟨p, c, rfl, _⟩ := h.sl_shape hm
  rfl
end Go.Qd
