/-
  Tables: the law of columns and of rows told once, walked.
-/
import Derived.Test.YticbfcngepfecaaPTab12
import Derived.Test.YticbfcngepfecaaQLate
namespace Go.Qd
open Go Go.Proofs
theorem Sat.oks2 {B w : World} {G : List Pers} {S : List Res} {l : List (List VT)} {v : Value} (h : Sat B G S w) (hm : Qd.rd (Ty.sl (Ty.sl valT)) l v ∈ G) : ∀ r ∈ l, ∀ y ∈ r, okV y := fun r hr y hy => by
  obtain ⟨m, hall⟩ := h.all hm
  obtain ⟨u, hu⟩ := hall r hr
  rcases hu with x | ⟨b, o, c, cs, E, fr, vs, h1, h2, h3, h4, h5, h6⟩
  · rw [x.1] at hy; cases hy
  · obtain ⟨z, hz⟩ := AllR.mem h5 y hy
    exact ((Ty.Is.iff _ _ _).1 hz).2
end Go.Qd
