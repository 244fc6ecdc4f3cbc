/-
  Lines in an order: the law of sweeps.
-/
import Derived.Test.YticbfcngepfecaaPSeq12
import Derived.Test.YticbfcngepfecaaQLaw
namespace Go.Qd
open Go Go.Proofs
abbrev ActS : Type := Int × (Nat × Int) × (Nat × Int) × List (Nat × Int) × List (Nat × Int)
abbrev actS : Ty ActS := Ty.pair Ty.i64 (Ty.pair idT (Ty.pair idT (Ty.pair (Ty.sl idT) (Ty.rec1 (Ty.sl idT)))))
set_option synthInstance.maxSize 1000 in
set_option synthInstance.maxHeartbeats 200000 in
instance reads_actS {N M : Nat} : ReadsN N M Try.prog 100 actS := inferInstanceAs (ReadsN N M Try.prog 100 (Ty.pair Ty.i64 (Ty.pair idT (Ty.pair idT (Ty.pair (Ty.sl idT) (Ty.rec1 (Ty.sl idT)))))))
theorem Sat.actOk {B w : World} {G : List Pers} {S : List Res} {A : List ActS} {v : Value} (h : Sat B G S w) (hm : Qd.rd (Ty.sl actS) A v ∈ G) : ∀ a ∈ A, okId a.2.1.1 a.2.1.2 ∧ okId a.2.2.1.1 a.2.2.1.2 := fun a ha => by
  obtain ⟨m, hall⟩ := h.all hm
  obtain ⟨u, hu⟩ := hall a ha
  obtain ⟨x, y, _, _, x2, y2, _, h2, x3, y3, _, h3, _⟩ := hu
  exact ⟨((Ty.Is.iff (R := idT) (f := fun a : Nat × Int => idV a.1 a.2) (ok := fun a => okId a.1 a.2) _ _ _).1 h2).2, ((Ty.Is.iff (R := idT) (f := fun a : Nat × Int => idV a.1 a.2) (ok := fun a => okId a.1 a.2) _ _ _).1 h3).2⟩
end Go.Qd
