/-
  Lines in an order: the law of sweeps.
-/
import Derived.Test.YticbfcngepfecaaPSeq12
import Derived.Test.YticbfcngepfecaaQLaw
namespace Go.Qd
open Go Go.Proofs
abbrev ActS : Type := Int × (Nat × Int) × (Nat × Int) × List (Nat × Int) × List (Nat × Int)
abbrev actS : Ty ActS := Ty.pair Ty.i64 (Ty.pair idT (Ty.pair idT (Ty.pair (Ty.sl idT) (Ty.rec1 (Ty.sl idT)))))
set_option synthInstance.maxSize 1000 in
set_option synthInstance.maxHeartbeats 200000 in
instance reads_actS {N M : Nat} : ReadsN N M Try.prog 100 actS := inferInstanceAs (ReadsN N M Try.prog 100 (Ty.pair Ty.i64 (Ty.pair idT (Ty.pair idT (Ty.pair (Ty.sl idT) (Ty.rec1 (Ty.sl idT)))))))
end Go.Qd
