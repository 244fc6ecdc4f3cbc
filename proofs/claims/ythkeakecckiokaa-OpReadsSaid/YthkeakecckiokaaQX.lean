import Derived.Test.YthkeakecckiokaaQPhase
import Derived.Test.YthkeakecckiokaaQU
namespace Go.Qd
open Go
/-- The first part ends in a state of one kind, whatever ways lead there. -/
theorem WC.cutI {P : Program} {n : Nat} {Q : Exit → Act → World → Prop} {B : Base} {env : Env} {G : List Pers} {S : List Res} {a b : Code} {I : Type} (E : I → Env) (GG : I → List Pers) (SS : I → List Res) (inv : I → Prop)
    (h1 : ∀ K : Act → World → Prop, (∀ i, inv i → WK n K B (E i) (GG i) (SS i)) → WC P n a (Exit.then K Q) B env G S) (h2 : ∀ i, inv i → WC P n b Q B (E i) (GG i) (SS i)) : WC P n (.seq a b) Q B env G S :=
  .seq fun K hK => h1 K (fun i hi => hK _ _ _ (h2 i hi))
def pick2 {α : Type} : Nat → α → α → α
  | 0, a, _ => a
  | _ + 1, _, b => b
end Go.Qd
