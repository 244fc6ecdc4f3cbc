/-
  The writer's and the reader's calls, for the walk by instances.
-/
import Derived.Test.YtkbddmjnjgaalaaPTake
import Derived.Test.YtkbddmjnjgaalaaQApp
namespace Go.Qd
open Go Go.Proofs
section
variable {n : Nat} {Q : Exit → Act → World → Prop} {B : Base} {env : Env} {G : List Pers} {S S' S1 S2 : List Res} {L rest : List Oper}
variable {d b : Nat} {v : Value} {l : List UInt8} {bad : Bool}
abbrev wrB (b : Nat) (v : Value) : Res := box b 76 [v]
abbrev wrO (v : Value) (l : List UInt8) : Res := own 5 1 v l.length (u8s l)
instance done_v [hm : SelBox b S 76 [v] S'] [hr : RdSl v G Ty.u8 l] : V (CallV Try.prog n L Q rest B env G S (some d) 27 [.pointer (some ⟨b, 0, none⟩)]) (Side (l.length ≤ 10000000) (∀ u, WL Try.prog n L Q rest B ((d, u) :: env) (rd (Ty.sl Ty.u8) l u :: G) (wrB b v :: S'))) := ⟨fun h => by
  refine .by (wdone_fun b v l h.c) (fun g hg => by simp only [List.mem_singleton] at hg; subst hg; exact hr.h) (.cons hm.h .nil) ?_
  rintro _ _ _ ⟨rfl, rfl⟩
  exact h.p _⟩
instance wnum_v {m : Nat} [hm : SelBox b S 76 [v] S1] [ho : SelOwn v S1 5 1 l.length (u8s l) S2] : V (CallV Try.prog n L Q rest B env G S (some d) 23 [.pointer (some ⟨b, 0, none⟩), .int .u64 (m : Int)]) (Side (m < 18446744073709551616 ∧ l.length ≤ 1000000) (∀ v', WL Try.prog n L Q rest B ((d, (.pointer (some ⟨b, 0, none⟩))) :: env) G (wrB b v' :: wrO v' (l ++ numB m) :: S2))) := ⟨fun h => by
  refine .by (wnum_fun b v l m h.c.1 h.c.2) GSub.nil (.cons hm.h (.cons ho.h .nil)) ?_
  rintro _ _ _ ⟨rfl, rfl, v', rfl⟩
  exact h.p v'⟩
instance wnum_v0 {m : Nat} [hm : SelBox b S 76 [v] S1] [ho : SelOwn v S1 5 1 l.length (u8s l) S2] : V (CallV Try.prog n L Q rest B env G S none 23 [.pointer (some ⟨b, 0, none⟩), .int .u64 (m : Int)]) (Side (m < 18446744073709551616 ∧ l.length ≤ 1000000) (∀ v', WL Try.prog n L Q rest B env G (wrB b v' :: wrO v' (l ++ numB m) :: S2))) := ⟨fun h => by
  refine .by (wnum_fun b v l m h.c.1 h.c.2) GSub.nil (.cons hm.h (.cons ho.h .nil)) ?_
  rintro _ _ _ ⟨rfl, rfl, v', rfl⟩
  exact h.p v'⟩
end
end Go.Qd
