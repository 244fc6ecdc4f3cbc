/-
  The writer's and the reader's calls, for the walk by instances.
-/
import Derived.Test.YthkeakecckiokaaGreatPTake
import Derived.Test.YthkeakecckiokaaGreatQApp
namespace Go.Qd
open Go Go.Proofs
section
variable {n : Nat} {Q : Exit → Act → World → Prop} {B : Base} {env : Env} {G : List Pers} {S S' S1 S2 : List Res} {L rest : List Oper}
variable {d b : Nat} {v : Value} {l : List UInt8} {bad : Bool}
abbrev wrB (b : Nat) (v : Value) : Res := box b 87 [v]
abbrev wrO (v : Value) (l : List UInt8) : Res := own 5 1 v l.length (u8s l)
instance done_v [hm : SelBox b S 87 [v] S'] [hr : RdSl v G Ty.u8 l] : V (CallV Tryz.prog n L Q rest B env G S (some d) 31 [.pointer (some ⟨b, 0, none⟩)]) (Side (l.length ≤ 10000000) (∀ u, WL Tryz.prog n L Q rest B ((d, u) :: env) (rd (Ty.sl Ty.u8) l u :: G) (wrB b v :: S'))) := ⟨fun h => by
  refine .by (wdone_fun b v l h.c) (fun g hg => by simp only [List.mem_singleton] at hg; subst hg; exact hr.h) (.cons hm.h .nil) ?_
  rintro _ _ _ ⟨rfl, rfl⟩
  exact h.p _⟩
instance wnum_v {m : Nat} [hm : SelBox b S 87 [v] S1] [ho : SelOwn v S1 5 1 l.length (u8s l) S2] : V (CallV Tryz.prog n L Q rest B env G S (some d) 27 [.pointer (some ⟨b, 0, none⟩), .int .u64 (m : Int)]) (Side (m < 18446744073709551616 ∧ l.length ≤ 1000000) (∀ v', WL Tryz.prog n L Q rest B ((d, (.pointer (some ⟨b, 0, none⟩))) :: env) G (wrB b v' :: wrO v' (l ++ numB m) :: S2))) := ⟨fun h => by
  refine .by (wnum_fun b v l m h.c.1 h.c.2) GSub.nil (.cons hm.h (.cons ho.h .nil)) ?_
  rintro _ _ _ ⟨rfl, rfl, v', rfl⟩
  exact h.p v'⟩
instance wnum_v0 {m : Nat} [hm : SelBox b S 87 [v] S1] [ho : SelOwn v S1 5 1 l.length (u8s l) S2] : V (CallV Tryz.prog n L Q rest B env G S none 27 [.pointer (some ⟨b, 0, none⟩), .int .u64 (m : Int)]) (Side (m < 18446744073709551616 ∧ l.length ≤ 1000000) (∀ v', WL Tryz.prog n L Q rest B env G (wrB b v' :: wrO v' (l ++ numB m) :: S2))) := ⟨fun h => by
  refine .by (wnum_fun b v l m h.c.1 h.c.2) GSub.nil (.cons hm.h (.cons ho.h .nil)) ?_
  rintro _ _ _ ⟨rfl, rfl, v', rfl⟩
  exact h.p v'⟩
instance read_v [hr : RdSl v G Ty.u8 l] : V (CallV Tryz.prog n L Q rest B env G S (some d) 11 [v]) (∀ b, WL Tryz.prog n L Q rest B ((d, .pointer (some ⟨b, 0, none⟩)) :: env) G (rdrBox b v false :: S)) := ⟨fun h => by
  refine .by (read_fun v l) (fun g hg => by simp only [List.mem_singleton] at hg; subst hg; exact hr.h) .nil ?_
  rintro _ _ _ ⟨rfl, b, rfl, rfl⟩
  exact h b⟩
instance rdnum_v [hm : SelBox b S 95 [v, .bool bad] S'] [hr : RdSl v G Ty.u8 l] : V (CallV Tryz.prog n L Q rest B env G S (some d) 32 [.pointer (some ⟨b, 0, none⟩)]) (∀ v', WL Tryz.prog n L Q rest B ((d, .int .u64 ((numR l bad).1 : Int)) :: env) (rd (Ty.sl Ty.u8) (numR l bad).2.1 v' :: G) (rdrBox b v' (numR l bad).2.2 :: S')) := ⟨fun h => by
  refine .by (rdnum_fun b v l bad) (fun g hg => by simp only [List.mem_singleton] at hg; subst hg; exact hr.h) (.cons hm.h .nil) ?_
  rintro _ _ _ ⟨rfl, v', rfl, rfl⟩
  exact h v'⟩
instance rdint_v {most : Int} [hm : SelBox b S 95 [v, .bool bad] S'] [hr : RdSl v G Ty.u8 l] : V (CallV Tryz.prog n L Q rest B env G S (some d) 12 [.pointer (some ⟨b, 0, none⟩), .int .i64 most]) (Side (most ≤ 9223372036854775807) (∀ v', WL Tryz.prog n L Q rest B ((d, .int .i64 ((intR most l bad).1 : Int)) :: env) (rd (Ty.sl Ty.u8) (intR most l bad).2.1 v' :: G) (rdrBox b v' (intR most l bad).2.2 :: S'))) := ⟨fun h => by
  refine .by (int_fun b v l bad most h.c) (fun g hg => by simp only [List.mem_singleton] at hg; subst hg; exact hr.h) (.cons hm.h .nil) ?_
  rintro _ _ _ ⟨rfl, v', rfl, rfl⟩
  exact h.p v'⟩
instance fine_v [hm : SelBox b S 95 [v, .bool bad] S'] : V (CallV Tryz.prog n L Q rest B env G S (some d) 34 [.pointer (some ⟨b, 0, none⟩)]) (WL Tryz.prog n L Q rest B ((d, .bool (!bad)) :: env) G (rdrBox b v bad :: S')) := ⟨fun h => by
  refine .by (fine_fun b v bad) GSub.nil (.cons hm.h .nil) ?_
  rintro _ _ _ ⟨rfl, rfl, rfl⟩
  exact h⟩
instance end_v [hm : SelBox b S 95 [v, .bool bad] S'] [hr : RdSl v G Ty.u8 l] : V (CallV Tryz.prog n L Q rest B env G S (some d) 15 [.pointer (some ⟨b, 0, none⟩)]) (WL Tryz.prog n L Q rest B ((d, .bool (!bad && l.isEmpty)) :: env) G (rdrBox b v bad :: S')) := ⟨fun h => by
  refine .by (end_fun b v l bad) (fun g hg => by simp only [List.mem_singleton] at hg; subst hg; exact hr.h) (.cons hm.h .nil) ?_
  rintro _ _ _ ⟨rfl, rfl, rfl⟩
  exact h⟩
instance rnum_v {m : Nat} : V (CallV Tryz.prog n L Q rest B env G S (some d) 42 [.int .u64 (m : Int)]) (Side (m < 18446744073709551616) (∀ u, WL Tryz.prog n L Q rest B ((d, u) :: env) G (wrO u (numB m) :: S))) := ⟨fun h => by
  refine .by (rnum_fun m h.c) GSub.nil .nil ?_
  rintro _ _ _ ⟨rfl, rfl⟩
  exact h.p _⟩
end
instance rtake_pure {G : List Pers} {v : Value} {l : List UInt8} [i : RdSl v G Ty.u8 l] : PureF Tryz.prog 18 [v] G True (.tuple #[.int .u64 (takeR l).1, .int .i64 (takeR l).2]) := ⟨fun _ => ⟨[rd (Ty.sl Ty.u8) l v], by simpa using i.h, (rtake_fun l v).imp fun _ _ _ h => ⟨h.2.2, h.2.1, h.1⟩⟩⟩
end Go.Qd
