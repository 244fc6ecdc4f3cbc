/-
  Cells: the law that they agree.
-/
import Derived.Test.YtijebmblhakbpaaPCel9
namespace Go.Qd
open Go Go.Proofs
set_option synthInstance.maxSize 2000 in
set_option synthInstance.maxHeartbeats 400000 in
instance reads_acT {N M : Nat} : ReadsN N M Try.prog 94 acT := inferInstanceAs (ReadsN N M Try.prog 94 (Ty.pair Ty.i64 (Ty.pair idT (Ty.pair idT (Ty.pair idT (Ty.pair Ty.i64 (Ty.pair Ty.str (Ty.pair (Ty.sl idT) (Ty.rec1 (Ty.sl idT))))))))))
theorem what20_any (a : AcI) (v : Value) : Fun Try.prog 33 [v] [rd acT a v] [] (fun z G S => z = cnV (whatK a) (whatN a) a.2.2.2.2.2.1 ∧ G = [] ∧ S = []) := by
  refine ⟨(what20_fun a (.slice none 0 0) (.slice none 0 0)).callable, fun B Gf Sf w sw => ?_⟩
  obtain ⟨u1, u2, rfl⟩ : ∃ u1 u2, v = acV a u1 u2 := by
    obtain ⟨m, k, d, hm, hk, hg, hs⟩ := sw.heap
    obtain ⟨u1, u2, h, _⟩ := ac_rel (hg _ (.head _))
    exact ⟨u1, u2, h⟩
  exact (what20_fun a u1 u2).calls B (rd acT a _ :: Gf) Sf w sw
instance what20_rd {G : List Pers} {a : AcI} {v : Value} [i : Rd v G acT a] : PureF Try.prog 33 [v] G True (cnV (whatK a) (whatN a) a.2.2.2.2.2.1) := ⟨fun _ => ⟨_, fun g hg => by rw [List.mem_singleton] at hg; rw [hg]; exact i.h, what20_any a v⟩⟩
end Go.Qd
