/-
  What replicas know of each other: what the program's functions compute.
-/
import Derived.Test.YtijebmblhakbpaaPClockR
import Derived.Test.YtijebmblhakbpaaQSlz
namespace Go.Qd
open Go Go.Proofs
theorem allGet {α : Type} {R : Ty α} {B w : World} {G : List Pers} {S : List Res} {l : List α} {vs : List Value} {i : Nat} {a : α} (h : Sat B G S w) (hi : rdAll R l vs ∈ G) (ha : l[i]? = some a) : ∃ v, vs[i]? = some v ∧ Sat B (rd R a v :: G) S w := by
  have : ∃ v, vs[i]? = some v := by
    have hlen : vs.length = l.length := h.pure fun m hm => (hm _ hi : AllR R l vs m).length
    have := (List.getElem?_eq_some_iff.1 ha).1
    exact ⟨_, List.getElem?_eq_getElem (by omega)⟩
  obtain ⟨v, hv⟩ := this
  refine ⟨v, hv, h.more fun m hm => ?_⟩
  obtain ⟨v', hv', hr⟩ := (hm _ hi : AllR R l vs m).get ha
  rw [hv] at hv'; cases hv'; exact hr
theorem WC.allGet {P : Program} {n : Nat} {Q : Exit → Act → World → Prop} {B : Base} {env : Env} {G : List Pers} {S : List Res} {c : Code} {α : Type} {R : Ty α} {l : List α} {vs : List Value} {i : Nat} {a : α} (hi : rdAll R l vs ∈ G) (ha : l[i]? = some a) (h : ∀ v, vs[i]? = some v → WC P n c Q B env (rd R a v :: G) S) : WC P n c Q B env G S :=
  ⟨fun ac w sa sw => by
    obtain ⟨v, hv, hs⟩ := Qd.allGet sw hi ha
    exact (h v hv).go ac w sa hs⟩
theorem Sat.slOne {B w : World} {G : List Pers} {S : List Res} {α : Type} {R : Ty α} {l : List α} {v : Value} (h : Sat B G S w) (hm : Qd.rd (Ty.sl R) l v ∈ G) : v.cells.toList = [v] := by
  obtain ⟨p, c, rfl, _⟩ := h.sl_shape hm
  rfl
end Go.Qd
