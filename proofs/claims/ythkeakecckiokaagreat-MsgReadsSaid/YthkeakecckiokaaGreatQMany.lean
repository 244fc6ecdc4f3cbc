import Derived.Test.YthkeakecckiokaaGreatQCopy
namespace Go.Qd
open Go
/-! ### Many owned pieces at once: one for each thing of a list -/
def many {α : Type} (f : α → Value → Res) (l : List α) (vs : List Value) : Res := fun h => l.length = vs.length ∧ Star (List.zipWith f l vs) h
theorem Star.app {s t : List Res} : ∀ {h : Hp}, Star (s ++ t) h ↔ ∃ h1 h2, Hp.disj h1 h2 ∧ h = Hp.union h1 h2 ∧ Star s h1 ∧ Star t h2 := by
  induction s with
  | nil =>
    intro h
    constructor
    · intro H
      exact ⟨Hp.none, h, fun b => .inl rfl, (Hp.union_none_left h).symm, fun _ => rfl, H⟩
    · rintro ⟨h1, h2, d, rfl, e, H⟩
      have : h1 = Hp.none := funext e
      rw [this, Hp.union_none_left]; exact H
  | cons r s ih =>
    intro h
    constructor
    · rintro ⟨h1, k, d, rfl, hr, H⟩
      obtain ⟨h2, h3, d2, rfl, H2, H3⟩ := ih.1 H
      rw [Hp.disj_union] at d
      refine ⟨Hp.union h1 h2, h3, Hp.disj_comm (Hp.disj_union.2 ⟨Hp.disj_comm d.2, Hp.disj_comm d2⟩), (Hp.union_assoc _ _ _).symm, ⟨h1, h2, d.1, rfl, hr, H2⟩, H3⟩
    · rintro ⟨k, h3, d, rfl, ⟨h1, h2, d1, rfl, hr, H2⟩, H3⟩
      have d' := Hp.disj_union.1 (Hp.disj_comm d)
      refine ⟨h1, Hp.union h2 h3, Hp.disj_union.2 ⟨d1, Hp.disj_comm d'.1⟩, Hp.union_assoc _ _ _, hr, ih.2 ⟨h2, h3, Hp.disj_comm d'.2, rfl, H2, H3⟩⟩
section
variable {B w : World} {G : List Pers} {S S' : List Res} {α : Type} {f : α → Value → Res} {l : List α} {vs : List Value}
theorem Sat.res {T : List Res} (h : Sat B G S w) (g : ∀ k, Star S k → Star T k) : Sat B G T w := by
  obtain ⟨m, k, d, hm, hk, hg, hs⟩ := h.heap
  exact ⟨h.os, h.tape, h.output, h.size, m, k, d, hm, hk, hg, g k hs⟩
end
section
variable {B w : World} {G : List Pers} {S : List Res} {α : Type} {l : List (List α)} {vs : List Value}
end
section
variable {P : Program} {n : Nat} {Q : Exit → Act → World → Prop} {B : Base} {env : Env} {G : List Pers} {S S' : List Res} {L rest : List Oper} {α : Type} {c : Code} {dst : Option Nat}
theorem CallV.ex {f : FuncId} {vs : List Value} {p : Prop} (hp : ∀ w, Sat B G S w → p) (h : p → CallV P n L Q rest B env G S dst f vs) : CallV P n L Q rest B env G S dst f vs := ⟨fun ty pos af op h1 h2 => WL.ex hp (fun e => (h e).go ty pos af op h1 h2)⟩
end
end Go.Qd
