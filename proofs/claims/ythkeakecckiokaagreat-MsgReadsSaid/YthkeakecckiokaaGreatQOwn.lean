import Derived.Test.YthkeakecckiokaaGreatQBel
namespace Go.Qd
open Go
theorem getD_some {α : Type} {l : List α} {i : Nat} {d : α} (h : i < l.length) : l[i]? = some (l.getD i d) := by simp [h]
section
variable {P : Program} {n : Nat} {Q : Exit → Act → World → Prop} {B : Base} {env : Env} {G : List Pers} {S S' : List Res} {L rest : List Oper} {K : Act → World → Prop}
variable {d sz m : Nat} {ty : TypeId} {pos : String} {af : Array Edge} {x y z : Operand} {T T' E E' : TypeId} {u v v' : Value} {xs : List Value}
/-- A slice of the call's own, opened: its block lies open. -/
theorem WC.openOwn {c : Code} [hm : SelOwn v S E sz m xs S'] (h0 : v = .slice none 0 0 → m = 0 → WC P n c Q B env G S)
    (h : ∀ b cp cs, v = .slice (some ⟨b, 0, none⟩) m cp → m ≤ cp → cp ≤ maxLen → cs.length = cp * sz → cs.take (m * sz) = xs → WC P n c Q B env G (Qd.box b E cs :: S')) : WC P n c Q B env G S := by
  refine ⟨fun a w sa sw => ?_⟩
  rcases (sw.perm hm.h.perm).own_cases with ⟨_, ⟨h1, h2⟩ | ⟨b, cp, cs, h1, h2, h3, h4, h5, h6⟩⟩
  · exact (h0 h1 h2).go a w sa sw
  · exact (h b cp cs h1 h2 h3 h4 h5).go a w sa h6
theorem WL.openOwn {l : List Oper} [hm : SelOwn v S E sz m xs S'] (h0 : v = .slice none 0 0 → m = 0 → WL P n L Q l B env G S)
    (h : ∀ b cp cs, v = .slice (some ⟨b, 0, none⟩) m cp → m ≤ cp → cp ≤ maxLen → cs.length = cp * sz → cs.take (m * sz) = xs → WL P n L Q l B env G (Qd.box b E cs :: S')) : WL P n L Q l B env G S := by
  refine ⟨fun a w sa sw => ?_⟩
  rcases (sw.perm hm.h.perm).own_cases with ⟨_, ⟨h1, h2⟩ | ⟨b, cp, cs, h1, h2, h3, h4, h5, h6⟩⟩
  · exact (h0 h1 h2).go a w sa sw
  · exact (h b cp cs h1 h2 h3 h4 h5).go a w sa h6
end
end Go.Qd
