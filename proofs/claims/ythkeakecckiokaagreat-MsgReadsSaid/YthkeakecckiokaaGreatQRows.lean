import Derived.Test.YthkeakecckiokaaGreatQIns
import Derived.Test.YthkeakecckiokaaGreatQApp
namespace Go.Qd
open Go
/-! ### Slices of slices appended to -/
section
variable {P : Program} {n : Nat} {Q : Exit → Act → World → Prop} {B : Base} {env : Env} {G : List Pers} {S S' : List Res} {L rest : List Oper}
variable {d : Nat} {T E : TypeId} {u v : Value} {α : Type} {R : Ty α} {l : List α}
theorem AppV.rows {m by_ : Nat} {xs zs : List Value} [hm : RdSl u G R l] [hN : Ty.NonAgg R] [hZ : Ty.Sz R 1] [hS : SelOwn v S E 1 m xs S'] [hT : TU P T (.slice E)] [hsz : TS P E 1] [hz : TZ P E zs] [hby : TB P E by_] (hzl : (Nat.beq zs.length 1 && Nat.ble 1 by_) = true)
    (hfit : (m + l.length) * by_ ≤ 140737488355328)
    (h : ∀ vs v', WL P n L Q rest B ((d, v') :: env) (rdAll R l vs :: G) (Qd.own E 1 v' (m + l.length) (xs ++ vs) :: S')) : AppV P n L Q rest B env G S d T v u := by
  simp only [Bool.and_eq_true, Nat.beq_eq, Nat.ble_eq] at hzl
  have hle : m + l.length ≤ (m + l.length) * by_ := Nat.le_mul_of_pos_right _ hzl.2
  refine ⟨fun ty a w sa sw => ?_⟩
  obtain ⟨mm, k', dj, hw, hk', hg, hs1⟩ := sw.heap
  obtain ⟨p, c, vs, rfl, hlc, hc, hall, hp⟩ := slRel.cells (hg _ hm.h) hw
  have h1 := hall.ones
  have hl := hall.length
  have hf := flat_ones hN.h hall
  rw [hf] at h1 hp
  have hsrc : Src w (.slice p l.length c) l.length vs := by
    rcases hp with ⟨rfl, h2, h0⟩ | ⟨b, o, rfl, hcell⟩
    · subst h2
      cases p with
      | none => rw [h0 rfl]; exact .inl ⟨rfl, rfl, rfl⟩
      | some p => exact .inr ⟨p, c, rfl, fun j x hj => by simp at hj⟩
    · exact .inr ⟨_, c, rfl, fun j x hj => by rw [Addr.add_none]; exact hcell j x hj⟩
  have sw1 : Sat B (rdAll R l vs :: G) S w := ⟨sw.os, sw.tape, sw.output, sw.size, mm, k', dj, hw, hk', fun g hgg => by
    cases hgg with
    | head => exact hall
    | tail _ hgg => exact hg g hgg, hs1⟩
  obtain ⟨v', w', hr, hs⟩ := (sw1.perm hS.h.perm).append (P := P) (T := T) ty hsrc (by rw [hl]; omega) h1 hT.h hsz.h hz.h hzl.1 hby.h hfit (by simp only [maxLen]; omega)
  exact ⟨v', w', hr, fun a' sa' => (h vs v').go a' w' sa' hs⟩
instance (priority := 50) {m by_ : Nat} {xs zs : List Value} [hm : RdSl u G R l] [hN : Ty.NonAgg R] [hZ : Ty.Sz R 1] [hS : SelOwn v S E 1 m xs S'] [hT : TU P T (.slice E)] [hsz : TS P E 1] [hz : TZ P E zs] [hby : TB P E by_] : V (AppV P n L Q rest B env G S d T v u) ((Nat.beq zs.length 1 && Nat.ble 1 by_) = true ∧ Side ((m + l.length) * by_ ≤ 140737488355328)
    (∀ vs v', WL P n L Q rest B ((d, v') :: env) (rdAll R l vs :: G) (Qd.own E 1 v' (m + l.length) (xs ++ vs) :: S'))) := ⟨fun h => .rows h.1 h.2.c h.2.p⟩
end
instance {k : Nat} : NatI (((k + 1 : Nat) : Int) - 1) k := ⟨by omega⟩
section
variable {P : Program} {n : Nat} {Q : Exit → Act → World → Prop} {B : Base} {env : Env} {G : List Pers} {S S' : List Res} {L rest : List Oper}
variable {d s : Nat} {T E : TypeId} {v : Value} {α : Type} {R : Ty α} {l : List α}
instance (priority := 50) {kl : IntKind} {z : Int} {i : Nat} [hm : RdSl v G R l] [hz : NatI z i] [hT : TU P T (.slice E)] [hs : TS P E s] : V (SliceV P n L Q rest B env G S d T v (some (.int kl z)) none none) (Nat.beq s R.sz = true ∧ Side (i ≤ l.length) (∀ u, WL P n L Q rest B ((d, u) :: env) (rd (Ty.sl R) (l.drop i) u :: G) S)) := ⟨fun h => .low h.1 i hz.h h.2.c h.2.p⟩
instance (priority := 50) {kl : IntKind} {z : Int} {i : Nat} [hm : RdSl v G R l] [hz : NatI z i] [hT : TU P T (.slice E)] [hs : TS P E s] : V (SliceV P n L Q rest B env G S d T v none (some (.int kl z)) none) (Nat.beq s R.sz = true ∧ Side (i ≤ l.length) (∀ u, WL P n L Q rest B ((d, u) :: env) (rd (Ty.sl R) (l.take i) u :: G) S)) := ⟨fun h => .high h.1 i hz.h h.2.c h.2.p⟩
end
end Go.Qd
