import Derived.Test.YthkeakecckiokaaGreatQMany
import Derived.Lib.AppendZerosOnto
import Derived.Lib.Overlaps
namespace Go.Qd
open Go
/-! ### Copies between open blocks, at elements of any size; append of zeros; slices.overlaps -/
section
variable {P : Program} {n : Nat} {Q : Exit → Act → World → Prop} {B : Base} {env : Env} {G : List Pers} {S S' S2 : List Res} {L rest : List Oper}
variable {d b m c k s o b2 o2 k2 c2 : Nat} {ty : TypeId} {pos : String} {af : Array Edge} {x y : Operand} {T T' E E' E2 : TypeId} {u v : Value} {cs cs2 zs : List Value}
end
/-! The walk's own: cap, slices at sums, appends whose two types differ -/
class NatI (z : Int) (k : outParam Nat) : Prop where
  h : z = (k : Int)
instance {k : Nat} : NatI ((k : Nat) : Int) k := ⟨rfl⟩
instance {a b : Int} {i j : Nat} [h1 : NatI a i] [h2 : NatI b j] : NatI (a + b) (i + j) := ⟨by rw [h1.h, h2.h]; rfl⟩
instance : NatI 1 1 := ⟨rfl⟩
section
variable {P : Program} {n : Nat} {Q : Exit → Act → World → Prop} {B : Base} {env : Env} {G : List Pers} {S S' S2 : List Res} {L rest : List Oper}
variable {d b m c s : Nat} {ty : TypeId} {pos : String} {af : Array Edge} {x y : Operand} {T T' E E' : TypeId} {u v : Value}
instance (priority := 300) {kl : IntKind} {z : Int} {i : Nat} [hz : NatI z i] [hT : TU P T (.slice E)] [hs : TS P E s] : V (SliceV P n L Q rest B env G S d T (.slice (some ⟨b, 0, none⟩) m c) (some (.int kl z)) none none) (Side (i ≤ m) (WL P n L Q rest B ((d, .slice (some (adr b i c s)) (m - i) (c - i)) :: env) G S)) := ⟨fun h => by rw [hz.h]; exact .opnLow i h.c h.p⟩
instance (priority := 300) {kl : IntKind} {z : Int} {i : Nat} [hz : NatI z i] [hT : TU P T (.slice E)] [hs : TS P E s] : V (SliceV P n L Q rest B env G S d T (.slice (some ⟨b, 0, none⟩) m c) none (some (.int kl z)) none) (Side (i ≤ c) (WL P n L Q rest B ((d, .slice (some ⟨b, 0, none⟩) i c) :: env) G S)) := ⟨fun h => by rw [hz.h]; exact .opnH i h.c h.p⟩
instance (priority := 400) {kl : IntKind} {i : Int} [hT : TU P T (.slice E)] [hs : TS P E s] : V (SliceV P n L Q rest B env G S d T (.slice none 0 0) (some (.int kl i)) none none) (Side (i = 0) (WL P n L Q rest B ((d, .slice none 0 0) :: env) G S)) := ⟨fun h => by
  obtain ⟨rfl, h⟩ := h
  have hT' : P.underlying T = some (.slice (P.elem T)) := by simp [Program.elem, hT.h]
  have hel : P.elem T = E := by simp [Program.elem, hT.h]
  refine ⟨fun w sw => ⟨_, ?_, G, sw, h⟩⟩
  have := run_slice_l (P := P) w T none 0 0 hT' kl 0 (by omega) (by omega)
  rw [run_sliceAt_slice w T _ _ _ _ hT', this, hel, run_sizeOf_of w hs.h]; simp [Go.sliced]⟩
theorem WL.cap {p : Option Addr} (hx : env.ev x = some (.slice p m c)) [hT : TU P T (.slice E)] (hd : Nat.blt d n = true) (h : WL P n L Q rest B ((d, .int .i64 (c : Int)) :: env) G S) : WL P n L Q (⟨some d, .call ⟨.builtin .cap, #[x], #[T]⟩, ty, pos, af, none⟩ :: rest) B env G S :=
  .val rfl rfl hd (fun ac w sa _ => by simp [execOp, resolve, invoke, builtin, sa.ev hx, Builtin.cap_, run_underlying hT.h, goInt]) h
instance [hT : TU P T (.slice E)] : V (WL P n L Q (⟨some d, .call ⟨.builtin .cap, #[x], #[T]⟩, ty, pos, af, none⟩ :: rest) B env G S) (∃ m c p, env.ev x = some (.slice p m c) ∧ Nat.blt d n = true ∧ WL P n L Q rest B ((d, .int .i64 ((c : Nat) : Int)) :: env) G S) := ⟨fun ⟨_, _, _, h1, h2, h3⟩ => .cap h1 h2 h3⟩
theorem run_append_types {w : World} [hT : TU P T (.slice E)] [hT' : TU P T' (.slice E')] : (Builtin.append_ #[T, T'] ty #[v, u]).run P w = (Builtin.append_ #[T, T] ty #[v, u]).run P w := by
  cases v <;> simp [Builtin.append_, run_underlying hT.h, run_underlying hT'.h]
theorem WL.append2 (hx : env.ev x = some v) (hy : env.ev y = some u) (hd : Nat.blt d n = true) [hT : TU P T (.slice E)] [hT' : TU P T' (.slice E')] (h : AppV P n L Q rest B env G S d T v u) :
    WL P n L Q (⟨some d, .call ⟨.builtin .append, #[x, y], #[T, T']⟩, ty, pos, af, none⟩ :: rest) B env G S := by
  refine ⟨fun a w sa sw => wpList_plain rfl fun K hK => ?_⟩
  obtain ⟨v', w', hr, hh⟩ := h.go ty a w sa sw
  unfold Oper.wp
  have r1 : (execOp a.eval ⟨some d, .call ⟨.builtin .append, #[x, y], #[T, T']⟩, ty, pos, af, none⟩).run P w = .ok (.value v') w' := by
    simp [execOp, resolve, invoke, builtin, sa.ev hx, sa.ev hy, run_append_types, hr]
  rw [r1, Oper.upon_value]
  exact hK _ _ (hh _ (sa.put hd v'))
instance (priority := 100) [hT : TU P T (.slice E)] [hT' : TU P T' (.slice E')] : V (WL P n L Q (⟨some d, .call ⟨.builtin .append, #[x, y], #[T, T']⟩, ty, pos, af, none⟩ :: rest) B env G S) (∃ v, env.ev x = some v ∧ ∃ u, env.ev y = some u ∧ Nat.blt d n = true ∧ AppV P n L Q rest B env G S d T v u) := ⟨fun ⟨_, h1, _, h2, h3, h4⟩ => .append2 h1 h2 h3 h4⟩
theorem AppV.sat (hs : ∀ w, Sat B G S w → Sat B G S' w) (h : AppV P n L Q rest B env G S' d T v u) : AppV P n L Q rest B env G S d T v u := ⟨fun ty a w sa sw => h.go ty a w sa (hs w sw)⟩
end
end Go.Qd
