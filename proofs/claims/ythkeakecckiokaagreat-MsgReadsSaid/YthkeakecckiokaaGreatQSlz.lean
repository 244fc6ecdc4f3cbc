import Derived.Test.YthkeakecckiokaaGreatQLate
namespace Go.Qd
open Go
/-! ### Slices that lie open, of parts of any size -/
section
variable {P : Program} {n : Nat} {Q : Exit → Act → World → Prop} {B : Base} {env : Env} {G : List Pers} {S S' : List Res} {L rest : List Oper} {K : Act → World → Prop}
variable {d sz m b c k s : Nat} {i : Int} {kd : IntKind} {ty : TypeId} {pos : String} {af : Array Edge} {x y z : Operand} {T T' E E' : TypeId} {u v v' : Value} {xs sp : List Value}
theorem WL.idxBoxS (hx : env.ev x = some (.slice (some ⟨b, 0, none⟩) m c)) (hy : env.ev y = some (.int kd i)) [hT : TU P T (.slice E)] [hs : TS P E s] (hi : 0 ≤ i ∧ i < m) (hd : Nat.blt d n = true)
    (h : WL P n L Q rest B ((d, .pointer (some ⟨b, i.toNat * s, none⟩)) :: env) G S) : WL P n L Q (⟨some d, .indexAddr T x y, ty, pos, af, none⟩ :: rest) B env G S := by
  refine .val rfl rfl hd (fun a w sa _ => ?_) h
  have hT' : P.underlying T = some (.slice (P.elem T)) := by simp [Program.elem, hT.h]
  have hel : P.elem T = E := by simp [Program.elem, hT.h]
  have := run_indexAt_slice w T ⟨b, 0, none⟩ m c kd i hT'
  rw [if_pos (by omega), hel, run_sizeOf_of w hs.h] at this
  simp [execOp, sa.ev hx, sa.ev hy, this, Addr.add_none]
instance (priority := 900) [hT : TU P T (.slice E)] [hs : TS P E s] : V (AdrV P n L Q rest B env G S d T (.slice (some ⟨b, 0, none⟩) m c) (.int kd i)) (Side (0 ≤ i ∧ i < m) (WL P n L Q rest B ((d, .pointer (some ⟨b, i.toNat * s, none⟩)) :: env) G S)) := ⟨fun h => ⟨fun _ _ _ _ _ e1 e2 e3 => .idxBoxS e1 e2 h.c e3 h.p⟩⟩
instance (priority := 950) [hT : TU P T (.slice E)] [hs : TS P E s] : V (AdrV P n L Q rest B env G S d T (.slice (some ⟨b, 0, none⟩) m c) (.int kd ((k : Nat) : Int))) (Side (k < m) (WL P n L Q rest B ((d, .pointer (some ⟨b, k * s, none⟩)) :: env) G S)) := ⟨fun h => ⟨fun _ _ _ _ _ e1 e2 e3 => .idxBoxS e1 e2 ⟨by omega, by have := h.c; omega⟩ e3 (by simpa using h.p)⟩⟩
instance (priority := 1600) [hT : TU P T (.slice E)] [hs : TS P E s] : V (AdrV P n L Q rest B env G S d T (.slice (some ⟨b, 0, none⟩) m c) (.int kd 0)) (Side (0 < m) (WL P n L Q rest B ((d, .pointer (some ⟨b, 0, none⟩)) :: env) G S)) := ⟨fun h => ⟨fun _ _ _ _ _ e1 e2 e3 => .idxBoxS e1 e2 ⟨by omega, by have := h.c; omega⟩ e3 (by simpa using h.p)⟩⟩
theorem WL.idxBoxO {o : Nat} (hx : env.ev x = some (.slice (some ⟨b, o, none⟩) m c)) (hy : env.ev y = some (.int kd ((k : Nat) : Int))) [hT : TU P T (.slice E)] [hs : TS P E s] (hi : k < m) (hd : Nat.blt d n = true)
    (h : WL P n L Q rest B ((d, .pointer (some ⟨b, o + k * s, none⟩)) :: env) G S) : WL P n L Q (⟨some d, .indexAddr T x y, ty, pos, af, none⟩ :: rest) B env G S := by
  refine .val rfl rfl hd (fun a w sa _ => ?_) h
  have hT' : P.underlying T = some (.slice (P.elem T)) := by simp [Program.elem, hT.h]
  have hel : P.elem T = E := by simp [Program.elem, hT.h]
  have := run_indexAt_slice w T ⟨b, o, none⟩ m c kd (k : Int) hT'
  rw [if_pos (by omega), hel, run_sizeOf_of w hs.h] at this
  simp [execOp, sa.ev hx, sa.ev hy, this, Addr.add_none]
instance (priority := 800) {o : Nat} [hT : TU P T (.slice E)] [hs : TS P E 1] : V (AdrV P n L Q rest B env G S d T (.slice (some ⟨b, o, none⟩) m c) (.int kd ((k : Nat) : Int))) (Side (k < m) (WL P n L Q rest B ((d, .pointer (some ⟨b, o + k, none⟩)) :: env) G S)) := ⟨fun h => ⟨fun _ _ _ _ _ e1 e2 e3 => .idxBoxO (s := 1) e1 e2 h.c e3 (by simpa using h.p)⟩⟩
end
end Go.Qd
