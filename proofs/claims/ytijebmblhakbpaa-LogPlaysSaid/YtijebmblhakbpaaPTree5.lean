/-
  Trees copied and measured.
-/
import Derived.Test.YtijebmblhakbpaaPTree3
namespace Go.Qd
/-! ### Trees copied and measured. -/
section
open Go Go.Proofs
mutual
def deepV : Nd → Int
  | .mk _ _ s _ _ ar => deepL (1 + ((s.length / 100 : Nat) : Int)) ar
def deepL : Int → List Nd → Int
  | k, [] => k
  | k, x :: l => if k ≤ 200 then deepL (k + deepV x) l else k
end
end
/-! ### Trees copied. -/
section
open Go Go.Proofs
section
variable {P : Program} {n : Nat} {Q : Exit → Act → World → Prop} {B : Base} {env : Env} {G : List Pers} {S S' : List Res} {L rest : List Oper} {d b o s m r : Nat} {T E : TypeId} {kd : IntKind}
instance (priority := 1700) adr0 [hT : TU P T (.array m E)] [hs : TS P E s] : V (AdrV P n L Q rest B env G S d T (.pointer (some ⟨b, o, none⟩)) (.int kd 0)) (Nat.blt 0 m = true ∧ WL P n L Q rest B ((d, .pointer (some ⟨b, o, none⟩)) :: env) G S) := ⟨fun h => by
  have e : V (AdrV P n L Q rest B env G S d T (.pointer (some ⟨b, o, none⟩)) (.int kd 0)) (Side ((0 : Int) ≤ 0 ∧ (0 : Int) < ((m : Nat) : Int)) (WL P n L Q rest B ((d, .pointer (some ⟨b, o + (0 : Int).toNat * s, none⟩)) :: env) G S)) := inferInstance
  have hm := h.1
  rw [Nat.blt_eq] at hm
  refine e.go ⟨⟨by omega, by omega⟩, ?_⟩
  rw [show o + (0 : Int).toNat * s = o from by simp]; exact h.2⟩
instance (priority := 1700) adr1 [hT : TU P T (.array m E)] [hs : TS P E s] [p : Plus o s r] : V (AdrV P n L Q rest B env G S d T (.pointer (some ⟨b, o, none⟩)) (.int kd 1)) (Nat.blt 1 m = true ∧ WL P n L Q rest B ((d, .pointer (some ⟨b, r, none⟩)) :: env) G S) := ⟨fun h => by
  have e : V (AdrV P n L Q rest B env G S d T (.pointer (some ⟨b, o, none⟩)) (.int kd 1)) (Side ((0 : Int) ≤ 1 ∧ (1 : Int) < ((m : Nat) : Int)) (WL P n L Q rest B ((d, .pointer (some ⟨b, o + (1 : Int).toNat * s, none⟩)) :: env) G S)) := inferInstance
  have hm := h.1
  rw [Nat.blt_eq] at hm
  refine e.go ⟨⟨by omega, by omega⟩, ?_⟩
  rw [show o + (1 : Int).toNat * s = r from by rw [← p.h]; simp]; exact h.2⟩
end
abbrev ndZ : List Value := [.int .i64 0, .int .i64 0, .string .empty, .int .u64 0, .int .i64 0, .int .u64 0, .int .i64 0, .int .u64 0, .int .i64 0, .int .u64 0, .int .i64 0, .slice none 0 0]
theorem flat_snoc (vs : List Value) (v : Value) : flat (vs ++ [v]) = flat vs ++ v.cells.toList := by simp [flat]
end
end Go.Qd
