/-
  Trees copied and measured.
-/
import Derived.Test.YtkbddmjnjgaalaaPTree3
namespace Go.Qd
/-! ### Trees copied and measured. -/
section
open Go Go.Proofs
theorem node_mk {a : Nd} {sv : Value} {m : Hp} (ho : okNd a) (h : (rd (Ty.sl nodeT) a.ar sv).holds m) : (rd nodeT a (ndV a.k a.n a.s a.f a.t sv)).holds m := by
  obtain ⟨k, n, s, ⟨f1, f2⟩, ⟨t1, t2⟩, ar⟩ := a
  obtain ⟨h1, h2, h3, h4, h5, h6, h7⟩ := ho
  obtain ⟨p, c, rfl, _⟩ := slRel.shape h
  have id : ∀ x : Nat × Int, okId x → idT.rel x (idV x.1 x.2) m := fun x hx => ⟨.int .u64 x.1, .agg #[.int .i64 x.2], rfl, ⟨rfl, hx.1⟩, .int .i64 x.2, rfl, rfl, hx.2⟩
  refine node_rel.2 ⟨.int .i64 k, _, ?_, ⟨rfl, h1⟩, .int .i64 n, _, rfl, ⟨rfl, h2⟩, .string (bs s), _, rfl, ⟨rfl, h3⟩, .agg ((idV f1.1 f1.2).cells ++ (Value.agg (idV f2.1 f2.2).cells).cells), _, rfl, ⟨_, _, rfl, id _ h4, _, rfl, id _ h5⟩,
    .agg ((idV t1.1 t1.2).cells ++ (Value.agg (idV t2.1 t2.2).cells).cells), _, rfl, ⟨_, _, rfl, id _ h6, _, rfl, id _ h7⟩, _, rfl, h⟩
  simp [Value.cells, idV, Nd.k, Nd.n, Nd.s, Nd.f, Nd.t]
theorem Fun.node1 {f : FuncId} {a : Nd} {R : Value → List Pers → List Res → Prop} (hF : ∀ u : Value, Fun Try.prog f [ndV a.k a.n a.s a.f a.t u] [rd (Ty.sl nodeT) a.ar u] [] R) (va : Value) : Fun Try.prog f [va] [rd nodeT a va] [] R :=
  Fun.look (ι := Value) (fun i => [ndV a.k a.n a.s a.f a.t i]) (fun i => [rd (Ty.sl nodeT) a.ar i]) undef (fun m hm => by
    obtain ⟨u, rfl, h1, _⟩ := node_shape (hm _ (.head _))
    exact ⟨u, rfl, fun g hg => by
      rcases List.mem_cons.1 hg with rfl | hg
      · exact h1
      · cases hg⟩) (fun i => hF i)
mutual
def deepV : Nd → Int
  | .mk _ _ s _ _ ar => deepL (1 + ((s.length / 100 : Nat) : Int)) ar
def deepL : Int → List Nd → Int
  | k, [] => k
  | k, x :: l => if k ≤ 200 then deepL (k + deepV x) l else k
end
theorem deepL_bound {B : Int} (hB : 1 ≤ B) : ∀ (l : List Nd) (k : Int), 1 ≤ k → (∀ x ∈ l, 1 ≤ deepV x ∧ deepV x ≤ B) → 1 ≤ deepL k l ∧ deepL k l ≤ max k (200 + B)
  | [], k, hk, _ => by rw [deepL]; omega
  | x :: l, k, hk, h => by
    rw [deepL]
    have h1 := h x (.head _)
    split
    · have := deepL_bound hB l (k + deepV x) (by omega) (fun y hy => h y (.tail _ hy))
      omega
    · omega
theorem deep_bound {M : Nat} : ∀ (d : Nat) (a : Nd), smN M d a → 1 ≤ deepV a ∧ deepV a ≤ 92233720368547760 + 201 * d
  | 0, _, h => h.elim
  | d + 1, .mk k n s f t ar, h => by
    rw [deepV]
    have hs : s.length ≤ maxLen := h.1.2.2.1
    simp only [maxLen] at hs
    have := deepL_bound (B := 92233720368547760 + 201 * d) (by omega) ar (1 + ((s.length / 100 : Nat) : Int)) (by omega) (fun x hx => deep_bound d x (h.2.2 x hx))
    omega
theorem deepL_stop (k : Int) (h : ¬ k ≤ 200) : ∀ l, deepL k l = k
  | [] => by rw [deepL]
  | _ :: _ => by rw [deepL, if_neg h]
theorem deepL_get {l : List Nd} {i : Nat} {x : Nd} (h : l[i]? = some x) {k : Int} (hk : k ≤ 200) : deepL k (l.drop i) = deepL (k + deepV x) (l.drop (i + 1)) := by
  obtain ⟨h1, rfl⟩ := List.getElem?_eq_some_iff.1 h
  rw [List.drop_eq_getElem_cons h1, deepL, if_pos hk]
end
/-! ### Trees copied. -/
section
open Go Go.Proofs
section
variable {P : Program} {n : Nat} {Q : Exit → Act → World → Prop} {B : Base} {env : Env} {G : List Pers} {S S' : List Res} {L rest : List Oper} {d b o s m r : Nat} {T E : TypeId} {kd : IntKind}
instance (priority := 1700) adr0 [hT : TU P T (.array m E)] [hs : TS P E s] : V (AdrV P n L Q rest B env G S d T (.pointer (some ⟨b, o, none⟩)) (.int kd 0)) (Nat.blt 0 m = true ∧ WL P n L Q rest B ((d, .pointer (some ⟨b, o, none⟩)) :: env) G S) := ⟨fun h => by
  have e : V (AdrV P n L Q rest B env G S d T (.pointer (some ⟨b, o, none⟩)) (.int kd 0)) (Side ((0 : Int) ≤ 0 ∧ (0 : Int) < ((m : Nat) : Int)) (WL P n L Q rest B ((d, .pointer (some ⟨b, o + (0 : Int).toNat * s, none⟩)) :: env) G S)) := inferInstance
  have hm := h.1
  rw [Nat.blt_eq] at hm
  refine e.go ⟨⟨by omega, by omega⟩, ?_⟩
  rw [show o + (0 : Int).toNat * s = o from by simp]; exact h.2⟩
instance (priority := 1700) adr1 [hT : TU P T (.array m E)] [hs : TS P E s] [p : Plus o s r] : V (AdrV P n L Q rest B env G S d T (.pointer (some ⟨b, o, none⟩)) (.int kd 1)) (Nat.blt 1 m = true ∧ WL P n L Q rest B ((d, .pointer (some ⟨b, r, none⟩)) :: env) G S) := ⟨fun h => by
  have e : V (AdrV P n L Q rest B env G S d T (.pointer (some ⟨b, o, none⟩)) (.int kd 1)) (Side ((0 : Int) ≤ 1 ∧ (1 : Int) < ((m : Nat) : Int)) (WL P n L Q rest B ((d, .pointer (some ⟨b, o + (1 : Int).toNat * s, none⟩)) :: env) G S)) := inferInstance
  have hm := h.1
  rw [Nat.blt_eq] at hm
  refine e.go ⟨⟨by omega, by omega⟩, ?_⟩
  rw [show o + (1 : Int).toNat * s = r from by rw [← p.h]; simp]; exact h.2⟩
end
abbrev ndZ : List Value := [.int .i64 0, .int .i64 0, .string .empty, .int .u64 0, .int .i64 0, .int .u64 0, .int .i64 0, .int .u64 0, .int .i64 0, .int .u64 0, .int .i64 0, .slice none 0 0]
theorem AllR.snoc {α : Type} {R : Ty α} {h : Hp} {l : List α} {vs : List Value} {a : α} {v : Value} (x : AllR R l vs h) (y : R.rel a v h) : AllR R (l ++ [a]) (vs ++ [v]) h := x.append ⟨y, trivial⟩
theorem flat_snoc (vs : List Value) (v : Value) : flat (vs ++ [v]) = flat vs ++ v.cells.toList := by simp [flat]
end
end Go.Qd
