/-
  Lines in an order: the document's Delete, Sweep.
-/
import Derived.Test.YticbfcngepfecaaPSeq3
namespace Go.Qd
open Go Go.Proofs
instance (priority := 10) plusAny {o k : Nat} : Plus o k (o + k) := ⟨rfl⟩
theorem AdrV.openOwn {P : Program} {n : Nat} {Q : Exit → Act → World → Prop} {B : Base} {env : Env} {G : List Pers} {S S' : List Res} {L rest : List Oper} {d : Nat} {T : TypeId} {u u' v : Value} {E sz m : Nat} {xs : List Value} [hm : SelOwn v S E sz m xs S'] (h0 : v = .slice none 0 0 → m = 0 → AdrV P n L Q rest B env G S d T u u')
    (h : ∀ b cp cs, v = .slice (some ⟨b, 0, none⟩) m cp → m ≤ cp → cp ≤ maxLen → cs.length = cp * sz → cs.take (m * sz) = xs → AdrV P n L Q rest B env G (Qd.box b E cs :: S') d T u u') : AdrV P n L Q rest B env G S d T u u' :=
  ⟨fun x y ty pos af h1 h2 h3 => WL.openOwn (v := v) (fun e m0 => (h0 e m0).go x y ty pos af h1 h2 h3) (fun b cp cs e hmc hcp hcl hct => (h b cp cs e hmc hcp hcl hct).go x y ty pos af h1 h2 h3)⟩
theorem lnC_len : ∀ l : List Ln, (lnC l).length = l.length * 3
  | [] => rfl
  | x :: l => by
    have := lnC_len l
    unfold lnC flat at this ⊢
    rw [List.map_cons, List.flatMap_cons, List.length_append, this]
    show 3 + l.length * 3 = (l.length + 1) * 3
    omega
theorem lnC_cons (x : Ln) (l : List Ln) : lnC (x :: l) = .int .u64 (x.t : Int) :: .int .i64 x.r :: .bool x.d :: lnC l := rfl
end Go.Qd
