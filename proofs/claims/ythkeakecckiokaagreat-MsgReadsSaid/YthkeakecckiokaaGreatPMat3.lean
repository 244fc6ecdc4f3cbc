/-
  What the document's rows (sixty-four numbers each) compute.
-/
import Derived.Test.YthkeakecckiokaaGreatPMat
namespace Go.Qd
/-! ### What the document's rows (sixty-four numbers each) compute. -/
section
open Go Go.Proofs
def fullT : Ty (List Nat) where
  sz := 64
  agg := true
  rel a v _ := v = fV a ∧ a.length = 64 ∧ ∀ x ∈ a, x < 18446744073709551616
  mono _ h := h
  size := by rintro a v h ⟨rfl, h1, _⟩; simpa [agg_cells] using h1
  form := by rintro a v h ⟨rfl, _⟩; exact ⟨_, rfl⟩
  ones := by
    rintro a v h ⟨rfl, _⟩ c hc
    rw [agg_cells] at hc
    simp only [List.mem_map] at hc
    obtain ⟨x, _, rfl⟩ := hc
    rfl
abbrev okF (a : List Nat) : Prop := a.length = 64 ∧ ∀ x ∈ a, x < 18446744073709551616
instance : Ty.Is fullT (fun a => fV a) okF := ⟨fun _ _ _ => Iff.rfl⟩
instance : Ty.Sz fullT 64 := ⟨rfl, by decide⟩
instance : FlG (fun a : List Nat => fV a) := ⟨fun a c hc => by
  rw [agg_cells] at hc
  simp only [List.mem_map] at hc
  obtain ⟨x, _, rfl⟩ := hc
  rfl⟩
instance uOnes {G : List Pers} {S : List Res} {l : List Nat} : OnesC G S (l.map uV) := ⟨fun _ _ _ u hu => by
  obtain ⟨x, _, rfl⟩ := List.mem_map.1 hu
  rfl⟩
section
variable {P : Program} {n : Nat} {Q : Exit → Act → World → Prop} {B : Base} {env : Env} {G : List Pers} {S S' : List Res} {L rest : List Oper}
variable {d : Nat} {ty : TypeId} {pos : String} {af : Array Edge} {x y : Operand} {T E : TypeId} {v : Value}
/-- An element of an array that is known for good. -/
theorem WL.idxF {i : Int} {kd : IntKind} {a : List Nat} {c : Nat} (hx : env.ev x = some v) (hy : env.ev y = some (.int kd i)) [hp : PC v G fullT a] [hT : TU P T (.array 64 E)] [hs : TS P E 1] (hi : 0 ≤ i) (ha : a[i.toNat]? = some c) (hd : Nat.blt d n = true)
    (h : ∀ p, WL P n L Q rest B ((d, p) :: env) (pcell Ty.u64 c p :: G) S) : WL P n L Q (⟨some d, .indexAddr T x y, ty, pos, af, none⟩ :: rest) B env G S := by
  refine ⟨fun ac w sa sw => ?_⟩
  obtain ⟨m, k', dj, hm', hk, hg, hs1⟩ := sw.heap
  obtain ⟨bb, o, cs, E', fr, u, rfl, hb, hr, hc⟩ := hg _ hp.h
  obtain ⟨rfl, hl, ho⟩ := hr
  have hil : i.toNat < a.length := (List.getElem?_eq_some_iff.1 ha).1
  refine wpList_plain rfl fun K hK => ?_
  unfold Oper.wp
  have r1 : (execOp ac.eval ⟨some d, .indexAddr T x y, ty, pos, af, none⟩).run P w = .ok (.value (.pointer (some ⟨bb, o + i.toNat, none⟩))) w := by
    have hT' : P.underlying T = some (.array (P.arrayLen T) (P.elem T)) := by simp [Program.elem, Program.arrayLen, hT.h]
    have he : P.elem T = E := by simp [Program.elem, hT.h]
    have hln : P.arrayLen T = 64 := by simp [Program.arrayLen, hT.h]
    have := run_indexAt_array w T ⟨bb, o, none⟩ kd i hT'
    rw [if_pos (by rw [hln]; exact ⟨hi, by omega⟩), he, run_sizeOf_of w hs.h] at this
    simp [execOp, sa.ev hx, sa.ev hy, this, Addr.add_none]
  rw [r1, Oper.upon_value]
  refine hK _ _ ((h _).go _ _ (sa.put hd _) ⟨sw.os, sw.tape, sw.output, sw.size, m, k', dj, hm', hk, fun g hgg => ?_, hs1⟩)
  cases hgg with
  | head =>
    refine ⟨bb, o + i.toNat, cs, E', fr, uV c, rfl, hb, ⟨rfl, ho c (List.mem_of_getElem? ha)⟩, fun j z hj => ?_⟩
    have hj0 : j = 0 := by
      have := (List.getElem?_eq_some_iff.1 hj).1
      have e : (uV c).cells.toList.length = 1 := rfl
      omega
    subst hj0
    have e2 : z = uV c := by
      have : (uV c).cells.toList[0]? = some (uV c) := rfl
      rw [this] at hj; exact (Option.some.inj hj).symm
    subst e2
    refine hc i.toNat (uV c) ?_
    rw [agg_cells, List.toList_toArray, List.getElem?_map, ha]
    rfl
  | tail _ hgg => exact hg g hgg
instance {i : Int} {kd : IntKind} {a : List Nat} [hp : PC v G fullT a] [hT : TU P T (.array 64 E)] [hs : TS P E 1] : V (AdrV P n L Q rest B env G S d T v (.int kd i)) (Side (0 ≤ i) (∃ c, a[i.toNat]? = some c ∧ ∀ p, WL P n L Q rest B ((d, p) :: env) (pcell Ty.u64 c p :: G) S)) :=
  ⟨fun ⟨h0, _, h1, h2⟩ => ⟨fun _ _ _ _ _ e1 e2 e3 => .idxF e1 e2 h0 h1 e3 h2⟩⟩
end
theorem lset_succ (c : Value) (cs : List Value) (o : Nat) (vs : List Value) : lset (c :: cs) (o + 1) vs = c :: lset cs o vs := by
  cases vs with
  | nil => rw [lset_nil, lset_nil]
  | cons v vs => rfl
theorem lset_app : ∀ (bs cs : List Value) (o : Nat) (vs : List Value), lset (bs ++ cs) (bs.length + o) vs = bs ++ lset cs o vs
  | [], cs, o, vs => by simp
  | b :: bs, cs, o, vs => by
    rw [List.cons_append, List.length_cons, show bs.length + 1 + o = (bs.length + o) + 1 from by omega, lset_succ, lset_app bs, List.cons_append]
end
/-! ### What replicas know: the plain law, and the law's own small functions. -/
section
open Go Go.Proofs
theorem getD0 {l : List Nat} {i : Nat} (h : l.length ≤ i) : l.getD i 0 = 0 := by
  rw [List.getD_eq_getElem?_getD, List.getElem?_eq_none h]; rfl
section
variable {P : Program} {n : Nat} {Q : Exit → Act → World → Prop} {B : Base} {env : Env} {G : List Pers} {S S' : List Res} {L rest : List Oper}
variable {d : Nat} {ty : TypeId} {pos : String} {af : Array Edge} {x y : Operand} {T E : TypeId} {v : Value}
end
end
end Go.Qd
