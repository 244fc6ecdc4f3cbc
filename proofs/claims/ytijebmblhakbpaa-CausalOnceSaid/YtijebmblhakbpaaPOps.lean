/-
  Operations without content: those of the program, and the document's.
-/
import Derived.Test.YtijebmblhakbpaaPHold3
import Derived.Test.YtijebmblhakbpaaPTree7
namespace Go.Qd
open Go Go.Proofs
theorem opsC_app (l m : List OpT) : opsC (l ++ m) = opsC l ++ opsC m := by unfold opsC; rw [List.flatMap_append]
theorem opsC_take : ∀ (l : List OpT) (k : Nat), (opsC l).take (k * 24) = opsC (l.take k)
  | [], k => by simp [opsC]
  | x :: l, 0 => by simp [opsC]
  | x :: l, k + 1 => by
    have := opsC_take l k
    unfold opsC at this ⊢
    rw [List.take_succ_cons, List.flatMap_cons, List.flatMap_cons, Nat.succ_mul, Nat.add_comm, ← this]
    exact List.take_append (l₁ := x.C) (i := 24 + k * 24) |>.trans (by rw [List.take_of_length_le (show x.C.length ≤ 24 + k * 24 from by show 24 ≤ _; omega)]; congr 2; show 24 + k * 24 - 24 = _; omega)
theorem opsC_drop : ∀ (l : List OpT) (k : Nat), (opsC l).drop (k * 24) = opsC (l.drop k)
  | [], k => by simp [opsC]
  | x :: l, 0 => by simp [opsC]
  | x :: l, k + 1 => by
    have := opsC_drop l k
    unfold opsC at this ⊢
    rw [List.drop_succ_cons, List.flatMap_cons, Nat.succ_mul, Nat.add_comm, ← this, ← List.drop_drop]
    rfl
theorem take_snoc {α : Type} {l : List α} {j : Nat} {x : α} (hx : l[j]? = some x) : l.take (j + 1) = l.take j ++ [x] := by rw [List.take_add_one, hx]; rfl
theorem drop_head {α : Type} {l : List α} {j : Nat} {x : α} (hx : l[j]? = some x) : l.drop j = x :: l.drop (j + 1) := by
  obtain ⟨h, rfl⟩ := List.getElem?_eq_some_iff.1 hx
  exact List.drop_eq_getElem_cons h
theorem flat_app (a b : List Value) : flat (a ++ b) = flat a ++ flat b := by simp [flat]
structure OpF where
  o : Int
  n : Nat
  t : Nat
  f : List Nat
  k : Int
abbrev OpF.C (x : OpF) : List Value := opFC x.o x.n x.t x.f x.k
abbrev OpF.V (x : OpF) : Value := opFV x.o x.n x.t x.f x.k
def okOF (x : OpF) : Prop := (-9223372036854775808 ≤ x.o ∧ x.o ≤ 9223372036854775807) ∧ x.n < 18446744073709551616 ∧ x.t < 18446744073709551616 ∧ okF x.f ∧ (-9223372036854775808 ≤ x.k ∧ x.k ≤ 9223372036854775807)
theorem opFC_len {x : OpF} (h : x.f.length = 64) : x.C.length = 87 := by
  simp only [OpF.C, opFC, fTail, oTail, List.length_cons, List.length_append, List.length_map, h, List.length_nil]
theorem opFC_one (x : OpF) : ∀ c ∈ x.C, c.oneCell' = true := fun c hc => by
  simp only [OpF.C, opFC, fTail, oTail, List.mem_cons, List.mem_append, List.mem_map, List.not_mem_nil, or_false] at hc
  rcases hc with rfl | rfl | rfl | ⟨y, _, rfl⟩ | hc
  · rfl
  · rfl
  · rfl
  · rfl
  · rcases hc with rfl | rfl | rfl | rfl | rfl | rfl | rfl | rfl | rfl | rfl | rfl | rfl | rfl | rfl | rfl | rfl | rfl | rfl | rfl | rfl <;> rfl
def opFT : Ty OpF where
  sz := 87
  agg := true
  rel a v _ := v = a.V ∧ okOF a
  mono _ h := h
  size := by rintro a v h ⟨rfl, h1⟩; exact opFC_len h1.2.2.2.1.1
  form := by rintro a v h ⟨rfl, _⟩; exact ⟨_, rfl⟩
  ones := by rintro a v h ⟨rfl, _⟩ c hc; exact opFC_one a c hc
instance : Ty.Is opFT (fun a => a.V) okOF := ⟨fun _ _ _ => Iff.rfl⟩
instance : Ty.Sz opFT 87 := ⟨rfl, by decide⟩
instance : FlG (fun a : OpF => a.V) := ⟨fun a c hc => opFC_one a c hc⟩
instance {a : OpF} : Fld opFT 0 a Ty.i64 a.o := ⟨fun v h x => ⟨.int .i64 a.o, ⟨rfl, x.2.1⟩, fun j c hc => by
  obtain ⟨rfl, _⟩ := x
  have hj : j = 0 := by have := (List.getElem?_eq_some_iff.1 hc).1; have e : (Value.int .i64 a.o).cells.toList.length = 1 := rfl; omega
  subst hj
  exact hc⟩⟩
instance {a : OpF} : Fld opFT 1 a Ty.u64 a.n := ⟨fun v h x => ⟨.int .u64 a.n, ⟨rfl, x.2.2.1⟩, fun j c hc => by
  obtain ⟨rfl, _⟩ := x
  have hj : j = 0 := by have := (List.getElem?_eq_some_iff.1 hc).1; have e : (Value.int .u64 a.n).cells.toList.length = 1 := rfl; omega
  subst hj
  exact hc⟩⟩
abbrev zOF : OpF := ⟨0, 0, 0, List.replicate 64 0, 0⟩
abbrev ndO : Nd := .mk 0 0 [] ((0, 0), (0, 0)) ((0, 0), (0, 0)) []
theorem zOF_ok : okOF zOF := ⟨by decide, by decide, by decide, rep_ok, by decide⟩
end Go.Qd
