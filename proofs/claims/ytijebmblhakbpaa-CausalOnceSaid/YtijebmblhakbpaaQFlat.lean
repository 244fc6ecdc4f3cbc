import Derived.Test.YtijebmblhakbpaaQSlz
namespace Go.Qd
open Go
/-! ### Elements of sz cells each, lying open -/
section
variable {α : Type} {f : α → Value} {sz : Nat}
theorem flat_len (hf : ∀ a, (f a).cells.toList.length = sz) : ∀ L : List α, (flat (L.map f)).length = L.length * sz
  | [] => by simp [flat]
  | x :: L => by
    have := flat_len hf L
    unfold flat at this ⊢
    rw [List.map_cons, List.flatMap_cons, List.length_append, this, hf, List.length_cons, Nat.add_mul, Nat.one_mul]; omega
theorem flat_segT (hf : ∀ a, (f a).cells.toList.length = sz) (sp : List Value) : ∀ {L : List α} {i : Nat} {x : α}, L[i]? = some x → SegC (flat (L.map f) ++ sp) (i * sz) sz (f x).cells.toList
  | [], _, _, h => by simp at h
  | y :: L, 0, x, h => ⟨by
    simp only [List.getElem?_cons_zero, Option.some.injEq] at h; subst h
    refine ⟨?_, hf y⟩
    show ((flat ((y :: L).map f) ++ sp).drop (0 * sz)).take sz = _
    unfold flat
    rw [Nat.zero_mul, List.drop_zero, List.map_cons, List.flatMap_cons, List.append_assoc]
    exact List.take_left' (hf y)⟩
  | y :: L, i + 1, x, h => ⟨by
    rw [List.getElem?_cons_succ] at h
    have e := (flat_segT hf sp h).h
    refine ⟨?_, e.2⟩
    rw [← e.1]
    unfold flat
    rw [List.map_cons, List.flatMap_cons, List.append_assoc, show (i + 1) * sz = sz + i * sz from by rw [Nat.add_mul]; omega, ← List.drop_drop, List.drop_left' (hf y)]⟩
theorem lset12_app : ∀ (pre cs : List Value) (k : Nat) (vs : List Value), lset (pre ++ cs) (pre.length + k) vs = pre ++ lset cs k vs
  | [], cs, k, vs => by rw [List.nil_append, List.length_nil, Nat.zero_add, List.nil_append]
  | p :: pre, cs, k, [] => by rw [lset_nil, lset_nil]
  | p :: pre, cs, k, v :: vs => by
    rw [List.cons_append, List.length_cons, show pre.length + 1 + k = (pre.length + k) + 1 from by omega]
    show p :: lset (pre ++ cs) (pre.length + k) (v :: vs) = _
    rw [lset12_app pre cs k (v :: vs)]; rfl
theorem flat_lset (hf : ∀ a, (f a).cells.toList.length = sz) (sp : List Value) : ∀ {L : List α} {i : Nat} {x : α}, i < L.length → lset (flat (L.map f) ++ sp) (i * sz) (f x).cells.toList = flat ((L.set i x).map f) ++ sp
  | [], _, _, h => absurd h (Nat.not_lt_zero _)
  | y :: L, 0, x, _ => by
    unfold flat
    rw [List.map_cons, List.flatMap_cons, List.set_cons_zero, List.map_cons, List.flatMap_cons, List.append_assoc, List.append_assoc, Nat.zero_mul,
      lset_eq _ _ _ (by rw [Nat.zero_add, hf, List.length_append, hf]; omega), List.take_zero, List.nil_append, Nat.zero_add, hf, List.drop_left' (hf y)]
  | y :: L, i + 1, x, h => by
    have ih := flat_lset hf sp (L := L) (i := i) (x := x) (by simpa using h)
    unfold flat at ih ⊢
    rw [List.map_cons, List.flatMap_cons, List.set_cons_succ, List.map_cons, List.flatMap_cons, List.append_assoc, List.append_assoc, ← ih, show (i + 1) * sz = (f y).cells.toList.length + i * sz from by rw [hf, Nat.add_mul]; omega, lset12_app]
theorem flat_LsetC (hf : ∀ a, (f a).cells.toList.length = sz) (sp : List Value) {L : List α} {i : Nat} {x : α} (h : i < L.length) : LsetC (flat (L.map f) ++ sp) (i * sz) (f x).cells.toList (flat ((L.set i x).map f) ++ sp) := ⟨flat_lset hf sp h, by
  rw [hf, List.length_append, flat_len hf]
  have : (i + 1) * sz ≤ L.length * sz := Nat.mul_le_mul_right _ h
  rw [Nat.add_mul, Nat.one_mul] at this
  omega⟩
end
end Go.Qd
