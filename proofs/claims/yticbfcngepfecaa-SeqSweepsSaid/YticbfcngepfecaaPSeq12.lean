/-
  Lines in an order: plain facts.
-/
import Derived.Test.YticbfcngepfecaaPSeq11
namespace Go.Qd
open Go Go.Proofs
abbrev idsL (l : List Ln) : List (Nat × Int) := l.map fun x => (x.t, x.r)
theorem isId_iff {t : Nat} {r : Int} {x : Ln} : isId t r x = true ↔ (x.t, x.r) = (t, r) := by
  unfold isId
  rw [decide_eq_true_iff, Prod.mk.injEq]
  exact ⟨fun h => ⟨Int.ofNat_inj.1 h.1, h.2⟩, fun h => ⟨congrArg Int.ofNat h.1, h.2⟩⟩
theorem isIn_iff {t : Nat} {r : Int} {a : Nat × Int} : isIn t r a = true ↔ a = (t, r) := by
  unfold isIn
  rw [decide_eq_true_iff]
  exact ⟨fun h => Prod.ext (Int.ofNat_inj.1 h.1) h.2, fun h => by subst h; exact ⟨rfl, rfl⟩⟩
theorem inIds_iff {l : List (Nat × Int)} {t : Nat} {r : Int} : inIds l t r = true ↔ (t, r) ∈ l := by
  unfold inIds
  rw [List.any_eq_true]
  constructor
  · rintro ⟨a, ha, h⟩
    have := isIn_iff.1 h
    subst this; exact ha
  · exact fun h => ⟨_, h, isIn_iff.2 rfl⟩
theorem ixZ_neg {l : List Ln} {t : Nat} {r : Int} : ixZ l t r < 0 ↔ (t, r) ∉ idsL l := by
  constructor
  · intro h hm
    obtain ⟨x, hx, e⟩ := List.mem_map.1 hm
    unfold ixZ ixN at h
    cases hf : l.findIdx? (isId t r) with
    | none =>
      rw [List.findIdx?_eq_none_iff] at hf
      have := hf x hx
      rw [isId_iff.2 e] at this
      cases this
    | some i => rw [hf] at h; dsimp only at h; omega
  · intro h
    rcases ixZ_cases l t r with h1 | ⟨i, x, hx, h1, hp⟩
    · omega
    · exact absurd (List.mem_map.2 ⟨x, List.mem_of_getElem? hx, isId_iff.1 hp⟩) h
theorem newL_nd (m : Nat) : (idsL (newL m)).Nodup := by
  unfold idsL newL
  rw [List.map_map]
  have : ((fun x : Ln => (x.t, x.r)) ∘ fun (k : Nat) => (⟨0, (k : Int) + 1, false⟩ : Ln)) = fun k : Nat => ((0 : Nat), (k : Int) + 1) := rfl
  rw [this]
  refine List.Pairwise.map _ (R := fun a b : Nat => a ≠ b) (fun a b h e => ?_) List.nodup_range
  simp only [Prod.mk.injEq, true_and] at e
  omega
theorem putAtL_nd {l : List Ln} {k t : Nat} {r : Int} (h : (idsL l).Nodup) (hn : (t, r) ∉ idsL l) : (idsL (putAtL l k t r)).Nodup := by
  have e : (idsL (putAtL l k t r)).Perm ((t, r) :: idsL l) := by
    unfold idsL putAtL
    rw [List.map_append, List.map_append]
    have : l.map (fun x => (x.t, x.r)) = (l.take k).map (fun x => (x.t, x.r)) ++ (l.drop k).map (fun x => (x.t, x.r)) := by rw [← List.map_append, List.take_append_drop]
    rw [this]
    exact List.perm_middle
  exact e.nodup_iff.2 (List.nodup_cons.2 ⟨hn, h⟩)
theorem insL_nd {l : List Ln} {at_ t : Nat} {ar r : Int} (h : (idsL l).Nodup) : (idsL (insL l at_ ar t r)).Nodup := by
  unfold insL
  split
  · rename_i he
    refine putAtL_nd h (ixZ_neg.1 ?_)
    unfold insE at he
    split at he
    · cases he
    · split at he
      · cases he
      · omega
  · exact h
theorem deadAt_ids (l : List Ln) (i : Nat) : idsL (deadAt l i) = idsL l := by
  unfold idsL deadAt
  apply List.ext_getElem?
  intro j
  rw [List.getElem?_map, List.getElem?_map, List.getElem?_modify]
  cases l[j]? with
  | none => rfl
  | some x =>
    by_cases e : i = j
    · simp [e]
    · simp [e]
theorem delL_nd {l : List Ln} {t : Nat} {r : Int} (h : (idsL l).Nodup) : (idsL (delL l t r)).Nodup := by
  unfold delL; split
  · exact h
  · rw [deadAt_ids]; exact h
theorem swpF_seen (may firm : List (Nat × Int)) : ∀ l : List Ln, seenL (swpF may firm l).1 = seenL l
  | [] => rfl
  | x :: r => by
    have ih := swpF_seen may firm r
    cases h : goesB may firm x (swpF may firm r).1 with
    | true =>
      rw [swpF_goes h]
      have hd : x.d = true := by unfold goesB at h; rw [Bool.and_eq_true] at h; exact h.1
      rw [ih]
      unfold seenL
      rw [List.filter_cons, hd]; rfl
    | false =>
      rw [swpF_stays h]
      unfold seenL at ih ⊢
      rw [List.filter_cons, List.filter_cons]
      cases x.d
      · simp only [Bool.not_false, if_true, List.map_cons]
        rw [ih]
      · simp only [Bool.not_true]
        exact ih
theorem swpF_gone (may firm : List (Nat × Int)) : ∀ l : List Ln, ∀ a ∈ (swpF may firm l).2, ∃ y ∈ l, y.d = true ∧ (y.t, y.r) = a
  | [], a, h => by cases h
  | x :: r, a, h => by
    have ih := swpF_gone may firm r
    cases hg : goesB may firm x (swpF may firm r).1 with
    | true =>
      rw [swpF_goes hg] at h
      have hd : x.d = true := by unfold goesB at hg; rw [Bool.and_eq_true] at hg; exact hg.1
      rcases List.mem_cons.1 h with e | e
      · exact ⟨x, .head _, hd, e.symm⟩
      · obtain ⟨y, hy, h1⟩ := ih a e
        exact ⟨y, .tail _ hy, h1⟩
    | false =>
      rw [swpF_stays hg] at h
      obtain ⟨y, hy, h1⟩ := ih a h
      exact ⟨y, .tail _ hy, h1⟩
theorem nd_inj {l : List Ln} (h : (idsL l).Nodup) {x y : Ln} (hx : x ∈ l) (hy : y ∈ l) (e : (x.t, x.r) = (y.t, y.r)) : x = y := by
  induction l with
  | nil => cases hx
  | cons a l ih =>
    unfold idsL at h ih
    rw [List.map_cons, List.nodup_cons] at h
    rcases List.mem_cons.1 hx with hx | hx <;> rcases List.mem_cons.1 hy with hy | hy
    · rw [hx, hy]
    · exact absurd (List.mem_map.2 ⟨y, hy, by rw [← e, hx]⟩) h.1
    · exact absurd (List.mem_map.2 ⟨x, hx, by rw [e, hy]⟩) h.1
    · exact ih h.2 hx hy
theorem gone_dead {may firm : List (Nat × Int)} {l : List Ln} (h : (idsL l).Nodup) {x : Ln} (hx : x ∈ l) (hg : inIds (swpF may firm l).2 x.t x.r = true) : x.d = true := by
  obtain ⟨y, hy, hd, e⟩ := swpF_gone may firm l _ (inIds_iff.1 hg)
  rw [nd_inj h hx hy e.symm]; exact hd
theorem swpF_filter (may firm : List (Nat × Int)) : ∀ l : List Ln, (idsL l).Nodup → (swpF may firm l).1 = l.filter fun x => !inIds (swpF may firm l).2 x.t x.r
  | [], _ => rfl
  | x :: r, h => by
    unfold idsL at h
    rw [List.map_cons, List.nodup_cons] at h
    have ih := swpF_filter may firm r h.2
    have hx : ∀ y ∈ r, (y.t, y.r) ≠ (x.t, x.r) := fun y hy e => h.1 (List.mem_map.2 ⟨y, hy, e⟩)
    cases hg : goesB may firm x (swpF may firm r).1 with
    | true =>
      rw [swpF_goes hg]
      have e1 : inIds ((x.t, x.r) :: (swpF may firm r).2) x.t x.r = true := inIds_iff.2 (.head _)
      rw [List.filter_cons]
      dsimp only
      rw [e1, if_neg (by decide), ih]
      conv => lhs; rw [← ih]
      rw [ih]
      refine List.filter_congr fun y hy => ?_
      congr 1
      have := hx y hy
      cases hq : inIds (swpF may firm r).2 y.t y.r with
      | true => exact (inIds_iff.2 (.tail _ (inIds_iff.1 hq))).symm
      | false =>
        cases hq2 : inIds ((x.t, x.r) :: (swpF may firm r).2) y.t y.r with
        | false => rfl
        | true =>
          rcases List.mem_cons.1 (inIds_iff.1 hq2) with e | e
          · exact absurd e this
          · rw [inIds_iff.2 e] at hq; cases hq
    | false =>
      rw [swpF_stays hg]
      have e1 : inIds (swpF may firm r).2 x.t x.r = false := by
        cases hq : inIds (swpF may firm r).2 x.t x.r with
        | false => rfl
        | true =>
          obtain ⟨y, hy, _, e⟩ := swpF_gone may firm r _ (inIds_iff.1 hq)
          exact absurd e (hx y hy)
      rw [List.filter_cons]
      dsimp only
      rw [e1, if_pos (by decide), ← ih]
theorem filter_at {α : Type} {p : α → Bool} {l : List α} {i : Nat} {x : α} (h : l[i]? = some x) (hp : p x = true) : (l.filter p)[((l.take i).filter p).length]? = some x := by
  have e : l = l.take i ++ x :: l.drop (i + 1) := by rw [← drop_cons12 h, List.take_append_drop]
  conv => lhs; rw [e]
  rw [List.filter_append, List.filter_cons, if_pos hp, List.take_append_of_le_length (by rw [List.length_take]; have := (List.getElem?_eq_some_iff.1 h).1; omega), List.take_take, Nat.min_self, List.getElem?_append_right (Nat.le_refl _), Nat.sub_self]
  rfl
end Go.Qd
