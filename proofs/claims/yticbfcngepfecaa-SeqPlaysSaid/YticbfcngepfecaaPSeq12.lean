/-
  Lines in an order: plain facts.
-/
import Derived.Test.YticbfcngepfecaaPSeq11
namespace Go.Qd
open Go Go.Proofs
abbrev idsL (l : List Ln) : List (Nat × Int) := l.map fun x => (x.t, x.r)
theorem isId_iff {t : Nat} {r : Int} {x : Ln} : isId t r x = true ↔ (x.t, x.r) = (t, r) := by
  unfold isId
  rw [decide_eq_true_iff, Prod.mk.injEq]
  exact ⟨fun h => ⟨Int.ofNat_inj.1 h.1, h.2⟩, fun h => ⟨congrArg Int.ofNat h.1, h.2⟩⟩
theorem isIn_iff {t : Nat} {r : Int} {a : Nat × Int} : isIn t r a = true ↔ a = (t, r) := by
  unfold isIn
  rw [decide_eq_true_iff]
  exact ⟨fun h => Prod.ext (Int.ofNat_inj.1 h.1) h.2, fun h => by subst h; exact ⟨rfl, rfl⟩⟩
theorem ixZ_neg {l : List Ln} {t : Nat} {r : Int} : ixZ l t r < 0 ↔ (t, r) ∉ idsL l := by
  constructor
  · intro h hm
    obtain ⟨x, hx, e⟩ := List.mem_map.1 hm
    unfold ixZ ixN at h
    cases hf : l.findIdx? (isId t r) with
    | none =>
      rw [List.findIdx?_eq_none_iff] at hf
      have := hf x hx
      rw [isId_iff.2 e] at this
      cases this
    | some i => rw [hf] at h; dsimp only at h; omega
  · intro h
    rcases ixZ_cases l t r with h1 | ⟨i, x, hx, h1, hp⟩
    · omega
    · exact absurd (List.mem_map.2 ⟨x, List.mem_of_getElem? hx, isId_iff.1 hp⟩) h
theorem newL_nd (m : Nat) : (idsL (newL m)).Nodup := by
  unfold idsL newL
  rw [List.map_map]
  have : ((fun x : Ln => (x.t, x.r)) ∘ fun (k : Nat) => (⟨0, (k : Int) + 1, false⟩ : Ln)) = fun k : Nat => ((0 : Nat), (k : Int) + 1) := rfl
  rw [this]
  refine List.Pairwise.map _ (R := fun a b : Nat => a ≠ b) (fun a b h e => ?_) List.nodup_range
  simp only [Prod.mk.injEq, true_and] at e
  omega
theorem putAtL_nd {l : List Ln} {k t : Nat} {r : Int} (h : (idsL l).Nodup) (hn : (t, r) ∉ idsL l) : (idsL (putAtL l k t r)).Nodup := by
  have e : (idsL (putAtL l k t r)).Perm ((t, r) :: idsL l) := by
    unfold idsL putAtL
    rw [List.map_append, List.map_append]
    have : l.map (fun x => (x.t, x.r)) = (l.take k).map (fun x => (x.t, x.r)) ++ (l.drop k).map (fun x => (x.t, x.r)) := by rw [← List.map_append, List.take_append_drop]
    rw [this]
    exact List.perm_middle
  exact e.nodup_iff.2 (List.nodup_cons.2 ⟨hn, h⟩)
theorem insL_nd {l : List Ln} {at_ t : Nat} {ar r : Int} (h : (idsL l).Nodup) : (idsL (insL l at_ ar t r)).Nodup := by
  unfold insL
  split
  · rename_i he
    refine putAtL_nd h (ixZ_neg.1 ?_)
    unfold insE at he
    split at he
    · cases he
    · split at he
      · cases he
      · omega
  · exact h
theorem deadAt_ids (l : List Ln) (i : Nat) : idsL (deadAt l i) = idsL l := by
  unfold idsL deadAt
  apply List.ext_getElem?
  intro j
  rw [List.getElem?_map, List.getElem?_map, List.getElem?_modify]
  cases l[j]? with
  | none => rfl
  | some x =>
    by_cases e : i = j
    · simp [e]
    · simp [e]
theorem delL_nd {l : List Ln} {t : Nat} {r : Int} (h : (idsL l).Nodup) : (idsL (delL l t r)).Nodup := by
  unfold delL; split
  · exact h
  · rw [deadAt_ids]; exact h
theorem swpF_sub (may firm : List (Nat × Int)) : ∀ l : List Ln, (swpF may firm l).1.Sublist l
  | [] => .slnil
  | x :: r => by
    have ih := swpF_sub may firm r
    cases h : goesB may firm x (swpF may firm r).1 with
    | true => rw [swpF_goes h]; exact ih.cons x
    | false => rw [swpF_stays h]; exact ih.cons_cons x
theorem swpF_nd {may firm : List (Nat × Int)} {l : List Ln} (h : (idsL l).Nodup) : (idsL (swpF may firm l).1).Nodup := h.sublist ((swpF_sub may firm l).map _)
theorem swpF_seen (may firm : List (Nat × Int)) : ∀ l : List Ln, seenL (swpF may firm l).1 = seenL l
  | [] => rfl
  | x :: r => by
    have ih := swpF_seen may firm r
    cases h : goesB may firm x (swpF may firm r).1 with
    | true =>
      rw [swpF_goes h]
      have hd : x.d = true := by unfold goesB at h; rw [Bool.and_eq_true] at h; exact h.1
      rw [ih]
      unfold seenL
      rw [List.filter_cons, hd]; rfl
    | false =>
      rw [swpF_stays h]
      unfold seenL at ih ⊢
      rw [List.filter_cons, List.filter_cons]
      cases x.d
      · simp only [Bool.not_false, if_true, List.map_cons]
        rw [ih]
      · simp only [Bool.not_true]
        exact ih
theorem seen_nd {l : List Ln} (h : (idsL l).Nodup) : (seenL l).Nodup := by
  unfold seenL
  exact h.sublist ((List.filter_sublist).map _)
theorem lstZ_none {t : Nat} {r : Int} {s : List (Nat × Int)} : ∀ {n : Nat}, (∀ j, j < n → isIn t r (s.getD j (0, 0)) = false) → lstZ t r s n = 0
  | 0, _ => rfl
  | n + 1, h => by rw [lstZ, if_neg (by rw [h n (by omega)]; decide), lstZ_none (fun j hj => h j (by omega))]
theorem lstZ_at {t : Nat} {r : Int} {s : List (Nat × Int)} {i : Nat} (hi : isIn t r (s.getD i (0, 0)) = true) : ∀ {n : Nat}, i < n → (∀ j, i < j → j < n → isIn t r (s.getD j (0, 0)) = false) → lstZ t r s n = (i : Int) + 1
  | 0, h, _ => absurd h (Nat.not_lt_zero _)
  | n + 1, h, hn => by
    rw [lstZ]
    by_cases e : i = n
    · subst e; rw [if_pos hi]
    · rw [if_neg (by rw [hn n (by omega) (by omega)]; decide)]
      exact lstZ_at hi (by omega) (fun j h1 h2 => hn j h1 (by omega))
theorem lst_plc {s : List (Nat × Int)} (h : s.Nodup) (t : Nat) (r : Int) : lstZ t r s s.length = plcZ s t r := by
  have hg : ∀ j, j < s.length → ∃ a, s[j]? = some a ∧ s.getD j (0, 0) = a := fun j hj => ⟨s[j], List.getElem?_eq_getElem hj, by rw [List.getD_eq_getElem?_getD, List.getElem?_eq_getElem hj]; rfl⟩
  unfold plcZ
  cases hf : s.findIdx? (isIn t r) with
  | none =>
    rw [List.findIdx?_eq_none_iff] at hf
    exact lstZ_none fun j hj => by
      obtain ⟨a, h1, h2⟩ := hg j hj
      rw [h2]; exact hf a (List.mem_of_getElem? h1)
  | some i =>
    rw [List.findIdx?_eq_some_iff_getElem] at hf
    obtain ⟨hi, hp, _⟩ := hf
    refine lstZ_at ?_ hi (fun j h1 h2 => ?_)
    · rw [List.getD_eq_getElem?_getD, List.getElem?_eq_getElem hi]; exact hp
    · obtain ⟨a, e1, e2⟩ := hg j h2
      rw [e2]
      cases hq : isIn t r a with
      | false => rfl
      | true =>
        have h3 := isIn_iff.1 hq
        have h4 := isIn_iff.1 hp
        have : s[i] = s[j] := by rw [h4]; rw [List.getElem?_eq_getElem h2] at e1; rw [Option.some.inj e1, h3]
        exact absurd this (List.pairwise_iff_getElem.1 h i j hi h2 h1)
end Go.Qd
