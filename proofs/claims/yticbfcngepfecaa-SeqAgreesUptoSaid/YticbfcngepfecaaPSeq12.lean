/-
  Lines in an order: plain facts.
-/
import Derived.Test.YticbfcngepfecaaPSeq11
namespace Go.Qd
open Go Go.Proofs
abbrev idsL (l : List Ln) : List (Nat × Int) := l.map fun x => (x.t, x.r)
theorem isId_iff {t : Nat} {r : Int} {x : Ln} : isId t r x = true ↔ (x.t, x.r) = (t, r) := by
  unfold isId
  rw [decide_eq_true_iff, Prod.mk.injEq]
  exact ⟨fun h => ⟨Int.ofNat_inj.1 h.1, h.2⟩, fun h => ⟨congrArg Int.ofNat h.1, h.2⟩⟩
theorem ixZ_neg {l : List Ln} {t : Nat} {r : Int} : ixZ l t r < 0 ↔ (t, r) ∉ idsL l := by
  constructor
  · intro h hm
    obtain ⟨x, hx, e⟩ := List.mem_map.1 hm
    unfold ixZ ixN at h
    cases hf : l.findIdx? (isId t r) with
    | none =>
      rw [List.findIdx?_eq_none_iff] at hf
      have := hf x hx
      rw [isId_iff.2 e] at this
      cases this
    | some i => rw [hf] at h; dsimp only at h; omega
  · intro h
    rcases ixZ_cases l t r with h1 | ⟨i, x, hx, h1, hp⟩
    · omega
    · exact absurd (List.mem_map.2 ⟨x, List.mem_of_getElem? hx, isId_iff.1 hp⟩) h
theorem putAtL_nd {l : List Ln} {k t : Nat} {r : Int} (h : (idsL l).Nodup) (hn : (t, r) ∉ idsL l) : (idsL (putAtL l k t r)).Nodup := by
  have e : (idsL (putAtL l k t r)).Perm ((t, r) :: idsL l) := by
    unfold idsL putAtL
    rw [List.map_append, List.map_append]
    have : l.map (fun x => (x.t, x.r)) = (l.take k).map (fun x => (x.t, x.r)) ++ (l.drop k).map (fun x => (x.t, x.r)) := by rw [← List.map_append, List.take_append_drop]
    rw [this]
    exact List.perm_middle
  exact e.nodup_iff.2 (List.nodup_cons.2 ⟨hn, h⟩)
theorem insL_nd {l : List Ln} {at_ t : Nat} {ar r : Int} (h : (idsL l).Nodup) : (idsL (insL l at_ ar t r)).Nodup := by
  unfold insL
  split
  · rename_i he
    refine putAtL_nd h (ixZ_neg.1 ?_)
    unfold insE at he
    split at he
    · cases he
    · split at he
      · cases he
      · omega
  · exact h
end Go.Qd
