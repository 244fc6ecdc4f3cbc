/-
  A cut text has no more signs than asked for.
-/
import Derived.Test.YtkpblibaddjcgaaDoorPGr1
namespace Go.Qd
open Go Go.Proofs
theorem dcN_cut (n c b0 b1 b2 b3 : Nat) (hc : 1 ≤ c) (hn : c ≤ n) (h : (Lib.decodeN n b0 b1 b2 b3).2 ≤ c) :
    (Lib.decodeN (c + 1) b0 (if c = 1 then 126 else b1) (if c = 1 then 0 else if c = 2 then 126 else b2) (if c ≤ 2 then 0 else if c = 3 then 126 else b3)).2 = (Lib.decodeN n b0 b1 b2 b3).2 := by
  obtain rfl | rfl | rfl | h4 : c = 1 ∨ c = 2 ∨ c = 3 ∨ 4 ≤ c := by omega
  · unfold Lib.decodeN at h ⊢
    simp only [if_true, Nat.reduceEqDiff, if_false, Nat.reduceLeDiff] at ⊢
    repeat' split at h
    all_goals (repeat' split)
    all_goals first | rfl | (exfalso; dsimp only at h; omega)
  · unfold Lib.decodeN at h ⊢
    simp only [Nat.reduceEqDiff, if_false, if_true, Nat.le_refl] at ⊢
    repeat' split at h
    all_goals (repeat' split)
    all_goals first | rfl | (exfalso; dsimp only at h; omega)
  · unfold Lib.decodeN at h ⊢
    simp only [Nat.reduceEqDiff, if_false, if_true, Nat.reduceLeDiff] at ⊢
    repeat' split at h
    all_goals (repeat' split)
    all_goals first | rfl | (exfalso; dsimp only at h; omega)
  · rw [if_neg (by omega), if_neg (by omega), if_neg (by omega), if_neg (by omega), if_neg (by omega)]
    unfold Lib.decodeN
    have e1 : (1 < c + 1) = (1 < n) := propext ⟨fun _ => by omega, fun _ => by omega⟩
    have e2 : (2 < c + 1) = (2 < n) := propext ⟨fun _ => by omega, fun _ => by omega⟩
    have e3 : (3 < c + 1) = (3 < n) := propext ⟨fun _ => by omega, fun _ => by omega⟩
    simp only [e1, e2, e3]
theorem dcR_cut (x : List UInt8) (c : Nat) (hc : c ≤ x.length) (h : (dcR x).2 ≤ c) : (dcR (x.take c ++ [126])).2 = (dcR x).2 := by
  have h1 := dcR_pos x
  have key := dcN_cut x.length c (x.getD 0 0).toNat (x.getD 1 0).toNat (x.getD 2 0).toNat (x.getD 3 0).toNat (by omega) hc h
  unfold dcR at key ⊢
  have el : (x.take c ++ [126]).length = c + 1 := by rw [List.length_append, List.length_take]; simp; omega
  have g : ∀ i, (x.take c ++ [126]).getD i 0 = if i < c then x.getD i 0 else if i = c then 126 else 0 := by
    intro i
    simp only [List.getD_eq_getElem?_getD, List.getElem?_append, List.length_take, List.getElem?_take]
    have : min c x.length = c := by omega
    rw [this]
    by_cases hi : i < c
    · rw [if_pos hi, if_pos hi, if_pos hi]
    · rw [if_neg hi, if_neg hi]
      by_cases hj : i = c
      · subst hj; rw [if_pos rfl, Nat.sub_self]; rfl
      · rw [if_neg hj, List.getElem?_eq_none (by simp; omega)]; rfl
  rw [el, g, g, g, g, if_pos (by omega), ← key]
  congr 1
  congr 1
  · by_cases h : c = 1
    · subst h; rfl
    · rw [if_pos (by omega), if_neg h]
  · by_cases h : c = 1
    · subst h; rfl
    · by_cases h2 : c = 2
      · subst h2; rfl
      · rw [if_pos (by omega), if_neg h, if_neg h2]
  · by_cases h : c ≤ 2
    · rw [if_pos h, if_neg (by omega), if_neg (by omega)]; rfl
    · by_cases h2 : c = 3
      · subst h2; rfl
      · rw [if_pos (by omega), if_neg h, if_neg h2]
theorem rnP_ok (l : List UInt8) : ∀ k, k ≤ rnF l 0 → rnP l k ≤ l.length ∧ k + rnF l (rnP l k) = rnF l 0
  | 0, _ => ⟨Nat.zero_le _, Nat.zero_add _⟩
  | k + 1, h => by
    obtain ⟨h1, h2⟩ := rnP_ok l k (by omega)
    have hp : rnP l k < l.length := by
      by_cases hp : rnP l k < l.length
      · exact hp
      · rw [rnF_end (by omega)] at h2; omega
    rw [rnF_lt hp] at h2
    have h3 := dcR_le (l := l.drop (rnP l k)) (by intro e; have := congrArg List.length e; simp at this; omega)
    rw [List.length_drop] at h3
    exact ⟨by rw [rnP]; omega, by rw [rnP]; omega⟩
theorem rnP_le (l : List UInt8) {k j : Nat} (h : k ≤ j) : rnP l k ≤ rnP l j := by
  induction h with
  | refl => exact Nat.le_refl _
  | step _ ih => rw [rnP]; omega
theorem rnF_cut (l : List UInt8) (m : Nat) (hm : 1 ≤ m) : rnF (cutM l m) 0 ≤ m := by
  unfold cutM
  split
  · assumption
  rename_i hc
  obtain ⟨he, _⟩ := rnP_ok l (m - 1) (by omega)
  generalize hT : l.take (rnP l (m - 1)) ++ [126] = T
  have hlen : T.length = rnP l (m - 1) + 1 := by rw [← hT, List.length_append, List.length_take]; simp; omega
  have key : ∀ d k, k + d = m - 1 → rnF T (rnP l k) = d + 1 := by
    intro d
    induction d with
    | zero =>
      intro k hk
      obtain rfl : k = m - 1 := by omega
      rw [rnF_lt (by omega), rnF_end (by have := dcR_pos (T.drop (rnP l (m - 1))); omega)]
    | succ d ih =>
      intro k hk
      have hmono : rnP l (k + 1) ≤ rnP l (m - 1) := rnP_le l (by omega)
      rw [rnP] at hmono
      have hpos := dcR_pos (l.drop (rnP l k))
      have hw : (dcR (T.drop (rnP l k))).2 = (dcR (l.drop (rnP l k))).2 := by
        have e : T.drop (rnP l k) = (l.drop (rnP l k)).take (rnP l (m - 1) - rnP l k) ++ [126] := by
          rw [← hT, List.drop_append, List.length_take, List.drop_take, Nat.min_eq_left he, Nat.sub_eq_zero_of_le (show rnP l k ≤ rnP l (m - 1) by omega)]; rfl
        rw [e]
        exact dcR_cut _ _ (by rw [List.length_drop]; omega) (by omega)
      rw [rnF_lt (by omega), hw]
      have := ih (k + 1) (by omega)
      rw [rnP] at this
      omega
  have := key (m - 1) 0 (by omega)
  rw [rnP] at this
  omega
end Go.Qd
