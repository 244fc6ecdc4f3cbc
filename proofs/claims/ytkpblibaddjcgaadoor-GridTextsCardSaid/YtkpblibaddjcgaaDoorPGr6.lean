/-
  Texts of a window: the program's way of cleaning a text is the document's.
-/
import Derived.Test.YtkpblibaddjcgaaDoorPGr5
namespace Go.Qd
open Go Go.Proofs
def fC (c : UInt8) : UInt8 := if ctlB c then 63 else c
theorem fC_high {c : UInt8} (h : 128 ≤ c.toNat) : fC c = c := by
  unfold fC ctlB
  rw [if_neg]
  simp
  omega
theorem fC_low {c : UInt8} (h : c.toNat < 128) : (fC c).toNat < 128 := by
  unfold fC
  split
  · decide
  · exact h
theorem dcN_b1 {n b0 b1 b2 b3 : Nat} (h0 : 128 ≤ b0) (h : b1 < 128) : Lib.decodeN n b0 b1 b2 b3 = (65533, 1) := by
  unfold Lib.decodeN
  rw [if_neg (by omega), if_neg (by omega), if_neg (by omega), if_neg (by omega)]
theorem dcN_b2 {n b0 b1 b2 b2' b3 b3' : Nat} (h0 : 128 ≤ b0) (h : b2 < 128) (h' : b2' < 128) : Lib.decodeN n b0 b1 b2 b3 = Lib.decodeN n b0 b1 b2' b3' := by
  unfold Lib.decodeN
  rw [if_neg (by omega), if_neg (c := b0 < 128) (by omega)]
  have e1 : ¬ (b0 / 16 = 14 ∧ (1 < n ∧ b1 / 64 = 2) ∧ (2 < n ∧ b2 / 64 = 2)) := by omega
  have e2 : ¬ (b0 / 8 = 30 ∧ (1 < n ∧ b1 / 64 = 2) ∧ (2 < n ∧ b2 / 64 = 2) ∧ (3 < n ∧ b3 / 64 = 2)) := by omega
  have e3 : ¬ (b0 / 16 = 14 ∧ (1 < n ∧ b1 / 64 = 2) ∧ (2 < n ∧ b2' / 64 = 2)) := by omega
  have e4 : ¬ (b0 / 8 = 30 ∧ (1 < n ∧ b1 / 64 = 2) ∧ (2 < n ∧ b2' / 64 = 2) ∧ (3 < n ∧ b3' / 64 = 2)) := by omega
  rw [if_neg e1, if_neg e2, if_neg e3, if_neg e4]
theorem dcN_b3 {n b0 b1 b2 b3 b3' : Nat} (h : b3 < 128) (h' : b3' < 128) : Lib.decodeN n b0 b1 b2 b3 = Lib.decodeN n b0 b1 b2 b3' := by
  unfold Lib.decodeN
  have e2 : ¬ (b0 / 8 = 30 ∧ (1 < n ∧ b1 / 64 = 2) ∧ (2 < n ∧ b2 / 64 = 2) ∧ (3 < n ∧ b3 / 64 = 2)) := by omega
  have e4 : ¬ (b0 / 8 = 30 ∧ (1 < n ∧ b1 / 64 = 2) ∧ (2 < n ∧ b2 / 64 = 2) ∧ (3 < n ∧ b3' / 64 = 2)) := by omega
  rw [if_neg e2, if_neg e4]
theorem dcN_bytes {n b0 b1 b2 b3 : Nat} (h0 : 128 ≤ b0) : (1 < (Lib.decodeN n b0 b1 b2 b3).2 → 128 ≤ b1) ∧ (2 < (Lib.decodeN n b0 b1 b2 b3).2 → 128 ≤ b2) ∧ (3 < (Lib.decodeN n b0 b1 b2 b3).2 → 128 ≤ b3) ∧ (Lib.decodeN n b0 b1 b2 b3).2 ≤ 4 := by
  unfold Lib.decodeN
  repeat' split
  all_goals (dsimp only; omega)
theorem getD_map (l : List UInt8) (i : Nat) : ((l.map fC).getD i 0).toNat = (l.getD i 0).toNat ∧ 128 ≤ (l.getD i 0).toNat ∨ (l.getD i 0).toNat < 128 ∧ ((l.map fC).getD i 0).toNat < 128 := by
  rw [List.getD_eq_getElem?_getD, List.getD_eq_getElem?_getD, List.getElem?_map]
  cases h : l[i]? with
  | none => exact .inr ⟨by decide, by decide⟩
  | some c =>
    show ((fC c).toNat = c.toNat ∧ 128 ≤ c.toNat) ∨ (c.toNat < 128 ∧ (fC c).toNat < 128)
    by_cases hc : c.toNat < 128
    · exact .inr ⟨hc, fC_low hc⟩
    · exact .inl ⟨by rw [fC_high (by omega)], by omega⟩
theorem dcR_map {l : List UInt8} (h : 128 ≤ (l.getD 0 0).toNat) : dcR (l.map fC) = dcR l := by
  unfold dcR
  rw [List.length_map]
  obtain ⟨e0, _⟩ | ⟨e0, _⟩ := getD_map l 0
  · rw [e0]
    obtain ⟨e1, _⟩ | ⟨e1, f1⟩ := getD_map l 1
    · rw [e1]
      obtain ⟨e2, _⟩ | ⟨e2, f2⟩ := getD_map l 2
      · rw [e2]
        obtain ⟨e3, _⟩ | ⟨e3, f3⟩ := getD_map l 3
        · rw [e3]
        · exact dcN_b3 f3 e3
      · exact dcN_b2 h f2 e2
    · rw [dcN_b1 h f1, dcN_b1 h e1]
  · omega
theorem toV_map : ∀ (n : Nat) (l : List UInt8) (sp : Bool), l.length ≤ n → toV (l.map fC) sp = cleanM l sp
  | 0, l, sp, h => by
    have : l = [] := List.eq_nil_of_length_eq_zero (by omega)
    subst this
    rw [List.map_nil, toV_nil, cleanM_nil]
  | n + 1, l, sp, h => by
    rcases l with _ | ⟨c, r⟩
    · rw [List.map_nil, toV_nil, cleanM_nil]
    have hne : c :: r ≠ [] := by simp
    have hne' : (c :: r).map fC ≠ [] := by simp
    have hg : (c :: r).getD 0 0 = c := rfl
    have hg' : ((c :: r).map fC).getD 0 0 = fC c := rfl
    by_cases hc : c.toNat < 128
    · have d1 : (dcR (c :: r)).2 = 1 := by unfold dcR; rw [dcN_low (by rw [hg]; exact hc)]
      have d2 : (dcR ((c :: r).map fC)).2 = 1 := by unfold dcR; rw [dcN_low (by rw [hg']; exact fC_low hc)]
      have b1 : badB (c :: r) = false := by unfold badB; rw [hg]; simp; intro h; omega
      have b2 : badB ((c :: r).map fC) = false := by unfold badB; rw [hg']; have := fC_low hc; simp only [Bool.and_eq_false_iff, decide_eq_false_iff_not]; exact .inl (by omega)
      rw [toV_ok hne' b2, cleanM_ok hne b1, d1, d2, hg]
      have ih := toV_map n r false (by simpa using h)
      show [fC c] ++ toV (r.map fC) false = _ ++ cleanM r false
      rw [ih]
      congr 1
      unfold fC
      by_cases hk : ctlB c = true
      · rw [if_pos hk, if_pos ⟨rfl, hk⟩]
      · rw [if_neg hk, if_neg (fun h => hk h.2)]; rfl
    · have hd := dcR_map (l := c :: r) (by rw [hg]; omega)
      have hb : badB ((c :: r).map fC) = badB (c :: r) := by unfold badB; rw [hd, hg', hg, fC_high (by omega)]
      cases hq : badB (c :: r) with
      | true =>
        rw [toV_bad hne' (hb.trans hq), cleanM_bad hne hq]
        congr 1
        exact toV_map n r true (by simpa using h)
      | false =>
        have hw := dcR_pos (c :: r)
        have hnk : ctlB c = false := by unfold ctlB; simp; omega
        rw [toV_ok hne' (hb.trans hq), cleanM_ok hne hq, hd, if_neg (by rw [hg, hnk]; simp), ← List.map_drop, ← List.map_take, toV_map n _ false (by rw [List.length_drop]; omega)]
        congr 1
        conv => rhs; rw [← List.map_id ((c :: r).take (dcR (c :: r)).2)]
        refine List.map_congr_left fun x hx => ?_
        obtain ⟨i, hi⟩ := List.mem_iff_getElem?.1 hx
        rw [List.getElem?_take] at hi
        split at hi
        · rename_i hlt
          have hx2 : x = (c :: r).getD i 0 := by rw [List.getD_eq_getElem?_getD, hi]; rfl
          refine fC_high ?_
          rw [hx2]
          have hbb := dcN_bytes (n := (c :: r).length) (b0 := ((c :: r).getD 0 0).toNat) (b1 := ((c :: r).getD 1 0).toNat) (b2 := ((c :: r).getD 2 0).toNat) (b3 := ((c :: r).getD 3 0).toNat) (by rw [hg]; omega)
          have hlt2 : i < (Lib.decodeN (c :: r).length ((c :: r).getD 0 0).toNat ((c :: r).getD 1 0).toNat ((c :: r).getD 2 0).toNat ((c :: r).getD 3 0).toNat).2 := hlt
          obtain ⟨k1, k2, k3, k4⟩ := hbb
          obtain rfl | rfl | rfl | rfl : i = 0 ∨ i = 1 ∨ i = 2 ∨ i = 3 := by omega
          · rw [hg]; omega
          · exact k1 hlt2
          · exact k2 hlt2
          · exact k3 hlt2
        · cases hi
end Go.Qd
