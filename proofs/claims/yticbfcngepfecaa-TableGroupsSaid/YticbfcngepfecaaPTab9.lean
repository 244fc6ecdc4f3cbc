/-
  Tables: rows that are sorted stay so; the law of the order.
-/
import Derived.Test.YticbfcngepfecaaPTab8
namespace Go.Qd
open Go Go.Proofs
theorem tcmp_anti {a b : VT} (ha : rightV a) (hb : rightV b) : (tcmp a b < 0 ↔ 0 < tcmp b a) ∧ (0 < tcmp a b ↔ tcmp b a < 0) := by
  have h1 := ahead_tcmp ha hb
  have h2 := ahead_tcmp hb ha
  exact ⟨h1.1.symm.trans h2.2, h1.2.symm.trans h2.1⟩
theorem cellL_right {l : List VT} (hl : ∀ x ∈ l, rightV x) (c : Int) : rightV (cellL l c) := by
  by_cases h : 0 ≤ c ∧ c < l.length
  · exact hl _ (List.mem_of_getElem? (cell_in h.1 h.2))
  · rw [cell_out (by omega)]; exact .inl ⟨rfl, rfl, rfl⟩
theorem keyCmp_anti {a b : List VT} (ha : ∀ x ∈ a, rightV x) (hb : ∀ x ∈ b, rightV x) (q : Int × Bool) : (keyCmp a b q < 0 ↔ 0 < keyCmp b a q) ∧ (0 < keyCmp a b q ↔ keyCmp b a q < 0) := by
  have h := tcmp_anti (cellL_right ha q.1) (cellL_right hb q.1)
  unfold keyCmp
  by_cases h1 : q.2 = true ∧ ¬ (cellL a q.1).1 = 0 ∧ ¬ (cellL b q.1).1 = 0
  · rw [if_pos h1, if_pos ⟨h1.1, h1.2.2, h1.2.1⟩]
    constructor <;> constructor <;> intro h2
    · have := h.2.1 (by omega); omega
    · have := h.2.2 (by omega); omega
    · have := h.1.1 (by omega); omega
    · have := h.1.2 (by omega); omega
  · rw [if_neg h1, if_neg (fun h2 => h1 ⟨h2.1, h2.2.2, h2.2.1⟩)]
    exact h
theorem rowCmp_anti {a b : List VT} (ha : ∀ x ∈ a, rightV x) (hb : ∀ x ∈ b, rightV x) : ∀ ks : List (Int × Bool), rowCmp a b ks < 0 → ¬ rowCmp b a ks < 0
  | [], h => by simp [rowCmp] at h
  | q :: ks, h => by
    have hk := keyCmp_anti ha hb q
    rw [rowCmp] at h ⊢
    by_cases h0 : keyCmp a b q = 0
    · have h1 : keyCmp b a q = 0 := by
        by_cases h2 : keyCmp b a q = 0
        · exact h2
        · by_cases h3 : keyCmp b a q < 0
          · have := hk.2.2 h3; omega
          · have := hk.1.2 (by omega); omega
      rw [if_pos h0] at h
      rw [if_pos h1]
      exact rowCmp_anti ha hb ks h
    · rw [if_neg h0] at h
      have := hk.1.1 h
      rw [if_neg (by omega)]; omega
/-- Neighbours stand as they are told. -/
def adjL (lt : Int → Int → Bool) (l : List Int) : Prop := ∀ (j : Nat) (x y : Int), l[j]? = some x → l[j + 1]? = some y → lt y x = false
theorem insK_spec (lt : Int → Int → Bool) (l : List Int) (x : Int) : ∀ j, j ≤ l.length → (∀ y, 0 < insK lt l x j → l[insK lt l x j - 1]? = some y → lt x y = false) ∧ ∀ (i : Nat) (y : Int), insK lt l x j ≤ i → i < j → l[i]? = some y → lt x y = true
  | 0, _ => ⟨fun y h => absurd h (Nat.lt_irrefl _), fun i y _ h => absurd h (Nat.not_lt_zero _)⟩
  | j + 1, hj => by
    have ih := insK_spec lt l x j (by omega)
    rw [insK]
    by_cases h : lt x (l.getD j 0) = true
    · rw [if_pos h]
      refine ⟨ih.1, fun i y h1 h2 h3 => ?_⟩
      by_cases e : i = j
      · subst e
        rw [List.getD_eq_getElem?_getD, h3] at h
        exact h
      · exact ih.2 i y h1 (by omega) h3
    · rw [if_neg h]
      refine ⟨fun y _ h3 => ?_, fun i y h1 h2 => by omega⟩
      rw [Nat.add_sub_cancel] at h3
      rw [List.getD_eq_getElem?_getD, h3] at h
      simpa using h
theorem insL_get {lt : Int → Int → Bool} {l : List Int} {x : Int} (i : Nat) : (insL lt l x)[i]? = if i < insK lt l x l.length then l[i]? else if i = insK lt l x l.length then some x else l[i - 1]? := by
  have hk := insK_le lt l x l.length
  obtain ⟨k, hkk⟩ : ∃ k, k = insK lt l x l.length := ⟨_, rfl⟩
  unfold insL
  rw [← hkk] at hk ⊢
  have e : (l.take k).length = k := by rw [List.length_take]; omega
  by_cases h1 : i < k
  · rw [if_pos h1, List.getElem?_append_left (by omega), List.getElem?_take, if_pos h1]
  · rw [if_neg h1, List.getElem?_append_right (by omega), e]
    by_cases h2 : i = k
    · rw [if_pos h2, h2, Nat.sub_self]; rfl
    · rw [if_neg h2, show i - k = (i - 1 - k) + 1 from by omega, List.getElem?_cons_succ, List.getElem?_drop, show k + (i - 1 - k) = i - 1 from by omega]
theorem insL_adj {lt : Int → Int → Bool} {l : List Int} {x : Int} (h : adjL lt l) (ha : ∀ y ∈ l, lt x y = true → lt y x = false) : adjL lt (insL lt l x) := by
  intro j u v hu hv
  obtain ⟨s1, s2⟩ := insK_spec lt l x l.length (Nat.le_refl _)
  rw [insL_get] at hu hv
  obtain ⟨k, hkk⟩ : ∃ k, k = insK lt l x l.length := ⟨_, rfl⟩
  rw [← hkk] at hu hv s1 s2
  by_cases h1 : j + 1 < k
  · rw [if_pos (by omega)] at hu
    rw [if_pos h1] at hv
    exact h j u v hu hv
  · by_cases h2 : j + 1 = k
    · rw [if_pos (by omega)] at hu
      rw [if_neg h1, if_pos h2] at hv
      obtain rfl := Option.some.inj hv
      exact s1 u (by omega) (by rw [show k - 1 = j from by omega]; exact hu)
    · rw [if_neg h1, if_neg h2, Nat.add_sub_cancel] at hv
      by_cases h3 : j = k
      · rw [if_neg (by omega), if_pos h3] at hu
        obtain rfl := Option.some.inj hu
        have hvl := (List.getElem?_eq_some_iff.1 hv).1
        exact ha v (List.mem_of_getElem? hv) (s2 j v (by omega) hvl hv)
      · rw [if_neg (by omega), if_neg h3] at hu
        obtain ⟨q, rfl⟩ : ∃ q, j = q + 1 := ⟨j - 1, by omega⟩
        rw [Nat.add_sub_cancel] at hu
        exact h q u v hu hv
theorem ordL_adj {lt : Int → Int → Bool} {n : Nat} (ha : ∀ x y : Int, 0 ≤ x → x < n → 0 ≤ y → y < n → lt x y = true → lt y x = false) : ∀ i, i ≤ n → adjL lt (ordL lt i)
  | 0, _ => fun j x y h => by simp [ordL] at h
  | i + 1, hi => by
    rw [ordL]
    exact insL_adj (ordL_adj ha i (by omega)) fun y hy h => by
      have := ordL_mem hy
      exact ha _ _ (by omega) (by omega) (by omega) (by omega) h
end Go.Qd
