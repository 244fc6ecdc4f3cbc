/-
  Tables: rows that are sorted stay so; the law of the order.
-/
import Derived.Test.YticbfcngepfecaaPTab8
namespace Go.Qd
open Go Go.Proofs
theorem tcmp_anti {a b : VT} (ha : rightV a) (hb : rightV b) : (tcmp a b < 0 ↔ 0 < tcmp b a) ∧ (0 < tcmp a b ↔ tcmp b a < 0) := by
  have h1 := ahead_tcmp ha hb
  have h2 := ahead_tcmp hb ha
  exact ⟨h1.1.symm.trans h2.2, h1.2.symm.trans h2.1⟩
theorem cellL_right {l : List VT} (hl : ∀ x ∈ l, rightV x) (c : Int) : rightV (cellL l c) := by
  by_cases h : 0 ≤ c ∧ c < l.length
  · exact hl _ (List.mem_of_getElem? (cell_in h.1 h.2))
  · rw [cell_out (by omega)]; exact .inl ⟨rfl, rfl, rfl⟩
theorem keyCmp_anti {a b : List VT} (ha : ∀ x ∈ a, rightV x) (hb : ∀ x ∈ b, rightV x) (q : Int × Bool) : (keyCmp a b q < 0 ↔ 0 < keyCmp b a q) ∧ (0 < keyCmp a b q ↔ keyCmp b a q < 0) := by
  have h := tcmp_anti (cellL_right ha q.1) (cellL_right hb q.1)
  unfold keyCmp
  by_cases h1 : q.2 = true ∧ ¬ (cellL a q.1).1 = 0 ∧ ¬ (cellL b q.1).1 = 0
  · rw [if_pos h1, if_pos ⟨h1.1, h1.2.2, h1.2.1⟩]
    constructor <;> constructor <;> intro h2
    · have := h.2.1 (by omega); omega
    · have := h.2.2 (by omega); omega
    · have := h.1.1 (by omega); omega
    · have := h.1.2 (by omega); omega
  · rw [if_neg h1, if_neg (fun h2 => h1 ⟨h2.1, h2.2.2, h2.2.1⟩)]
    exact h
theorem rowCmp_anti {a b : List VT} (ha : ∀ x ∈ a, rightV x) (hb : ∀ x ∈ b, rightV x) : ∀ ks : List (Int × Bool), rowCmp a b ks < 0 → ¬ rowCmp b a ks < 0
  | [], h => by simp [rowCmp] at h
  | q :: ks, h => by
    have hk := keyCmp_anti ha hb q
    rw [rowCmp] at h ⊢
    by_cases h0 : keyCmp a b q = 0
    · have h1 : keyCmp b a q = 0 := by
        by_cases h2 : keyCmp b a q = 0
        · exact h2
        · by_cases h3 : keyCmp b a q < 0
          · have := hk.2.2 h3; omega
          · have := hk.1.2 (by omega); omega
      rw [if_pos h0] at h
      rw [if_pos h1]
      exact rowCmp_anti ha hb ks h
    · rw [if_neg h0] at h
      have := hk.1.1 h
      rw [if_neg (by omega)]; omega
/-- Neighbours stand as they are told. -/
def adjL (lt : Int → Int → Bool) (l : List Int) : Prop := ∀ (j : Nat) (x y : Int), l[j]? = some x → l[j + 1]? = some y → lt y x = false
theorem insK_spec (lt : Int → Int → Bool) (l : List Int) (x : Int) : ∀ j, j ≤ l.length → (∀ y, 0 < insK lt l x j → l[insK lt l x j - 1]? = some y → lt x y = false) ∧ ∀ (i : Nat) (y : Int), insK lt l x j ≤ i → i < j → l[i]? = some y → lt x y = true
  | 0, _ => ⟨fun y h => absurd h (Nat.lt_irrefl _), fun i y _ h => absurd h (Nat.not_lt_zero _)⟩
  | j + 1, hj => by
    have ih := insK_spec lt l x j (by omega)
    rw [insK]
    by_cases h : lt x (l.getD j 0) = true
    · rw [if_pos h]
      refine ⟨ih.1, fun i y h1 h2 h3 => ?_⟩
      by_cases e : i = j
      · subst e
        rw [List.getD_eq_getElem?_getD, h3] at h
        exact h
      · exact ih.2 i y h1 (by omega) h3
    · rw [if_neg h]
      refine ⟨fun y _ h3 => ?_, fun i y h1 h2 => by omega⟩
      rw [Nat.add_sub_cancel] at h3
      rw [List.getD_eq_getElem?_getD, h3] at h
      simpa using h
theorem insL_get {lt : Int → Int → Bool} {l : List Int} {x : Int} (i : Nat) : (insL lt l x)[i]? = if i < insK lt l x l.length then l[i]? else if i = insK lt l x l.length then some x else l[i - 1]? := by
  have hk := insK_le lt l x l.length
  obtain ⟨k, hkk⟩ : ∃ k, k = insK lt l x l.length := ⟨_, rfl⟩
  unfold insL
  rw [← hkk] at hk ⊢
  have e : (l.take k).length = k := by rw [List.length_take]; omega
  by_cases h1 : i < k
  · rw [if_pos h1, List.getElem?_append_left (by omega), List.getElem?_take, if_pos h1]
  · rw [if_neg h1, List.getElem?_append_right (by omega), e]
    by_cases h2 : i = k
    · rw [if_pos h2, h2, Nat.sub_self]; rfl
    · rw [if_neg h2, show i - k = (i - 1 - k) + 1 from by omega, List.getElem?_cons_succ, List.getElem?_drop, show k + (i - 1 - k) = i - 1 from by omega]
theorem insL_adj {lt : Int → Int → Bool} {l : List Int} {x : Int} (h : adjL lt l) (ha : ∀ y ∈ l, lt x y = true → lt y x = false) : adjL lt (insL lt l x) := by
  intro j u v hu hv
  obtain ⟨s1, s2⟩ := insK_spec lt l x l.length (Nat.le_refl _)
  rw [insL_get] at hu hv
  obtain ⟨k, hkk⟩ : ∃ k, k = insK lt l x l.length := ⟨_, rfl⟩
  rw [← hkk] at hu hv s1 s2
  by_cases h1 : j + 1 < k
  · rw [if_pos (by omega)] at hu
    rw [if_pos h1] at hv
    exact h j u v hu hv
  · by_cases h2 : j + 1 = k
    · rw [if_pos (by omega)] at hu
      rw [if_neg h1, if_pos h2] at hv
      obtain rfl := Option.some.inj hv
      exact s1 u (by omega) (by rw [show k - 1 = j from by omega]; exact hu)
    · rw [if_neg h1, if_neg h2, Nat.add_sub_cancel] at hv
      by_cases h3 : j = k
      · rw [if_neg (by omega), if_pos h3] at hu
        obtain rfl := Option.some.inj hu
        have hvl := (List.getElem?_eq_some_iff.1 hv).1
        exact ha v (List.mem_of_getElem? hv) (s2 j v (by omega) hvl hv)
      · rw [if_neg (by omega), if_neg h3] at hu
        obtain ⟨q, rfl⟩ : ∃ q, j = q + 1 := ⟨j - 1, by omega⟩
        rw [Nat.add_sub_cancel] at hu
        exact h q u v hu hv
theorem ordL_adj {lt : Int → Int → Bool} {n : Nat} (ha : ∀ x y : Int, 0 ≤ x → x < n → 0 ≤ y → y < n → lt x y = true → lt y x = false) : ∀ i, i ≤ n → adjL lt (ordL lt i)
  | 0, _ => fun j x y h => by simp [ordL] at h
  | i + 1, hi => by
    rw [ordL]
    exact insL_adj (ordL_adj ha i (by omega)) fun y hy h => by
      have := ordL_mem hy
      exact ha _ _ (by omega) (by omega) (by omega) (by omega) h
theorem ordL_id {lt : Int → Int → Bool} {n : Nat} (h : ∀ j : Nat, j + 1 < n → lt ((j + 1 : Nat) : Int) (j : Int) = false) : ∀ i, i ≤ n → ordL lt i = rngL 0 i
  | 0, _ => rfl
  | i + 1, hi => by
    have hl : (rngL 0 i).length = i := by rw [rngL_len]; omega
    rw [ordL, ordL_id h i (by omega), insL, hl, rngL_snoc]
    have e : insK lt (rngL 0 i) (i : Int) i = i := by
      cases i with
      | zero => rfl
      | succ i =>
        have hg : (rngL 0 (i + 1)).getD i 0 = (i : Int) := by
          rw [rngL_snoc, List.getD_eq_getElem?_getD, List.getElem?_append_right (by rw [rngL_len]; omega), rngL_len]
          simp
        rw [insK, hg, h i hi]; rfl
    rw [e, List.take_of_length_le (by omega), List.drop_of_length_le (by omega)]
theorem rngL_get {n i : Nat} (h : i < n) : (rngL 0 n)[i]? = some (i : Int) := by
  unfold rngL
  rw [List.getElem?_map, List.getElem?_range' (by omega)]; simp
theorem sortL_len (l : List (List VT)) (ks : List (Int × Bool)) : (sortL l ks).length = l.length := by rw [sortL, List.length_map, ordL_len]
theorem sortL_get {l : List (List VT)} {ks : List (Int × Bool)} {i : Nat} {x : Int} (h : (ordL (ltR l ks) l.length)[i]? = some x) : (sortL l ks)[i]? = some (rowAt l x) := by rw [sortL, List.getElem?_map, h]; rfl
theorem sortL_mem {l : List (List VT)} {ks : List (Int × Bool)} {r : List VT} (h : r ∈ sortL l ks) : r ∈ l := by
  obtain ⟨x, hx, rfl⟩ := List.mem_map.1 h
  have := ordL_mem hx
  exact List.mem_of_getElem? (rowAt_get (by omega))
theorem sortL_idem {l : List (List VT)} {ks : List (Int × Bool)} (hr : ∀ r ∈ l, ∀ y ∈ r, rightV y) : sortL (sortL l ks) ks = sortL l ks := by
  obtain ⟨s, hs⟩ : ∃ s, s = sortL l ks := ⟨_, rfl⟩
  have hsl : s.length = l.length := hs ▸ sortL_len l ks
  have hrow : ∀ x : Int, 0 ≤ x → x < l.length → ∀ y ∈ rowAt l x, rightV y := fun x h1 h2 => hr _ (List.mem_of_getElem? (rowAt_get (by omega)))
  have hadj := ordL_adj (lt := ltR l ks) (n := l.length) (fun x y h1 h2 h3 h4 h => decide_eq_false (rowCmp_anti (hrow x h1 h2) (hrow y h3 h4) ks (of_decide_eq_true h))) l.length (Nat.le_refl _)
  have hid : ordL (ltR s ks) s.length = rngL 0 s.length := ordL_id (n := s.length) (fun j hj => by
    have hl := ordL_len (ltR l ks) l.length
    obtain ⟨x, hx⟩ : ∃ x, (ordL (ltR l ks) l.length)[j]? = some x := ⟨_, List.getElem?_eq_getElem (by omega)⟩
    obtain ⟨y, hy⟩ : ∃ y, (ordL (ltR l ks) l.length)[j + 1]? = some y := ⟨_, List.getElem?_eq_getElem (by omega)⟩
    have h1 := sortL_get hx
    have h2 := sortL_get hy
    have e1 : rowAt s (j : Int) = rowAt l x := by
      rw [← hs] at h1
      have := rowAt_get (rows := s) (i := (j : Int)) (by omega)
      rw [Int.toNat_natCast, h1] at this
      exact (Option.some.inj this).symm
    have e2 : rowAt s ((j + 1 : Nat) : Int) = rowAt l y := by
      rw [← hs] at h2
      have := rowAt_get (rows := s) (i := ((j + 1 : Nat) : Int)) (by omega)
      rw [Int.toNat_natCast, h2] at this
      exact (Option.some.inj this).symm
    show decide (rowCmp (rowAt s ((j + 1 : Nat) : Int)) (rowAt s (j : Int)) ks < 0) = false
    rw [e1, e2]
    exact hadj j x y hx hy) s.length (Nat.le_refl _)
  rw [← hs]
  apply List.ext_getElem?
  intro i
  by_cases hi : i < s.length
  · rw [sortL, hid, List.getElem?_map, rngL_get hi]
    show some (rowAt s (i : Int)) = s[i]?
    have := rowAt_get (rows := s) (i := (i : Int)) (by omega)
    rw [Int.toNat_natCast] at this
    exact this.symm
  · rw [List.getElem?_eq_none (by rw [sortL_len]; omega), List.getElem?_eq_none (by omega)]
end Go.Qd
