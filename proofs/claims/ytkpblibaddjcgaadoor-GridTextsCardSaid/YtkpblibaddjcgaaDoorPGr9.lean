/-
  Texts of a window: the whole text, as lists.
-/
import Derived.Test.YtkpblibaddjcgaaDoorPGr7
import Derived.Test.YtkpblibaddjcgaaDoorPDig
import Derived.Test.YtkpblibaddjcgaaDoorPA1
import Derived.Test.YtkpblibaddjcgaaDoorPStamp
namespace Go.Qd
open Go Go.Proofs
abbrev RowL := List (List UInt8)
def cellM (s : List UInt8) : List UInt8 := cutM (cleanM s false) 20
def rowM (row i : Nat) (l : RowL) : RowL := intB ((row + i : Nat) : Int) :: l.map cellM
def headM (col : Nat) : List RowL → RowL
  | [] => [[]]
  | l :: _ => [] :: (List.range l.length).map (fun k => colB ((col + k : Nat) : Int))
def rowsF (row : Nat) : Nat → List RowL → List RowL
  | _, [] => []
  | i, l :: r => rowM row i l :: rowsF row (i + 1) r
def rowsM (col row : Nat) (cells : List RowL) : List RowL := headM col cells :: rowsF row 0 cells
def rnA (k : Nat) (l : RowL) : Nat :=
  match l[k]? with
  | some s => rnF s 0
  | none => 0
def wideM (R : List RowL) (k : Nat) : Nat := (R.map (rnA k)).foldl max 0
def lineF (W : Nat → Nat) : Nat → RowL → List UInt8
  | _, [] => []
  | k, s :: r => padM s (W k) ++ [124] ++ lineF W (k + 1) r
def textM (R : List RowL) : List UInt8 := (R.map fun l => lineF (wideM R) 0 l ++ [10]).flatten
theorem cleanM_len : ∀ (n : Nat) (l : List UInt8) (sp : Bool), l.length ≤ n → (cleanM l sp).length ≤ l.length
  | 0, l, sp, h => by
    have : l = [] := List.eq_nil_of_length_eq_zero (by omega)
    subst this
    rw [cleanM_nil]; exact Nat.le_refl _
  | n + 1, l, sp, h => by
    by_cases hl : l = []
    · subst hl; rw [cleanM_nil]; exact Nat.le_refl _
    have hpos : 0 < l.length := List.length_pos_iff.2 hl
    have hw := dcR_pos l
    have hw2 := dcR_le hl
    cases hb : badB l with
    | true =>
      rw [cleanM_bad hl hb, List.length_append]
      have := cleanM_len n (l.drop 1) true (by rw [List.length_drop]; omega)
      rw [List.length_drop] at this
      split <;> simp only [List.length_nil, List.length_cons] <;> omega
    | false =>
      rw [cleanM_ok hl hb, List.length_append]
      have := cleanM_len n (l.drop (dcR l).2) false (by rw [List.length_drop]; omega)
      rw [List.length_drop] at this
      split
      · simp; omega
      · rw [List.length_take]; omega
theorem rn1 (c : UInt8) : rnF [c] 0 = 1 := by
  rw [rnF_lt (by simp), rnF_end (by have := dcR_pos [c]; simp; omega)]
theorem rn0 : rnF [] 0 = 0 := rnF_end (by simp)
theorem clean5 : cleanM [53] false = [53] := by
  have h1 : (dcR [53]).2 = 1 := by decide
  have h2 : badB [53] = false := by decide
  rw [cleanM_ok (by simp) h2, h1]
  show (if (1 : Nat) = 1 ∧ ctlB 53 = true then [63] else [53]) ++ cleanM [] false = [53]
  rw [cleanM_nil, if_neg (by decide)]; rfl
theorem ex_rows : rowsM 1 1 [[[53]]] = [[[], [65]], [[49], [53]]] := by
  have e1 : cellM [53] = [53] := by unfold cellM cutM; rw [clean5, rn1, if_pos (by omega)]
  have e2 : intB ((1 + 0 : Nat) : Int) = [49] := by decide +kernel
  have e3 : colB ((1 + 0 : Nat) : Int) = [65] := by decide +kernel
  show [[] :: [colB ((1 + 0 : Nat) : Int)], [intB ((1 + 0 : Nat) : Int), cellM [53]]] = _
  rw [e1, e2, e3]
theorem ex_text : textM (rowsM 1 1 [[[53]]]) = [32, 124, 65, 124, 10, 49, 124, 53, 124, 10] := by
  rw [ex_rows]
  have w0 : wideM [[[], [65]], [[49], [53]]] 0 = 1 := by show max (max 0 (rnF [] 0)) (rnF [49] 0) = 1; rw [rn0, rn1]; rfl
  have w1 : wideM [[[], [65]], [[49], [53]]] 1 = 1 := by show max (max 0 (rnF [65] 0)) (rnF [53] 0) = 1; rw [rn1, rn1]; rfl
  have p0 : padM [] 1 = [32] := by unfold padM; rw [rn0]; rfl
  have p1 : ∀ c, padM [c] 1 = [c] := fun c => by
    unfold padM
    rw [rn1]
    split <;> rfl
  show padM [] (wideM _ 0) ++ [124] ++ (padM [65] (wideM _ 1) ++ [124] ++ []) ++ [10] ++ (padM [49] (wideM _ 0) ++ [124] ++ (padM [53] (wideM _ 1) ++ [124] ++ []) ++ [10] ++ []) = _
  rw [w0, w1, p0, p1, p1, p1]; rfl
theorem wideM_snoc (R : List RowL) (l : RowL) (k : Nat) : wideM (R ++ [l]) k = max (wideM R k) (rnA k l) := by
  unfold wideM
  rw [List.map_append, List.foldl_append]; rfl
theorem foldl_max_le (b : Nat) : ∀ (l : List Nat) (a : Nat), a ≤ b → (∀ x ∈ l, x ≤ b) → l.foldl max a ≤ b
  | [], _, h, _ => h
  | x :: l, a, h, hl => foldl_max_le b l (max a x) (by have := hl x (.head _); omega) (fun y hy => hl y (.tail _ hy))
theorem le_foldl_max : ∀ (l : List Nat) (a : Nat), a ≤ l.foldl max a ∧ ∀ x ∈ l, x ≤ l.foldl max a
  | [], a => ⟨Nat.le_refl _, fun _ h => by cases h⟩
  | x :: l, a => by
    obtain ⟨h1, h2⟩ := le_foldl_max l (max a x)
    refine ⟨by show a ≤ l.foldl max (max a x); omega, fun y hy => ?_⟩
    show y ≤ l.foldl max (max a x)
    cases hy with
    | head => omega
    | tail _ hy => exact h2 y hy
theorem rnA_le {k b : Nat} {l : RowL} (h : ∀ s ∈ l, s.length ≤ b) : rnA k l ≤ b := by
  unfold rnA
  cases hk : l[k]? with
  | none => exact Nat.zero_le _
  | some s => have := rnF_len s; have := h s (List.mem_of_getElem? hk); dsimp only; omega
theorem wideM_le {R : List RowL} {k b : Nat} (h : ∀ l ∈ R, ∀ s ∈ l, s.length ≤ b) : wideM R k ≤ b :=
  foldl_max_le b _ 0 (Nat.zero_le _) (fun x hx => by
    obtain ⟨l, hl, rfl⟩ := List.mem_map.1 hx
    exact rnA_le (h l hl))
theorem le_wideM {R : List RowL} {l : RowL} {k : Nat} {s : List UInt8} (hl : l ∈ R) (hk : l[k]? = some s) : rnF s 0 ≤ wideM R k := by
  have h := (le_foldl_max (R.map (rnA k)) 0).2 (rnA k l) (List.mem_map.2 ⟨l, hl, rfl⟩)
  have e : rnA k l = rnF s 0 := by unfold rnA; rw [hk]
  rw [e] at h
  exact h
theorem padM_len (l : List UInt8) (w : Nat) : (padM l w).length ≤ l.length + w := by
  unfold padM
  split <;> simp only [List.length_append, List.length_replicate] <;> omega
theorem cellM_len (s : List UInt8) : (cellM s).length ≤ s.length + 1 := by
  unfold cellM cutM
  have := cleanM_len s.length s false (Nat.le_refl _)
  split
  · omega
  · rw [List.length_append, List.length_take]; simp only [List.length_cons, List.length_nil]; omega
theorem lineF_snoc (W : Nat → Nat) : ∀ (l : RowL) (k : Nat) (s : List UInt8), lineF W k (l ++ [s]) = lineF W k l ++ (padM s (W (k + l.length)) ++ [124])
  | [], k, s => by simp [lineF]
  | x :: l, k, s => by
    rw [List.cons_append, lineF, lineF, lineF_snoc W l (k + 1) s, List.length_cons, show k + 1 + l.length = k + (l.length + 1) by omega]
    simp
theorem rowsF_snoc (row : Nat) : ∀ (c : List RowL) (i : Nat) (l : RowL), rowsF row i (c ++ [l]) = rowsF row i c ++ [rowM row (i + c.length) l]
  | [], i, l => by simp [rowsF]
  | x :: c, i, l => by
    rw [List.cons_append, rowsF, rowsF, rowsF_snoc row c (i + 1) l, List.length_cons, show i + 1 + c.length = i + (c.length + 1) by omega]
    rfl
theorem rowsF_len (row : Nat) : ∀ (c : List RowL) (i : Nat), (rowsF row i c).length = c.length
  | [], _ => rfl
  | x :: c, i => by rw [rowsF, List.length_cons, rowsF_len row c, List.length_cons]
theorem rowsF_ok (row : Nat) (hrow : row ≤ 100000) : ∀ (c : List RowL) (i : Nat), i + c.length ≤ 1000 → (∀ l ∈ c, l.length ≤ 10 ∧ ∀ s ∈ l, s.length ≤ 1000) → ∀ l ∈ rowsF row i c, l.length ≤ 20 ∧ ∀ s ∈ l, s.length ≤ 2000
  | [], _, _, _, l, h => by cases h
  | x :: c, i, hi, hc, l, h => by
    rw [List.length_cons] at hi
    rw [rowsF] at h
    cases h with
    | head =>
      obtain ⟨h1, h2⟩ := hc x (.head _)
      refine ⟨by unfold rowM; rw [List.length_cons, List.length_map]; omega, fun s hs => ?_⟩
      unfold rowM at hs
      cases hs with
      | head =>
        have := intB_le (n := ((row + i : Nat) : Int)) (by omega)
        omega
      | tail _ hs =>
        obtain ⟨y, hy, rfl⟩ := List.mem_map.1 hs
        have := cellM_len y
        have := h2 y hy
        omega
    | tail _ h => exact rowsF_ok row hrow c (i + 1) (by omega) (fun l hl => hc l (.tail _ hl)) l h
theorem rowsM_ok (col row : Nat) (cells : List RowL) (hrow : row ≤ 100000) (hn : cells.length ≤ 50) (hc : ∀ l ∈ cells, l.length ≤ 10 ∧ ∀ s ∈ l, s.length ≤ 1000) :
    (rowsM col row cells).length ≤ 60 ∧ ∀ l ∈ rowsM col row cells, l.length ≤ 20 ∧ ∀ s ∈ l, s.length ≤ 2000 := by
  refine ⟨by unfold rowsM; rw [List.length_cons, rowsF_len]; omega, fun l h => ?_⟩
  unfold rowsM at h
  cases h with
  | tail _ h => exact rowsF_ok row hrow cells 0 (by omega) hc l h
  | head =>
    cases cells with
    | nil => exact ⟨by simp [headM], fun s hs => by simp [headM] at hs; subst hs; simp⟩
    | cons x c =>
      obtain ⟨h1, _⟩ := hc x (.head _)
      refine ⟨by unfold headM; rw [List.length_cons, List.length_map, List.length_range]; omega, fun s hs => ?_⟩
      unfold headM at hs
      cases hs with
      | head => simp
      | tail _ hs =>
        obtain ⟨k, _, rfl⟩ := List.mem_map.1 hs
        have := colB_le ((col + k : Nat) : Int)
        omega
end Go.Qd
