/-
  Grids' differences: plain facts: the distance asked from the other end; the changes, applied.
-/
import Derived.Test.YticbfcngepfecaaPDif7
namespace Go.Qd
open Go Go.Proofs
inductive Al : List Row → List Row → Nat → Prop
  | nil : Al [] [] 0
  | del {a b n} (x : Row) : Al a b n → Al (x :: a) b (n + 1)
  | ins {a b n} (y : Row) : Al a b n → Al a (y :: b) (n + 1 + fillL y)
  | sub {a b n} (x y : Row) : Al a b n → Al (x :: a) (y :: b) (n + costL x y)
theorem dist_del (x : Row) (a b : List Row) : dist (x :: a) b ≤ dist a b + 1 := by
  cases b with
  | nil => rw [dist_cn]; omega
  | cons y b => rw [dist_cc]; omega
theorem dist_ins (y : Row) (a b : List Row) : dist a (y :: b) ≤ dist a b + 1 + fillL y := by
  cases a with
  | nil => rw [dist_nc]; omega
  | cons x a => rw [dist_cc]; omega
theorem Al.le {a b : List Row} {n : Nat} (h : Al a b n) : dist a b ≤ n := by
  induction h with
  | nil => rw [dist_nn]; omega
  | del x _ ih => exact Nat.le_trans (dist_del x _ _) (by omega)
  | ins y _ ih => exact Nat.le_trans (dist_ins y _ _) (by omega)
  | sub x y _ ih => rw [dist_cc]; omega
theorem dist_al : ∀ a b : List Row, Al a b (dist a b)
  | [], [] => by rw [dist_nn]; exact .nil
  | [], y :: b => by rw [dist_nc]; exact .ins y (dist_al [] b)
  | x :: a, [] => by rw [dist_cn]; exact .del x (dist_al a [])
  | x :: a, y :: b => by
    have h1 := Al.sub x y (dist_al a b)
    have h2 := Al.del x (dist_al a (y :: b))
    have h3 := Al.ins y (dist_al (x :: a) b)
    have h := dist_cc x y a b
    obtain h | h | h : dist (x :: a) (y :: b) = dist a b + costL x y ∨ dist (x :: a) (y :: b) = dist a (y :: b) + 1 ∨ dist (x :: a) (y :: b) = dist (x :: a) b + 1 + fillL y := by omega
    · rw [h]; exact h1
    · rw [h]; exact h2
    · rw [h]; exact h3
termination_by a b => a.length + b.length
theorem Al.eq {a b : List Row} {n m : Nat} (h : Al a b n) (e : n = m) : Al a b m := e ▸ h
theorem Al.delEnd {a b : List Row} {n : Nat} (x : Row) (h : Al a b n) : Al (a ++ [x]) b (n + 1) := by
  induction h with
  | nil => exact .del x .nil
  | del z _ ih => exact .del z ih
  | ins y _ ih => exact (Al.ins y ih).eq (by omega)
  | sub z y _ ih => exact (Al.sub z y ih).eq (by omega)
theorem Al.insEnd {a b : List Row} {n : Nat} (y : Row) (h : Al a b n) : Al a (b ++ [y]) (n + 1 + fillL y) := by
  induction h with
  | nil => exact .ins y .nil
  | del z _ ih => exact (Al.del z ih).eq (by omega)
  | ins z _ ih => exact (Al.ins z ih).eq (by omega)
  | sub z w _ ih => exact (Al.sub z w ih).eq (by omega)
theorem Al.subEnd {a b : List Row} {n : Nat} (x y : Row) (h : Al a b n) : Al (a ++ [x]) (b ++ [y]) (n + costL x y) := by
  induction h with
  | nil => exact .sub x y .nil
  | del z _ ih => exact (Al.del z ih).eq (by omega)
  | ins z _ ih => exact (Al.ins z ih).eq (by omega)
  | sub z w _ ih => exact (Al.sub z w ih).eq (by omega)
theorem Al.rev {a b : List Row} {n : Nat} (h : Al a b n) : Al a.reverse b.reverse n := by
  induction h with
  | nil => exact .nil
  | del x _ ih => rw [List.reverse_cons]; exact ih.delEnd x
  | ins y _ ih => rw [List.reverse_cons]; exact ih.insEnd y
  | sub x y _ ih => rw [List.reverse_cons, List.reverse_cons]; exact ih.subEnd x y
theorem dist_rev (a b : List Row) : dist a.reverse b.reverse = dist a b := by
  have h1 := (dist_al a b).rev.le
  have h2 := (dist_al a.reverse b.reverse).rev.le
  rw [List.reverse_reverse, List.reverse_reverse] at h2
  omega
/-- The distance between beginnings. -/
def dR (a b : List Row) (i k : Nat) : Nat := dist (a.take i).reverse (b.take k).reverse
theorem dR_all (a b : List Row) : dR a b a.length b.length = dist a b := by unfold dR; rw [List.take_length, List.take_length, dist_rev]
theorem take_rev {l : List Row} {i : Nat} {x : Row} (h : l[i]? = some x) : (l.take (i + 1)).reverse = x :: (l.take i).reverse := by rw [List.take_add_one, h]; simp
theorem dR_00 (a b : List Row) : dR a b 0 0 = 0 := by unfold dR; simp [dist_nn]
theorem dR_0s {a b : List Row} {k : Nat} {y : Row} (h : b[k]? = some y) : dR a b 0 (k + 1) = dR a b 0 k + 1 + fillL y := by unfold dR; rw [take_rev h, List.take_zero, List.reverse_nil, dist_nc]
theorem dR_s0 {a b : List Row} {i : Nat} {x : Row} (h : a[i]? = some x) : dR a b (i + 1) 0 = dR a b i 0 + 1 := by unfold dR; rw [take_rev h, List.take_zero, List.reverse_nil, dist_cn]
theorem dR_ss {a b : List Row} {i k : Nat} {x y : Row} (h : a[i]? = some x) (h' : b[k]? = some y) : dR a b (i + 1) (k + 1) = min (min (dR a b i (k + 1) + 1) (dR a b (i + 1) k + 1 + fillL y)) (dR a b i k + costL x y) := by
  unfold dR
  rw [take_rev h, take_rev h', dist_cc]
  omega
theorem dR_le {m : Nat} {a b : List Row} {i k : Nat} (h : ∀ y ∈ b, y.length ≤ m) : dR a b i k ≤ a.length + b.length * (m + 1) := by
  have h1 := dist_le (m := m) (a.take i).reverse (b.take k).reverse (fun y hy => h y (List.mem_of_mem_take (List.mem_reverse.1 hy)))
  rw [List.length_reverse, List.length_reverse, List.length_take, List.length_take] at h1
  have h2 : min k b.length * (m + 1) ≤ b.length * (m + 1) := Nat.mul_le_mul_right _ (by omega)
  unfold dR
  omega
def rowD (a b : List Row) (i n : Nat) : List Int := (List.range n).map fun k => (dR a b i k : Int)
theorem rowD_len (a b : List Row) (i n : Nat) : (rowD a b i n).length = n := by simp [rowD]
theorem rowD_succ (a b : List Row) (i n : Nat) : rowD a b i (n + 1) = rowD a b i n ++ [(dR a b i n : Int)] := by unfold rowD; rw [List.range_succ, List.map_append]; rfl
theorem rowD_get {a b : List Row} {i n k : Nat} (h : k < n) : (rowD a b i n)[k]? = some (dR a b i k : Int) := by unfold rowD; rw [List.getElem?_map, List.getElem?_range h]; rfl
/-! The changes, applied -/
theorem applyL_app (l m : List Chg) : ∀ g, applyL g (l ++ m) = (applyL g l).bind fun g' => applyL g' m := by
  induction l with
  | nil => intro g; rfl
  | cons c l ih =>
    intro g
    rw [List.cons_append, applyL, applyL]
    cases stepD g c with
    | none => rfl
    | some g' => exact ih g'
theorem tx_set {l : Row} {i k : Nat} {t : List UInt8} (h : i < l.length) : tx (l.set i t) k = if k = i then t else tx l k := by
  unfold tx
  rw [List.getD_eq_getElem?_getD, List.getD_eq_getElem?_getD, List.getElem?_set]
  by_cases e : i = k
  · subst e; rw [if_pos rfl, if_pos h, if_pos rfl]; rfl
  · rw [if_neg e, if_neg (fun h => e h.symm)]
theorem setR_tx (r : Row) (n k : Nat) (t : List UInt8) : tx (setR r (n + 1) t) k = if k = n then t else tx r k := by
  unfold setR
  rw [Nat.add_sub_cancel, tx_set (by rw [padR_len]; omega), padR_tx]
/-- A row's changes, done: it has the other row's texts. -/
theorem sets_apply (p a : List Row) (x y : Row) : ∀ n, n ≤ 702 → ∃ z : Row, applyL (p ++ x :: a) (setsP x y ((p.length : Int) + 1) n) = some (p ++ z :: a) ∧ (∀ k, tx z k = if k < n then tx y k else tx x k)
  | 0, _ => ⟨x, rfl, fun k => by rw [if_neg (by omega)]⟩
  | n + 1, hn => by
    obtain ⟨z, h1, h2⟩ := sets_apply p a x y n (by omega)
    rw [setsP, applyL_app, h1]
    by_cases he : tx x n = tx y n
    · rw [if_pos he]
      refine ⟨z, rfl, fun k => ?_⟩
      rw [h2]
      by_cases hk : k < n
      · rw [if_pos hk, if_pos (by omega)]
      · rw [if_neg hk]
        by_cases hk2 : k < n + 1
        · rw [if_pos hk2, show k = n from by omega, he]
        · rw [if_neg hk2]
    · rw [if_neg he]
      refine ⟨setR z (n + 1) (tx y n), ?_, fun k => ?_⟩
      · show applyL (p ++ z :: a) [(1, (n : Int) + 1, (p.length : Int) + 1, tx y n)] = _
        have hlen : (p ++ z :: a).length = p.length + (a.length + 1) := by rw [List.length_append, List.length_cons]
        rw [applyL]
        unfold stepD
        dsimp only
        rw [if_neg (by simp), if_neg (by simp), if_pos ⟨rfl, by omega, by omega, by omega, by omega⟩]
        rw [show ((p.length : Int) + 1 - 1).toNat = p.length from by omega, show ((n : Int) + 1).toNat = n + 1 from by omega]
        have e1 : (p ++ z :: a).getD p.length [] = z := by rw [List.getD_eq_getElem?_getD, List.getElem?_append_right (Nat.le_refl _), Nat.sub_self]; rfl
        rw [e1]
        show some _ = some _
        congr 1
        rw [List.set_append_right _ _ (Nat.le_refl _), Nat.sub_self]; rfl
      · rw [setR_tx, h2]
        by_cases hk : k = n
        · subst hk; rw [if_pos rfl, if_pos (by omega)]
        · rw [if_neg hk]
          by_cases hk2 : k < n
          · rw [if_pos hk2, if_pos (by omega)]
          · rw [if_neg hk2, if_neg (by omega)]
theorem setsL_apply (p a : List Row) (x y : Row) (hx : x.length ≤ 702) (hy : y.length ≤ 702) : ∃ z : Row, applyL (p ++ x :: a) (setsL x y ((p.length : Int) + 1)) = some (p ++ z :: a) ∧ costL z y = 0 := by
  obtain ⟨z, h1, h2⟩ := sets_apply p a x y (max x.length y.length) (by omega)
  refine ⟨z, h1, cost_trim.2 (tx_ext.2 fun k => ?_)⟩
  rw [h2]
  split
  · rfl
  · rw [tx_out (by omega), tx_out (by omega)]
theorem sameG_snoc : ∀ {p q : List Row} {x y : Row}, sameG p q = true → costL x y = 0 → sameG (p ++ [x]) (q ++ [y]) = true
  | [], [], x, y, _, h => by simp [sameG, h]
  | z :: p, w :: q, x, y, h, h2 => by
    rw [sameG, Bool.and_eq_true] at h
    show sameG (z :: (p ++ [x])) (w :: (q ++ [y])) = true
    rw [sameG, Bool.and_eq_true]
    exact ⟨h.1, sameG_snoc h.2 h2⟩
  | [], _ :: _, _, _, h, _ => by cases h
  | _ :: _, [], _, _, h, _ => by cases h
theorem step_ins (p a : List Row) : stepD (p ++ a) (2, 0, (p.length : Int), []) = some (p ++ [] :: a) := by
  unfold stepD
  dsimp only
  rw [if_pos ⟨rfl, by omega, by rw [List.length_append]; omega⟩, Int.toNat_natCast, List.take_left' rfl, List.drop_left' rfl]
theorem step_del (p a : List Row) (x : Row) : stepD (p ++ x :: a) (3, 0, (p.length : Int) + 1, []) = some (p ++ a) := by
  unfold stepD
  dsimp only
  rw [if_neg (by simp), if_pos ⟨rfl, by omega, by rw [List.length_append, List.length_cons]; omega⟩, show ((p.length : Int) + 1 - 1).toNat = p.length from by omega, List.eraseIdx_append_of_length_le (Nat.le_refl _), Nat.sub_self]; rfl
theorem ofD_apply : ∀ (a b p q : List Row), (∀ x ∈ a, x.length ≤ 702) → (∀ y ∈ b, y.length ≤ 702) → sameG p q = true → ∃ g, applyL (p ++ a) (ofD a b (p.length : Int)) = some g ∧ sameG g (q ++ b) = true := by
  intro a b
  have key : ∀ (n : Nat) (a b p q : List Row), a.length + b.length = n → (∀ x ∈ a, x.length ≤ 702) → (∀ y ∈ b, y.length ≤ 702) → sameG p q = true → ∃ g, applyL (p ++ a) (ofD a b (p.length : Int)) = some g ∧ sameG g (q ++ b) = true := by
    intro n
    induction n using Nat.strongRecOn with
    | _ n ih =>
      intro a b p q hn ha hb hs
      have hins : ∀ (a : List Row) (y : Row) (b : List Row), a.length + (y :: b).length = n → (∀ x ∈ a, x.length ≤ 702) → (∀ z ∈ y :: b, z.length ≤ 702) → ∃ g, applyL (p ++ a) ((2, 0, (p.length : Int), []) :: (setsL [] y ((p.length : Int) + 1) ++ ofD a b ((p.length : Int) + 1))) = some g ∧ sameG g (q ++ y :: b) = true := by
        intro a y b hn ha hb
        obtain ⟨z, h1, h2⟩ := setsL_apply p a [] y (Nat.zero_le _) (hb y (.head _))
        obtain ⟨g, h3, h4⟩ := ih (a.length + b.length) (by rw [List.length_cons] at hn; omega) a b (p ++ [z]) (q ++ [y]) rfl ha (fun w hw => hb w (.tail _ hw)) (sameG_snoc hs h2)
        refine ⟨g, ?_, by rw [List.append_assoc] at h4; exact h4⟩
        rw [applyL, step_ins]
        dsimp only
        rw [applyL_app, h1]
        rw [List.append_assoc, List.length_append] at h3
        exact h3
      have hdel : ∀ (x : Row) (a b : List Row), (x :: a).length + b.length = n → (∀ w ∈ x :: a, w.length ≤ 702) → (∀ z ∈ b, z.length ≤ 702) → ∃ g, applyL (p ++ x :: a) ((3, 0, (p.length : Int) + 1, []) :: ofD a b (p.length : Int)) = some g ∧ sameG g (q ++ b) = true := by
        intro x a b hn ha hb
        obtain ⟨g, h3, h4⟩ := ih (a.length + b.length) (by rw [List.length_cons] at hn; omega) a b p q rfl (fun w hw => ha w (.tail _ hw)) hb hs
        refine ⟨g, ?_, h4⟩
        rw [applyL, step_del]
        exact h3
      match a, b, hn, ha, hb with
      | [], [], _, _, _ => exact ⟨p, by rw [ofD_nn, List.append_nil]; rfl, by rw [List.append_nil]; exact hs⟩
      | [], y :: b, hn, ha, hb => rw [ofD_nc]; exact hins [] y b hn ha hb
      | x :: a, [], hn, ha, hb => rw [ofD_cn]; exact hdel x a [] hn ha hb
      | x :: a, y :: b, hn, ha, hb =>
        rw [ofD_cc]
        split
        · obtain ⟨z, h1, h2⟩ := setsL_apply p a x y (ha x (.head _)) (hb y (.head _))
          obtain ⟨g, h3, h4⟩ := ih (a.length + b.length) (by simp only [List.length_cons] at hn; omega) a b (p ++ [z]) (q ++ [y]) rfl (fun w hw => ha w (.tail _ hw)) (fun w hw => hb w (.tail _ hw)) (sameG_snoc hs h2)
          refine ⟨g, ?_, by rw [List.append_assoc] at h4; exact h4⟩
          rw [applyL_app, h1]
          rw [List.append_assoc, List.length_append] at h3
          exact h3
        · split
          · exact hdel x a (y :: b) hn ha hb
          · exact hins (x :: a) y b hn ha hb
  intro p q
  exact key _ a b p q rfl
def niceC (m : Nat) (c : Chg) : Prop := (0 ≤ c.1 ∧ c.1 ≤ 3) ∧ (0 ≤ c.2.1 ∧ c.2.1 ≤ 1000) ∧ (0 ≤ c.2.2.1 ∧ c.2.2.1 ≤ m) ∧ c.2.2.2.length ≤ 100
theorem setsP_nice {x y : Row} {row : Int} {m : Nat} (hy : ∀ t ∈ y, t.length ≤ 100) (h0 : 0 ≤ row) (hr : row ≤ m) : ∀ n, n ≤ 999 → ∀ c ∈ setsP x y row n, niceC m c
  | 0, _, c, h => by cases h
  | n + 1, hn, c, h => by
    rw [setsP] at h
    rcases List.mem_append.1 h with h | h
    · exact setsP_nice hy h0 hr n (by omega) c h
    · split at h
      · cases h
      · rw [List.mem_singleton] at h
        subst h
        refine ⟨⟨by omega, by omega⟩, ⟨by dsimp only; omega, by dsimp only; omega⟩, ⟨h0, hr⟩, ?_⟩
        unfold tx
        dsimp only
        rw [List.getD_eq_getElem?_getD]
        cases hq : y[n]? with
        | none => exact Nat.zero_le _
        | some s => exact hy s (List.mem_of_getElem? hq)
theorem ofD_nice : ∀ (n : Nat) (a b : List Row) (k : Nat), a.length + b.length = n → (∀ x ∈ a, wideR x) → (∀ y ∈ b, wideR y) → ∀ c ∈ ofD a b (k : Int), niceC (k + n + 1) c := by
  intro n
  induction n using Nat.strongRecOn with
  | _ n ih =>
    intro a b k hn ha hb
    have hmono : ∀ {m m' : Nat} {c : Chg}, m ≤ m' → niceC m c → niceC m' c := fun hm h => ⟨h.1, h.2.1, ⟨h.2.2.1.1, by have := h.2.2.1.2; omega⟩, h.2.2.2⟩
    have hsets : ∀ (x y : Row), wideR x → wideR y → ∀ c ∈ setsL x y ((k : Int) + 1), niceC (k + n + 1) c := by
      intro x y hx hy c hc
      exact setsP_nice hy.2 (by omega) (by omega) (max x.length y.length) (by have := hx.1; have := hy.1; omega) c hc
    have hnil : wideR [] := ⟨Nat.zero_le _, fun t ht => by cases ht⟩
    have hins : ∀ (a : List Row) (y : Row) (b : List Row), a.length + (y :: b).length = n → (∀ x ∈ a, wideR x) → (∀ z ∈ y :: b, wideR z) → ∀ c ∈ (2, 0, (k : Int), []) :: (setsL [] y ((k : Int) + 1) ++ ofD a b ((k : Int) + 1)), niceC (k + n + 1) c := by
      intro a y b hn ha hb c hc
      rcases List.mem_cons.1 hc with hc | hc
      · subst hc; exact ⟨⟨by dsimp only; omega, by dsimp only; omega⟩, ⟨by dsimp only; omega, by dsimp only; omega⟩, ⟨by dsimp only; omega, by dsimp only; omega⟩, Nat.zero_le _⟩
      · rcases List.mem_append.1 hc with hc | hc
        · exact hsets [] y hnil (hb y (.head _)) c hc
        · rw [List.length_cons] at hn
          exact hmono (by omega) (ih (a.length + b.length) (by omega) a b (k + 1) rfl ha (fun w hw => hb w (.tail _ hw)) c hc)
    have hdel : ∀ (x : Row) (a b : List Row), (x :: a).length + b.length = n → (∀ w ∈ x :: a, wideR w) → (∀ z ∈ b, wideR z) → ∀ c ∈ (3, 0, (k : Int) + 1, []) :: ofD a b (k : Int), niceC (k + n + 1) c := by
      intro x a b hn ha hb c hc
      rcases List.mem_cons.1 hc with hc | hc
      · subst hc; exact ⟨⟨by dsimp only; omega, by dsimp only; omega⟩, ⟨by dsimp only; omega, by dsimp only; omega⟩, ⟨by dsimp only; omega, by dsimp only; omega⟩, Nat.zero_le _⟩
      · rw [List.length_cons] at hn
        exact hmono (by omega) (ih (a.length + b.length) (by omega) a b k rfl (fun w hw => ha w (.tail _ hw)) hb c hc)
    match a, b, hn, ha, hb with
    | [], [], _, _, _ => intro c hc; rw [ofD_nn] at hc; cases hc
    | [], y :: b, hn, ha, hb => rw [ofD_nc]; exact hins [] y b hn ha hb
    | x :: a, [], hn, ha, hb => rw [ofD_cn]; exact hdel x a [] hn ha hb
    | x :: a, y :: b, hn, ha, hb =>
      rw [ofD_cc]
      split
      · intro c hc
        rcases List.mem_append.1 hc with hc | hc
        · exact hsets x y (ha x (.head _)) (hb y (.head _)) c hc
        · simp only [List.length_cons] at hn
          exact hmono (by omega) (ih (a.length + b.length) (by omega) a b (k + 1) rfl (fun w hw => ha w (.tail _ hw)) (fun w hw => hb w (.tail _ hw)) c hc)
      · split
        · exact hdel x a (y :: b) hn ha hb
        · exact hins (x :: a) y b hn ha hb
end Go.Qd
