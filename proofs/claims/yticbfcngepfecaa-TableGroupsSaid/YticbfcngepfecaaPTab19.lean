/-
  Tables: groups, the plain law.
-/
import Derived.Test.YticbfcngepfecaaPTab18
import Derived.Test.YticbfcngepfecaaPTab16
namespace Go.Qd
open Go Go.Proofs
theorem grp_step {rows : List (List VT)} {c f : Int} {o : List Int} {S : List GT} {v : VT} {m : Nat} (h : ∃ X g, grpL rows c f o m = X ++ g :: S ∧ g.1 = v) : ∃ X g, grpL rows c f o (m + 1) = X ++ g :: S ∧ g.1 = v := by
  obtain ⟨X, g, h1, h2⟩ := h
  rw [grpL, h1]
  cases X with
  | nil =>
    rw [List.nil_append, openG]
    split
    · exact ⟨[], _, rfl, h2⟩
    · exact ⟨[_], g, rfl, h2⟩
  | cons a X =>
    rw [List.cons_append, openG]
    split
    · exact ⟨_ :: X, g, rfl, h2⟩
    · exact ⟨_ :: a :: X, g, rfl, h2⟩
theorem grp_keep {rows : List (List VT)} {c f : Int} {o : List Int} {S : List GT} {v : VT} {m : Nat} (h : ∃ X g, grpL rows c f o m = X ++ g :: S ∧ g.1 = v) : ∀ d, ∃ X g, grpL rows c f o (m + d) = X ++ g :: S ∧ g.1 = v
  | 0 => h
  | d + 1 => grp_step (grp_keep h d)
/-- A group that a row opens: where it stands at the end, and the one ahead of it. -/
theorem grp_open {rows : List (List VT)} {c f : Int} {o : List Int} {i n : Nat} (hin : i < n) (h : ∀ g gs, grpL rows c f o i = g :: gs → ¬ tcmp g.1 (cellL (rowAt rows (o.getD i 0)) c) = 0) : ∃ X g, grpL rows c f o n = X ++ g :: grpL rows c f o i ∧ g.1 = cellL (rowAt rows (o.getD i 0)) c := by
  obtain ⟨d, rfl⟩ : ∃ d, n = (i + 1) + d := ⟨n - (i + 1), by omega⟩
  refine grp_keep ?_ d
  rw [grpL]
  cases hg : grpL rows c f o i with
  | nil => exact ⟨[], _, rfl, rfl⟩
  | cons g gs => rw [openG, if_neg (h g gs hg)]; exact ⟨[], _, rfl, rfl⟩
theorem rev_new (X : List GT) (g : GT) (S : List GT) : (X ++ g :: S).reverse[S.length]? = some g := by
  rw [List.reverse_append, List.reverse_cons, List.append_assoc, List.getElem?_append_right (by rw [List.length_reverse]; exact Nat.le_refl _), List.length_reverse, Nat.sub_self]
  rfl
theorem rev_old (X : List GT) (g h : GT) (S : List GT) : (X ++ g :: h :: S).reverse[S.length]? = some h := by
  have := rev_new (X ++ [g]) h S
  rwa [List.append_assoc] at this
theorem tcmp_refl {a : VT} (h : rightV a) : tcmp a a = 0 := by
  have := tcmp_anti h h
  by_cases h1 : tcmp a a < 0
  · have := this.1.1 h1; omega
  · by_cases h2 : 0 < tcmp a a
    · have := this.2.1 h2; omega
    · omega
theorem grp_head {rows : List (List VT)} {c f : Int} {o : List Int} {i : Nat} {g : GT} {gs : List GT} (hr : rightV (cellL (rowAt rows (o.getD i 0)) c)) (h : grpL rows c f o (i + 1) = g :: gs) : tcmp g.1 (cellL (rowAt rows (o.getD i 0)) c) = 0 := by
  rw [grpL] at h
  cases hg : grpL rows c f o i with
  | nil =>
    rw [hg, openG, addG] at h
    rw [← (List.cons.inj h).1]
    exact tcmp_refl hr
  | cons a l =>
    rw [hg, openG] at h
    split at h
    · rename_i ht
      rw [addG] at h
      rw [← (List.cons.inj h).1]
      exact ht
    · rw [addG] at h
      rw [← (List.cons.inj h).1]
      exact tcmp_refl hr
/-- A row opens a group where the row ahead is told ahead of it. -/
theorem opens_iff {b p x : VT} (hb : rightV b) (hp : rightV p) (hx : rightV x) (h : tcmp b p = 0) (hs : tcmp p x ≤ 0) : aheadB p x = true ↔ ¬ tcmp b x = 0 := by
  have a1 := (ahead_tcmp hp hx).1
  have n1 := tcmp_anti hb hp
  have n2 := tcmp_anti hb hx
  have n3 := tcmp_anti hp hx
  have t1 := tcmp_trans hx hb hp
  have t2 := tcmp_trans hb hp hx
  have t3 := tcmp_trans hx hp hb
  rw [a1]
  constructor
  · intro hl he
    have e1 : tcmp x b ≤ 0 := by
      by_cases g : tcmp x b ≤ 0
      · exact g
      · have := n2.1.2 (by omega); omega
    have := t1 e1 (by omega)
    have := n3.1.1 hl
    omega
  · intro hne
    by_cases g : tcmp p x < 0
    · exact g
    · have e0 : tcmp p x = 0 := by omega
      have e1 := t2 (by omega) (by omega)
      have e2 : tcmp x p ≤ 0 := by
        by_cases g : tcmp x p ≤ 0
        · exact g
        · have := n3.1.2 (by omega); omega
      have e3 : tcmp p b ≤ 0 := by
        by_cases g : tcmp p b ≤ 0
        · exact g
        · have := n1.1.2 (by omega); omega
      have e4 := t3 e2 e3
      by_cases g2 : tcmp b x < 0
      · have := n2.1.1 g2; omega
      · omega
end Go.Qd
