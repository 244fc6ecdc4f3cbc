/-
  What the functions of package a1, and of the document's answer to it, compute.
-/
import Derived.Test.YtekdpgnfinbnkaaPStamp
import Derived.Test.YtekdpgnfinbnkaaQTab
import Derived.Test.YtekdpgnfinbnkaaQW
namespace Go.Qd
open Go Go.Proofs

/-! ### Columns' names -/
def colB (n : Int) : List UInt8 :=
  if n < 1 ∨ 702 < n then [] else if n < 27 then [UInt8.ofNat (64 + n.toNat)] else [UInt8.ofNat (64 + (n.toNat - 1) / 26), UInt8.ofNat (65 + (n.toNat - 1) % 26)]
theorem colB_out {n : Int} (h : n < 1 ∨ 702 < n) : colB n = [] := by rw [colB, if_pos h]
theorem colB_one {n : Int} (h1 : ¬ n < 1) (h : n < 27) : colB n = [UInt8.ofNat (64 + n.toNat)] := by rw [colB, if_neg (by omega), if_pos h]
theorem colB_two {n : Int} (h1 : ¬ n < 27) (h : ¬ 702 < n) : colB n = [UInt8.ofNat (64 + (n.toNat - 1) / 26), UInt8.ofNat (65 + (n.toNat - 1) % 26)] := by rw [colB, if_neg (by omega), if_neg h1]
theorem colB_le (n : Int) : (colB n).length ≤ 2 := by unfold colB; split <;> (try split) <;> simp
theorem u8i {a : Int} {m : Nat} (h : m < 256) (e : a = m) : a = ((UInt8.ofNat m).toNat : Int) := by simp; omega
def letN : List UInt8 → Nat
  | [] => 0
  | b :: r => if 65 ≤ b.toNat ∧ b.toNat ≤ 90 then letN r + 1 else 0
theorem letN_le : ∀ l, letN l ≤ l.length
  | [] => Nat.le_refl 0
  | b :: r => by
    have := letN_le r
    rw [letN]; split <;> simp <;> omega
theorem letN_all : ∀ {l : List UInt8}, letN l = l.length → ∀ (i : Nat) (x : UInt8), l[i]? = some x → 65 ≤ x.toNat ∧ x.toNat ≤ 90
  | [], _, i, x, h => by simp at h
  | b :: r, e, i, x, h => by
    have := letN_le r
    rw [letN] at e
    split at e
    · rename_i hb
      cases i with
      | zero => simp at h; rw [← h]; exact hb
      | succ j => exact letN_all (l := r) (by simp at e; exact e) j x (by simpa using h)
    · simp at e
theorem letN_of : ∀ {l : List UInt8}, (∀ x ∈ l, 65 ≤ x.toNat ∧ x.toNat ≤ 90) → letN l = l.length
  | [], _ => rfl
  | b :: r, h => by rw [letN, if_pos (h b (.head _)), letN_of (l := r) fun x hx => h x (.tail _ hx)]; rfl
def colF (l : List UInt8) : Int := l.foldl (fun n b => 26 * n + ((b.toNat : Int) - 65) + 1) 0
def colOf : List UInt8 → Int
  | [a] => if 65 ≤ a.toNat ∧ a.toNat ≤ 90 then (a.toNat : Int) - 64 else 0
  | [a, b] => if (65 ≤ a.toNat ∧ a.toNat ≤ 90) ∧ 65 ≤ b.toNat ∧ b.toNat ≤ 90 then 26 * ((a.toNat : Int) - 64) + ((b.toNat : Int) - 64) else 0
  | _ => 0
theorem colOf_b (l : List UInt8) : 0 ≤ colOf l ∧ colOf l ≤ 702 := by unfold colOf; split <;> (try split) <;> omega
theorem len1 {l : List UInt8} (h : l.length = 1) : ∃ a, l = [a] := by
  match l, h with
  | [a], _ => exact ⟨a, rfl⟩
theorem len2 {l : List UInt8} (h : l.length = 2) : ∃ a b, l = [a, b] := by
  match l, h with
  | [a, b], _ => exact ⟨a, b, rfl⟩
theorem len3 {l : List UInt8} (h : 2 < l.length) : ∃ a b c r, l = a :: b :: c :: r := by
  match l, h with
  | a :: b :: c :: r, _ => exact ⟨a, b, c, r, rfl⟩
theorem colOf_not {l : List UInt8} (h : letN l ≠ l.length) : colOf l = 0 := by
  unfold colOf
  split
  · split
    · rename_i a hb; exact absurd (letN_of (l := [a]) (by intro x hx; simp at hx; rw [hx]; exact hb)) h
    · rfl
  · split
    · rename_i a b hb; exact absurd (letN_of (l := [a, b]) (by intro x hx; simp at hx; rcases hx with rfl | rfl; exact hb.1; exact hb.2)) h
    · rfl
  · rfl
theorem colOf_long {l : List UInt8} (h : 2 < l.length) : colOf l = 0 := by obtain ⟨a, b, c, r, rfl⟩ := len3 h; rfl
theorem colF_is {l : List UInt8} (h0 : l ≠ []) (h : l.length ≤ 2) (hc : letN l = l.length) : colF l = colOf l := by
  have ha := letN_all hc
  have : l.length ≠ 0 := by simpa using h0
  rcases (by omega : l.length = 1 ∨ l.length = 2) with e | e
  · obtain ⟨a, rfl⟩ := len1 e
    have := ha 0 a rfl
    simp [colF, colOf, this]; omega
  · obtain ⟨a, b, rfl⟩ := len2 e
    have h1 := ha 0 a rfl
    have h2 := ha 1 b rfl
    simp [colF, colOf, h1, h2]; omega
theorem colF_take {l : List UInt8} {k : Nat} {x : UInt8} (h : l[k]? = some x) : colF (l.take (k + 1)) = 26 * colF (l.take k) + ((x.toNat : Int) - 65) + 1 := by
  rw [List.take_add_one, h, colF, List.foldl_append]; rfl
theorem u8_eq {m : Nat} {a : UInt8} (h : m < 256) : UInt8.ofNat m = a ↔ a.toNat = m := by
  constructor
  · rintro rfl; simp; omega
  · rintro rfl; simp
theorem colB_1 (a : UInt8) : colB ((a.toNat : Int) - 64) = [a] ↔ 65 ≤ a.toNat ∧ a.toNat ≤ 90 := by
  have := a.toNat_lt
  unfold colB
  split
  · constructor <;> intro h <;> first | (simp at h; done) | omega
  · split
    · rw [List.cons.injEq, u8_eq (by omega)]; simp; omega
    · constructor <;> intro h <;> first | (simp at h; done) | omega
theorem colB_2 (a b : UInt8) : colB (27 + ((a.toNat : Int) - 65) * 26 + (b.toNat : Int) - 65) = [a, b] ↔ (65 ≤ a.toNat ∧ a.toNat ≤ 90) ∧ 65 ≤ b.toNat ∧ b.toNat ≤ 90 := by
  have := a.toNat_lt
  have := b.toNat_lt
  unfold colB
  split
  · constructor <;> intro h <;> first | (simp at h; done) | omega
  · split
    · constructor <;> intro h <;> first | (simp at h; done) | omega
    · rw [List.cons.injEq, List.cons.injEq, u8_eq (by omega), u8_eq (by omega)]; simp; omega
end Go.Qd
