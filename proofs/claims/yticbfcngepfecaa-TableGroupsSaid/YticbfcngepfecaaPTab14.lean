/-
  Tables: the first row with a value, and the last one that is not told behind it.
-/
import Derived.Test.YticbfcngepfecaaPTab9
import Derived.Test.YticbfcngepfecaaPTab12
namespace Go.Qd
open Go Go.Proofs
theorem cmpB_trans : ∀ a b c : List UInt8, Lib.compareBytes a b ≤ 0 → Lib.compareBytes b c ≤ 0 → Lib.compareBytes a c ≤ 0
  | [], _, [], _, _ => by simp [Lib.compareBytes]
  | [], _, _ :: _, _, _ => by simp [Lib.compareBytes]
  | _ :: _, [], _, h, _ => by simp [Lib.compareBytes] at h
  | _ :: _, _ :: _, [], _, h => by simp [Lib.compareBytes] at h
  | a :: x, b :: y, c :: z, h, k => by
    rw [Lib.compareBytes] at h k ⊢
    have ih := cmpB_trans x y z
    by_cases h1 : a < b
    · by_cases k1 : b < c
      · have : a < c := by rw [UInt8.lt_iff_toNat_lt] at h1 k1 ⊢; omega
        rw [if_pos this]; decide
      · by_cases k2 : c < b
        · rw [if_neg k1, if_pos k2] at k; omega
        · have e : b = c := by apply UInt8.toNat_inj.1; rw [UInt8.lt_iff_toNat_lt] at k1 k2; omega
          subst e
          rw [if_pos h1]; decide
    · by_cases h2 : b < a
      · rw [if_neg h1, if_pos h2] at h; omega
      · have e : a = b := by apply UInt8.toNat_inj.1; rw [UInt8.lt_iff_toNat_lt] at h1 h2; omega
        subst e
        rw [if_neg h1, if_neg h2] at h
        by_cases k1 : a < c
        · rw [if_pos k1]; decide
        · by_cases k2 : c < a
          · rw [if_neg k1, if_pos k2] at k; omega
          · rw [if_neg k1, if_neg k2] at k ⊢
            exact ih h k
theorem tcmp_trans {a b c : VT} (ha : rightV a) (hb : rightV b) (hc : rightV c) (h : tcmp a b ≤ 0) (k : tcmp b c ≤ 0) : tcmp a c ≤ 0 := by
  obtain ⟨k1, n1, t1⟩ := a
  obtain ⟨k2, n2, t2⟩ := b
  obtain ⟨k3, n3, t3⟩ := c
  have hB := cmpB_trans t1 t2 t3
  have hI : cmpI n1 n2 ≤ 0 → cmpI n2 n3 ≤ 0 → cmpI n1 n3 ≤ 0 := by unfold cmpI; intro h k; split at h <;> split at k <;> (try split) <;> (try split) <;> (try split at h) <;> (try split at k) <;> omega
  simp only [rightV] at ha hb hc
  rcases ha with ⟨rfl, rfl, rfl⟩ | ⟨rfl, rfl⟩ | ⟨rfl | rfl, rfl⟩ <;> rcases hb with ⟨rfl, rfl, rfl⟩ | ⟨rfl, rfl⟩ | ⟨rfl | rfl, rfl⟩ <;> rcases hc with ⟨rfl, rfl, rfl⟩ | ⟨rfl, rfl⟩ | ⟨rfl | rfl, rfl⟩
  all_goals simp [tcmp, vcmp, cls] at h k ⊢
  all_goals (first | exact hI h k | exact hB h k | (simp [cmpI]) | skip)
/-! ### The first -/
end Go.Qd
