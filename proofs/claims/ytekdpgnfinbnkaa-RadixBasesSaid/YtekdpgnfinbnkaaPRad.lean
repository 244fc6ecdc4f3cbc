/-
  Numbers in bases: plain facts.
-/
import Derived.Test.YtekdpgnfinbnkaaPWords2
import Derived.Test.YtekdpgnfinbnkaaQOwn
namespace Go.Qd
open Go Go.Proofs
abbrev signsL : List UInt8 := [48, 49, 50, 51, 52, 53, 54, 55, 56, 57, 65, 66, 67, 68, 69, 70, 71, 72, 73, 74, 75, 76, 77, 78, 79, 80, 81, 82, 83, 84, 85, 86, 87, 88, 89, 90]
def digV (c : UInt8) : Nat := if 48 ≤ c.toNat ∧ c.toNat ≤ 57 then c.toNat - 48 else if 65 ≤ c.toNat ∧ c.toNat ≤ 90 then c.toNat - 55 else if 97 ≤ c.toNat ∧ c.toNat ≤ 122 then c.toNat - 87 else 99
def upB (c : UInt8) : UInt8 := if 97 ≤ c.toNat ∧ c.toNat ≤ 122 then UInt8.ofNat (c.toNat - 32) else c
theorem digV_le (c : UInt8) : digV c ≤ 99 := by unfold digV; (repeat' split) <;> omega
theorem upB_up {c : UInt8} (h : 97 ≤ c.toNat ∧ c.toNat ≤ 122) : (upB c).toNat = c.toNat - 32 := by
  rw [upB, if_pos h, UInt8.toNat_ofNat']; omega
theorem upB_no {c : UInt8} (h : ¬ (97 ≤ c.toNat ∧ c.toNat ≤ 122)) : upB c = c := if_neg h
theorem ix_sign (c : UInt8) {b : Nat} (hb : b ≤ 36) : Lib.indexByte (signsL.take b) (upB c) = if digV c < b then (digV c : Int) else -1 := by
  have : (List.range 256).all (fun c => (List.range 37).all fun b => decide (Lib.indexByte (signsL.take b) (upB (UInt8.ofNat c)) = if digV (UInt8.ofNat c) < b then (digV (UInt8.ofNat c) : Int) else -1)) = true := by decide +kernel
  simp only [List.all_eq_true, List.mem_range, decide_eq_true_eq] at this
  have h := this c.toNat c.toNat_lt b (by omega)
  rw [UInt8.ofNat_toNat] at h
  exact h
def decL (b : Nat) : List UInt8 → Int → Bool → Option (Int × Bool)
  | [], n, g => some (n, g)
  | c :: r, n, g => if b ≤ digV c then none else if g = true ∨ (9223372036854775807 - (digV c : Int)) / (b : Int) < n then decL b r n true else decL b r (n * (b : Int) + (digV c : Int)) false
def decR (s : List UInt8) (b : Nat) : Int × Int := match decL b s 0 false with
  | none => (0, 21)
  | some (n, g) => if s = [] then (0, 21) else if g then (0, 31) else (n, 0)
theorem dec_ok {b : Nat} {n : Int} {d : Nat} (hb : 2 ≤ b) (h : ¬ (9223372036854775807 - (d : Int)) / (b : Int) < n) : n * (b : Int) ≤ 9223372036854775807 - (d : Int) :=
  (Int.le_ediv_iff_mul_le (by omega)).1 (by omega)
def digC (d : Nat) : UInt8 := signsL.getD d 0
theorem digC_get {d : Nat} (h : d < 36) : signsL[d]? = some (digC d) := getD_some h
theorem digC_val {d : Nat} (h : d < 36) : digV (digC d) = d ∧ (digC d).toNat = (if 9 < d then 55 + d else 48 + d) := by
  have : ∀ d < 36, digV (digC d) = d ∧ (digC d).toNat = (if 9 < d then 55 + d else 48 + d) := by decide
  exact this d h
def bW (b wide : Nat) (n : Nat) (acc : List UInt8) : List UInt8 :=
  if h : (0 < n ∨ acc.length < max wide 1) ∧ 2 ≤ b then bW b wide (n / b) (digC (n % b) :: acc) else acc
termination_by n + (max wide 1 - acc.length)
decreasing_by
  have := Nat.div_le_self n b
  simp only [List.length_cons]
  by_cases h0 : 0 < n
  · have := Nat.div_lt_self h0 h.2
    omega
  · omega
theorem bW_go {b wide n : Nat} {acc : List UInt8} (h : 0 < n ∨ acc.length < max wide 1) (hb : 2 ≤ b) : bW b wide n acc = bW b wide (n / b) (digC (n % b) :: acc) := by
  conv => lhs; rw [bW]
  rw [dif_pos ⟨h, hb⟩]
theorem bW_end {b wide n : Nat} {acc : List UInt8} (h : ¬ (0 < n ∨ acc.length < max wide 1)) : bW b wide n acc = acc := by
  rw [bW, dif_neg (fun k => h k.1)]
theorem bW_len (b wide : Nat) (hb : 2 ≤ b) : ∀ (k n : Nat) (acc : List UInt8), n + (max wide 1 - acc.length) = k → 1 ≤ (bW b wide n acc).length := by
  intro k
  induction k using Nat.strongRecOn with
  | _ k ih =>
    intro n acc hk
    by_cases h : 0 < n ∨ acc.length < max wide 1
    · rw [bW_go h hb]
      refine ih _ ?_ _ _ rfl
      have := Nat.div_le_self n b
      simp only [List.length_cons]
      by_cases h0 : 0 < n
      · have := Nat.div_lt_self h0 hb
        omega
      · omega
    · rw [bW_end h]; omega
theorem decL_bW (b wide : Nat) (hb : 2 ≤ b) (hb2 : b ≤ 36) : ∀ (k n : Nat) (acc : List UInt8), n + (max wide 1 - acc.length) = k → (n : Int) ≤ 9223372036854775807 → decL b (bW b wide n acc) 0 false = decL b acc n false := by
  intro k
  induction k using Nat.strongRecOn with
  | _ k ih =>
    intro n acc hk hn
    by_cases h : 0 < n ∨ acc.length < max wide 1
    · have hd := Nat.div_le_self n b
      rw [bW_go h hb, ih _ ?_ (n / b) _ rfl (by omega)]
      · have hm : n % b < b := Nat.mod_lt _ (by omega)
        obtain ⟨hv, _⟩ := digC_val (d := n % b) (by omega)
        have hdm : ((n / b : Nat) : Int) * (b : Int) + ((n % b : Nat) : Int) = (n : Int) := by
          have := Nat.div_add_mod n b
          rw [Nat.mul_comm] at this
          omega
        rw [decL, hv, if_neg (by omega), if_neg, hdm]
        rintro (h1 | h1)
        · cases h1
        · have : ((n / b : Nat) : Int) ≤ (9223372036854775807 - ((n % b : Nat) : Int)) / (b : Int) := (Int.le_ediv_iff_mul_le (by omega)).2 (by omega)
          omega
      · simp only [List.length_cons]
        by_cases h0 : 0 < n
        · have := Nat.div_lt_self h0 hb
          omega
        · omega
    · rw [bW_end h]
      obtain rfl : n = 0 := by omega
      rfl
theorem pow_step {n b l N : Nat} (hb : 2 ≤ b) (h : n * 2 ^ l ≤ N) : n / b * 2 ^ (l + 1) ≤ N := by
  have h1 : n / b * 2 ≤ n := by
    have := Nat.div_mul_le_self n b
    have : n / b * 2 ≤ n / b * b := Nat.mul_le_mul_left _ hb
    omega
  have : n / b * 2 ^ (l + 1) = n / b * 2 * 2 ^ l := by rw [Nat.pow_succ, Nat.mul_assoc, Nat.mul_comm 2]
  rw [this]
  exact Nat.le_trans (Nat.mul_le_mul_right _ h1) h
theorem pow_small {n l : Nat} (h0 : 0 < n) (h : n * 2 ^ l ≤ 9223372036854775807) : l ≤ 63 := by
  refine Decidable.byContradiction fun hl => ?_
  have h1 : 2 ^ 64 ≤ 2 ^ l := Nat.pow_le_pow_right (by decide) (by omega)
  have h2 : 2 ^ l ≤ n * 2 ^ l := Nat.le_mul_of_pos_left _ h0
  have h3 : (2 : Nat) ^ 64 = 18446744073709551616 := by decide
  omega
/-! The turn of a slice in its place. -/
def rvL (l : List UInt8) (i : Nat) : List UInt8 := (List.range l.length).map fun j => if j < i ∨ l.length ≤ j + i then l.getD (l.length - 1 - j) 0 else l.getD j 0
theorem rvL_len (l : List UInt8) (i : Nat) : (rvL l i).length = l.length := by simp [rvL]
theorem rvL_zero (l : List UInt8) : rvL l 0 = l := by
  apply List.ext_getElem
  · simp [rvL]
  · intro j h1 h2
    simp only [rvL, List.getElem_map, List.getElem_range]
    rw [if_neg (by omega)]
    simp [h2]
theorem rvL_get {l : List UInt8} {i j : Nat} (h : j < l.length) : (rvL l i)[j]? = some (if j < i ∨ l.length ≤ j + i then l.getD (l.length - 1 - j) 0 else l.getD j 0) := by
  simp [rvL, h]
theorem rvL_end {l : List UInt8} {i : Nat} (h : l.length ≤ 2 * i + 1) : rvL l i = l.reverse := by
  apply List.ext_getElem?
  intro j
  by_cases hj : j < l.length
  · rw [rvL_get hj, List.getElem?_reverse hj]
    by_cases hc : j < i ∨ l.length ≤ j + i
    · rw [if_pos hc, ← getD_some (by omega)]
    · rw [if_neg hc, getD_some (d := 0) (by omega), show l.length - 1 - j = j from by omega]
  · rw [List.getElem?_eq_none (by rw [rvL_len]; omega), List.getElem?_eq_none (by rw [List.length_reverse]; omega)]
theorem rvL_step {l : List UInt8} {i : Nat} (h : 2 * i + 1 < l.length) : ((rvL l i).set i (l.getD (l.length - 1 - i) 0)).set (l.length - 1 - i) (l.getD i 0) = rvL l (i + 1) := by
  apply List.ext_getElem?
  intro j
  by_cases hj : j < l.length
  · rw [rvL_get hj]
    by_cases h1 : j = l.length - 1 - i
    · subst h1
      rw [List.getElem?_set_self (by rw [List.length_set, rvL_len]; omega), if_pos (by omega), show l.length - 1 - (l.length - 1 - i) = i from by omega]
    · rw [List.getElem?_set_ne (fun e => h1 e.symm)]
      by_cases h2 : j = i
      · subst h2
        rw [List.getElem?_set_self (by rw [rvL_len]; omega), if_pos (by omega)]
      · rw [List.getElem?_set_ne (fun e => h2 e.symm), rvL_get hj]
        by_cases hc : j < i ∨ l.length ≤ j + i
        · rw [if_pos hc, if_pos (by omega)]
        · rw [if_neg hc, if_neg (by omega)]
  · rw [List.getElem?_eq_none (by simp only [List.length_set, rvL_len]; omega), List.getElem?_eq_none (by rw [rvL_len]; omega)]
end Go.Qd
