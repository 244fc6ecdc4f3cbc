/-
  Days of the calendar: plain facts.
-/
import Derived.Test.YtekdpgnfinbnkaaQU
namespace Go.Qd
open Go

theorem wrap_rng36 (a : Int) : -9223372036854775808 ≤ IntKind.i64.wrap a ∧ IntKind.i64.wrap a ≤ 9223372036854775807 := by
  simp only [IntKind.wrap, IntKind.bits, IntKind.signed]; simp; split <;> omega
abbrev Day := Int × Int × Int
def isLeap (y : Int) : Prop := y % 4 = 0 ∧ (y % 100 ≠ 0 ∨ y % 400 = 0)
instance {y : Int} : Decidable (isLeap y) := by unfold isLeap; infer_instance
def mlen (y m : Int) : Int := if m = 4 ∨ m = 6 ∨ m = 9 ∨ m = 11 then 30 else if m = 2 then (if isLeap y then 29 else 28) else 31
def dayOk (x : Day) : Prop := (1900 ≤ x.1 ∧ x.1 ≤ 9999) ∧ (1 ≤ x.2.1 ∧ x.2.1 ≤ 12) ∧ 1 ≤ x.2.2 ∧ x.2.2 ≤ mlen x.1 x.2.1
instance {x : Day} : Decidable (dayOk x) := by unfold dayOk; infer_instance
/-- How many days lie ahead of a year. -/
def bef (y : Int) : Int := 365 * (y - 1) + (y - 1) / 4 - (y - 1) / 100 + (y - 1) / 400
def ylen (y : Int) : Int := if isLeap y then 366 else 365
theorem bef_next (y : Int) : bef (y + 1) = bef y + ylen y := by
  by_cases h : isLeap y <;> simp only [ylen, h, if_true, if_false] <;> unfold isLeap at h <;> unfold bef <;> omega
/-- How many days lie ahead of a month, in its year. -/
def cumM (y : Int) : Nat → Int
  | 0 => 0
  | m + 1 => cumM y m + mlen y (m + 1)
theorem cumS (y : Int) (m : Nat) : cumM y (m + 1) = cumM y m + mlen y (m + 1) := rfl
theorem cum0 (y : Int) : cumM y 0 = 0 := rfl
theorem mlen_b (y m : Int) : 28 ≤ mlen y m ∧ mlen y m ≤ 31 := by
  unfold mlen; repeat' split
  all_goals omega
theorem cum12 (y : Int) : cumM y 12 = ylen y := by
  simp only [cumM, mlen, ylen]
  by_cases h : isLeap y <;> simp [h]
theorem cum_mono {y : Int} {m k : Nat} (h : m ≤ k) : cumM y m ≤ cumM y k := by
  induction h with
  | refl => exact Int.le_refl _
  | step _ ih => simp only [cumM]; have := mlen_b y (Int.ofNat (Nat.succ 0) + 0); rename_i q _; have := mlen_b y (q + 1); omega
def numD (x : Day) : Int := bef x.1 - 693593 + cumM x.1 (x.2.1 - 1).toNat + x.2.2 - 1
theorem bef_mono : ∀ (k : Nat) (y : Int), bef y + 365 * k ≤ bef (y + k)
  | 0, y => by simp
  | k + 1, y => by
    have h1 := bef_mono k y
    have h2 := bef_next (y + k)
    have : 365 ≤ ylen (y + k) := by unfold ylen; split <;> omega
    rw [show y + ((k + 1 : Nat) : Int) = y + k + 1 from by omega]
    omega
theorem bef_le {y z : Int} (h : y ≤ z) : bef y ≤ bef z := by
  have := bef_mono (z - y).toNat y
  rw [show y + ((z - y).toNat : Int) = z from by omega] at this
  omega
theorem ylen_b (y : Int) : 365 ≤ ylen y ∧ ylen y ≤ 366 := by unfold ylen; split <;> omega
/-- A day lies in its year. -/
theorem numD_in {x : Day} (h : dayOk x) : bef x.1 - 693593 ≤ numD x ∧ numD x < bef (x.1 + 1) - 693593 := by
  obtain ⟨_, ⟨h1, h2⟩, h3, h4⟩ := h
  have e := bef_next x.1
  have c := cum12 x.1
  have c0 : cumM x.1 ((x.2.1 - 1).toNat + 1) ≤ cumM x.1 12 := cum_mono (by omega)
  have cz : cumM x.1 0 ≤ cumM x.1 (x.2.1 - 1).toNat := cum_mono (by omega)
  rw [cumS] at c0
  rw [cum0] at cz
  rw [show (((x.2.1 - 1).toNat : Nat) : Int) + 1 = x.2.1 from by omega] at c0
  unfold numD
  omega
theorem numD_inj {x z : Day} (hx : dayOk x) (hz : dayOk z) (h : numD x = numD z) : x = z := by
  have a := numD_in hx
  have b := numD_in hz
  have e1 : x.1 = z.1 := by
    rcases Int.lt_trichotomy x.1 z.1 with g | g | g
    · have := bef_le (y := x.1 + 1) (z := z.1) (by omega); omega
    · exact g
    · have := bef_le (y := z.1 + 1) (z := x.1) (by omega); omega
  obtain ⟨y, m, d⟩ := x
  obtain ⟨y', m', d'⟩ := z
  dsimp only at e1; subst e1
  obtain ⟨_, ⟨h1, h2⟩, h3, h4⟩ := hx
  obtain ⟨_, ⟨h1', h2'⟩, h3', h4'⟩ := hz
  dsimp only at h1 h2 h3 h4 h1' h2' h3' h4'
  unfold numD at h
  dsimp only at h
  have lt : ∀ (m m' d d' : Int), 1 ≤ m → m < m' → 1 ≤ d' → d ≤ mlen y m → cumM y (m - 1).toNat + d < cumM y (m' - 1).toNat + d' := by
    intro m m' d d' h1 h2 h3 h4
    have := cum_mono (y := y) (m := (m - 1).toNat + 1) (k := (m' - 1).toNat) (by omega)
    simp only [cumM] at this
    rw [show (((m - 1).toNat : Nat) : Int) + 1 = m from by omega] at this
    omega
  have e2 : m = m' := by
    rcases Int.lt_trichotomy m m' with g | g | g
    · have := lt m m' d d' h1 g h3' h4; omega
    · exact g
    · have := lt m' m d' d h1' g h3 h4'; omega
  subst e2
  congr 2; omega
open Classical in
/-- The day of a number. -/
noncomputable def dayOf (n : Int) : Option Day := if h : ∃ x, dayOk x ∧ numD x = n then some h.choose else none
theorem dayOf_some {n : Int} {x : Day} (h : dayOk x) (e : numD x = n) : dayOf n = some x := by
  have hx : ∃ x, dayOk x ∧ numD x = n := ⟨x, h, e⟩
  rw [dayOf, dif_pos hx]
  congr 1
  exact numD_inj hx.choose_spec.1 h (hx.choose_spec.2.trans e.symm)
theorem dayOf_none {n : Int} (h : ∀ x, dayOk x → numD x ≠ n) : dayOf n = none := by
  rw [dayOf, dif_neg]
  rintro ⟨x, hx, e⟩
  exact h x hx e
theorem dayOf_is {n : Int} {x : Day} (h : dayOf n = some x) : dayOk x ∧ numD x = n := by
  rw [dayOf] at h
  split at h
  · rename_i hx; cases h; exact hx.choose_spec
  · cases h
theorem bef1900 : bef 1900 = 693595 := by decide
theorem bef10000 : bef 10000 = 3652059 := by decide
theorem numD_rng {x : Day} (h : dayOk x) : 2 ≤ numD x ∧ numD x ≤ 2958465 := by
  have a := numD_in h
  have b := bef_le (y := 1900) (z := x.1) h.1.1
  have c := bef_le (y := x.1 + 1) (z := 10000) (by have := h.1.2; omega)
  rw [bef1900] at b
  rw [bef10000] at c
  omega
theorem dayOf_low {n : Int} (h : n < 2) : dayOf n = none := dayOf_none fun x hx e => by have := numD_rng hx; omega
theorem dayOf_high {n : Int} (h : 2958465 < n) : dayOf n = none := dayOf_none fun x hx e => by have := numD_rng hx; omega
def wday (n : Int) : Int := (n + 5) % 7 + 1
/-- How many days from one number to another one, both among them, are no days of a week's end. -/
def cntW (a : Int) : Nat → Int
  | 0 => 0
  | k + 1 => cntW a k + if wday (a + k) < 6 then 1 else 0
theorem cntW_add (a : Int) (j : Nat) : ∀ k : Nat, cntW a (j + k) = cntW a j + cntW (a + j) k
  | 0 => by simp [cntW]
  | k + 1 => by
    rw [← Nat.add_assoc, cntW, cntW_add a j k, cntW, Int.add_assoc, show a + ((j + k : Nat) : Int) = a + j + k from by omega]
theorem cntW7 (a : Int) : cntW a 7 = 5 := by
  simp only [cntW, wday]
  have h : a % 7 = 0 ∨ a % 7 = 1 ∨ a % 7 = 2 ∨ a % 7 = 3 ∨ a % 7 = 4 ∨ a % 7 = 5 ∨ a % 7 = 6 := by omega
  have e : ∀ j : Int, (a + j + 5) % 7 = (a % 7 + j + 5) % 7 := fun j => by omega
  simp only [e]
  rcases h with h | h | h | h | h | h | h <;> rw [h] <;> decide
theorem cntW_weeks (a : Int) : ∀ k : Nat, cntW a (7 * k) = 5 * k
  | 0 => by simp [cntW]
  | k + 1 => by
    rw [show 7 * (k + 1) = 7 * k + 7 from by omega, cntW_add, cntW_weeks a k, cntW7]; omega
/-- From the end on. -/
def cntB (b : Int) : Nat → Int
  | 0 => 0
  | k + 1 => cntB b k + if wday (b - k) < 6 then 1 else 0
theorem cntB_W (b : Int) : ∀ k : Nat, cntB b k = cntW (b - k + 1) k
  | 0 => rfl
  | k + 1 => by
    rw [cntB, cntB_W b k, Nat.add_comm k 1, cntW_add]
    simp only [cntW]
    rw [show b - ((1 + k : Nat) : Int) + 1 + ((1 : Nat) : Int) = b - k + 1 from by omega, show b - ((1 + k : Nat) : Int) + 1 + ((0 : Nat) : Int) = b - k from by omega]
    omega
def wdays (a b : Int) : Int := if a > b then -(cntW b (a - b + 1).toNat) else cntW a (b - a + 1).toNat
theorem cnt_split (a b : Int) (h : a ≤ b) : (b - a + 1) / 7 * 5 + cntB b ((b - a + 1) % 7).toNat = cntW a (b - a + 1).toNat := by
  obtain ⟨q, hq⟩ : ∃ q : Nat, ((b - a + 1) / 7) = q := ⟨((b - a + 1) / 7).toNat, by omega⟩
  have e : (b - a + 1).toNat = 7 * q + ((b - a + 1) % 7).toNat := by omega
  rw [e, cntW_add, cntW_weeks, cntB_W, hq, show b - (((b - a + 1) % 7).toNat : Int) + 1 = a + ((7 * q : Nat) : Int) from by omega]
  omega
/-- Months later. -/
def dayMin (y m d : Int) : Day := (y, m, min d (mlen y m))
def monthsD (x : Day) (n : Int) : Option Day := if 22800 ≤ 12 * x.1 + x.2.1 - 1 + n ∧ 12 * x.1 + x.2.1 - 1 + n < 120000 then some (dayMin ((12 * x.1 + x.2.1 - 1 + n) / 12) ((12 * x.1 + x.2.1 - 1 + n) % 12 + 1) x.2.2) else none
theorem mlen_pos (y m : Int) : 1 ≤ mlen y m := by have := mlen_b y m; omega
/-- The week of a day. -/
def thuD (x : Day) : Int := numD x - wday (numD x) + 4
def weekY (x : Day) : Int := if thuD x < bef x.1 - 693593 then x.1 - 1 else if bef (x.1 + 1) - 693593 ≤ thuD x then x.1 + 1 else x.1
def weekW (x : Day) : Int := (thuD x - (bef (weekY x) - 693593)) / 7 + 1
theorem numD_first (y : Int) : numD (y, 1, 1) = bef y - 693593 := by unfold numD; simp [cumM]
end Go.Qd
