/-
  Numbers of two words divided by one of one word: bits.Div64.
-/
import Derived.Test.YtaachikpbdgdnaaPStat2
import Derived.Lib.ItoaNum
namespace Go.Qd
open Go Go.Proofs Go.RowKit
theorem div_unique {a y q : Nat} (hy : 0 < y) (h1 : q * y ≤ a) (h2 : a < (q + 1) * y) : a / y = q := by
  refine Nat.le_antisymm ?_ ((Nat.le_div_iff_mul_le hy).2 h1)
  have := (Nat.div_lt_iff_lt_mul hy).2 h2
  omega
/-- The state of the loop that finds a half of the quotient. -/
structure Hlf (y1 y0 u u1 q r : Nat) : Prop where
  eq : u = q * y1 + r
  ge : (u * 4294967296 + u1) / (y1 * 4294967296 + y0) ≤ q
  le : q ≤ 4294967297
section
variable {y1 y0 u u1 q r : Nat}
theorem Hlf.start (h1 : 2147483648 ≤ y1) (h0 : y0 < 4294967296) (hu : u < y1 * 4294967296 + y0) (hu1 : u1 < 4294967296) : Hlf y1 y0 u u1 (u / y1) (u % y1) := by
  refine ⟨by rw [Nat.mul_comm]; exact (Nat.div_add_mod u y1).symm, ?_, ?_⟩
  · rw [Nat.le_div_iff_mul_le (by omega)]
    have h := Nat.div_mul_le_self (u * 4294967296 + u1) (y1 * 4294967296 + y0)
    generalize (u * 4294967296 + u1) / (y1 * 4294967296 + y0) = Q at *
    rw [Nat.mul_add, ← Nat.mul_assoc] at h
    generalize Q * y1 = P at *
    omega
  · have : u / y1 < 4294967298 := by
      rw [Nat.div_lt_iff_lt_mul (by omega)]; omega
    omega
theorem Hlf.lt (h1 : 2147483648 ≤ y1) (hu : u < y1 * 4294967296 + y0) (hu1 : u1 < 4294967296) : (u * 4294967296 + u1) / (y1 * 4294967296 + y0) < 4294967296 := by
  rw [Nat.div_lt_iff_lt_mul (by omega)]; omega
theorem Hlf.done (h : Hlf y1 y0 u u1 q r) (h1 : 2147483648 ≤ y1) (hc : q * y0 ≤ 4294967296 * r + u1) : q = (u * 4294967296 + u1) / (y1 * 4294967296 + y0) := by
  refine Nat.le_antisymm ?_ h.ge
  rw [Nat.le_div_iff_mul_le (by omega), Nat.mul_add, ← Nat.mul_assoc]
  have := h.eq
  generalize q * y1 = P at *
  generalize q * y0 = R at *
  omega
theorem Hlf.next (h : Hlf y1 y0 u u1 q r) (h1 : 2147483648 ≤ y1) (hu : u < y1 * 4294967296 + y0) (hu1 : u1 < 4294967296) (hc : 4294967296 ≤ q ∨ 4294967296 * r + u1 < q * y0) : 1 ≤ q ∧ Hlf y1 y0 u u1 (q - 1) (r + y1) := by
  have hq : 1 ≤ q := by
    rcases hc with h | h
    · omega
    · rcases Nat.eq_zero_or_pos q with e | e
      · subst e; simp at h
      · exact e
  have hle := h.le
  refine ⟨hq, ?_, ?_, by omega⟩
  · have := h.eq
    obtain ⟨p, rfl⟩ : ∃ p, q = p + 1 := ⟨q - 1, by omega⟩
    rw [Nat.add_sub_cancel]
    rw [Nat.add_mul, Nat.one_mul] at this
    omega
  · have hlt := Hlf.lt (y0 := y0) h1 hu hu1
    rcases hc with hc | hc
    · omega
    · have h2 : (u * 4294967296 + u1) / (y1 * 4294967296 + y0) < q := by
        rw [Nat.div_lt_iff_lt_mul (by omega), Nat.mul_add, ← Nat.mul_assoc]
        have := h.eq
        generalize q * y1 = P at *
        generalize q * y0 = R at *
        omega
      omega
theorem Hlf.big (h : Hlf y1 y0 u u1 q r) (h1 : 2147483648 ≤ y1) (h0 : y0 < 4294967296) (hq : q ≤ 4294967296) (hr : 4294967296 ≤ r) : q = (u * 4294967296 + u1) / (y1 * 4294967296 + y0) := by
  refine h.done h1 ?_
  have e := Nat.mul_le_mul hq (show y0 ≤ 4294967295 by omega)
  omega
end
def lz (y : Nat) : Nat := 64 - Lib.bitLen y
theorem lz_facts {y : Nat} (h0 : 0 < y) (hy : y < 18446744073709551616) : lz y ≤ 63 ∧ 9223372036854775808 ≤ y * 2 ^ lz y ∧ y * 2 ^ lz y < 18446744073709551616 := by
  obtain ⟨h1, h2, h3⟩ := Lib.bitLenAux_bounds 64 y hy (by omega)
  have h4 : Lib.bitLen y ≤ 64 := Lib.bitLen_le y 64 (by omega) hy
  have e : Lib.bitLenAux 64 y = Lib.bitLen y := rfl
  rw [e] at h1 h2 h3
  unfold lz
  generalize Lib.bitLen y = L at *
  refine ⟨by omega, ?_, ?_⟩
  · have := Nat.mul_le_mul_right (2 ^ (64 - L)) h2
    rw [← Nat.pow_add, show L - 1 + (64 - L) = 63 from by omega] at this
    exact this
  · have := Nat.mul_lt_mul_of_pos_right h3 (Nat.two_pow_pos (64 - L))
    rw [← Nat.pow_add, show L + (64 - L) = 64 from by omega] at this
    exact this
theorem lz_fun (x : Nat) (h0 : 0 < x) (hx : x < 18446744073709551616) : Fun Try.prog 60 [.int .u64 (x : Nat)] [] [] (fun r G S => r = .int .i64 (lz x : Nat) ∧ G = [] ∧ S = []) :=
  Fun.same Try.func60 (by kernel_rfl) rfl (fun _ _ _ w _ => by
    have h4 : Lib.bitLen x ≤ 64 := Lib.bitLen_le x 64 (by omega) hx
    rw [show ((lz x : Nat) : Int) = 64 - (Lib.bitLen x : Int) from by unfold lz; omega]
    simpa using Try.bits_LeadingZeros64 (x : Int) w (by omega) (by omega))
theorem and_mask {a : Nat} (ha : a < 18446744073709551616) : bits .and .u64 (a : Int) 4294967295 = ((a % 4294967296 : Nat) : Int) := by
  have h := bits_and_n .u64 a 4294967295 (show a < 2 ^ 64 from ha) (by decide)
  rw [show ((4294967295 : Nat) : Int) = 4294967295 from rfl, show (4294967295 : Nat) = 2 ^ 32 - 1 from rfl, and_low] at h
  rw [h, wU64]; omega
structure DivN (hi lo y s u x : Nat) : Prop where
  sum : (hi * 18446744073709551616 + lo) * 2 ^ s = u * 18446744073709551616 + x
  hx : x < 18446744073709551616
  hu : u < y * 2 ^ s
  wx : IntKind.u64.wrap ((lo : Int) * 2 ^ ((s : Nat) : Int).toNat) = (x : Nat)
  wu : bits .or .u64 (IntKind.u64.wrap ((hi : Int) * 2 ^ ((s : Nat) : Int).toNat)) ((lo : Int) / 2 ^ (64 - ((s : Nat) : Int)).toNat) = (u : Nat)
theorem divN {hi lo y s : Nat} (hlo : lo < 18446744073709551616) (hh : hi < y) (hs : s ≤ 63) (hY : y * 2 ^ s < 18446744073709551616) : ∃ u x, DivN hi lo y s u x := by
  have hD := Nat.two_pow_pos s
  have hE := Nat.two_pow_pos (64 - s)
  have hDE : 2 ^ (64 - s) * 2 ^ s = 18446744073709551616 := by rw [← Nat.pow_add, show 64 - s + s = 64 from by omega]
  have hq : lo / 2 ^ (64 - s) < 2 ^ s := by rw [Nat.div_lt_iff_lt_mul hE, Nat.mul_comm, hDE]; exact hlo
  have hq2 : lo * 2 ^ s / 18446744073709551616 = lo / 2 ^ (64 - s) := by rw [← hDE]; exact Nat.mul_div_mul_right _ _ hD
  have hhi : (hi + 1) * 2 ^ s ≤ y * 2 ^ s := Nat.mul_le_mul_right _ hh
  rw [Nat.add_mul, Nat.one_mul] at hhi
  refine ⟨hi * 2 ^ s + lo / 2 ^ (64 - s), lo * 2 ^ s % 18446744073709551616, ?_, Nat.mod_lt _ (by decide), by omega, ?_, ?_⟩
  · have := Nat.div_add_mod (lo * 2 ^ s) 18446744073709551616
    rw [hq2] at this
    rw [Nat.add_mul, Nat.mul_right_comm, Nat.add_mul]
    omega
  · rw [wU64, Int.toNat_natCast, Int.natCast_emod, Int.natCast_mul, Int.natCast_pow]; rfl
  · have e1 : IntKind.u64.wrap ((hi : Int) * 2 ^ ((s : Nat) : Int).toNat) = ((hi * 2 ^ s : Nat) : Int) := by
      rw [wU64, Int.toNat_natCast, Int.natCast_mul, Int.natCast_pow, show ((2 : Nat) : Int) = 2 from rfl]
      have h1 : ((hi * 2 ^ s : Nat) : Int) = (hi : Int) * 2 ^ s := by rw [Int.natCast_mul, Int.natCast_pow]; rfl
      rw [← h1]; omega
    have e2 : (lo : Int) / 2 ^ (64 - ((s : Nat) : Int)).toNat = ((lo / 2 ^ (64 - s) : Nat) : Int) := by
      rw [show (64 - ((s : Nat) : Int)).toNat = 64 - s from by omega, Int.natCast_ediv, Int.natCast_pow]; rfl
    have h2 : hi * 2 ^ s ||| lo / 2 ^ (64 - s) = hi * 2 ^ s + lo / 2 ^ (64 - s) := by
      rw [Nat.mul_comm]; exact (Nat.two_pow_add_eq_or_of_lt hq hi).symm
    rw [e1, e2, (or_u64 (by omega) (by omega)).1, h2]
theorem wrapY {y s : Nat} (hY : y * 2 ^ s < 18446744073709551616) : IntKind.u64.wrap ((y : Int) * 2 ^ ((s : Nat) : Int).toNat) = ((y * 2 ^ s : Nat) : Int) := by
  have h1 : ((y * 2 ^ s : Nat) : Int) = (y : Int) * 2 ^ s := by rw [Int.natCast_mul, Int.natCast_pow]; rfl
  rw [wU64, Int.toNat_natCast, ← h1]; omega
theorem shr32 (a : Nat) : (a : Int) / 2 ^ (32 : Int).toNat = ((a / 4294967296 : Nat) : Int) := by
  rw [show (32 : Int).toNat = 32 from rfl, show (2 : Int) ^ 32 = 4294967296 from rfl]; omega
theorem rem_eq {u x1 Y Q : Nat} (hY : Y < 18446744073709551616) (h0 : 0 < Y) (hQ : Q = (u * 4294967296 + x1) / Y) : IntKind.u64.wrap (IntKind.u64.wrap (IntKind.u64.wrap ((u : Int) * 4294967296) + (x1 : Int)) - IntKind.u64.wrap ((Q : Int) * (Y : Int))) = (((u * 4294967296 + x1) % Y : Nat) : Int) := by
  have hd := Nat.div_add_mod (u * 4294967296 + x1) Y
  have hm := Nat.mod_lt (u * 4294967296 + x1) h0
  rw [← hQ, Nat.mul_comm] at hd
  generalize (u * 4294967296 + x1) % Y = R at *
  rw [← Int.natCast_mul, wU64, wU64, wU64, wU64]
  generalize Q * Y = P at *
  omega
theorem tdiv_eq {u y1 : Nat} (hu : u < 18446744073709551616) : IntKind.u64.wrap ((u : Int).tdiv ((y1 : Nat) : Int)) = ((u / y1 : Nat) : Int) := by
  rw [← Int.ofNat_tdiv, wU64]
  have := Nat.div_le_self u y1
  generalize u / y1 = Q at *
  omega
theorem mod_eq {u y1 : Nat} (hu : u < 18446744073709551616) : IntKind.u64.wrap ((u : Int) - IntKind.u64.wrap (((u / y1 : Nat) : Int) * ((y1 : Nat) : Int))) = ((u % y1 : Nat) : Int) := by
  have hd := Nat.div_add_mod u y1
  rw [Nat.mul_comm] at hd
  rw [← Int.natCast_mul, wU64, wU64]
  generalize u / y1 * y1 = P at *
  generalize u % y1 = R at *
  omega
theorem div_fin {N y s Y u x x1 x0 Q1 Q0 u2 r0 : Nat} (hy : 0 < y) (hY : Y = y * 2 ^ s) (h : N * 2 ^ s = u * 18446744073709551616 + x) (hx1 : x1 = x / 4294967296) (hx0 : x0 = x % 4294967296) (h1 : Y * Q1 + u2 = u * 4294967296 + x1) (h0 : Y * Q0 + r0 = u2 * 4294967296 + x0) (hr : r0 < Y) : N / y = Q1 * 4294967296 + Q0 ∧ N % y = r0 / 2 ^ s := by
  have hD := Nat.two_pow_pos s
  have hY0 : 0 < Y := by omega
  have e : Y * (Q1 * 4294967296 + Q0) + r0 = N * 2 ^ s := by
    rw [Nat.mul_add, ← Nat.mul_assoc, h]
    generalize Y * Q1 = P1 at *
    generalize Y * Q0 = P0 at *
    omega
  have q1 : N * 2 ^ s / Y = Q1 * 4294967296 + Q0 := by
    rw [← e, Nat.mul_add_div hY0, Nat.div_eq_of_lt hr, Nat.add_zero]
  have q2 : N * 2 ^ s % Y = r0 := by
    rw [← e, Nat.mul_add_mod, Nat.mod_eq_of_lt hr]
  rw [hY, Nat.mul_div_mul_right _ _ hD] at q1
  rw [hY, Nat.mul_mod_mul_right] at q2
  exact ⟨q1, by rw [← q2, Nat.mul_div_cancel _ hD]⟩
set_option maxHeartbeats 1600000 in
theorem div64_fun (hi lo y : Nat) (hlo : lo < 18446744073709551616) (hy : y < 18446744073709551616) (hh : hi < y) : Fun Try.prog 31 [.int .u64 (hi : Nat), .int .u64 (lo : Nat), .int .u64 (y : Nat)] [] [] (fun r G S => r = .tuple #[.int .u64 (((hi * 18446744073709551616 + lo) / y : Nat) : Int), .int .u64 (((hi * 18446744073709551616 + lo) % y : Nat) : Int)] ∧ G = [] ∧ S = []) := by
  rcases Nat.eq_zero_or_pos hi with h0 | hpos
  · subst h0
    rw [Nat.zero_mul, Nat.zero_add]
    exact div64z_fun lo y hlo ⟨hh, hy⟩
  obtain ⟨hs, hY1, hY2⟩ := lz_facts (show 0 < y by omega) hy
  refine Fun.enter Try.func31 (by kernel_rfl) rfl Try.ntmps31 rfl (fun B Gf Sf => ?_); (try simp only [List.cons_append]); (try simp only [List.nil_append]); simp only [argEnv]
  (repeat (first | refine vgo ?_ | refine ⟨_, rfl, rfl, ?_⟩ | refine ⟨_, rfl, ?_⟩ | refine ⟨rfl, ?_⟩ | intro hb | (refine altL ?_ ?_; omega) | refine altR ?_ | (refine side ?_ ?_; first | omega | exact True.intro | ((try simp only [List.length_append, List.length_cons, List.length_nil, List.length_map, List.length_replicate, List.length_set, and_true, true_and]); omega) | assumption | (and_intros <;> first | omega | assumption) | decide) | (refine decT ?_ ?_; first | with_reducible assumption | with_reducible rfl | (refine not_not_intro ?_; with_reducible first | assumption | rfl) | omega | decide) | (refine decF ?_ ?_; first | with_reducible assumption | with_reducible rfl | (refine not_not_intro ?_; with_reducible first | assumption | rfl) | omega | decide) | (refine decBT ?_ ?_; with_reducible first | assumption | rfl | exact Bool.not_false) | (refine decBF ?_ ?_; with_reducible first | assumption | rfl | exact Bool.not_true) | refine ⟨_, by assumption, ?_⟩ | refine ⟨_, _, _, rfl, ?_⟩ | refine WC.seq (fun K hK => ?_) | (refine hK _ _ _ ?_; clear hK K) | (refine hK _ _ _ _ rfl ?_; clear hK K) | (refine WX.thenExit (K := K) ?_; clear hK K) | (refine WX.thenExit (K := KL) ?_; clear hL KL)))
  refine CallV.by' (lz_fun y (by omega) hy) ?_; rintro _ _ _ ⟨rfl, rfl, rfl⟩; (try simp only [List.cons_append]); (try simp only [List.nil_append])
  generalize lz y = s at *
  obtain ⟨u, x, hN⟩ := divN hlo hh hs hY2
  have hYw := wrapY hY2
  (repeat (first | refine vgo ?_ | refine ⟨_, rfl, rfl, ?_⟩ | refine ⟨_, rfl, ?_⟩ | refine ⟨rfl, ?_⟩ | intro hb | (refine altL ?_ ?_; omega) | refine altR ?_ | (refine side ?_ ?_; first | omega | exact True.intro | ((try simp only [List.length_append, List.length_cons, List.length_nil, List.length_map, List.length_replicate, List.length_set, and_true, true_and]); omega) | assumption | (and_intros <;> first | omega | assumption) | decide) | (refine decT ?_ ?_; first | with_reducible assumption | with_reducible rfl | (refine not_not_intro ?_; with_reducible first | assumption | rfl) | omega | decide) | (refine decF ?_ ?_; first | with_reducible assumption | with_reducible rfl | (refine not_not_intro ?_; with_reducible first | assumption | rfl) | omega | decide) | (refine decBT ?_ ?_; with_reducible first | assumption | rfl | exact Bool.not_false) | (refine decBF ?_ ?_; with_reducible first | assumption | rfl | exact Bool.not_true) | refine ⟨_, by assumption, ?_⟩ | refine ⟨_, _, _, rfl, ?_⟩ | refine WC.seq (fun K hK => ?_) | (refine hK _ _ _ ?_; clear hK K) | (refine hK _ _ _ _ rfl ?_; clear hK K) | (refine WX.thenExit (K := K) ?_; clear hK K) | (refine WX.thenExit (K := KL) ?_; clear hL KL)))
  rw [hN.wu, hN.wx, hYw, and_mask hN.hx, and_mask hY2, shr32, shr32]
  obtain ⟨Y, hY⟩ : ∃ z, z = y * 2 ^ s := ⟨_, rfl⟩
  have hu := hN.hu
  have hx := hN.hx
  rw [← hY] at hY1 hY2 hu ⊢
  obtain ⟨y1, hy1⟩ : ∃ z, z = Y / 4294967296 := ⟨_, rfl⟩
  obtain ⟨y0, hy0⟩ : ∃ z, z = Y % 4294967296 := ⟨_, rfl⟩
  obtain ⟨x1, hx1⟩ : ∃ z, z = x / 4294967296 := ⟨_, rfl⟩
  obtain ⟨x0, hx0⟩ : ∃ z, z = x % 4294967296 := ⟨_, rfl⟩
  rw [← hy1, ← hy0, ← hx1, ← hx0]
  have hYe : y1 * 4294967296 + y0 = Y := by omega
  have h1 : 2147483648 ≤ y1 := by omega
  have h1b : y1 < 4294967296 := by omega
  have h0 : y0 < 4294967296 := by omega
  have hxx1 : x1 < 4294967296 := by omega
  have hxx0 : x0 < 4294967296 := by omega
  rw [← hYe] at hu
  have hH := Hlf.start (y1 := y1) (y0 := y0) (u := u) (u1 := x1) h1 h0 hu hxx1
  have hrm : u % y1 < y1 := Nat.mod_lt _ (by omega)
  have e61 : IntKind.u64.wrap ((u : Int).tdiv ((y1 : Nat) : Int)) = ((u / y1 : Nat) : Int) := by
    rw [← Int.ofNat_tdiv, wU64]
    have := Nat.div_le_self u y1
    generalize u / y1 = Q at *
    omega
  generalize u / y1 = q at *
  generalize u % y1 = r at *
  have hqy1 : ((q * y1 : Nat) : Int) = (q : Int) * (y1 : Int) := Int.natCast_mul _ _
  have hue := hH.eq
  have hp1 : 0 ≤ (q : Int) * (y1 : Int) ∧ (q : Int) * (y1 : Int) ≤ 18446744073709551615 := by omega
  refine side (by omega) ?_
  rw [e61]
  (repeat (first | refine vgo ?_ | refine ⟨_, rfl, rfl, ?_⟩ | refine ⟨_, rfl, ?_⟩ | refine ⟨rfl, ?_⟩ | intro hb | (refine altL ?_ ?_; omega) | refine altR ?_ | (refine side ?_ ?_; first | omega | exact True.intro | ((try simp only [List.length_append, List.length_cons, List.length_nil, List.length_map, List.length_replicate, List.length_set, and_true, true_and]); omega) | assumption | (and_intros <;> first | omega | assumption) | decide) | (refine decT ?_ ?_; first | with_reducible assumption | with_reducible rfl | (refine not_not_intro ?_; with_reducible first | assumption | rfl) | omega | decide) | (refine decF ?_ ?_; first | with_reducible assumption | with_reducible rfl | (refine not_not_intro ?_; with_reducible first | assumption | rfl) | omega | decide) | (refine decBT ?_ ?_; with_reducible first | assumption | rfl | exact Bool.not_false) | (refine decBF ?_ ?_; with_reducible first | assumption | rfl | exact Bool.not_true) | refine ⟨_, by assumption, ?_⟩ | refine ⟨_, _, _, rfl, ?_⟩ | refine WC.seq (fun K hK => ?_) | (refine hK _ _ _ ?_; clear hK K) | (refine hK _ _ _ _ rfl ?_; clear hK K) | (refine WX.thenExit (K := K) ?_; clear hK K) | (refine WX.thenExit (K := KL) ?_; clear hL KL)))
  have hlt := Hlf.lt (y0 := y0) h1 hu hxx1
  obtain ⟨Q1, hQ1⟩ : ∃ z, z = (u * 4294967296 + x1) / (y1 * 4294967296 + y0) := ⟨_, rfl⟩
  have hR : WK 135 K B [(2, .int .u64 (Y : Nat)), (8, .int .u64 (s : Nat)), (9, .int .u64 (y1 : Nat)), (10, .int .u64 (y0 : Nat)), (11, .int .u64 (u : Nat)), (13, .int .u64 (x1 : Nat)), (14, .int .u64 (x0 : Nat)), (15, .int .u64 (Q1 : Nat))] Gf Sf := by
    refine hK _ _ _ ?_
    clear hK
    (repeat (first | refine vgo ?_ | refine ⟨_, rfl, rfl, ?_⟩ | refine ⟨_, rfl, ?_⟩ | refine ⟨rfl, ?_⟩ | intro hb | (refine altL ?_ ?_; omega) | refine altR ?_ | (refine side ?_ ?_; first | omega | exact True.intro | ((try simp only [List.length_append, List.length_cons, List.length_nil, List.length_map, List.length_replicate, List.length_set, and_true, true_and]); omega) | assumption | (and_intros <;> first | omega | assumption) | decide) | (refine decT ?_ ?_; first | with_reducible assumption | with_reducible rfl | (refine not_not_intro ?_; with_reducible first | assumption | rfl) | omega | decide) | (refine decF ?_ ?_; first | with_reducible assumption | with_reducible rfl | (refine not_not_intro ?_; with_reducible first | assumption | rfl) | omega | decide) | (refine decBT ?_ ?_; with_reducible first | assumption | rfl | exact Bool.not_false) | (refine decBF ?_ ?_; with_reducible first | assumption | rfl | exact Bool.not_true) | refine ⟨_, by assumption, ?_⟩ | refine ⟨_, _, _, rfl, ?_⟩ | refine WC.seq (fun K hK => ?_) | (refine hK _ _ _ ?_; clear hK K) | (refine hK _ _ _ _ rfl ?_; clear hK K) | (refine WX.thenExit (K := K) ?_; clear hK K) | (refine WX.thenExit (K := KL) ?_; clear hL KL)))
    rw [rem_eq hY2 (by omega) (by rw [← hYe]; exact hQ1)]
    have hrl : (u * 4294967296 + x1) % Y < Y := Nat.mod_lt _ (by omega)
    obtain ⟨u2, hu2⟩ : ∃ z, z = (u * 4294967296 + x1) % Y := ⟨_, rfl⟩
    rw [← hu2] at hrl ⊢
    have hu2l : u2 < y1 * 4294967296 + y0 := by omega
    rw [tdiv_eq (by omega), mod_eq (by omega)]
    have hH := Hlf.start (y1 := y1) (y0 := y0) (u := u2) (u1 := x0) h1 h0 hu2l hxx0
    have hrm : u2 % y1 < y1 := Nat.mod_lt _ (by omega)
    generalize u2 / y1 = q at *
    generalize u2 % y1 = r at *
    have hlt2 := Hlf.lt (y0 := y0) h1 hu2l hxx0
    obtain ⟨Q0, hQ0⟩ : ∃ z, z = (u2 * 4294967296 + x0) / (y1 * 4294967296 + y0) := ⟨_, rfl⟩
    have hR2 : WK 135 K B [(2, .int .u64 (Y : Nat)), (8, .int .u64 (s : Nat)), (14, .int .u64 (x0 : Nat)), (15, .int .u64 (Q1 : Nat)), (17, .int .u64 (u2 : Nat)), (18, .int .u64 (Q0 : Nat))] Gf Sf := by
      refine hK _ _ _ ?_
      clear hK
      (repeat (first | refine vgo ?_ | refine ⟨_, rfl, rfl, ?_⟩ | refine ⟨_, rfl, ?_⟩ | refine ⟨rfl, ?_⟩ | intro hb | (refine altL ?_ ?_; omega) | refine altR ?_ | (refine side ?_ ?_; first | omega | exact True.intro | ((try simp only [List.length_append, List.length_cons, List.length_nil, List.length_map, List.length_replicate, List.length_set, and_true, true_and]); omega) | assumption | (and_intros <;> first | omega | assumption) | decide) | (refine decT ?_ ?_; first | with_reducible assumption | with_reducible rfl | (refine not_not_intro ?_; with_reducible first | assumption | rfl) | omega | decide) | (refine decF ?_ ?_; first | with_reducible assumption | with_reducible rfl | (refine not_not_intro ?_; with_reducible first | assumption | rfl) | omega | decide) | (refine decBT ?_ ?_; with_reducible first | assumption | rfl | exact Bool.not_false) | (refine decBF ?_ ?_; with_reducible first | assumption | rfl | exact Bool.not_true) | refine ⟨_, by assumption, ?_⟩ | refine ⟨_, _, _, rfl, ?_⟩ | refine WC.seq (fun K hK => ?_) | (refine hK _ _ _ ?_; clear hK K) | (refine hK _ _ _ _ rfl ?_; clear hK K) | (refine WX.thenExit (K := K) ?_; clear hK K) | (refine WX.thenExit (K := KL) ?_; clear hL KL)))
      have hQ0Y : Q0 = (u2 * 4294967296 + x0) / Y := by rw [← hYe]; exact hQ0
      have hQ1Y : Q1 = (u * 4294967296 + x1) / Y := by rw [← hYe]; exact hQ1
      have d1 := Nat.div_add_mod (u * 4294967296 + x1) Y
      rw [← hQ1Y, ← hu2] at d1
      have d0 := Nat.div_add_mod (u2 * 4294967296 + x0) Y
      rw [← hQ0Y] at d0
      have hrl0 : (u2 * 4294967296 + x0) % Y < Y := Nat.mod_lt _ (by omega)
      obtain ⟨f1, f2⟩ := div_fin (show 0 < y by omega) hY hN.sum hx1 hx0 d1 d0 hrl0
      rw [rem_eq hY2 (by omega) hQ0Y]
      refine WX.ret2 rfl rfl rfl (fun w sw => ⟨[], [], ⟨?_, rfl, rfl⟩, sw.to⟩)
      rw [f1, f2, Int.toNat_natCast, Int.natCast_ediv, Int.natCast_pow]
      rfl
    clear hK
    refine WC.loop (I := Nat × Nat) (fun i => [(2, .int .u64 (Y : Nat)), (8, .int .u64 (s : Nat)), (9, .int .u64 (y1 : Nat)), (10, .int .u64 (y0 : Nat)), (14, .int .u64 (x0 : Nat)), (15, .int .u64 (Q1 : Nat)), (17, .int .u64 (u2 : Nat)), (18, .int .u64 (i.1 : Nat)), (16, .int .u64 (i.2 : Nat))]) (fun _ => Gf) (fun _ => Sf) (fun i => Hlf y1 y0 u2 x0 i.1 i.2 ∧ i.2 < 4294967296) (fun i => i.1) (q, r) ⟨hH, by dsimp only; omega⟩ (.cons rfl (.cons rfl (.cons rfl (.cons rfl (.cons rfl (.cons rfl (.cons rfl (.cons rfl (.cons rfl .nil))))))))) (fun w h => h.to) ?_
    clear hH hrm
    rintro ⟨q, r⟩ ⟨hH, hr⟩ KL hL
    dsimp only at hH hr ⊢
    have hqle := hH.le
    have hqy : ((q * y0 : Nat) : Int) = (q : Int) * (y0 : Int) := Int.natCast_mul _ _
    have hqb : q * y0 ≤ 4294967297 * 4294967295 := Nat.mul_le_mul hqle (by omega)
    have hqy2 : 0 ≤ (q : Int) * (y0 : Int) ∧ (q : Int) * (y0 : Int) ≤ 18446744073709551615 := by omega
    by_cases hc : 4294967296 ≤ q ∨ 4294967296 * r + x0 < q * y0
    · obtain ⟨hq1, hH2⟩ := hH.next h1 hu2l hxx0 hc
      have hq2 : ((q - 1 : Nat) : Int) = (q : Int) - 1 := by omega
      by_cases hb2 : 4294967296 ≤ r + y1
      · have hQ := hH2.big h1 h0 (by omega) hb2
        rw [← hQ0] at hQ
        rcases (show (4294967296 : Int) ≤ (q : Nat) ∨ ¬ (4294967296 : Int) ≤ (q : Nat) ∧ 4294967296 * ((r : Nat) : Int) + ((x0 : Nat) : Int) < (q : Int) * (y0 : Int) from by omega) with c1 | ⟨c1, c2⟩
        all_goals
          (repeat (first | refine vgo ?_ | refine ⟨_, rfl, rfl, ?_⟩ | refine ⟨_, rfl, ?_⟩ | refine ⟨rfl, ?_⟩ | intro hb | (refine altL ?_ ?_; omega) | refine altR ?_ | (refine side ?_ ?_; first | omega | exact True.intro | ((try simp only [List.length_append, List.length_cons, List.length_nil, List.length_map, List.length_replicate, List.length_set, and_true, true_and]); omega) | assumption | (and_intros <;> first | omega | assumption) | decide) | (refine decT ?_ ?_; first | with_reducible assumption | with_reducible rfl | (refine not_not_intro ?_; with_reducible first | assumption | rfl) | omega | decide) | (refine decF ?_ ?_; first | with_reducible assumption | with_reducible rfl | (refine not_not_intro ?_; with_reducible first | assumption | rfl) | omega | decide) | (refine decBT ?_ ?_; with_reducible first | assumption | rfl | exact Bool.not_false) | (refine decBF ?_ ?_; with_reducible first | assumption | rfl | exact Bool.not_true) | refine ⟨_, by assumption, ?_⟩ | refine ⟨_, _, _, rfl, ?_⟩ | refine WC.seq (fun K hK => ?_) | (refine hK _ _ _ ?_; clear hK K) | (refine hK _ _ _ _ rfl ?_; clear hK K) | (refine WX.thenExit (K := K) ?_; clear hK K) | (refine WX.thenExit (K := KL) ?_; clear hL KL)))
          exact hR2.conv (.cons rfl (.cons rfl (.cons rfl (.cons rfl (.cons rfl (.cons (by simp only [Env.get]; exact congrArg (fun z : Int => some (Value.int .u64 z)) (by omega)) .nil)))))) (fun w h => h.to)
      · rcases (show (4294967296 : Int) ≤ (q : Nat) ∨ ¬ (4294967296 : Int) ≤ (q : Nat) ∧ 4294967296 * ((r : Nat) : Int) + ((x0 : Nat) : Int) < (q : Int) * (y0 : Int) from by omega) with c1 | ⟨c1, c2⟩
        all_goals
          (repeat (first | refine vgo ?_ | refine ⟨_, rfl, rfl, ?_⟩ | refine ⟨_, rfl, ?_⟩ | refine ⟨rfl, ?_⟩ | intro hb | (refine altL ?_ ?_; omega) | refine altR ?_ | (refine side ?_ ?_; first | omega | exact True.intro | ((try simp only [List.length_append, List.length_cons, List.length_nil, List.length_map, List.length_replicate, List.length_set, and_true, true_and]); omega) | assumption | (and_intros <;> first | omega | assumption) | decide) | (refine decT ?_ ?_; first | with_reducible assumption | with_reducible rfl | (refine not_not_intro ?_; with_reducible first | assumption | rfl) | omega | decide) | (refine decF ?_ ?_; first | with_reducible assumption | with_reducible rfl | (refine not_not_intro ?_; with_reducible first | assumption | rfl) | omega | decide) | (refine decBT ?_ ?_; with_reducible first | assumption | rfl | exact Bool.not_false) | (refine decBF ?_ ?_; with_reducible first | assumption | rfl | exact Bool.not_true) | refine ⟨_, by assumption, ?_⟩ | refine ⟨_, _, _, rfl, ?_⟩ | refine WC.seq (fun K hK => ?_) | (refine hK _ _ _ ?_; clear hK K) | (refine hK _ _ _ _ rfl ?_; clear hK K) | (refine WX.thenExit (K := K) ?_; clear hK K) | (refine WX.thenExit (K := KL) ?_; clear hL KL)))
          exact (hL (q - 1, r + y1) ⟨hH2, by dsimp only; omega⟩ (by dsimp only; omega)).conv (.cons rfl (.cons rfl (.cons rfl (.cons rfl (.cons rfl (.cons rfl (.cons rfl (.cons (by simp only [Env.get]; exact congrArg (fun z : Int => some (Value.int .u64 z)) (by omega)) (.cons (by simp only [Env.get]; exact congrArg (fun z : Int => some (Value.int .u64 z)) (by omega)) .nil))))))))) (fun w h => h.to)
    · have hQ := hH.done h1 (by omega)
      rw [← hQ0] at hQ
      have c1 : ¬ (4294967296 : Int) ≤ (q : Nat) := by omega
      have c2 : ¬ 4294967296 * ((r : Nat) : Int) + ((x0 : Nat) : Int) < (q : Int) * (y0 : Int) := by omega
      (repeat (first | refine vgo ?_ | refine ⟨_, rfl, rfl, ?_⟩ | refine ⟨_, rfl, ?_⟩ | refine ⟨rfl, ?_⟩ | intro hb | (refine altL ?_ ?_; omega) | refine altR ?_ | (refine side ?_ ?_; first | omega | exact True.intro | ((try simp only [List.length_append, List.length_cons, List.length_nil, List.length_map, List.length_replicate, List.length_set, and_true, true_and]); omega) | assumption | (and_intros <;> first | omega | assumption) | decide) | (refine decT ?_ ?_; first | with_reducible assumption | with_reducible rfl | (refine not_not_intro ?_; with_reducible first | assumption | rfl) | omega | decide) | (refine decF ?_ ?_; first | with_reducible assumption | with_reducible rfl | (refine not_not_intro ?_; with_reducible first | assumption | rfl) | omega | decide) | (refine decBT ?_ ?_; with_reducible first | assumption | rfl | exact Bool.not_false) | (refine decBF ?_ ?_; with_reducible first | assumption | rfl | exact Bool.not_true) | refine ⟨_, by assumption, ?_⟩ | refine ⟨_, _, _, rfl, ?_⟩ | refine WC.seq (fun K hK => ?_) | (refine hK _ _ _ ?_; clear hK K) | (refine hK _ _ _ _ rfl ?_; clear hK K) | (refine WX.thenExit (K := K) ?_; clear hK K) | (refine WX.thenExit (K := KL) ?_; clear hL KL)))
      exact hR2.conv (.cons rfl (.cons rfl (.cons rfl (.cons rfl (.cons rfl (.cons (by simp only [Env.get]; exact congrArg (fun z : Int => some (Value.int .u64 z)) (by omega)) .nil)))))) (fun w h => h.to)
  clear hK
  refine WC.loop (I := Nat × Nat) (fun i => [(2, .int .u64 (Y : Nat)), (8, .int .u64 (s : Nat)), (9, .int .u64 (y1 : Nat)), (10, .int .u64 (y0 : Nat)), (11, .int .u64 (u : Nat)), (13, .int .u64 (x1 : Nat)), (14, .int .u64 (x0 : Nat)), (15, .int .u64 (i.1 : Nat)), (16, .int .u64 (i.2 : Nat))]) (fun _ => Gf) (fun _ => Sf) (fun i => Hlf y1 y0 u x1 i.1 i.2 ∧ i.2 < 4294967296) (fun i => i.1) (q, r) ⟨hH, by dsimp only; omega⟩ (.cons rfl (.cons rfl (.cons rfl (.cons rfl (.cons rfl (.cons rfl (.cons rfl (.cons rfl (.cons (by simp only [Env.get]; exact congrArg (fun z : Int => some (Value.int .u64 z)) (by omega)) .nil))))))))) (fun w h => h.to) ?_
  clear hH e61 hue hp1 hqy1 hrm
  rintro ⟨q, r⟩ ⟨hH, hr⟩ KL hL
  dsimp only at hH hr ⊢
  have hqle := hH.le
  have hqy : ((q * y0 : Nat) : Int) = (q : Int) * (y0 : Int) := Int.natCast_mul _ _
  have hqb : q * y0 ≤ 4294967297 * 4294967295 := Nat.mul_le_mul hqle (by omega)
  have hqy2 : 0 ≤ (q : Int) * (y0 : Int) ∧ (q : Int) * (y0 : Int) ≤ 18446744073709551615 := by omega
  by_cases hc : 4294967296 ≤ q ∨ 4294967296 * r + x1 < q * y0
  · obtain ⟨hq1, hH2⟩ := hH.next h1 hu hxx1 hc
    have hq2 : ((q - 1 : Nat) : Int) = (q : Int) - 1 := by omega
    by_cases hb2 : 4294967296 ≤ r + y1
    · have hQ := hH2.big h1 h0 (by omega) hb2
      rw [← hQ1] at hQ
      rcases (show (4294967296 : Int) ≤ (q : Nat) ∨ ¬ (4294967296 : Int) ≤ (q : Nat) ∧ 4294967296 * ((r : Nat) : Int) + ((x1 : Nat) : Int) < (q : Int) * (y0 : Int) from by omega) with c1 | ⟨c1, c2⟩
      all_goals
        (repeat (first | refine vgo ?_ | refine ⟨_, rfl, rfl, ?_⟩ | refine ⟨_, rfl, ?_⟩ | refine ⟨rfl, ?_⟩ | intro hb | (refine altL ?_ ?_; omega) | refine altR ?_ | (refine side ?_ ?_; first | omega | exact True.intro | ((try simp only [List.length_append, List.length_cons, List.length_nil, List.length_map, List.length_replicate, List.length_set, and_true, true_and]); omega) | assumption | (and_intros <;> first | omega | assumption) | decide) | (refine decT ?_ ?_; first | with_reducible assumption | with_reducible rfl | (refine not_not_intro ?_; with_reducible first | assumption | rfl) | omega | decide) | (refine decF ?_ ?_; first | with_reducible assumption | with_reducible rfl | (refine not_not_intro ?_; with_reducible first | assumption | rfl) | omega | decide) | (refine decBT ?_ ?_; with_reducible first | assumption | rfl | exact Bool.not_false) | (refine decBF ?_ ?_; with_reducible first | assumption | rfl | exact Bool.not_true) | refine ⟨_, by assumption, ?_⟩ | refine ⟨_, _, _, rfl, ?_⟩ | refine WC.seq (fun K hK => ?_) | (refine hK _ _ _ ?_; clear hK K) | (refine hK _ _ _ _ rfl ?_; clear hK K) | (refine WX.thenExit (K := K) ?_; clear hK K) | (refine WX.thenExit (K := KL) ?_; clear hL KL)))
        exact hR.conv (.cons rfl (.cons rfl (.cons rfl (.cons rfl (.cons rfl (.cons rfl (.cons rfl (.cons (by simp only [Env.get]; exact congrArg (fun z : Int => some (Value.int .u64 z)) (by omega)) .nil)))))))) (fun w h => h.to)
    · rcases (show (4294967296 : Int) ≤ (q : Nat) ∨ ¬ (4294967296 : Int) ≤ (q : Nat) ∧ 4294967296 * ((r : Nat) : Int) + ((x1 : Nat) : Int) < (q : Int) * (y0 : Int) from by omega) with c1 | ⟨c1, c2⟩
      all_goals
        (repeat (first | refine vgo ?_ | refine ⟨_, rfl, rfl, ?_⟩ | refine ⟨_, rfl, ?_⟩ | refine ⟨rfl, ?_⟩ | intro hb | (refine altL ?_ ?_; omega) | refine altR ?_ | (refine side ?_ ?_; first | omega | exact True.intro | ((try simp only [List.length_append, List.length_cons, List.length_nil, List.length_map, List.length_replicate, List.length_set, and_true, true_and]); omega) | assumption | (and_intros <;> first | omega | assumption) | decide) | (refine decT ?_ ?_; first | with_reducible assumption | with_reducible rfl | (refine not_not_intro ?_; with_reducible first | assumption | rfl) | omega | decide) | (refine decF ?_ ?_; first | with_reducible assumption | with_reducible rfl | (refine not_not_intro ?_; with_reducible first | assumption | rfl) | omega | decide) | (refine decBT ?_ ?_; with_reducible first | assumption | rfl | exact Bool.not_false) | (refine decBF ?_ ?_; with_reducible first | assumption | rfl | exact Bool.not_true) | refine ⟨_, by assumption, ?_⟩ | refine ⟨_, _, _, rfl, ?_⟩ | refine WC.seq (fun K hK => ?_) | (refine hK _ _ _ ?_; clear hK K) | (refine hK _ _ _ _ rfl ?_; clear hK K) | (refine WX.thenExit (K := K) ?_; clear hK K) | (refine WX.thenExit (K := KL) ?_; clear hL KL)))
        exact (hL (q - 1, r + y1) ⟨hH2, by dsimp only; omega⟩ (by dsimp only; omega)).conv (.cons rfl (.cons rfl (.cons rfl (.cons rfl (.cons rfl (.cons rfl (.cons rfl (.cons (by simp only [Env.get]; exact congrArg (fun z : Int => some (Value.int .u64 z)) (by omega)) (.cons (by simp only [Env.get]; exact congrArg (fun z : Int => some (Value.int .u64 z)) (by omega)) .nil))))))))) (fun w h => h.to)
  · have hQ := hH.done h1 (by omega)
    rw [← hQ1] at hQ
    have c1 : ¬ (4294967296 : Int) ≤ (q : Nat) := by omega
    have c2 : ¬ 4294967296 * ((r : Nat) : Int) + ((x1 : Nat) : Int) < (q : Int) * (y0 : Int) := by omega
    (repeat (first | refine vgo ?_ | refine ⟨_, rfl, rfl, ?_⟩ | refine ⟨_, rfl, ?_⟩ | refine ⟨rfl, ?_⟩ | intro hb | (refine altL ?_ ?_; omega) | refine altR ?_ | (refine side ?_ ?_; first | omega | exact True.intro | ((try simp only [List.length_append, List.length_cons, List.length_nil, List.length_map, List.length_replicate, List.length_set, and_true, true_and]); omega) | assumption | (and_intros <;> first | omega | assumption) | decide) | (refine decT ?_ ?_; first | with_reducible assumption | with_reducible rfl | (refine not_not_intro ?_; with_reducible first | assumption | rfl) | omega | decide) | (refine decF ?_ ?_; first | with_reducible assumption | with_reducible rfl | (refine not_not_intro ?_; with_reducible first | assumption | rfl) | omega | decide) | (refine decBT ?_ ?_; with_reducible first | assumption | rfl | exact Bool.not_false) | (refine decBF ?_ ?_; with_reducible first | assumption | rfl | exact Bool.not_true) | refine ⟨_, by assumption, ?_⟩ | refine ⟨_, _, _, rfl, ?_⟩ | refine WC.seq (fun K hK => ?_) | (refine hK _ _ _ ?_; clear hK K) | (refine hK _ _ _ _ rfl ?_; clear hK K) | (refine WX.thenExit (K := K) ?_; clear hK K) | (refine WX.thenExit (K := KL) ?_; clear hL KL)))
    exact hR.conv (.cons rfl (.cons rfl (.cons rfl (.cons rfl (.cons rfl (.cons rfl (.cons rfl (.cons (by simp only [Env.get]; exact congrArg (fun z : Int => some (Value.int .u64 z)) (by omega)) .nil)))))))) (fun w h => h.to)
end Go.Qd
