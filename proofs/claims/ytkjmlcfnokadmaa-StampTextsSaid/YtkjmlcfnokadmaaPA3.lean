/-
  Cells' names: what is read is what is written (plain law); the chapter's examples; the laws A1Columns, A1Cells, A1Apart.
-/
import Derived.Test.YtkjmlcfnokadmaaPA2
namespace Go.Qd
open Go Go.Proofs

theorem decB_digit (n : Nat) : ∀ b ∈ decB n, 48 ≤ b.toNat ∧ b.toNat ≤ 57 := by
  induction n using Nat.strongRecOn with
  | _ n ih =>
    intro b hb
    by_cases h : n < 10
    · rw [decB_small h] at hb
      simp at hb; subst hb; simp; omega
    · rw [decB_big h] at hb
      rcases List.mem_append.1 hb with hb | hb
      · exact ih _ (by omega) b hb
      · simp at hb; subst hb; simp; omega
theorem decB_head (n : Nat) : ∃ b r, decB n = b :: r ∧ (0 < n → b ≠ 48) := by
  induction n using Nat.strongRecOn with
  | _ n ih =>
    by_cases h : n < 10
    · refine ⟨_, _, decB_small h, fun h0 e => ?_⟩
      have := congrArg UInt8.toNat e
      simp at this; omega
    · obtain ⟨b, r, e, h1⟩ := ih (n / 10) (by omega)
      exact ⟨b, r ++ [UInt8.ofNat (48 + n % 10)], by rw [decB_big h, e]; rfl, fun _ => h1 (by omega)⟩
theorem numS_sound (most : Int) : ∀ (l : List UInt8) (v : Int), 0 < v → ∀ m, numS most v l = some m → v ≤ m ∧ decB m.toNat = decB v.toNat ++ l
  | [], v, _, m, h => by cases h; simp
  | b :: r, v, hv, m, h => by
    rw [numS] at h
    split at h
    · cases h
    · rename_i hc
      obtain ⟨h1, h2⟩ := numS_sound most r _ (by omega) m h
      refine ⟨by omega, ?_⟩
      rw [h2, decB_big (n := (10 * v + ((b.toNat : Int) - 48)).toNat) (by omega), show (10 * v + ((b.toNat : Int) - 48)).toNat / 10 = v.toNat from by omega, show 48 + (10 * v + ((b.toNat : Int) - 48)).toNat % 10 = b.toNat from by omega]
      simp
theorem numS_append (most : Int) : ∀ (l r : List UInt8) (v : Int), numS most v (l ++ r) = (numS most v l).bind fun u => numS most u r
  | [], r, v => rfl
  | b :: l, r, v => by
    rw [List.cons_append, numS, numS]
    split
    · rfl
    · exact numS_append most l r _
theorem numS_full (most : Int) (m : Nat) : (m : Int) ≤ most → numS most 0 (decB m) = some (m : Int) := by
  induction m using Nat.strongRecOn with
  | _ m ih =>
    intro hm
    by_cases h : m < 10
    · rw [decB_small h, numS_yes (by simp; omega)]; simp [numS]; omega
    · rw [decB_big h, numS_append, ih _ (by omega) (by omega), Option.bind_some, numS_yes (by simp; omega)]; simp [numS]; omega
theorem numO_iff {most : Int} {l : List UInt8} {m : Int} : numO most l = some m ↔ (0 ≤ m ∧ m ≤ most) ∧ l = decB m.toNat := by
  constructor
  · intro h
    refine ⟨numO_b h, ?_⟩
    unfold numO at h
    split at h
    · cases h
    · rename_i hc
      match l, hc, h with
      | [], hc, _ => exact absurd (.inl rfl) hc
      | b :: r, hc, h =>
        rw [numS] at h
        split at h
        · cases h
        · rename_i hd
          match r, hc, h with
          | [], _, h =>
            cases h
            rw [decB_small (by omega), show 48 + (10 * 0 + ((b.toNat : Int) - 48)).toNat = b.toNat from by omega]; simp
          | c :: r, hc, h =>
            have hb : b ≠ 48 := fun e => hc (.inr (.inl ⟨by simp, by rw [e]; rfl⟩))
            have hb' : b.toNat ≠ 48 := fun e => hb (UInt8.toNat.inj (by simp; omega))
            have := (numS_sound most (c :: r) _ (by omega) m h).2
            rw [this, decB_small (by omega), show 48 + (10 * 0 + ((b.toNat : Int) - 48)).toNat = b.toNat from by omega]; simp
  · rintro ⟨⟨h0, h1⟩, rfl⟩
    obtain ⟨b, r, e, hb⟩ := decB_head m.toNat
    rw [numO, if_neg, numS_full most m.toNat (by omega)]
    · congr 1; omega
    · rintro (h | ⟨h2, h3⟩ | h)
      · rw [e] at h; cases h
      · by_cases hm : 0 < m.toNat
        · rw [e] at h3; simp at h3; exact hb hm h3
        · rw [decB_small (by omega)] at h2; simp at h2
      · omega
theorem rowF_append (l : List UInt8) (b : UInt8) : rowF (l ++ [b]) = rowF l * 10 + (b.toNat : Int) - 48 := by rw [rowF, List.foldl_append]; rfl
theorem rowF_dec (m : Nat) : rowF (decB m) = m := by
  induction m using Nat.strongRecOn with
  | _ m ih =>
    by_cases h : m < 10
    · rw [decB_small h]; simp [rowF]; omega
    · rw [decB_big h, rowF_append, ih _ (by omega)]; simp; omega
theorem colOf_inv {x : List UInt8} (h : 1 ≤ colOf x) : colB (colOf x) = x := by
  unfold colOf at h ⊢
  split at h
  · split at h
    · rename_i a hc; simp only [if_pos hc]; exact (colB_1 a).2 hc
    · omega
  · split at h
    · rename_i a b hc
      simp only [if_pos hc]
      rw [show 26 * ((a.toNat : Int) - 64) + ((b.toNat : Int) - 64) = 27 + ((a.toNat : Int) - 65) * 26 + (b.toNat : Int) - 65 from by omega]; exact (colB_2 a b).2 hc
    · omega
  · omega
theorem ofNat_toNat {m : Nat} (h : m < 256) : (UInt8.ofNat m).toNat = m := by simp; omega
theorem colB_cap {c : Int} : ∀ x ∈ colB c, 65 ≤ x.toNat ∧ x.toNat ≤ 90 := by
  intro x hx
  unfold colB at hx
  split at hx
  · simp at hx
  · split at hx
    · simp only [List.mem_singleton] at hx; subst hx; rw [ofNat_toNat (by omega)]; omega
    · simp only [List.mem_cons, List.mem_singleton, List.not_mem_nil, or_false] at hx
      rcases hx with rfl | rfl
      · rw [ofNat_toNat (by omega)]; omega
      · rw [ofNat_toNat (by omega)]; omega
theorem colOf_colB {c : Int} (h1 : 1 ≤ c) (h2 : c ≤ 702) : colOf (colB c) = c := by
  by_cases h : c < 27
  · rw [colB_one (by omega) h, colOf, if_pos (by rw [ofNat_toNat (by omega)]; omega), ofNat_toNat (by omega)]; omega
  · rw [colB_two h (by omega), colOf, if_pos (by rw [ofNat_toNat (by omega), ofNat_toNat (by omega)]; omega), ofNat_toNat (by omega), ofNat_toNat (by omega)]; omega
theorem colB_len {c : Int} (h1 : 1 ≤ c) (h2 : c ≤ 702) : 1 ≤ (colB c).length := by
  by_cases h : c < 27
  · rw [colB_one (by omega) h]; simp
  · rw [colB_two h (by omega)]; simp
theorem letN_app : ∀ {a r : List UInt8}, (∀ x ∈ a, 65 ≤ x.toNat ∧ x.toNat ≤ 90) → letN r = 0 → letN (a ++ r) = a.length
  | [], r, _, h => h
  | b :: a, r, h, h0 => by rw [List.cons_append, letN, if_pos (h b (.head _)), letN_app (a := a) (fun x hx => h x (.tail _ hx)) h0]; rfl
theorem letN_dec (m : Nat) : letN (decB m) = 0 := by
  obtain ⟨b, r, e, _⟩ := decB_head m
  have := decB_digit m b (by rw [e]; exact .head _)
  rw [e, letN, if_neg (by omega)]
theorem textB_is {p : Int × Int} (h : cellOk p) : textB p = colB p.1 ++ decB p.2.toNat := by
  have hh := h; unfold cellOk at hh
  rw [textB, if_pos h, intB, if_neg (by omega)]; congr 2; omega
theorem letN_text {p : Int × Int} (h : cellOk p) : letN (textB p) = (colB p.1).length := by rw [textB_is h, letN_app colB_cap (letN_dec _)]
theorem pCol_text {p : Int × Int} (h : cellOk p) : pCol (textB p) = p.1 := by
  rw [pCol, letN_text h, textB_is h, List.take_left, colOf_colB h.1 h.2.1]
theorem pNum_text {p : Int × Int} (h : cellOk p) : pNum (textB p) = some p.2 := by
  have hh := h; unfold cellOk at hh
  rw [pNum, letN_text h, textB_is h, List.drop_left, numO_iff]; exact ⟨by omega, rfl⟩
theorem rRow_text {p : Int × Int} (h : cellOk p) : rRow (textB p) = p.2 := by
  have hh := h; unfold cellOk at hh
  rw [rRow, letN_text h, textB_is h, List.drop_left, List.take_of_length_le (by have := decB_length 3 p.2.toNat (by omega); omega), rowF_dec]; omega
theorem pCell_text {p : Int × Int} (h : cellOk p) : pCell (textB p) = some p := by
  rw [pCell, pNum_text h, pCol_text h, if_pos ⟨rfl, h⟩]; rfl
theorem rCell_text {p : Int × Int} (h : cellOk p) : rCell (textB p) = some p := by
  have h1 := colB_len h.1 h.2.1
  have h2 := colB_le p.1
  rw [rCell, rRow_text h, pCol_text h, letN_text h, if_neg]
  rintro (h3 | h3 | h3)
  · omega
  · omega
  · exact h3 rfl
theorem pCell_some {l : List UInt8} {p : Int × Int} (h : pCell l = some p) : cellOk p ∧ l = textB p := by
  unfold pCell at h
  split at h
  · rename_i hc
    cases h
    refine ⟨hc.2, ?_⟩
    obtain ⟨m, hm⟩ := Option.isSome_iff_exists.1 hc.1
    have hk := hc.2
    rw [textB_is hk]
    rw [hm, Option.getD_some] at hk ⊢
    dsimp only
    have h1 : colB (pCol l) = l.take (letN l) := colOf_inv hk.1
    have h2 : l.drop (letN l) = decB m.toNat := (numO_iff.1 hm).2
    rw [h1, ← h2, List.take_append_drop]
  · cases h
theorem rCell_some {l : List UInt8} {p : Int × Int} (h : rCell l = some p) : cellOk p ∧ l = textB p := by
  unfold rCell at h
  split at h
  · cases h
  · rename_i hc
    cases h
    have e : textB (pCol l, rRow l) = l := Decidable.byContradiction fun h => hc (.inr (.inr h))
    refine ⟨Decidable.byContradiction fun hk => hc (.inl ?_), e.symm⟩
    rw [← e, textB, if_neg hk]; rfl
theorem pr_cell (l : List UInt8) : rCell l = pCell l := by
  apply Option.ext
  intro p
  constructor
  · intro h; obtain ⟨h1, rfl⟩ := rCell_some h; exact pCell_text h1
  · intro h; obtain ⟨h1, rfl⟩ := pCell_some h; exact rCell_text h1
theorem textB_inj {p q : Int × Int} (hp : cellOk p) (hq : cellOk q) : textB p = textB q ↔ p = q := by
  constructor
  · intro h
    have := pCell_text hp
    rw [h, pCell_text hq] at this
    cases this; rfl
  · rintro rfl; rfl

set_option maxHeartbeats 1600000 in
theorem awake07_fun : Fun Try.prog 50 [] [] [] (fun r G S => r = .bool true ∧ G = [] ∧ S = []) := by
  have h1 : colB 27 = [65, 65] := by decide
  have h2 : pCell [66, 49, 50] = some (2, 12) := by decide
  refine Fun.enter Try.func50 (by kernel_rfl) rfl Try.ntmps50 rfl (fun B Gf Sf => ?_); (try simp only [List.cons_append]); (try simp only [List.nil_append]); simp only [argEnv]
  (repeat (first | refine vgo ?_ | refine ⟨_, rfl, rfl, ?_⟩ | refine ⟨_, rfl, ?_⟩ | refine ⟨rfl, ?_⟩ | intro hb | (refine altL ?_ ?_; omega) | refine altR ?_ | (refine side ?_ ?_; first | omega | exact True.intro | ((try simp only [List.length_append, List.length_cons, List.length_nil, List.length_map, List.length_replicate, List.length_set, and_true, true_and]); omega) | assumption | (and_intros <;> first | omega | assumption) | decide) | (refine decT ?_ ?_; first | with_reducible assumption | with_reducible rfl | omega | decide) | (refine decF ?_ ?_; first | with_reducible assumption | with_reducible rfl | omega | decide) | (refine decBT ?_ ?_; with_reducible assumption) | (refine decBF ?_ ?_; with_reducible assumption) | refine ⟨_, by assumption, ?_⟩ | refine ⟨_, _, _, rfl, ?_⟩ | refine WC.seq (fun K hK => ?_) | (refine hK _ _ _ ?_; clear hK K) | (refine WX.thenExit (K := K) ?_; clear hK K) | (refine WX.thenExit (K := KL) ?_; clear hL KL)))
  rw [h2]
  dsimp only [Option.getD_some, errI, Option.isSome_some]
  (repeat (first | refine vgo ?_ | refine ⟨_, rfl, rfl, ?_⟩ | refine ⟨_, rfl, ?_⟩ | refine ⟨rfl, ?_⟩ | intro hb | (refine altL ?_ ?_; omega) | refine altR ?_ | (refine side ?_ ?_; first | omega | exact True.intro | ((try simp only [List.length_append, List.length_cons, List.length_nil, List.length_map, List.length_replicate, List.length_set, and_true, true_and]); omega) | assumption | (and_intros <;> first | omega | assumption) | decide) | (refine decT ?_ ?_; first | with_reducible assumption | with_reducible rfl | omega | decide) | (refine decF ?_ ?_; first | with_reducible assumption | with_reducible rfl | omega | decide) | (refine decBT ?_ ?_; with_reducible assumption) | (refine decBF ?_ ?_; with_reducible assumption) | refine ⟨_, by assumption, ?_⟩ | refine ⟨_, _, _, rfl, ?_⟩ | refine WC.seq (fun K hK => ?_) | (refine hK _ _ _ ?_; clear hK K) | (refine WX.thenExit (K := K) ?_; clear hK K) | (refine WX.thenExit (K := KL) ?_; clear hL KL) | ((first | refine WL.boxA rfl rfl ?_ | refine WL.box rfl rfl rfl ?_); intro bx) | (refine WL.alloc rfl ?_; intro bx)))
  exact WX.ret1 rfl rfl (fun w sw => ⟨[], [], ⟨by simp, rfl, rfl⟩, sw.to⟩)
instance awake07_pure {G : List Pers} : PureF Try.prog 50 [] G True (.bool true) := ⟨fun _ => PureF.of0 awake07_fun⟩
theorem i64_is {a : Int} {v : Value} {h : Hp} (x : Ty.i64.rel a v h) : v = .int .i64 a ∧ -9223372036854775808 ≤ a ∧ a ≤ 9223372036854775807 := x
theorem str_is {l : List UInt8} {v : Value} {h : Hp} (x : Ty.str.rel l v h) : v = .string (bs l) ∧ l.length ≤ 9223372036854775807 := x
abbrev cellT : Ty (Int × Int) := Ty.pair Ty.i64 (Ty.rec1 Ty.i64)
theorem cellT_is {a : Int × Int} {v : Value} {h : Hp} (x : cellT.rel a v h) : v = cellV a ∧ (-9223372036854775808 ≤ a.1 ∧ a.1 ≤ 9223372036854775807) ∧ -9223372036854775808 ≤ a.2 ∧ a.2 ≤ 9223372036854775807 := by
  obtain ⟨p, q, rfl, ⟨rfl, h1⟩, y, rfl, rfl, h2⟩ := x
  exact ⟨rfl, h1, h2⟩

set_option maxHeartbeats 1600000 in
theorem a1Columns_fun (n : Int) (v0 : Value) (l : List UInt8) (v1 : Value) : Fun Try.prog 9 [v0, v1] [rd Ty.i64 n v0, rd Ty.str l v1] [] (fun r _ _ => r = .bool true) := by
  refine Fun.enter Try.func9 (by kernel_rfl) rfl Try.ntmps9 rfl (fun B Gf Sf => ?_); (try simp only [List.cons_append]); (try simp only [List.nil_append]); simp only [argEnv]
  refine WC.ex (fun w sw => sw.pure fun m hm => i64_is (h := m) (hm (rd Ty.i64 n v0) (.head _))) (fun h0 => ?_)
  refine WC.ex (fun w sw => sw.pure fun m hm => str_is (h := m) (hm (rd Ty.str l v1) (.tail _ (.head _)))) (fun h1 => ?_)
  obtain ⟨rfl, ha1, ha2⟩ := h0
  obtain ⟨rfl, hb1⟩ := h1
  have hc := colB_le n
  (repeat (first | refine vgo ?_ | refine ⟨_, rfl, rfl, ?_⟩ | refine ⟨_, rfl, ?_⟩ | refine ⟨rfl, ?_⟩ | intro hb | (refine altL ?_ ?_; omega) | refine altR ?_ | (refine side ?_ ?_; first | omega | exact True.intro | ((try simp only [List.length_append, List.length_cons, List.length_nil, List.length_map, List.length_replicate, List.length_set, and_true, true_and]); omega) | assumption | (and_intros <;> first | omega | assumption) | decide) | (refine decT ?_ ?_; first | with_reducible assumption | with_reducible rfl | omega | decide) | (refine decF ?_ ?_; first | with_reducible assumption | with_reducible rfl | omega | decide) | (refine decBT ?_ ?_; with_reducible assumption) | (refine decBF ?_ ?_; with_reducible assumption) | refine ⟨_, by assumption, ?_⟩ | refine ⟨_, _, _, rfl, ?_⟩ | refine WC.seq (fun K hK => ?_) | (refine hK _ _ _ ?_; clear hK K) | (refine WX.thenExit (K := K) ?_; clear hK K) | (refine WX.thenExit (K := KL) ?_; clear hL KL)))
  refine dcB (fun h1 => ?_) (fun h1 => ?_)
  · (repeat (first | refine vgo ?_ | refine ⟨_, rfl, rfl, ?_⟩ | refine ⟨_, rfl, ?_⟩ | refine ⟨rfl, ?_⟩ | intro hb | (refine altL ?_ ?_; omega) | refine altR ?_ | (refine side ?_ ?_; first | omega | exact True.intro | ((try simp only [List.length_append, List.length_cons, List.length_nil, List.length_map, List.length_replicate, List.length_set, and_true, true_and]); omega) | assumption | (and_intros <;> first | omega | assumption) | decide) | (refine decT ?_ ?_; first | with_reducible assumption | with_reducible rfl | omega | decide) | (refine decF ?_ ?_; first | with_reducible assumption | with_reducible rfl | omega | decide) | (refine decBT ?_ ?_; with_reducible assumption) | (refine decBF ?_ ?_; with_reducible assumption) | refine ⟨_, by assumption, ?_⟩ | refine ⟨_, _, _, rfl, ?_⟩ | refine WC.seq (fun K hK => ?_) | (refine hK _ _ _ ?_; clear hK K) | (refine WX.thenExit (K := K) ?_; clear hK K) | (refine WX.thenExit (K := KL) ?_; clear hL KL)))
    exact WX.ret1 rfl rfl (fun w sw => ⟨[], [], rfl, sw.to⟩)
  · (repeat (first | refine vgo ?_ | refine ⟨_, rfl, rfl, ?_⟩ | refine ⟨_, rfl, ?_⟩ | refine ⟨rfl, ?_⟩ | intro hb | (refine altL ?_ ?_; omega) | refine altR ?_ | (refine side ?_ ?_; first | omega | exact True.intro | ((try simp only [List.length_append, List.length_cons, List.length_nil, List.length_map, List.length_replicate, List.length_set, and_true, true_and]); omega) | assumption | (and_intros <;> first | omega | assumption) | decide) | (refine decT ?_ ?_; first | with_reducible assumption | with_reducible rfl | omega | decide) | (refine decF ?_ ?_; first | with_reducible assumption | with_reducible rfl | omega | decide) | (refine decBT ?_ ?_; with_reducible assumption) | (refine decBF ?_ ?_; with_reducible assumption) | refine ⟨_, by assumption, ?_⟩ | refine ⟨_, _, _, rfl, ?_⟩ | refine WC.seq (fun K hK => ?_) | (refine hK _ _ _ ?_; clear hK K) | (refine WX.thenExit (K := K) ?_; clear hK K) | (refine WX.thenExit (K := KL) ?_; clear hL KL)))
    exact WX.ret1 rfl rfl (fun w sw => ⟨[], [], rfl, sw.to⟩)

set_option maxHeartbeats 1600000 in
theorem a1Apart_fun (a : Int × Int) (v0 : Value) (b : Int × Int) (v1 : Value) : Fun Try.prog 11 [v0, v1] [rd cellT a v0, rd cellT b v1] [] (fun r _ _ => r = .bool true) := by
  refine Fun.enter Try.func11 (by kernel_rfl) rfl Try.ntmps11 rfl (fun B Gf Sf => ?_); (try simp only [List.cons_append]); (try simp only [List.nil_append]); simp only [argEnv]
  refine WC.ex (fun w sw => sw.pure fun m hm => cellT_is (hm (rd cellT a v0) (.head _))) (fun h0 => ?_)
  refine WC.ex (fun w sw => sw.pure fun m hm => cellT_is (hm (rd cellT b v1) (.tail _ (.head _)))) (fun h1 => ?_)
  obtain ⟨a1, a2⟩ := a
  obtain ⟨b1, b2⟩ := b
  obtain ⟨rfl, ha1, ha2⟩ := h0
  obtain ⟨rfl, hb1, hb2⟩ := h1
  dsimp only at ha1 ha2 hb1 hb2 ⊢
  by_cases h1 : cellOk (a1, a2)
  · by_cases h2 : cellOk (b1, b2)
    · have n1 : ¬ ¬ cellOk (a1, a2) := fun h => h h1
      have n2 : ¬ ¬ cellOk (b1, b2) := fun h => h h2
      have he : decide (textB (a1, a2) = textB (b1, b2)) = decide (a1 = b1 ∧ a2 = b2) := by
        rw [decide_eq_decide, textB_inj h1 h2, Prod.mk.injEq]
      (repeat (first | refine vgo ?_ | refine ⟨_, rfl, rfl, ?_⟩ | refine ⟨_, rfl, ?_⟩ | refine ⟨rfl, ?_⟩ | intro hb | (refine altL ?_ ?_; omega) | refine altR ?_ | (refine side ?_ ?_; first | omega | exact True.intro | ((try simp only [List.length_append, List.length_cons, List.length_nil, List.length_map, List.length_replicate, List.length_set, and_true, true_and]); omega) | assumption | (and_intros <;> first | omega | assumption) | decide) | (refine decT ?_ ?_; first | with_reducible assumption | with_reducible rfl | omega | decide) | (refine decF ?_ ?_; first | with_reducible assumption | with_reducible rfl | omega | decide) | (refine decBT ?_ ?_; with_reducible assumption) | (refine decBF ?_ ?_; with_reducible assumption) | refine ⟨_, by assumption, ?_⟩ | refine ⟨_, _, _, rfl, ?_⟩ | refine WC.seq (fun K hK => ?_) | (refine hK _ _ _ ?_; clear hK K) | (refine WX.thenExit (K := K) ?_; clear hK K) | (refine WX.thenExit (K := KL) ?_; clear hL KL) | ((first | refine WL.boxA rfl rfl ?_ | refine WL.box rfl rfl rfl ?_); intro bx) | (refine WL.alloc rfl ?_; intro bx)))
      (apply WC.draw; exact rfl; focus (repeat (first | exact Wo.nil | (apply Wo.keep; exact rfl) | (apply Wo.drop; exact rfl)))); (repeat (apply Obls.cons; focus ((repeat (intro _)); (conv => whnf); (repeat (first | refine vgo ?_ | refine ⟨_, rfl, rfl, ?_⟩ | refine ⟨_, rfl, ?_⟩ | refine ⟨rfl, ?_⟩ | intro hb | (refine altL ?_ ?_; omega) | refine altR ?_ | (refine side ?_ ?_; first | omega | exact True.intro | ((try simp only [List.length_append, List.length_cons, List.length_nil, List.length_map, List.length_replicate, List.length_set, and_true, true_and]); omega) | assumption | (and_intros <;> first | omega | assumption) | decide) | (refine decT ?_ ?_; first | with_reducible assumption | with_reducible rfl | omega | decide) | (refine decF ?_ ?_; first | with_reducible assumption | with_reducible rfl | omega | decide) | (refine decBT ?_ ?_; with_reducible assumption) | (refine decBF ?_ ?_; with_reducible assumption) | refine ⟨_, by assumption, ?_⟩ | refine ⟨_, _, _, rfl, ?_⟩ | refine WC.seq (fun K hK => ?_) | (refine hK _ _ _ ?_; clear hK K) | (refine WX.thenExit (K := K) ?_; clear hK K) | (refine WX.thenExit (K := KL) ?_; clear hL KL))); first | exact WX.pqIs rfl | exact WX.pqRd rfl | exact WX.pqCell rfl | exact WX.pqNone))); try (refine Obls.nil ?_; (repeat (intro _)); (conv => whnf))
      (repeat (first | refine vgo ?_ | refine ⟨_, rfl, rfl, ?_⟩ | refine ⟨_, rfl, ?_⟩ | refine ⟨rfl, ?_⟩ | intro hb | (refine altL ?_ ?_; omega) | refine altR ?_ | (refine side ?_ ?_; first | omega | exact True.intro | ((try simp only [List.length_append, List.length_cons, List.length_nil, List.length_map, List.length_replicate, List.length_set, and_true, true_and]); omega) | assumption | (and_intros <;> first | omega | assumption) | decide) | (refine decT ?_ ?_; first | with_reducible assumption | with_reducible rfl | omega | decide) | (refine decF ?_ ?_; first | with_reducible assumption | with_reducible rfl | omega | decide) | (refine decBT ?_ ?_; with_reducible assumption) | (refine decBF ?_ ?_; with_reducible assumption) | refine ⟨_, by assumption, ?_⟩ | refine ⟨_, _, _, rfl, ?_⟩ | refine WC.seq (fun K hK => ?_) | (refine hK _ _ _ ?_; clear hK K) | (refine WX.thenExit (K := K) ?_; clear hK K) | (refine WX.thenExit (K := KL) ?_; clear hL KL)))
      exact WX.ret1 rfl rfl (fun w sw => ⟨[], [], rfl, sw.to⟩)
    · have n1 : ¬ ¬ cellOk (a1, a2) := fun h => h h1
      (repeat (first | refine vgo ?_ | refine ⟨_, rfl, rfl, ?_⟩ | refine ⟨_, rfl, ?_⟩ | refine ⟨rfl, ?_⟩ | intro hb | (refine altL ?_ ?_; omega) | refine altR ?_ | (refine side ?_ ?_; first | omega | exact True.intro | ((try simp only [List.length_append, List.length_cons, List.length_nil, List.length_map, List.length_replicate, List.length_set, and_true, true_and]); omega) | assumption | (and_intros <;> first | omega | assumption) | decide) | (refine decT ?_ ?_; first | with_reducible assumption | with_reducible rfl | omega | decide) | (refine decF ?_ ?_; first | with_reducible assumption | with_reducible rfl | omega | decide) | (refine decBT ?_ ?_; with_reducible assumption) | (refine decBF ?_ ?_; with_reducible assumption) | refine ⟨_, by assumption, ?_⟩ | refine ⟨_, _, _, rfl, ?_⟩ | refine WC.seq (fun K hK => ?_) | (refine hK _ _ _ ?_; clear hK K) | (refine WX.thenExit (K := K) ?_; clear hK K) | (refine WX.thenExit (K := KL) ?_; clear hL KL) | ((first | refine WL.boxA rfl rfl ?_ | refine WL.box rfl rfl rfl ?_); intro bx) | (refine WL.alloc rfl ?_; intro bx)))
      (apply WC.draw; exact rfl; focus (repeat (first | exact Wo.nil | (apply Wo.keep; exact rfl) | (apply Wo.drop; exact rfl)))); (repeat (apply Obls.cons; focus ((repeat (intro _)); (conv => whnf); (repeat (first | refine vgo ?_ | refine ⟨_, rfl, rfl, ?_⟩ | refine ⟨_, rfl, ?_⟩ | refine ⟨rfl, ?_⟩ | intro hb | (refine altL ?_ ?_; omega) | refine altR ?_ | (refine side ?_ ?_; first | omega | exact True.intro | ((try simp only [List.length_append, List.length_cons, List.length_nil, List.length_map, List.length_replicate, List.length_set, and_true, true_and]); omega) | assumption | (and_intros <;> first | omega | assumption) | decide) | (refine decT ?_ ?_; first | with_reducible assumption | with_reducible rfl | omega | decide) | (refine decF ?_ ?_; first | with_reducible assumption | with_reducible rfl | omega | decide) | (refine decBT ?_ ?_; with_reducible assumption) | (refine decBF ?_ ?_; with_reducible assumption) | refine ⟨_, by assumption, ?_⟩ | refine ⟨_, _, _, rfl, ?_⟩ | refine WC.seq (fun K hK => ?_) | (refine hK _ _ _ ?_; clear hK K) | (refine WX.thenExit (K := K) ?_; clear hK K) | (refine WX.thenExit (K := KL) ?_; clear hL KL))); first | exact WX.pqIs rfl | exact WX.pqRd rfl | exact WX.pqCell rfl | exact WX.pqNone))); try (refine Obls.nil ?_; (repeat (intro _)); (conv => whnf))
      (repeat (first | refine vgo ?_ | refine ⟨_, rfl, rfl, ?_⟩ | refine ⟨_, rfl, ?_⟩ | refine ⟨rfl, ?_⟩ | intro hb | (refine altL ?_ ?_; omega) | refine altR ?_ | (refine side ?_ ?_; first | omega | exact True.intro | ((try simp only [List.length_append, List.length_cons, List.length_nil, List.length_map, List.length_replicate, List.length_set, and_true, true_and]); omega) | assumption | (and_intros <;> first | omega | assumption) | decide) | (refine decT ?_ ?_; first | with_reducible assumption | with_reducible rfl | omega | decide) | (refine decF ?_ ?_; first | with_reducible assumption | with_reducible rfl | omega | decide) | (refine decBT ?_ ?_; with_reducible assumption) | (refine decBF ?_ ?_; with_reducible assumption) | refine ⟨_, by assumption, ?_⟩ | refine ⟨_, _, _, rfl, ?_⟩ | refine WC.seq (fun K hK => ?_) | (refine hK _ _ _ ?_; clear hK K) | (refine WX.thenExit (K := K) ?_; clear hK K) | (refine WX.thenExit (K := KL) ?_; clear hL KL)))
      exact WX.ret1 rfl rfl (fun w sw => ⟨[], [], rfl, sw.to⟩)
  · (repeat (first | refine vgo ?_ | refine ⟨_, rfl, rfl, ?_⟩ | refine ⟨_, rfl, ?_⟩ | refine ⟨rfl, ?_⟩ | intro hb | (refine altL ?_ ?_; omega) | refine altR ?_ | (refine side ?_ ?_; first | omega | exact True.intro | ((try simp only [List.length_append, List.length_cons, List.length_nil, List.length_map, List.length_replicate, List.length_set, and_true, true_and]); omega) | assumption | (and_intros <;> first | omega | assumption) | decide) | (refine decT ?_ ?_; first | with_reducible assumption | with_reducible rfl | omega | decide) | (refine decF ?_ ?_; first | with_reducible assumption | with_reducible rfl | omega | decide) | (refine decBT ?_ ?_; with_reducible assumption) | (refine decBF ?_ ?_; with_reducible assumption) | refine ⟨_, by assumption, ?_⟩ | refine ⟨_, _, _, rfl, ?_⟩ | refine WC.seq (fun K hK => ?_) | (refine hK _ _ _ ?_; clear hK K) | (refine WX.thenExit (K := K) ?_; clear hK K) | (refine WX.thenExit (K := KL) ?_; clear hL KL) | ((first | refine WL.boxA rfl rfl ?_ | refine WL.box rfl rfl rfl ?_); intro bx) | (refine WL.alloc rfl ?_; intro bx)))
    (apply WC.draw; exact rfl; focus (repeat (first | exact Wo.nil | (apply Wo.keep; exact rfl) | (apply Wo.drop; exact rfl)))); (repeat (apply Obls.cons; focus ((repeat (intro _)); (conv => whnf); (repeat (first | refine vgo ?_ | refine ⟨_, rfl, rfl, ?_⟩ | refine ⟨_, rfl, ?_⟩ | refine ⟨rfl, ?_⟩ | intro hb | (refine altL ?_ ?_; omega) | refine altR ?_ | (refine side ?_ ?_; first | omega | exact True.intro | ((try simp only [List.length_append, List.length_cons, List.length_nil, List.length_map, List.length_replicate, List.length_set, and_true, true_and]); omega) | assumption | (and_intros <;> first | omega | assumption) | decide) | (refine decT ?_ ?_; first | with_reducible assumption | with_reducible rfl | omega | decide) | (refine decF ?_ ?_; first | with_reducible assumption | with_reducible rfl | omega | decide) | (refine decBT ?_ ?_; with_reducible assumption) | (refine decBF ?_ ?_; with_reducible assumption) | refine ⟨_, by assumption, ?_⟩ | refine ⟨_, _, _, rfl, ?_⟩ | refine WC.seq (fun K hK => ?_) | (refine hK _ _ _ ?_; clear hK K) | (refine WX.thenExit (K := K) ?_; clear hK K) | (refine WX.thenExit (K := KL) ?_; clear hL KL))); first | exact WX.pqIs rfl | exact WX.pqRd rfl | exact WX.pqCell rfl | exact WX.pqNone))); try (refine Obls.nil ?_; (repeat (intro _)); (conv => whnf))
    (repeat (first | refine vgo ?_ | refine ⟨_, rfl, rfl, ?_⟩ | refine ⟨_, rfl, ?_⟩ | refine ⟨rfl, ?_⟩ | intro hb | (refine altL ?_ ?_; omega) | refine altR ?_ | (refine side ?_ ?_; first | omega | exact True.intro | ((try simp only [List.length_append, List.length_cons, List.length_nil, List.length_map, List.length_replicate, List.length_set, and_true, true_and]); omega) | assumption | (and_intros <;> first | omega | assumption) | decide) | (refine decT ?_ ?_; first | with_reducible assumption | with_reducible rfl | omega | decide) | (refine decF ?_ ?_; first | with_reducible assumption | with_reducible rfl | omega | decide) | (refine decBT ?_ ?_; with_reducible assumption) | (refine decBF ?_ ?_; with_reducible assumption) | refine ⟨_, by assumption, ?_⟩ | refine ⟨_, _, _, rfl, ?_⟩ | refine WC.seq (fun K hK => ?_) | (refine hK _ _ _ ?_; clear hK K) | (refine WX.thenExit (K := K) ?_; clear hK K) | (refine WX.thenExit (K := KL) ?_; clear hL KL)))
    exact WX.ret1 rfl rfl (fun w sw => ⟨[], [], rfl, sw.to⟩)

set_option maxHeartbeats 3200000 in
theorem a1Cells_fun (c : Int × Int) (v0 : Value) (l : List UInt8) (v1 : Value) : Fun Try.prog 10 [v0, v1] [rd cellT c v0, rd Ty.str l v1] [] (fun r _ _ => r = .bool true) := by
  refine Fun.enter Try.func10 (by kernel_rfl) rfl Try.ntmps10 rfl (fun B Gf Sf => ?_); (try simp only [List.cons_append]); (try simp only [List.nil_append]); simp only [argEnv]
  refine WC.ex (fun w sw => sw.pure fun m hm => cellT_is (hm (rd cellT c v0) (.head _))) (fun h0 => ?_)
  refine WC.ex (fun w sw => sw.pure fun m hm => str_is (h := m) (hm (rd Ty.str l v1) (.tail _ (.head _)))) (fun h1 => ?_)
  obtain ⟨c1, c2⟩ := c
  obtain ⟨rfl, ha1, ha2⟩ := h0
  obtain ⟨rfl, hb1⟩ := h1
  dsimp only at ha1 ha2 ⊢
  have ht := textB_le (c1, c2)
  (repeat (first | refine vgo ?_ | refine ⟨_, rfl, rfl, ?_⟩ | refine ⟨_, rfl, ?_⟩ | refine ⟨rfl, ?_⟩ | intro hb | (refine altL ?_ ?_; omega) | refine altR ?_ | (refine side ?_ ?_; first | omega | exact True.intro | ((try simp only [List.length_append, List.length_cons, List.length_nil, List.length_map, List.length_replicate, List.length_set, and_true, true_and]); omega) | assumption | (and_intros <;> first | omega | assumption) | decide) | (refine decT ?_ ?_; first | with_reducible assumption | with_reducible rfl | omega | decide) | (refine decF ?_ ?_; first | with_reducible assumption | with_reducible rfl | omega | decide) | (refine decBT ?_ ?_; with_reducible assumption) | (refine decBF ?_ ?_; with_reducible assumption) | refine ⟨_, by assumption, ?_⟩ | refine ⟨_, _, _, rfl, ?_⟩ | refine WC.seq (fun K hK => ?_) | (refine hK _ _ _ ?_; clear hK K) | (refine WX.thenExit (K := K) ?_; clear hK K) | (refine WX.thenExit (K := KL) ?_; clear hL KL) | ((first | refine WL.boxA rfl rfl ?_ | refine WL.box rfl rfl rfl ?_); intro bx) | (refine WL.alloc rfl ?_; intro bx)))
  refine dcB (fun h1 => ?_) (fun h1 => ?_)
  · (repeat (first | refine vgo ?_ | refine ⟨_, rfl, rfl, ?_⟩ | refine ⟨_, rfl, ?_⟩ | refine ⟨rfl, ?_⟩ | intro hb | (refine altL ?_ ?_; omega) | refine altR ?_ | (refine side ?_ ?_; first | omega | exact True.intro | ((try simp only [List.length_append, List.length_cons, List.length_nil, List.length_map, List.length_replicate, List.length_set, and_true, true_and]); omega) | assumption | (and_intros <;> first | omega | assumption) | decide) | (refine decT ?_ ?_; first | with_reducible assumption | with_reducible rfl | omega | decide) | (refine decF ?_ ?_; first | with_reducible assumption | with_reducible rfl | omega | decide) | (refine decBT ?_ ?_; with_reducible assumption) | (refine decBF ?_ ?_; with_reducible assumption) | refine ⟨_, by assumption, ?_⟩ | refine ⟨_, _, _, rfl, ?_⟩ | refine WC.seq (fun K hK => ?_) | (refine hK _ _ _ ?_; clear hK K) | (refine WX.thenExit (K := K) ?_; clear hK K) | (refine WX.thenExit (K := KL) ?_; clear hL KL)))
    exact WX.ret1 rfl rfl (fun w sw => ⟨[], [], rfl, sw.to⟩)
  · by_cases hk : cellOk (c1, c2)
    · have hq : pCell (textB (c1, c2)) = some (c1, c2) := pCell_text hk
      have n1 : ¬ ¬ cellOk (c1, c2) := fun h => h hk
      have hE : decide ((0 : Int) = 0) = decide (cellOk (c1, c2)) := by simp [hk]
      (repeat (first | refine vgo ?_ | refine ⟨_, rfl, rfl, ?_⟩ | refine ⟨_, rfl, ?_⟩ | refine ⟨rfl, ?_⟩ | intro hb | (refine altL ?_ ?_; omega) | refine altR ?_ | (refine side ?_ ?_; first | omega | exact True.intro | ((try simp only [List.length_append, List.length_cons, List.length_nil, List.length_map, List.length_replicate, List.length_set, and_true, true_and]); omega) | assumption | (and_intros <;> first | omega | assumption) | decide) | (refine decT ?_ ?_; first | with_reducible assumption | with_reducible rfl | omega | decide) | (refine decF ?_ ?_; first | with_reducible assumption | with_reducible rfl | omega | decide) | (refine decBT ?_ ?_; with_reducible assumption) | (refine decBF ?_ ?_; with_reducible assumption) | refine ⟨_, by assumption, ?_⟩ | refine ⟨_, _, _, rfl, ?_⟩ | refine WC.seq (fun K hK => ?_) | (refine hK _ _ _ ?_; clear hK K) | (refine WX.thenExit (K := K) ?_; clear hK K) | (refine WX.thenExit (K := KL) ?_; clear hL KL) | ((first | refine WL.boxA rfl rfl ?_ | refine WL.box rfl rfl rfl ?_); intro bx) | (refine WL.alloc rfl ?_; intro bx)))
      rw [pr_cell]
      rcases hp : pCell l with _ | ⟨p1, p2⟩
      all_goals
        simp only [errI, Option.getD_some, Option.getD_none, Option.isSome_some, Option.isSome_none, ↓reduceIte, Bool.false_eq_true]
        (repeat (first | refine vgo ?_ | refine ⟨_, rfl, rfl, ?_⟩ | refine ⟨_, rfl, ?_⟩ | refine ⟨rfl, ?_⟩ | intro hb | (refine altL ?_ ?_; omega) | refine altR ?_ | (refine side ?_ ?_; first | omega | exact True.intro | ((try simp only [List.length_append, List.length_cons, List.length_nil, List.length_map, List.length_replicate, List.length_set, and_true, true_and]); omega) | assumption | (and_intros <;> first | omega | assumption) | decide) | (refine decT ?_ ?_; first | with_reducible assumption | with_reducible rfl | omega | decide) | (refine decF ?_ ?_; first | with_reducible assumption | with_reducible rfl | omega | decide) | (refine decBT ?_ ?_; with_reducible assumption) | (refine decBF ?_ ?_; with_reducible assumption) | refine ⟨_, by assumption, ?_⟩ | refine ⟨_, _, _, rfl, ?_⟩ | refine WC.seq (fun K hK => ?_) | (refine hK _ _ _ ?_; clear hK K) | (refine WX.thenExit (K := K) ?_; clear hK K) | (refine WX.thenExit (K := KL) ?_; clear hL KL) | ((first | refine WL.boxA rfl rfl ?_ | refine WL.box rfl rfl rfl ?_); intro bx) | (refine WL.alloc rfl ?_; intro bx)))
        simp only [hq, errI, Option.getD_some, Option.isSome_some, ↓reduceIte]
        (apply WC.draw; exact rfl; focus (repeat (first | exact Wo.nil | (apply Wo.keep; exact rfl) | (apply Wo.drop; exact rfl)))); (repeat (apply Obls.cons; focus ((repeat (intro _)); (conv => whnf); (repeat (first | refine vgo ?_ | refine ⟨_, rfl, rfl, ?_⟩ | refine ⟨_, rfl, ?_⟩ | refine ⟨rfl, ?_⟩ | intro hb | (refine altL ?_ ?_; omega) | refine altR ?_ | (refine side ?_ ?_; first | omega | exact True.intro | ((try simp only [List.length_append, List.length_cons, List.length_nil, List.length_map, List.length_replicate, List.length_set, and_true, true_and]); omega) | assumption | (and_intros <;> first | omega | assumption) | decide) | (refine decT ?_ ?_; first | with_reducible assumption | with_reducible rfl | omega | decide) | (refine decF ?_ ?_; first | with_reducible assumption | with_reducible rfl | omega | decide) | (refine decBT ?_ ?_; with_reducible assumption) | (refine decBF ?_ ?_; with_reducible assumption) | refine ⟨_, by assumption, ?_⟩ | refine ⟨_, _, _, rfl, ?_⟩ | refine WC.seq (fun K hK => ?_) | (refine hK _ _ _ ?_; clear hK K) | (refine WX.thenExit (K := K) ?_; clear hK K) | (refine WX.thenExit (K := KL) ?_; clear hL KL))); first | exact WX.pqIs rfl | exact WX.pqRd rfl | exact WX.pqCell rfl | exact WX.pqNone))); try (refine Obls.nil ?_; (repeat (intro _)); (conv => whnf))
        (repeat (first | refine vgo ?_ | refine ⟨_, rfl, rfl, ?_⟩ | refine ⟨_, rfl, ?_⟩ | refine ⟨rfl, ?_⟩ | intro hb | (refine altL ?_ ?_; omega) | refine altR ?_ | (refine side ?_ ?_; first | omega | exact True.intro | ((try simp only [List.length_append, List.length_cons, List.length_nil, List.length_map, List.length_replicate, List.length_set, and_true, true_and]); omega) | assumption | (and_intros <;> first | omega | assumption) | decide) | (refine decT ?_ ?_; first | with_reducible assumption | with_reducible rfl | omega | decide) | (refine decF ?_ ?_; first | with_reducible assumption | with_reducible rfl | omega | decide) | (refine decBT ?_ ?_; with_reducible assumption) | (refine decBF ?_ ?_; with_reducible assumption) | refine ⟨_, by assumption, ?_⟩ | refine ⟨_, _, _, rfl, ?_⟩ | refine WC.seq (fun K hK => ?_) | (refine hK _ _ _ ?_; clear hK K) | (refine WX.thenExit (K := K) ?_; clear hK K) | (refine WX.thenExit (K := KL) ?_; clear hL KL)))
        exact WX.ret1 rfl rfl (fun w sw => ⟨[], [], rfl, sw.to⟩)
    · have hq : pCell (textB (c1, c2)) = none := by rw [textB, if_neg hk]; decide
      have hE : decide ((20 : Int) = 0) = decide (cellOk (c1, c2)) := by simp [hk]
      (repeat (first | refine vgo ?_ | refine ⟨_, rfl, rfl, ?_⟩ | refine ⟨_, rfl, ?_⟩ | refine ⟨rfl, ?_⟩ | intro hb | (refine altL ?_ ?_; omega) | refine altR ?_ | (refine side ?_ ?_; first | omega | exact True.intro | ((try simp only [List.length_append, List.length_cons, List.length_nil, List.length_map, List.length_replicate, List.length_set, and_true, true_and]); omega) | assumption | (and_intros <;> first | omega | assumption) | decide) | (refine decT ?_ ?_; first | with_reducible assumption | with_reducible rfl | omega | decide) | (refine decF ?_ ?_; first | with_reducible assumption | with_reducible rfl | omega | decide) | (refine decBT ?_ ?_; with_reducible assumption) | (refine decBF ?_ ?_; with_reducible assumption) | refine ⟨_, by assumption, ?_⟩ | refine ⟨_, _, _, rfl, ?_⟩ | refine WC.seq (fun K hK => ?_) | (refine hK _ _ _ ?_; clear hK K) | (refine WX.thenExit (K := K) ?_; clear hK K) | (refine WX.thenExit (K := KL) ?_; clear hL KL) | ((first | refine WL.boxA rfl rfl ?_ | refine WL.box rfl rfl rfl ?_); intro bx) | (refine WL.alloc rfl ?_; intro bx)))
      rw [pr_cell]
      rcases hp : pCell l with _ | ⟨p1, p2⟩
      all_goals
        simp only [errI, Option.getD_some, Option.getD_none, Option.isSome_some, Option.isSome_none, ↓reduceIte, Bool.false_eq_true]
        (repeat (first | refine vgo ?_ | refine ⟨_, rfl, rfl, ?_⟩ | refine ⟨_, rfl, ?_⟩ | refine ⟨rfl, ?_⟩ | intro hb | (refine altL ?_ ?_; omega) | refine altR ?_ | (refine side ?_ ?_; first | omega | exact True.intro | ((try simp only [List.length_append, List.length_cons, List.length_nil, List.length_map, List.length_replicate, List.length_set, and_true, true_and]); omega) | assumption | (and_intros <;> first | omega | assumption) | decide) | (refine decT ?_ ?_; first | with_reducible assumption | with_reducible rfl | omega | decide) | (refine decF ?_ ?_; first | with_reducible assumption | with_reducible rfl | omega | decide) | (refine decBT ?_ ?_; with_reducible assumption) | (refine decBF ?_ ?_; with_reducible assumption) | refine ⟨_, by assumption, ?_⟩ | refine ⟨_, _, _, rfl, ?_⟩ | refine WC.seq (fun K hK => ?_) | (refine hK _ _ _ ?_; clear hK K) | (refine WX.thenExit (K := K) ?_; clear hK K) | (refine WX.thenExit (K := KL) ?_; clear hL KL) | ((first | refine WL.boxA rfl rfl ?_ | refine WL.box rfl rfl rfl ?_); intro bx) | (refine WL.alloc rfl ?_; intro bx)))
        simp only [hq, errI, Option.getD_none, Option.isSome_none, ↓reduceIte, Bool.false_eq_true]
        (apply WC.draw; exact rfl; focus (repeat (first | exact Wo.nil | (apply Wo.keep; exact rfl) | (apply Wo.drop; exact rfl)))); (repeat (apply Obls.cons; focus ((repeat (intro _)); (conv => whnf); (repeat (first | refine vgo ?_ | refine ⟨_, rfl, rfl, ?_⟩ | refine ⟨_, rfl, ?_⟩ | refine ⟨rfl, ?_⟩ | intro hb | (refine altL ?_ ?_; omega) | refine altR ?_ | (refine side ?_ ?_; first | omega | exact True.intro | ((try simp only [List.length_append, List.length_cons, List.length_nil, List.length_map, List.length_replicate, List.length_set, and_true, true_and]); omega) | assumption | (and_intros <;> first | omega | assumption) | decide) | (refine decT ?_ ?_; first | with_reducible assumption | with_reducible rfl | omega | decide) | (refine decF ?_ ?_; first | with_reducible assumption | with_reducible rfl | omega | decide) | (refine decBT ?_ ?_; with_reducible assumption) | (refine decBF ?_ ?_; with_reducible assumption) | refine ⟨_, by assumption, ?_⟩ | refine ⟨_, _, _, rfl, ?_⟩ | refine WC.seq (fun K hK => ?_) | (refine hK _ _ _ ?_; clear hK K) | (refine WX.thenExit (K := K) ?_; clear hK K) | (refine WX.thenExit (K := KL) ?_; clear hL KL))); first | exact WX.pqIs rfl | exact WX.pqRd rfl | exact WX.pqCell rfl | exact WX.pqNone))); try (refine Obls.nil ?_; (repeat (intro _)); (conv => whnf))
        (repeat (first | refine vgo ?_ | refine ⟨_, rfl, rfl, ?_⟩ | refine ⟨_, rfl, ?_⟩ | refine ⟨rfl, ?_⟩ | intro hb | (refine altL ?_ ?_; omega) | refine altR ?_ | (refine side ?_ ?_; first | omega | exact True.intro | ((try simp only [List.length_append, List.length_cons, List.length_nil, List.length_map, List.length_replicate, List.length_set, and_true, true_and]); omega) | assumption | (and_intros <;> first | omega | assumption) | decide) | (refine decT ?_ ?_; first | with_reducible assumption | with_reducible rfl | omega | decide) | (refine decF ?_ ?_; first | with_reducible assumption | with_reducible rfl | omega | decide) | (refine decBT ?_ ?_; with_reducible assumption) | (refine decBF ?_ ?_; with_reducible assumption) | refine ⟨_, by assumption, ?_⟩ | refine ⟨_, _, _, rfl, ?_⟩ | refine WC.seq (fun K hK => ?_) | (refine hK _ _ _ ?_; clear hK K) | (refine WX.thenExit (K := K) ?_; clear hK K) | (refine WX.thenExit (K := KL) ?_; clear hL KL)))
        exact WX.ret1 rfl rfl (fun w sw => ⟨[], [], rfl, sw.to⟩)
end Go.Qd
