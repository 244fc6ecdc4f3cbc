/-
  The law ClockMeets.
-/
import Derived.Test.YtkjmlcfnokadmaaPCOrders
namespace Go.Qd
open Go Go.Proofs

theorem snoc_ex {α : Type} (l : List α) (h : l ≠ []) : ∃ r x, l = r ++ [x] := ⟨l.dropLast, l.getLast h, (List.dropLast_concat_getLast h).symm⟩
theorem rep0 (n i : Nat) : (List.replicate n 0).getD i 0 = 0 := by
  rw [List.getD_eq_getElem?_getD, List.getElem?_replicate]; split <;> rfl
/-- The document's meeting, list by list. -/
def meetF : List (List Nat) → List Nat
  | [] => List.replicate 64 0
  | c :: r => (c :: r).foldl (fun m x => zipL minN m (ofL x)) (ofL c)
theorem meetF_snoc {ls : List (List Nat)} (x : List Nat) (h : ls ≠ []) : meetF (ls ++ [x]) = zipL minN (meetF ls) (ofL x) := by
  cases ls with
  | nil => exact absurd rfl h
  | cons c r => simp only [List.cons_append, meetF]; rw [← List.cons_append, List.foldl_append]; rfl
theorem meetF_one (x : List Nat) : meetF [x] = zipL minN (ofL x) (ofL x) := rfl
theorem meetF_length (ls : List (List Nat)) : (meetF ls).length = 64 := by
  by_cases h : ls = []
  · subst h; rw [meetF, List.length_replicate]
  obtain ⟨r, x, rfl⟩ := snoc_ex ls h
  cases r with
  | nil => exact zipL_length _ _ _
  | cons y r => rw [meetF_snoc _ (by simp)]; exact zipL_length _ _ _
def joinF (ls : List (List Nat)) : List Nat := ls.foldl (fun m x => trimL (joinL maxN m x)) []
theorem joinF_snoc (ls : List (List Nat)) (x : List Nat) : joinF (ls ++ [x]) = trimL (joinL maxN (joinF ls) x) := by simp [joinF]
theorem joinF_len (ls : List (List Nat)) (h : ∀ c ∈ ls, c.length ≤ 64) : (joinF ls).length ≤ 64 := by
  induction hn : ls.length generalizing ls with
  | zero => simp at hn; subst hn; simp [joinF]
  | succ n ih =>
    obtain ⟨r, x, rfl⟩ := snoc_ex ls (by rintro rfl; simp at hn)
    rw [joinF_snoc]
    have h1 := ih r (fun c hc => h c (by simp [hc])) (by simpa using hn)
    have h2 := h x (by simp)
    exact Nat.le_trans (trimL_length _) (by rw [joinL_length]; omega)
theorem joinF_within (ls : List (List Nat)) (c : List Nat) : withinL (joinF ls) c ↔ ∀ x ∈ ls, withinL x c := by
  induction hn : ls.length generalizing ls with
  | zero => simp at hn; subst hn; simp [joinF, withinL]
  | succ n ih =>
    obtain ⟨r, x, rfl⟩ := snoc_ex ls (by rintro rfl; simp at hn)
    have h1 := ih r (by simpa using hn)
    rw [joinF_snoc, withinL_iff]
    simp only [trimL_getD, joinL_getD (op := maxN) rfl]
    constructor
    · intro h y hy
      rcases List.mem_append.1 hy with hy | hy
      · exact h1.1 ((withinL_iff _ _).2 fun i => by have := h i; unfold maxN at this; omega) y hy
      · simp at hy; subst hy
        exact (withinL_iff _ _).2 fun i => by have := h i; unfold maxN at this; omega
    · intro h i
      have ha := (withinL_iff _ _).1 (h1.2 fun y hy => h y (by simp [hy])) i
      have hb := (withinL_iff _ _).1 (h x (by simp)) i
      unfold maxN; omega
theorem meetAll_within : ∀ (r : List (List Nat)) (m c : List Nat), withinL c (meetAll m r) ↔ withinL c m ∧ ∀ x ∈ r, withinL c x
  | [], m, c => by simp [meetAll]
  | d :: r, m, c => by
    rw [meetAll, meetAll_within r]
    have : withinL c (trimL (joinL minN m d)) ↔ withinL c m ∧ withinL c d := by
      simp only [withinL_iff, trimL_getD, joinL_getD (op := minN) rfl, minN]
      constructor
      · intro h; exact ⟨fun i => by have := h i; omega, fun i => by have := h i; omega⟩
      · rintro ⟨h1, h2⟩ i; have := h1 i; have := h2 i; omega
    rw [this]; simp [and_assoc]
theorem meetL_within {ls : List (List Nat)} (h : ls ≠ []) (c : List Nat) : withinL c (meetL ls) ↔ ∀ x ∈ ls, withinL c x := by
  cases ls with
  | nil => exact absurd rfl h
  | cons d r =>
    rw [meetL, meetAll_within]
    have : withinL c (trimL d) ↔ withinL c d := by simp only [withinL_iff, trimL_getD]
    rw [this]; simp
theorem meet_same (ls : List (List Nat)) (h : ∀ c ∈ ls, c.length ≤ 64) : meetL ls = trimL (meetF ls) := by
  induction hn : ls.length generalizing ls with
  | zero =>
    simp at hn; subst hn
    have e : trimL (meetF []) = trimL [] := trimL_ext (fun i => by rw [meetF, rep0]; rfl)
    rw [e, trimL_done (l := []) (by simp)]; rfl
  | succ n ih =>
    obtain ⟨r, x, rfl⟩ := snoc_ex ls (by rintro rfl; simp at hn)
    have h1 := ih r (fun c hc => h c (by simp [hc])) (by simpa using hn)
    have h2 := h x (by simp)
    cases r with
    | nil =>
      show trimL x = trimL (zipL minN (ofL x) (ofL x))
      refine trimL_ext fun i => ?_
      by_cases hi : i < 64
      · rw [zipL_getD hi, ofL_getD, if_pos hi]; simp [minN]
      · rw [List.getD_eq_getElem?_getD, List.getElem?_eq_none (by omega), List.getD_eq_getElem?_getD, List.getElem?_eq_none (by rw [zipL_length]; omega)]
    | cons d r =>
      rw [meetF_snoc _ (by simp), List.cons_append, meetL, meetAll_snoc]
      refine trimL_ext fun i => ?_
      have h3 : (meetAll (trimL d) r).getD i 0 = (meetF (d :: r)).getD i 0 := by
        have : meetAll (trimL d) r = trimL (meetF (d :: r)) := h1
        rw [this, trimL_getD]
      rw [joinL_getD rfl, h3]
      by_cases hi : i < 64
      · rw [zipL_getD hi, ofL_getD, if_pos hi]
      · rw [List.getD_eq_getElem?_getD (l := meetF _), List.getElem?_eq_none (by rw [meetF_length]; omega), List.getD_eq_getElem?_getD (l := zipL _ _ _), List.getElem?_eq_none (by rw [zipL_length]; omega)]
        simp [minN]

theorem minN_ok : ∀ x y, x < 18446744073709551616 → y < 18446744073709551616 → minN x y < 18446744073709551616 := fun x y hx hy => by unfold minN; omega
theorem all_snoc {α : Type} {p : α → Prop} {l : List α} {x : α} : (∀ y ∈ l ++ [x], p y) ↔ (∀ y ∈ l, p y) ∧ p x := by
  simp only [List.mem_append, List.mem_singleton]
  exact ⟨fun h => ⟨fun y hy => h y (.inl hy), h x (.inr rfl)⟩, fun h y hy => hy.elim (h.1 y) (fun e => e ▸ h.2)⟩
set_option maxHeartbeats 3200000 in
theorem clockMeets_fun (ls : List (List Nat)) (v0 : Value) (c : List Nat) (v1 : Value) : Fun Try.prog 6 [v0, v1] [rd (Ty.sl (Ty.sl Ty.u64)) ls v0, rd (Ty.sl Ty.u64) c v1] [] (fun r _ _ => r = .bool true) := by
  refine Fun.enter Try.func6 (by kernel_rfl) rfl Try.ntmps6 rfl (fun B Gf Sf => ?_); (try simp only [List.cons_append]); (try simp only [List.nil_append]); simp only [argEnv]
  refine WC.ex (fun w sw => sw.len_le (RdSl.h (v := v0))) (fun hl0 => ?_)
  by_cases h20 : (20 : Int) < (ls.length : Int)
  · (repeat (first | refine vgo ?_ | refine ⟨_, rfl, rfl, ?_⟩ | refine ⟨_, rfl, ?_⟩ | refine ⟨rfl, ?_⟩ | intro hb | (refine altL ?_ ?_; omega) | refine altR ?_ | (refine side ?_ ?_; first | omega | exact True.intro | ((try simp only [List.length_append, List.length_cons, List.length_nil, List.length_map, List.length_replicate, List.length_set, and_true, true_and]); omega) | assumption | (and_intros <;> first | omega | assumption) | decide) | (refine decT ?_ ?_; first | with_reducible assumption | with_reducible rfl | omega | decide) | (refine decF ?_ ?_; first | with_reducible assumption | with_reducible rfl | omega | decide) | (refine decBT ?_ ?_; with_reducible assumption) | (refine decBF ?_ ?_; with_reducible assumption) | refine ⟨_, by assumption, ?_⟩ | refine ⟨_, _, _, rfl, ?_⟩ | refine WC.seq (fun K hK => ?_) | (refine hK _ _ _ ?_; clear hK K) | (refine WX.thenExit (K := K) ?_; clear hK K) | (refine WX.thenExit (K := KL) ?_; clear hL KL)))
    exact WX.ret1 rfl rfl (fun w sw => ⟨[], [], rfl, sw.to⟩)
  by_cases h64 : (c.length : Int) ≤ 64
  rotate_left
  · (repeat (first | refine vgo ?_ | refine ⟨_, rfl, rfl, ?_⟩ | refine ⟨_, rfl, ?_⟩ | refine ⟨rfl, ?_⟩ | intro hb | (refine altL ?_ ?_; omega) | refine altR ?_ | (refine side ?_ ?_; first | omega | exact True.intro | ((try simp only [List.length_append, List.length_cons, List.length_nil, List.length_map, List.length_replicate, List.length_set, and_true, true_and]); omega) | assumption | (and_intros <;> first | omega | assumption) | decide) | (refine decT ?_ ?_; first | with_reducible assumption | with_reducible rfl | omega | decide) | (refine decF ?_ ?_; first | with_reducible assumption | with_reducible rfl | omega | decide) | (refine decBT ?_ ?_; with_reducible assumption) | (refine decBF ?_ ?_; with_reducible assumption) | refine ⟨_, by assumption, ?_⟩ | refine ⟨_, _, _, rfl, ?_⟩ | refine WC.seq (fun K hK => ?_) | (refine hK _ _ _ ?_; clear hK K) | (refine WX.thenExit (K := K) ?_; clear hK K) | (refine WX.thenExit (K := KL) ?_; clear hL KL)))
    exact WX.ret1 rfl rfl (fun w sw => ⟨[], [], rfl, sw.to⟩)
  (repeat (first | refine vgo ?_ | refine ⟨_, rfl, rfl, ?_⟩ | refine ⟨_, rfl, ?_⟩ | refine ⟨rfl, ?_⟩ | intro hb | (refine altL ?_ ?_; omega) | refine altR ?_ | (refine side ?_ ?_; first | omega | exact True.intro | ((try simp only [List.length_append, List.length_cons, List.length_nil, List.length_map, List.length_replicate, List.length_set, and_true, true_and]); omega) | assumption | (and_intros <;> first | omega | assumption) | decide) | (refine decT ?_ ?_; first | with_reducible assumption | with_reducible rfl | omega | decide) | (refine decF ?_ ?_; first | with_reducible assumption | with_reducible rfl | omega | decide) | (refine decBT ?_ ?_; with_reducible assumption) | (refine decBF ?_ ?_; with_reducible assumption) | refine ⟨_, by assumption, ?_⟩ | refine ⟨_, _, _, rfl, ?_⟩ | refine WC.seq (fun K hK => ?_) | (refine hK _ _ _ ?_; clear hK K) | (refine WX.thenExit (K := K) ?_; clear hK K) | (refine WX.thenExit (K := KL) ?_; clear hL KL)))
  refine WL.alloc rfl ?_; intro b6
  (repeat (first | refine vgo ?_ | refine ⟨_, rfl, rfl, ?_⟩ | refine ⟨_, rfl, ?_⟩ | refine ⟨rfl, ?_⟩ | intro hb | (refine altL ?_ ?_; omega) | refine altR ?_ | (refine side ?_ ?_; first | omega | exact True.intro | ((try simp only [List.length_append, List.length_cons, List.length_nil, List.length_map, List.length_replicate, List.length_set, and_true, true_and]); omega) | assumption | (and_intros <;> first | omega | assumption) | decide) | (refine decT ?_ ?_; first | with_reducible assumption | with_reducible rfl | omega | decide) | (refine decF ?_ ?_; first | with_reducible assumption | with_reducible rfl | omega | decide) | (refine decBT ?_ ?_; with_reducible assumption) | (refine decBF ?_ ?_; with_reducible assumption) | refine ⟨_, by assumption, ?_⟩ | refine ⟨_, _, _, rfl, ?_⟩ | refine WC.seq (fun K hK => ?_) | (refine hK _ _ _ ?_; clear hK K) | (refine WX.thenExit (K := K) ?_; clear hK K) | (refine WX.thenExit (K := KL) ?_; clear hL KL)))
  refine WL.build rfl rfl rfl rfl rfl ?_; intro vj0; (try dsimp only [List.cons_append, List.nil_append])
  refine WL.sat (fun w sw => sw.pub (R := (Ty.u64)) (l := ([])) (v := vj0) SelOwn.h rfl rfl rfl (by simp)) ?_
  (repeat (first | refine vgo ?_ | refine ⟨_, rfl, rfl, ?_⟩ | refine ⟨_, rfl, ?_⟩ | refine ⟨rfl, ?_⟩ | intro hb | (refine altL ?_ ?_; omega) | refine altR ?_ | (refine side ?_ ?_; first | omega | exact True.intro | ((try simp only [List.length_append, List.length_cons, List.length_nil, List.length_map, List.length_replicate, List.length_set, and_true, true_and]); omega) | assumption | (and_intros <;> first | omega | assumption) | decide) | (refine decT ?_ ?_; first | with_reducible assumption | with_reducible rfl | omega | decide) | (refine decF ?_ ?_; first | with_reducible assumption | with_reducible rfl | omega | decide) | (refine decBT ?_ ?_; with_reducible assumption) | (refine decBF ?_ ?_; with_reducible assumption) | refine ⟨_, by assumption, ?_⟩ | refine ⟨_, _, _, rfl, ?_⟩ | refine WC.seq (fun K hK => ?_) | (refine hK _ _ _ ?_; clear hK K) | (refine WX.thenExit (K := K) ?_; clear hK K) | (refine WX.thenExit (K := KL) ?_; clear hL KL)))
  refine WC.loop (I := Nat × Value × Value × List Value) (fun i => [(10, .int .i64 i.1), (9, i.2.2.1), (8, .bool (decide (∀ y ∈ ls.take i.1, withinL y c))), (7, .bool (decide (∀ y ∈ ls.take i.1, withinL c y))), (6, .pointer (some ⟨b6, 0, none⟩)), (5, i.2.1), (1, v1), (0, v0)])
    (fun i => rdAll (Ty.sl Ty.u64) (ls.take i.1) i.2.2.2 :: rd (Ty.sl Ty.u64) (joinF (ls.take i.1)) i.2.2.1 :: rd (Ty.sl (Ty.sl Ty.u64)) ls v0 :: rd (Ty.sl Ty.u64) c v1 :: Gf)
    (fun i => own 52 1 i.2.1 i.1 i.2.2.2 :: box b6 51 ((meetF (ls.take i.1)).map uV) :: Sf)
    (fun i => i.1 ≤ ls.length ∧ (∀ y ∈ ls.take i.1, y.length ≤ 64) ∧ ∀ x ∈ meetF (ls.take i.1), x < 18446744073709551616) (fun i => ls.length - i.1) (0, .slice none 0 0, vj0, []) (by simp [meetF]) (.cons rfl (.cons rfl (.cons (by simp; rfl) (.cons (by simp; rfl) (.cons rfl (.cons rfl (.cons rfl (.cons rfl .nil)))))))) (fun w h => ?_) ?_
  · exact (show Sat B (rdAll (Ty.sl Ty.u64) ([] : List (List Nat)) [] :: rd (Ty.sl Ty.u64) [] vj0 :: rd (Ty.sl (Ty.sl Ty.u64)) ls v0 :: rd (Ty.sl Ty.u64) c v1 :: Gf) (own 52 1 (.slice none 0 0) 0 [] :: box b6 51 ((List.replicate 64 0).map uV) :: Sf) w from ((h.rdAllNil (Ty.sl Ty.u64)).ownNil 52 1).to)
  rintro ⟨k, va, vj, us⟩ ⟨hi, hall, hmok⟩ KL hL
  dsimp only at hi hall hmok ⊢
  have hml := meetF_length (ls.take k)
  have hjl := joinF_len (ls.take k) hall
  (repeat (first | refine vgo ?_ | refine ⟨_, rfl, rfl, ?_⟩ | refine ⟨_, rfl, ?_⟩ | refine ⟨rfl, ?_⟩ | intro hb | (refine altL ?_ ?_; omega) | refine altR ?_ | (refine side ?_ ?_; first | omega | exact True.intro | ((try simp only [List.length_append, List.length_cons, List.length_nil, List.length_map, List.length_replicate, List.length_set, and_true, true_and]); omega) | assumption | (and_intros <;> first | omega | assumption) | decide) | (refine decT ?_ ?_; first | with_reducible assumption | with_reducible rfl | omega | decide) | (refine decF ?_ ?_; first | with_reducible assumption | with_reducible rfl | omega | decide) | (refine decBT ?_ ?_; with_reducible assumption) | (refine decBF ?_ ?_; with_reducible assumption) | refine ⟨_, by assumption, ?_⟩ | refine ⟨_, _, _, rfl, ?_⟩ | refine WC.seq (fun K hK => ?_) | (refine hK _ _ _ ?_; clear hK K) | (refine WX.thenExit (K := K) ?_; clear hK K) | (refine WX.thenExit (K := KL) ?_; clear hL KL)))
  refine dcB (fun hk => ?_) (fun hk => ?_)
  · obtain ⟨x, hx, hts⟩ := get_ex (l := ls) (k := k) (by omega)
    (repeat (first | refine vgo ?_ | refine ⟨_, rfl, rfl, ?_⟩ | refine ⟨_, rfl, ?_⟩ | refine ⟨rfl, ?_⟩ | intro hb | (refine altL ?_ ?_; omega) | refine altR ?_ | (refine side ?_ ?_; first | omega | exact True.intro | ((try simp only [List.length_append, List.length_cons, List.length_nil, List.length_map, List.length_replicate, List.length_set, and_true, true_and]); omega) | assumption | (and_intros <;> first | omega | assumption) | decide) | (refine decT ?_ ?_; first | with_reducible assumption | with_reducible rfl | omega | decide) | (refine decF ?_ ?_; first | with_reducible assumption | with_reducible rfl | omega | decide) | (refine decBT ?_ ?_; with_reducible assumption) | (refine decBF ?_ ?_; with_reducible assumption) | refine ⟨_, by assumption, ?_⟩ | refine ⟨_, _, _, rfl, ?_⟩ | refine WC.seq (fun K hK => ?_) | (refine hK _ _ _ ?_; clear hK K) | (refine WX.thenExit (K := K) ?_; clear hK K) | (refine WX.thenExit (K := KL) ?_; clear hL KL)))
    refine dcB (fun hx64 => ?_) (fun hx64 => ?_)
    · (repeat (first | refine vgo ?_ | refine ⟨_, rfl, rfl, ?_⟩ | refine ⟨_, rfl, ?_⟩ | refine ⟨rfl, ?_⟩ | intro hb | (refine altL ?_ ?_; omega) | refine altR ?_ | (refine side ?_ ?_; first | omega | exact True.intro | ((try simp only [List.length_append, List.length_cons, List.length_nil, List.length_map, List.length_replicate, List.length_set, and_true, true_and]); omega) | assumption | (and_intros <;> first | omega | assumption) | decide) | (refine decT ?_ ?_; first | with_reducible assumption | with_reducible rfl | omega | decide) | (refine decF ?_ ?_; first | with_reducible assumption | with_reducible rfl | omega | decide) | (refine decBT ?_ ?_; with_reducible assumption) | (refine decBF ?_ ?_; with_reducible assumption) | refine ⟨_, by assumption, ?_⟩ | refine ⟨_, _, _, rfl, ?_⟩ | refine WC.seq (fun K hK => ?_) | (refine hK _ _ _ ?_; clear hK K) | (refine WX.thenExit (K := K) ?_; clear hK K) | (refine WX.thenExit (K := KL) ?_; clear hL KL)))
      exact WX.ret1 rfl rfl (fun w sw => ⟨[], [], rfl, sw.to⟩)
    (repeat (first | refine vgo ?_ | refine ⟨_, rfl, rfl, ?_⟩ | refine ⟨_, rfl, ?_⟩ | refine ⟨rfl, ?_⟩ | intro hb | (refine altL ?_ ?_; omega) | refine altR ?_ | (refine side ?_ ?_; first | omega | exact True.intro | ((try simp only [List.length_append, List.length_cons, List.length_nil, List.length_map, List.length_replicate, List.length_set, and_true, true_and]); omega) | assumption | (and_intros <;> first | omega | assumption) | decide) | (refine decT ?_ ?_; first | with_reducible assumption | with_reducible rfl | omega | decide) | (refine decF ?_ ?_; first | with_reducible assumption | with_reducible rfl | omega | decide) | (refine decBT ?_ ?_; with_reducible assumption) | (refine decBF ?_ ?_; with_reducible assumption) | refine ⟨_, by assumption, ?_⟩ | refine ⟨_, _, _, rfl, ?_⟩ | refine WC.seq (fun K hK => ?_) | (refine hK _ _ _ ?_; clear hK K) | (refine WX.thenExit (K := K) ?_; clear hK K) | (refine WX.thenExit (K := KL) ?_; clear hL KL)))
    obtain ⟨ux, rfl⟩ : ∃ ux, ux = hb := ⟨hb, rfl⟩
    refine WL.build rfl rfl rfl rfl rfl ?_; intro vx; (try dsimp only [List.cons_append, List.nil_append])
    refine WL.append rfl rfl rfl ?_; refine AppV.o rfl ?_ ?_; rotate_left; intro va2
    rotate_left
    · omega
    refine WL.sat (fun w sw => sw.rdAllSnoc (vs := us) (u := ux)) ?_
    rw [← hts]
    (repeat (first | refine vgo ?_ | refine ⟨_, rfl, rfl, ?_⟩ | refine ⟨_, rfl, ?_⟩ | refine ⟨rfl, ?_⟩ | intro hb | (refine altL ?_ ?_; omega) | refine altR ?_ | (refine side ?_ ?_; first | omega | exact True.intro | ((try simp only [List.length_append, List.length_cons, List.length_nil, List.length_map, List.length_replicate, List.length_set, and_true, true_and]); omega) | assumption | (and_intros <;> first | omega | assumption) | decide) | (refine decT ?_ ?_; first | with_reducible assumption | with_reducible rfl | omega | decide) | (refine decF ?_ ?_; first | with_reducible assumption | with_reducible rfl | omega | decide) | (refine decBT ?_ ?_; with_reducible assumption) | (refine decBF ?_ ?_; with_reducible assumption) | refine ⟨_, by assumption, ?_⟩ | refine ⟨_, _, _, rfl, ?_⟩ | (refine hK _ _ _ ?_; clear hK K) | (refine WX.thenExit (K := K) ?_; clear hK K) | (refine WX.thenExit (K := KL) ?_; clear hL KL)))
    refine WC.ex (fun w sw => sw.oks (f := fun m => .int .u64 (m : Int)) (ok := fun m => m < 18446744073709551616) (R := Ty.u64) (l := x) (v := ux) RdSl.h) (fun okx => ?_)
    have hxl : x.length ≤ 64 := by omega
    have lx := ofL_length x
    have rx := ofL_ok okx
    obtain ⟨F, hF⟩ : ∃ F, F = if k = 0 then ofL x else meetF (ls.take k) := ⟨_, rfl⟩
    have hFl : F.length = 64 := by rw [hF]; split <;> assumption
    have hFok : ∀ y ∈ F, y < 18446744073709551616 := by rw [hF]; split <;> assumption
    have hnext : zipL minN F (ofL x) = meetF (ls.take (k + 1)) := by
      rw [hts, hF]
      split
      · rename_i h0; subst h0; rfl
      · rename_i h0
        rw [meetF_snoc _ (by intro e; have := congrArg List.length e; rw [List.length_take, List.length_nil] at this; omega)]
    have hzl := zipL_length minN F (ofL x)
    have hnok := zipL_ok minN_ok hFok rx
    have htk : (ls.take (k + 1)).length = k + 1 := by simp; omega
    refine WC.cut [(11, ux), (10, .int .i64 k), (9, vj), (8, .bool (decide (∀ y ∈ ls.take k, withinL y c))), (7, .bool (decide (∀ y ∈ ls.take k, withinL c y))), (6, .pointer (some ⟨b6, 0, none⟩)), (5, va2), (1, v1), (0, v0)]
      (rdAll (Ty.sl Ty.u64) (ls.take (k + 1)) (us ++ [ux]) :: rd (Ty.sl Ty.u64) x ux :: rd (Ty.sl Ty.u64) (joinF (ls.take k)) vj :: rd (Ty.sl (Ty.sl Ty.u64)) ls v0 :: rd (Ty.sl Ty.u64) c v1 :: Gf) (own 52 1 va2 (k + 1) (us ++ [ux]) :: box b6 51 (F.map uV) :: Sf) (fun K2 hC => ?_) ?_
    · (repeat (first | refine vgo ?_ | refine ⟨_, rfl, rfl, ?_⟩ | refine ⟨_, rfl, ?_⟩ | refine ⟨rfl, ?_⟩ | intro hb | (refine altL ?_ ?_; omega) | refine altR ?_ | (refine side ?_ ?_; first | omega | exact True.intro | ((try simp only [List.length_append, List.length_cons, List.length_nil, List.length_map, List.length_replicate, List.length_set, and_true, true_and]); omega) | assumption | (and_intros <;> first | omega | assumption) | decide) | (refine decT ?_ ?_; first | with_reducible assumption | with_reducible rfl | omega | decide) | (refine decF ?_ ?_; first | with_reducible assumption | with_reducible rfl | omega | decide) | (refine decBT ?_ ?_; with_reducible assumption) | (refine decBF ?_ ?_; with_reducible assumption) | refine ⟨_, by assumption, ?_⟩ | refine ⟨_, _, _, rfl, ?_⟩ | refine WC.seq (fun K hK => ?_) | (refine hK _ _ _ ?_; clear hK K) | (refine WX.thenExit (K := K) ?_; clear hK K) | (refine WX.thenExit (K := KL) ?_; clear hL KL)))
      refine dcB (fun h0 => ?_) (fun h0 => ?_)
      · have hx0 : ls[(0 : Int).toNat]? = some x := by rw [← hx]; congr 1; omega
        rw [if_pos (by omega)] at hF
        (repeat (first | refine vgo ?_ | refine ⟨_, rfl, rfl, ?_⟩ | refine ⟨_, rfl, ?_⟩ | refine ⟨rfl, ?_⟩ | intro hb | (refine altL ?_ ?_; omega) | refine altR ?_ | (refine side ?_ ?_; first | omega | exact True.intro | ((try simp only [List.length_append, List.length_cons, List.length_nil, List.length_map, List.length_replicate, List.length_set, and_true, true_and]); omega) | assumption | (and_intros <;> first | omega | assumption) | decide) | (refine decT ?_ ?_; first | with_reducible assumption | with_reducible rfl | omega | decide) | (refine decF ?_ ?_; first | with_reducible assumption | with_reducible rfl | omega | decide) | (refine decBT ?_ ?_; with_reducible assumption) | (refine decBF ?_ ?_; with_reducible assumption) | refine ⟨_, by assumption, ?_⟩ | refine ⟨_, _, _, rfl, ?_⟩ | refine WC.seq (fun K hK => ?_) | (refine hK _ _ _ ?_; clear hK K) | (refine WX.thenExit (K := K) ?_; clear hK K) | (refine WX.thenExit (K := KL) ?_; clear hL KL)))
        exact hC.conv (.cons rfl (.cons rfl (.cons rfl (.cons rfl (.cons rfl (.cons rfl (.cons rfl (.cons rfl (.cons rfl .nil))))))))) (fun _ h => by rw [hF]; exact h.to)
      · rw [if_neg (by omega)] at hF
        (repeat (first | refine vgo ?_ | refine ⟨_, rfl, rfl, ?_⟩ | refine ⟨_, rfl, ?_⟩ | refine ⟨rfl, ?_⟩ | intro hb | (refine altL ?_ ?_; omega) | refine altR ?_ | (refine side ?_ ?_; first | omega | exact True.intro | ((try simp only [List.length_append, List.length_cons, List.length_nil, List.length_map, List.length_replicate, List.length_set, and_true, true_and]); omega) | assumption | (and_intros <;> first | omega | assumption) | decide) | (refine decT ?_ ?_; first | with_reducible assumption | with_reducible rfl | omega | decide) | (refine decF ?_ ?_; first | with_reducible assumption | with_reducible rfl | omega | decide) | (refine decBT ?_ ?_; with_reducible assumption) | (refine decBF ?_ ?_; with_reducible assumption) | refine ⟨_, by assumption, ?_⟩ | refine ⟨_, _, _, rfl, ?_⟩ | refine WC.seq (fun K hK => ?_) | (refine hK _ _ _ ?_; clear hK K) | (refine WX.thenExit (K := K) ?_; clear hK K) | (refine WX.thenExit (K := KL) ?_; clear hL KL)))
        exact hC.conv (.cons rfl (.cons rfl (.cons rfl (.cons rfl (.cons rfl (.cons rfl (.cons rfl (.cons rfl (.cons rfl .nil))))))))) (fun _ h => by rw [hF]; exact h.to)
    refine WC.seq (fun K hK => ?_)
    apply WC.drawP (Ξ := Unit) (GG := fun _ _ => []) (SS := fun j _ => [box b6 51 ((pick3 j F (zipL minN F (ofL x))).map uV)]) (G := rdAll (Ty.sl Ty.u64) (ls.take (k + 1)) (us ++ [ux]) :: rd (Ty.sl Ty.u64) x ux :: rd (Ty.sl Ty.u64) (joinF (ls.take k)) vj :: rd (Ty.sl (Ty.sl Ty.u64)) ls v0 :: rd (Ty.sl Ty.u64) c v1 :: Gf) (S := own 52 1 va2 (k + 1) (us ++ [ux]) :: Sf) ()
    · exact rfl
    · repeat (first | exact Wo.nil | (apply Wo.keep; exact rfl) | (apply Wo.drop; exact rfl))
    · exact fun w sw => by dsimp only [pick3]; exact sw.to
    apply ObP.consM
    · exact rfl
    · intro ξ Gx
      (repeat (intro _))
      (conv => whnf)
      dsimp only [pick3]
      (try simp only [List.cons_append]); (try simp only [List.nil_append])
      (repeat (first | refine vgo ?_ | refine ⟨_, rfl, rfl, ?_⟩ | refine ⟨_, rfl, ?_⟩ | refine ⟨rfl, ?_⟩ | intro hb | (refine altL ?_ ?_; omega) | refine altR ?_ | (refine side ?_ ?_; first | omega | exact True.intro | ((try simp only [List.length_append, List.length_cons, List.length_nil, List.length_map, List.length_replicate, List.length_set, and_true, true_and]); omega) | assumption | (and_intros <;> first | omega | assumption) | decide) | (refine decT ?_ ?_; first | with_reducible assumption | with_reducible rfl | omega | decide) | (refine decF ?_ ?_; first | with_reducible assumption | with_reducible rfl | omega | decide) | (refine decBT ?_ ?_; with_reducible assumption) | (refine decBF ?_ ?_; with_reducible assumption) | refine ⟨_, by assumption, ?_⟩ | refine ⟨_, _, _, rfl, ?_⟩ | refine WC.seq (fun K hK => ?_) | (refine hK _ _ _ ?_; clear hK K) | (refine WX.thenExit (K := K) ?_; clear hK K) | (refine WX.thenExit (K := KL) ?_; clear hL KL)))
      exact WX.pmIs () rfl (fun w sw => by (try dsimp only [pick3]); exact sw.to)
    (repeat (apply ObP.consA; focus ((repeat (intro _)); (conv => whnf); (repeat (first | refine vgo ?_ | refine ⟨_, rfl, rfl, ?_⟩ | refine ⟨_, rfl, ?_⟩ | refine ⟨rfl, ?_⟩ | intro hb | (refine altL ?_ ?_; omega) | refine altR ?_ | (refine side ?_ ?_; first | omega | exact True.intro | ((try simp only [List.length_append, List.length_cons, List.length_nil, List.length_map, List.length_replicate, List.length_set, and_true, true_and]); omega) | assumption | (and_intros <;> first | omega | assumption) | decide) | (refine decT ?_ ?_; first | with_reducible assumption | with_reducible rfl | omega | decide) | (refine decF ?_ ?_; first | with_reducible assumption | with_reducible rfl | omega | decide) | (refine decBT ?_ ?_; with_reducible assumption) | (refine decBF ?_ ?_; with_reducible assumption) | refine ⟨_, by assumption, ?_⟩ | refine ⟨_, _, _, rfl, ?_⟩ | refine WC.seq (fun K hK => ?_) | (refine hK _ _ _ ?_; clear hK K) | (refine WX.thenExit (K := K) ?_; clear hK K) | (refine WX.thenExit (K := KL) ?_; clear hL KL))); first | exact WX.pqIs rfl | exact WX.pqRd rfl | exact WX.pqCell rfl | exact WX.pqNone))); try (refine ObP.nil ?_; (repeat (intro _)); (conv => whnf))
    apply ObP.consM
    · exact rfl
    · intro ξ Gx
      (repeat (intro _))
      (conv => whnf)
      dsimp only [pick3]
      (try simp only [List.cons_append]); (try simp only [List.nil_append])
      (repeat (first | refine vgo ?_ | refine ⟨_, rfl, rfl, ?_⟩ | refine ⟨_, rfl, ?_⟩ | refine ⟨rfl, ?_⟩ | intro hb | (refine altL ?_ ?_; omega) | refine altR ?_ | (refine side ?_ ?_; first | omega | exact True.intro | ((try simp only [List.length_append, List.length_cons, List.length_nil, List.length_map, List.length_replicate, List.length_set, and_true, true_and]); omega) | assumption | (and_intros <;> first | omega | assumption) | decide) | (refine decT ?_ ?_; first | with_reducible assumption | with_reducible rfl | omega | decide) | (refine decF ?_ ?_; first | with_reducible assumption | with_reducible rfl | omega | decide) | (refine decBT ?_ ?_; with_reducible assumption) | (refine decBF ?_ ?_; with_reducible assumption) | refine ⟨_, by assumption, ?_⟩ | refine ⟨_, _, _, rfl, ?_⟩ | refine WC.seq (fun K hK => ?_) | (refine hK _ _ _ ?_; clear hK K) | (refine WX.thenExit (K := K) ?_; clear hK K) | (refine WX.thenExit (K := KL) ?_; clear hL KL)))
      exact WX.pmNone () (fun w sw => by (try dsimp only [pick3]); exact sw.to)
    (repeat (apply ObP.consA; focus ((repeat (intro _)); (conv => whnf); (repeat (first | refine vgo ?_ | refine ⟨_, rfl, rfl, ?_⟩ | refine ⟨_, rfl, ?_⟩ | refine ⟨rfl, ?_⟩ | intro hb | (refine altL ?_ ?_; omega) | refine altR ?_ | (refine side ?_ ?_; first | omega | exact True.intro | ((try simp only [List.length_append, List.length_cons, List.length_nil, List.length_map, List.length_replicate, List.length_set, and_true, true_and]); omega) | assumption | (and_intros <;> first | omega | assumption) | decide) | (refine decT ?_ ?_; first | with_reducible assumption | with_reducible rfl | omega | decide) | (refine decF ?_ ?_; first | with_reducible assumption | with_reducible rfl | omega | decide) | (refine decBT ?_ ?_; with_reducible assumption) | (refine decBF ?_ ?_; with_reducible assumption) | refine ⟨_, by assumption, ?_⟩ | refine ⟨_, _, _, rfl, ?_⟩ | refine WC.seq (fun K hK => ?_) | (refine hK _ _ _ ?_; clear hK K) | (refine WX.thenExit (K := K) ?_; clear hK K) | (refine WX.thenExit (K := KL) ?_; clear hL KL))); first | exact WX.pqIs rfl | exact WX.pqRd rfl | exact WX.pqCell rfl | exact WX.pqNone))); refine ObP.nil ?_; intro ξ; ((repeat (intro _)); (conv => whnf))
    (try dsimp only [pick3])
    (try simp only [List.cons_append]); (try simp only [List.nil_append])
    rw [hnext] at hnok ⊢
    have hall2 : ∀ y ∈ ls.take (k + 1), y.length ≤ 64 := by
      rw [hts]; intro y hy
      rcases List.mem_append.1 hy with hy | hy
      · exact hall y hy
      · simp at hy; subst hy; omega
    by_cases hin : ∀ y ∈ ls.take k, withinL c y <;> by_cases har : ∀ y ∈ ls.take k, withinL y c
    all_goals
      (repeat (first | refine vgo ?_ | refine ⟨_, rfl, rfl, ?_⟩ | refine ⟨_, rfl, ?_⟩ | refine ⟨rfl, ?_⟩ | intro hb | (refine altL ?_ ?_; omega) | refine altR ?_ | (refine side ?_ ?_; first | omega | exact True.intro | ((try simp only [List.length_append, List.length_cons, List.length_nil, List.length_map, List.length_replicate, List.length_set, and_true, true_and]); omega) | assumption | (and_intros <;> first | omega | assumption) | decide) | (refine decT ?_ ?_; first | with_reducible assumption | with_reducible rfl | omega | decide) | (refine decF ?_ ?_; first | with_reducible assumption | with_reducible rfl | omega | decide) | (refine decBT ?_ ?_; with_reducible assumption) | (refine decBF ?_ ?_; with_reducible assumption) | refine ⟨_, by assumption, ?_⟩ | refine ⟨_, _, _, rfl, ?_⟩ | refine WC.seq (fun K hK => ?_) | (refine hK _ _ _ ?_; clear hK K) | (refine WX.thenExit (K := K) ?_; clear hK K) | (refine WX.thenExit (K := KL) ?_; clear hL KL)))
      exact (hL (k + 1, va2, _, us ++ [ux]) ⟨by dsimp only; omega, hall2, hnok⟩ (by dsimp only; omega)).conv (.cons rfl (.cons rfl (.cons (congrArg some (congrArg Value.bool (by rw [hts]; first | exact decide_eq_decide.2 ⟨fun h => all_snoc.2 ⟨har, h⟩, fun h => (all_snoc.1 h).2⟩ | exact (decide_eq_false (fun h => har (all_snoc.1 h).1)).symm))) (.cons (congrArg some (congrArg Value.bool (by rw [hts]; first | exact decide_eq_decide.2 ⟨fun h => all_snoc.2 ⟨hin, h⟩, fun h => (all_snoc.1 h).2⟩ | exact (decide_eq_false (fun h => hin (all_snoc.1 h).1)).symm))) (.cons rfl (.cons rfl (.cons rfl (.cons rfl .nil)))))))) (fun _ h => by dsimp only; rw [show joinF (ls.take (k + 1)) = trimL (joinL maxN (joinF (ls.take k)) x) from by rw [hts, joinF_snoc]]; exact h.to)
  · obtain rfl : k = ls.length := by omega
    rw [List.take_length] at hall hmok hml hjl ⊢
    have hmeet := meet_same ls hall
    have hls : ∀ y ∈ ls, y.length ≤ 1000000 := fun y hy => by have := hall y hy; omega
    (repeat (first | refine vgo ?_ | refine ⟨_, rfl, rfl, ?_⟩ | refine ⟨_, rfl, ?_⟩ | refine ⟨rfl, ?_⟩ | intro hb | (refine altL ?_ ?_; omega) | refine altR ?_ | (refine side ?_ ?_; first | omega | exact True.intro | ((try simp only [List.length_append, List.length_cons, List.length_nil, List.length_map, List.length_replicate, List.length_set, and_true, true_and]); omega) | assumption | (and_intros <;> first | omega | assumption) | decide) | (refine decT ?_ ?_; first | with_reducible assumption | with_reducible rfl | omega | decide) | (refine decF ?_ ?_; first | with_reducible assumption | with_reducible rfl | omega | decide) | (refine decBT ?_ ?_; with_reducible assumption) | (refine decBF ?_ ?_; with_reducible assumption) | refine ⟨_, by assumption, ?_⟩ | refine ⟨_, _, _, rfl, ?_⟩ | refine WC.seq (fun K hK => ?_) | (refine hK _ _ _ ?_; clear hK K) | (refine WX.thenExit (K := K) ?_; clear hK K) | (refine WX.thenExit (K := KL) ?_; clear hL KL)))
    refine CallV.sat (fun w sw => sw.pubAll (R := Ty.sl Ty.u64) (l := ls) (v := va) (vs := us) rfl rfl rfl rfl) ?_
    have hj : decide (withinL (joinF ls) c) = decide (∀ y ∈ ls, withinL y c) := decide_eq_decide.2 (joinF_within ls c)
    by_cases h0 : (ls.length : Int) = 0
    · (repeat (first | refine vgo ?_ | refine ⟨_, rfl, rfl, ?_⟩ | refine ⟨_, rfl, ?_⟩ | refine ⟨rfl, ?_⟩ | intro hb | (refine altL ?_ ?_; omega) | refine altR ?_ | (refine side ?_ ?_; first | omega | exact True.intro | ((try simp only [List.length_append, List.length_cons, List.length_nil, List.length_map, List.length_replicate, List.length_set, and_true, true_and]); omega) | assumption | (and_intros <;> first | omega | assumption) | decide) | (refine decT ?_ ?_; first | with_reducible assumption | with_reducible rfl | omega | decide) | (refine decF ?_ ?_; first | with_reducible assumption | with_reducible rfl | omega | decide) | (refine decBT ?_ ?_; with_reducible assumption) | (refine decBF ?_ ?_; with_reducible assumption) | refine ⟨_, by assumption, ?_⟩ | refine ⟨_, _, _, rfl, ?_⟩ | refine WC.seq (fun K hK => ?_) | (refine hK _ _ _ ?_; clear hK K) | (refine WX.thenExit (K := K) ?_; clear hK K) | (refine WX.thenExit (K := KL) ?_; clear hL KL)))
      exact WX.ret1 rfl rfl (fun w sw => ⟨[], [], rfl, sw.to⟩)
    · have hm : decide (withinL c (meetL ls)) = decide (∀ y ∈ ls, withinL c y) := decide_eq_decide.2 (meetL_within (by intro e; subst e; exact h0 rfl) c)
      (repeat (first | refine vgo ?_ | refine ⟨_, rfl, rfl, ?_⟩ | refine ⟨_, rfl, ?_⟩ | refine ⟨rfl, ?_⟩ | intro hb | (refine altL ?_ ?_; omega) | refine altR ?_ | (refine side ?_ ?_; first | omega | exact True.intro | ((try simp only [List.length_append, List.length_cons, List.length_nil, List.length_map, List.length_replicate, List.length_set, and_true, true_and]); omega) | assumption | (and_intros <;> first | omega | assumption) | decide) | (refine decT ?_ ?_; first | with_reducible assumption | with_reducible rfl | omega | decide) | (refine decF ?_ ?_; first | with_reducible assumption | with_reducible rfl | omega | decide) | (refine decBT ?_ ?_; with_reducible assumption) | (refine decBF ?_ ?_; with_reducible assumption) | refine ⟨_, by assumption, ?_⟩ | refine ⟨_, _, _, rfl, ?_⟩ | refine WC.seq (fun K hK => ?_) | (refine hK _ _ _ ?_; clear hK K) | (refine WX.thenExit (K := K) ?_; clear hK K) | (refine WX.thenExit (K := KL) ?_; clear hL KL)))
      exact WX.ret1 rfl rfl (fun w sw => ⟨[], [], rfl, sw.to⟩)
end Go.Qd
