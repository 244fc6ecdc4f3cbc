/-
  Stamps in order: what Sort tells, and the law.
-/
import Derived.Test.YtaachikpbdgdnaaPSort6
namespace Go.Qd
open Go Go.Proofs Go.Sort Go.Shelf
theorem idLess_irr (a : Nat × Int) : ¬ idLess a a := by unfold idLess; omega
theorem idLess_trans {a b c : Nat × Int} (h : idLess a b) (k : idLess b c) : idLess a c := by unfold idLess at *; omega
theorem idLess_tri {a b : Nat × Int} (h : ¬ idLess a b) (k : a ≠ b) : idLess b a := by
  obtain ⟨a1, a2⟩ := a
  obtain ⟨b1, b2⟩ := b
  unfold idLess at *
  dsimp only at *
  by_cases e : a1 = b1
  · subst e
    have : a2 ≠ b2 := fun e => k (by rw [e])
    omega
  · omega
theorem srt_uniq : ∀ {a b : List (Nat × Int)}, a.Pairwise idLess → b.Pairwise idLess → (∀ x, x ∈ a ↔ x ∈ b) → a = b
  | [], [], _, _, _ => rfl
  | [], y :: b, _, _, h => absurd ((h y).2 (.head _)) (by simp)
  | x :: a, [], _, _, h => absurd ((h x).1 (.head _)) (by simp)
  | x :: a, y :: b, ha, hb, h => by
    rw [List.pairwise_cons] at ha hb
    have e : x = y := by
      rcases List.mem_cons.1 ((h x).1 (.head _)) with e | e
      · exact e
      · rcases List.mem_cons.1 ((h y).2 (.head _)) with e2 | e2
        · exact e2.symm
        · exact absurd (idLess_trans (ha.1 y e2) (hb.1 x e)) (idLess_irr x)
    subst e
    rw [srt_uniq ha.2 hb.2 fun z => ?_]
    constructor
    · intro hz
      rcases List.mem_cons.1 ((h z).1 (.tail _ hz)) with e | e
      · subst e; exact absurd (ha.1 z hz) (idLess_irr z)
      · exact e
    · intro hz
      rcases List.mem_cons.1 ((h z).2 (.tail _ hz)) with e | e
      · subst e; exact absurd (hb.1 z hz) (idLess_irr z)
      · exact e
theorem putI_cons (x : Nat × Int) (l : List (Nat × Int)) (a : Nat × Int) : putI (x :: l) a = if idLess x a then x :: putI l a else if x = a then x :: l else a :: x :: l := by
  by_cases h : idLess x a
  · have e : putK (x :: l) a 0 = putK l a 0 + 1 := by
      unfold putK
      rw [List.drop_zero, List.drop_zero, List.takeWhile_cons, if_pos (decide_eq_true h), List.length_cons]; omega
    rw [if_pos h]
    unfold putI
    rw [e, List.getElem?_cons_succ, List.take_succ_cons, List.drop_succ_cons]
    split <;> rfl
  · have e : putK (x :: l) a 0 = 0 := putK_stop (x := x) rfl h
    rw [if_neg h]
    unfold putI
    rw [e, List.getElem?_cons_zero, List.take_zero, List.drop_zero]
    by_cases h2 : x = a
    · rw [if_pos (by rw [h2]), if_pos h2]
    · rw [if_neg (fun h => h2 (Option.some.inj h)), if_neg h2]; rfl
theorem putI_nil (a : Nat × Int) : putI [] a = [a] := rfl
theorem mem_putI : ∀ {l : List (Nat × Int)} {a z : Nat × Int}, z ∈ putI l a ↔ z = a ∨ z ∈ l
  | [], a, z => by rw [putI_nil]; simp
  | x :: l, a, z => by
    rw [putI_cons]
    split
    · rw [List.mem_cons, mem_putI, List.mem_cons]
      constructor
      · rintro (h | h | h) <;> simp [h]
      · rintro (h | h | h) <;> simp [h]
    · split
      · rename_i h; subst h; simp
      · simp
theorem putI_sorted : ∀ {l : List (Nat × Int)} {a : Nat × Int}, l.Pairwise idLess → (putI l a).Pairwise idLess
  | [], a, _ => by rw [putI_nil]; simp
  | x :: l, a, h => by
    rw [putI_cons]
    have h' := h
    rw [List.pairwise_cons] at h'
    split
    · rename_i hx
      rw [List.pairwise_cons]
      refine ⟨fun z hz => ?_, putI_sorted h'.2⟩
      rcases mem_putI.1 hz with rfl | hz
      · exact hx
      · exact h'.1 z hz
    · rename_i hx
      split
      · exact h
      · rename_i hn
        have hax := idLess_tri hx hn
        rw [List.pairwise_cons]
        refine ⟨fun z hz => ?_, h⟩
        rcases List.mem_cons.1 hz with rfl | hz
        · exact hax
        · exact idLess_trans hax (h'.1 z hz)
def putAllI (l : List (Nat × Int)) : List (Nat × Int) := l.foldl putI []
theorem putAllI_snoc {l : List (Nat × Int)} {i : Nat} {x : Nat × Int} (h : l[i]? = some x) : putAllI (l.take (i + 1)) = putI (putAllI (l.take i)) x := by
  unfold putAllI; rw [take_snoc05 h, List.foldl_append]; rfl
theorem putAllI_facts (l : List (Nat × Int)) : ∀ (s : List (Nat × Int)), s.Pairwise idLess → (l.foldl putI s).Pairwise idLess ∧ (∀ x, x ∈ l.foldl putI s ↔ x ∈ s ∨ x ∈ l) ∧ (l.foldl putI s).length ≤ s.length + l.length := by
  induction l with
  | nil => intro s hs; exact ⟨hs, by simp, by simp⟩
  | cons a l ih =>
    intro s hs
    obtain ⟨h1, h2, h3⟩ := ih (putI s a) (putI_sorted hs)
    refine ⟨h1, fun x => ?_, ?_⟩
    · rw [List.foldl_cons, h2, mem_putI, List.mem_cons]
      constructor
      · rintro ((h | h) | h) <;> simp [h]
      · rintro (h | h | h) <;> simp [h]
    · rw [List.foldl_cons, List.length_cons]
      have := putI_len s a
      omega
theorem leID_iff (a b : Nat × Int) : leID a b = true ↔ ¬ idLess b a := by
  unfold leID; rw [ltID]; simp
def srtI (l : List (Nat × Int)) : List (Nat × Int) := cptN (l.mergeSort leID) (l.mergeSort leID).length
theorem cptN_facts {s : List (Nat × Int)} (hs : s.Pairwise fun a b => leID a b = true) : ∀ p, p ≤ s.length → (cptN s p).Pairwise idLess ∧ ∀ x, x ∈ cptN s p ↔ x ∈ s.take p
  | 0, _ => ⟨List.Pairwise.nil, by simp [cptN]⟩
  | 1, h => by
    refine ⟨?_, fun x => Iff.rfl⟩
    obtain ⟨y, s, rfl⟩ : ∃ y t, s = y :: t := by
      cases s with
      | nil => simp at h
      | cons y t => exact ⟨y, t, rfl⟩
    simp [cptN]
  | p + 2, h => by
    obtain ⟨i1, i2⟩ := cptN_facts hs (p + 1) (by omega)
    have hx : s[p + 1]? = some s[p + 1] := List.getElem?_eq_getElem (by omega)
    have hy : s[p]? = some s[p] := List.getElem?_eq_getElem (by omega)
    have ht : s.take (p + 2) = s.take (p + 1) ++ [s[p + 1]] := take_snoc05 hx
    by_cases e : s[p + 1]? = s[p]?
    · have e1 : cptN s (p + 2) = cptN s (p + 1) := cptN_same (by omega) e
      rw [e1]
      refine ⟨i1, fun x => ?_⟩
      rw [i2, ht, List.mem_append, List.mem_singleton]
      refine ⟨.inl, ?_⟩
      rintro (h | h)
      · exact h
      · have : s[p + 1] = s[p] := by rw [hx, hy] at e; exact Option.some.inj e
        rw [h, this]
        exact List.mem_of_getElem? (i := p) (by rw [List.getElem?_take, if_pos (by omega), hy])
    · have e1 : cptN s (p + 2) = cptN s (p + 1) ++ [s[p + 1]] := cptN_new (p := p + 1) (by omega) hx e
      rw [e1]
      refine ⟨?_, fun x => by rw [List.mem_append, ht, List.mem_append, i2]⟩
      rw [List.pairwise_append]
      refine ⟨i1, by simp, fun z hz x hxm => ?_⟩
      obtain rfl := List.mem_singleton.1 hxm
      have hz2 := (i2 z).1 hz
      obtain ⟨i, hi⟩ := List.mem_iff_getElem?.1 hz2
      rw [List.getElem?_take] at hi
      split at hi
      · rename_i hip
        obtain ⟨hil, rfl⟩ := List.getElem?_eq_some_iff.1 hi
        have hne : s[p + 1] ≠ s[p] := fun e' => e (by rw [hx, hy, e'])
        have hpw := List.pairwise_iff_getElem.1 hs
        have hyx : idLess s[p] s[p + 1] := idLess_tri ((leID_iff _ _).1 (hpw p (p + 1) (by omega) (by omega) (by omega))) hne
        by_cases hii : i = p
        · subst hii; exact hyx
        · have h1 := (leID_iff _ _).1 (hpw i p hil (by omega) (by omega))
          by_cases h2 : s[p] = s[i]
          · rw [← h2]; exact hyx
          · exact idLess_trans (idLess_tri h1 h2) hyx
      · cases hi
theorem srtI_eq (l : List (Nat × Int)) : srtI l = putAllI l := by
  have hs : (l.mergeSort leID).Pairwise fun a b => leID a b = true := List.pairwise_mergeSort (fun a b c h1 h2 => by
    rw [leID_iff] at *; unfold idLess at *; omega) (fun a b => by
    by_cases h : idLess b a
    · rw [Bool.or_eq_true]; right; rw [leID_iff]; unfold idLess at *; omega
    · rw [Bool.or_eq_true]; left; rw [leID_iff]; exact h) l
  obtain ⟨h1, h2⟩ := cptN_facts hs _ (Nat.le_refl _)
  obtain ⟨h3, h4, _⟩ := putAllI_facts l [] List.Pairwise.nil
  refine srt_uniq h1 h3 fun x => ?_
  unfold srtI putAllI
  rw [h2, List.take_of_length_le (Nat.le_refl _), List.mem_mergeSort, h4]; simp
theorem putAllI_len (l : List (Nat × Int)) : (putAllI l).length ≤ l.length := by
  have := (putAllI_facts l [] List.Pairwise.nil).2.2
  simpa [putAllI] using this
theorem ssort_fun (l : List (Nat × Int)) (v : Value) (hl : l.length ≤ 100000) : Fun Try.prog 24 [v] [rd (Ty.sl idT) l v] [] (fun z G S => G = [rd (Ty.sl idT) (putAllI l) z] ∧ S = []) := by
  refine Fun.enter Try.func24 (by kernel_rfl) rfl Try.ntmps24 rfl (fun B Gf Sf => ?_); (try simp only [List.cons_append]); (try simp only [List.nil_append]); simp only [argEnv]
  refine WC.ex (fun w sw => sw.oks (f := fun a : Nat × Int => idV a.1 a.2) (ok := fun a => okId a.1 a.2) (R := idT) (l := l) (v := v) RdSl.h) (fun okl => ?_)
  have hml : (l.mergeSort leID).length = l.length := List.length_mergeSort ..
  (repeat (first | refine vgo ?_ | refine ⟨_, rfl, rfl, ?_⟩ | refine ⟨_, rfl, ?_⟩ | refine ⟨rfl, ?_⟩ | intro hb | (refine altL ?_ ?_; omega) | refine altR ?_ | (refine side ?_ ?_; first | omega | exact True.intro | ((try simp only [List.length_append, List.length_cons, List.length_nil, List.length_map, List.length_replicate, List.length_set, and_true, true_and]); omega) | assumption | (and_intros <;> first | omega | assumption) | decide) | (refine decT ?_ ?_; first | with_reducible assumption | with_reducible rfl | (refine not_not_intro ?_; with_reducible first | assumption | rfl) | omega | decide) | (refine decF ?_ ?_; first | with_reducible assumption | with_reducible rfl | (refine not_not_intro ?_; with_reducible first | assumption | rfl) | omega | decide) | (refine decBT ?_ ?_; with_reducible first | assumption | rfl | exact Bool.not_false) | (refine decBF ?_ ?_; with_reducible first | assumption | rfl | exact Bool.not_true) | refine ⟨_, by assumption, ?_⟩ | refine ⟨_, _, _, rfl, ?_⟩ | refine WC.seq (fun K hK => ?_) | (refine hK _ _ _ ?_; clear hK K) | (refine hK _ _ _ _ rfl ?_; clear hK K) | (refine WX.thenExit (K := K) ?_; clear hK K) | (refine WX.thenExit (K := KL) ?_; clear hL KL)))
  refine CallV.by' (cloneID_fun l v hl) ?_; rintro _ _ _ ⟨rfl, rfl⟩; (try simp only [List.cons_append]); (try simp only [List.nil_append])
  rename_i u
  (repeat (first | refine vgo ?_ | refine ⟨_, rfl, rfl, ?_⟩ | refine ⟨_, rfl, ?_⟩ | refine ⟨rfl, ?_⟩ | intro hb | (refine altL ?_ ?_; omega) | refine altR ?_ | (refine side ?_ ?_; first | omega | exact True.intro | ((try simp only [List.length_append, List.length_cons, List.length_nil, List.length_map, List.length_replicate, List.length_set, and_true, true_and]); omega) | assumption | (and_intros <;> first | omega | assumption) | decide) | (refine decT ?_ ?_; first | with_reducible assumption | with_reducible rfl | (refine not_not_intro ?_; with_reducible first | assumption | rfl) | omega | decide) | (refine decF ?_ ?_; first | with_reducible assumption | with_reducible rfl | (refine not_not_intro ?_; with_reducible first | assumption | rfl) | omega | decide) | (refine decBT ?_ ?_; with_reducible first | assumption | rfl | exact Bool.not_false) | (refine decBF ?_ ?_; with_reducible first | assumption | rfl | exact Bool.not_true) | refine ⟨_, by assumption, ?_⟩ | refine ⟨_, _, _, rfl, ?_⟩ | refine WC.seq (fun K hK => ?_) | (refine hK _ _ _ ?_; clear hK K) | (refine hK _ _ _ _ rfl ?_; clear hK K) | (refine WX.thenExit (K := K) ?_; clear hK K) | (refine WX.thenExit (K := KL) ?_; clear hL KL)))
  refine CallV.by' (sortID_fun l (by omega) u) ?_; rintro _ _ _ ⟨rfl, rfl⟩; (try simp only [List.cons_append]); (try simp only [List.nil_append])
  (repeat (first | refine vgo ?_ | refine ⟨_, rfl, rfl, ?_⟩ | refine ⟨_, rfl, ?_⟩ | refine ⟨rfl, ?_⟩ | intro hb | (refine altL ?_ ?_; omega) | refine altR ?_ | (refine side ?_ ?_; first | omega | exact True.intro | ((try simp only [List.length_append, List.length_cons, List.length_nil, List.length_map, List.length_replicate, List.length_set, and_true, true_and]); omega) | assumption | (and_intros <;> first | omega | assumption) | decide) | (refine decT ?_ ?_; first | with_reducible assumption | with_reducible rfl | (refine not_not_intro ?_; with_reducible first | assumption | rfl) | omega | decide) | (refine decF ?_ ?_; first | with_reducible assumption | with_reducible rfl | (refine not_not_intro ?_; with_reducible first | assumption | rfl) | omega | decide) | (refine decBT ?_ ?_; with_reducible first | assumption | rfl | exact Bool.not_false) | (refine decBF ?_ ?_; with_reducible first | assumption | rfl | exact Bool.not_true) | refine ⟨_, by assumption, ?_⟩ | refine ⟨_, _, _, rfl, ?_⟩ | refine WC.seq (fun K hK => ?_) | (refine hK _ _ _ ?_; clear hK K) | (refine hK _ _ _ _ rfl ?_; clear hK K) | (refine WX.thenExit (K := K) ?_; clear hK K) | (refine WX.thenExit (K := KL) ?_; clear hL KL)))
  refine CallV.by' (compID_fun (l.mergeSort leID) u (by omega)) ?_; rintro _ _ _ ⟨rfl, rfl⟩; (try simp only [List.cons_append]); (try simp only [List.nil_append])
  (repeat (first | refine vgo ?_ | refine ⟨_, rfl, rfl, ?_⟩ | refine ⟨_, rfl, ?_⟩ | refine ⟨rfl, ?_⟩ | intro hb | (refine altL ?_ ?_; omega) | refine altR ?_ | (refine side ?_ ?_; first | omega | exact True.intro | ((try simp only [List.length_append, List.length_cons, List.length_nil, List.length_map, List.length_replicate, List.length_set, and_true, true_and]); omega) | assumption | (and_intros <;> first | omega | assumption) | decide) | (refine decT ?_ ?_; first | with_reducible assumption | with_reducible rfl | (refine not_not_intro ?_; with_reducible first | assumption | rfl) | omega | decide) | (refine decF ?_ ?_; first | with_reducible assumption | with_reducible rfl | (refine not_not_intro ?_; with_reducible first | assumption | rfl) | omega | decide) | (refine decBT ?_ ?_; with_reducible first | assumption | rfl | exact Bool.not_false) | (refine decBF ?_ ?_; with_reducible first | assumption | rfl | exact Bool.not_true) | refine ⟨_, by assumption, ?_⟩ | refine ⟨_, _, _, rfl, ?_⟩ | refine WC.seq (fun K hK => ?_) | (refine hK _ _ _ ?_; clear hK K) | (refine hK _ _ _ _ rfl ?_; clear hK K) | (refine WX.thenExit (K := K) ?_; clear hK K) | (refine WX.thenExit (K := KL) ?_; clear hL KL)))
  have oks : ∀ x ∈ srtI l, okId x.1 x.2 := fun x hx => okl x (by
    rw [srtI_eq] at hx
    simpa using ((putAllI_facts l [] List.Pairwise.nil).2.1 x).1 hx)
  have hsl : (srtI l).length ≤ 100000 := by
    have := putAllI_len l
    rw [srtI_eq]; omega
  rename_i z
  rw [← srtI_eq]
  refine WX.ret1 rfl rfl (fun w sw => ⟨_, _, ⟨rfl, rfl⟩, ?_⟩)
  exact (sw.pub (R := idT) (l := srtI l) (v := z) (m := (srtI l).length) SelOwn.h rfl rfl (by omega) oks).to
instance ssort_ret {G : List Pers} {l : List (Nat × Int)} {v : Value} [i : RdSl v G idT l] : RetF Try.prog 24 [v] G (l.length ≤ 100000) (Ty.sl idT) (putAllI l) := ⟨fun h => ⟨_, by simpa using i.h, ssort_fun l v h⟩⟩
theorem stampSorts_fun (l : List (Nat × Int)) (v : Value) : Fun Try.prog 6 [v] [rd (Ty.sl idT) l v] [] (fun r _ _ => r = .bool true) := by
  refine Fun.enter Try.func6 (by kernel_rfl) rfl Try.ntmps6 rfl (fun B Gf Sf => ?_); (try simp only [List.cons_append]); (try simp only [List.nil_append]); simp only [argEnv]
  refine WC.ex (fun w sw => sw.oks (f := fun a : Nat × Int => idV a.1 a.2) (ok := fun a => okId a.1 a.2) (R := idT) (l := l) (v := v) RdSl.h) (fun okl => ?_)
  refine WC.ex (fun w sw => sw.len_le (RdSl.h (v := v))) (fun hlv => ?_)
  (repeat (first | refine vgo ?_ | refine ⟨_, rfl, rfl, ?_⟩ | refine ⟨_, rfl, ?_⟩ | refine ⟨rfl, ?_⟩ | intro hb | (refine altL ?_ ?_; omega) | refine altR ?_ | (refine side ?_ ?_; first | omega | exact True.intro | ((try simp only [List.length_append, List.length_cons, List.length_nil, List.length_map, List.length_replicate, List.length_set, and_true, true_and]); omega) | assumption | (and_intros <;> first | omega | assumption) | decide) | (refine decT ?_ ?_; first | with_reducible assumption | with_reducible rfl | (refine not_not_intro ?_; with_reducible first | assumption | rfl) | omega | decide) | (refine decF ?_ ?_; first | with_reducible assumption | with_reducible rfl | (refine not_not_intro ?_; with_reducible first | assumption | rfl) | omega | decide) | (refine decBT ?_ ?_; with_reducible first | assumption | rfl | exact Bool.not_false) | (refine decBF ?_ ?_; with_reducible first | assumption | rfl | exact Bool.not_true) | refine ⟨_, by assumption, ?_⟩ | refine ⟨_, _, _, rfl, ?_⟩ | refine WC.seq (fun K hK => ?_) | (refine hK _ _ _ ?_; clear hK K) | (refine hK _ _ _ _ rfl ?_; clear hK K) | (refine WX.thenExit (K := K) ?_; clear hK K) | (refine WX.thenExit (K := KL) ?_; clear hL KL)))
  refine dcB (fun hl => ?_) (fun hl => ?_)
  · (repeat (first | refine vgo ?_ | refine ⟨_, rfl, rfl, ?_⟩ | refine ⟨_, rfl, ?_⟩ | refine ⟨rfl, ?_⟩ | intro hb | (refine altL ?_ ?_; omega) | refine altR ?_ | (refine side ?_ ?_; first | omega | exact True.intro | ((try simp only [List.length_append, List.length_cons, List.length_nil, List.length_map, List.length_replicate, List.length_set, and_true, true_and]); omega) | assumption | (and_intros <;> first | omega | assumption) | decide) | (refine decT ?_ ?_; first | with_reducible assumption | with_reducible rfl | (refine not_not_intro ?_; with_reducible first | assumption | rfl) | omega | decide) | (refine decF ?_ ?_; first | with_reducible assumption | with_reducible rfl | (refine not_not_intro ?_; with_reducible first | assumption | rfl) | omega | decide) | (refine decBT ?_ ?_; with_reducible first | assumption | rfl | exact Bool.not_false) | (refine decBF ?_ ?_; with_reducible first | assumption | rfl | exact Bool.not_true) | refine ⟨_, by assumption, ?_⟩ | refine ⟨_, _, _, rfl, ?_⟩ | refine WC.seq (fun K hK => ?_) | (refine hK _ _ _ ?_; clear hK K) | (refine hK _ _ _ _ rfl ?_; clear hK K) | (refine WX.thenExit (K := K) ?_; clear hK K) | (refine WX.thenExit (K := KL) ?_; clear hL KL)))
    exact WX.ret1 rfl rfl (fun w sw => ⟨[], [], rfl, sw.to⟩)
  (repeat (first | refine vgo ?_ | refine ⟨_, rfl, rfl, ?_⟩ | refine ⟨_, rfl, ?_⟩ | refine ⟨rfl, ?_⟩ | intro hb | (refine altL ?_ ?_; omega) | refine altR ?_ | (refine side ?_ ?_; first | omega | exact True.intro | ((try simp only [List.length_append, List.length_cons, List.length_nil, List.length_map, List.length_replicate, List.length_set, and_true, true_and]); omega) | assumption | (and_intros <;> first | omega | assumption) | decide) | (refine decT ?_ ?_; first | with_reducible assumption | with_reducible rfl | (refine not_not_intro ?_; with_reducible first | assumption | rfl) | omega | decide) | (refine decF ?_ ?_; first | with_reducible assumption | with_reducible rfl | (refine not_not_intro ?_; with_reducible first | assumption | rfl) | omega | decide) | (refine decBT ?_ ?_; with_reducible first | assumption | rfl | exact Bool.not_false) | (refine decBF ?_ ?_; with_reducible first | assumption | rfl | exact Bool.not_true) | refine ⟨_, by assumption, ?_⟩ | refine ⟨_, _, _, rfl, ?_⟩ | refine WC.seq (fun K hK => ?_) | (refine hK _ _ _ ?_; clear hK K) | (refine hK _ _ _ _ rfl ?_; clear hK K) | (refine WX.thenExit (K := K) ?_; clear hK K) | (refine WX.thenExit (K := KL) ?_; clear hL KL)))
  refine WC.loop (I := Nat × Value) (fun i => [(0, v), (3, i.2), (4, .int .i64 (i.1 : Nat))]) (fun i => rd (Ty.sl idT) (putAllI (l.take i.1)) i.2 :: rd (Ty.sl idT) l v :: Gf) (fun _ => Sf) (fun i => i.1 ≤ l.length) (fun i => l.length - i.1) (0, .slice none 0 0) (Nat.zero_le _) (.cons rfl (.cons rfl (.cons rfl .nil))) (fun w h => by show Sat B (rd (Ty.sl idT) [] (.slice none 0 0) :: rd (Ty.sl idT) l v :: Gf) Sf w; exact (h.rdNil idT).to) ?_
  rintro ⟨i, u⟩ hi KL hL
  dsimp only at hi ⊢
  by_cases g : i < l.length
  · obtain ⟨x, hx⟩ : ∃ x, l[i]? = some x := ⟨_, List.getElem?_eq_getElem g⟩
    have ht : okId x.1 x.2 := okl _ (List.mem_of_getElem? hx)
    have hpl : (putAllI (l.take i)).length ≤ 100000 ∧ okId x.1 x.2 := by
      refine ⟨?_, ht⟩
      have := putAllI_len (l.take i)
      rw [List.length_take] at this
      omega
    (repeat (first | refine vgo ?_ | refine ⟨_, rfl, rfl, ?_⟩ | refine ⟨_, rfl, ?_⟩ | refine ⟨rfl, ?_⟩ | intro hb | (refine altL ?_ ?_; omega) | refine altR ?_ | (refine side ?_ ?_; first | omega | exact True.intro | ((try simp only [List.length_append, List.length_cons, List.length_nil, List.length_map, List.length_replicate, List.length_set, and_true, true_and]); omega) | assumption | (and_intros <;> first | omega | assumption) | decide) | (refine decT ?_ ?_; first | with_reducible assumption | with_reducible rfl | (refine not_not_intro ?_; with_reducible first | assumption | rfl) | omega | decide) | (refine decF ?_ ?_; first | with_reducible assumption | with_reducible rfl | (refine not_not_intro ?_; with_reducible first | assumption | rfl) | omega | decide) | (refine decBT ?_ ?_; with_reducible first | assumption | rfl | exact Bool.not_false) | (refine decBF ?_ ?_; with_reducible first | assumption | rfl | exact Bool.not_true) | refine ⟨_, by assumption, ?_⟩ | refine ⟨_, _, _, rfl, ?_⟩ | refine WC.seq (fun K hK => ?_) | (refine hK _ _ _ ?_; clear hK K) | (refine hK _ _ _ _ rfl ?_; clear hK K) | (refine WX.thenExit (K := K) ?_; clear hK K) | (refine WX.thenExit (K := KL) ?_; clear hL KL)))
    exact (hL (i + 1, hb) g (by dsimp only; omega)).conv (.cons rfl (.cons rfl (.cons rfl .nil))) (fun w h => by
      dsimp only
      rw [putAllI_snoc hx]
      exact h.to)
  · obtain rfl : i = l.length := by omega
    rw [List.take_of_length_le (Nat.le_refl _)]
    (repeat (first | refine vgo ?_ | refine ⟨_, rfl, rfl, ?_⟩ | refine ⟨_, rfl, ?_⟩ | refine ⟨rfl, ?_⟩ | intro hb | (refine altL ?_ ?_; omega) | refine altR ?_ | (refine side ?_ ?_; first | omega | exact True.intro | ((try simp only [List.length_append, List.length_cons, List.length_nil, List.length_map, List.length_replicate, List.length_set, and_true, true_and]); omega) | assumption | (and_intros <;> first | omega | assumption) | decide) | (refine decT ?_ ?_; first | with_reducible assumption | with_reducible rfl | (refine not_not_intro ?_; with_reducible first | assumption | rfl) | omega | decide) | (refine decF ?_ ?_; first | with_reducible assumption | with_reducible rfl | (refine not_not_intro ?_; with_reducible first | assumption | rfl) | omega | decide) | (refine decBT ?_ ?_; with_reducible first | assumption | rfl | exact Bool.not_false) | (refine decBF ?_ ?_; with_reducible first | assumption | rfl | exact Bool.not_true) | refine ⟨_, by assumption, ?_⟩ | refine ⟨_, _, _, rfl, ?_⟩ | refine WC.seq (fun K hK => ?_) | (refine hK _ _ _ ?_; clear hK K) | (refine hK _ _ _ _ rfl ?_; clear hK K) | (refine WX.thenExit (K := K) ?_; clear hK K) | (refine WX.thenExit (K := KL) ?_; clear hL KL)))
    rw [decide_eq_true rfl]
    (repeat (first | refine vgo ?_ | refine ⟨_, rfl, rfl, ?_⟩ | refine ⟨_, rfl, ?_⟩ | refine ⟨rfl, ?_⟩ | intro hb | (refine altL ?_ ?_; omega) | refine altR ?_ | (refine side ?_ ?_; first | omega | exact True.intro | ((try simp only [List.length_append, List.length_cons, List.length_nil, List.length_map, List.length_replicate, List.length_set, and_true, true_and]); omega) | assumption | (and_intros <;> first | omega | assumption) | decide) | (refine decT ?_ ?_; first | with_reducible assumption | with_reducible rfl | (refine not_not_intro ?_; with_reducible first | assumption | rfl) | omega | decide) | (refine decF ?_ ?_; first | with_reducible assumption | with_reducible rfl | (refine not_not_intro ?_; with_reducible first | assumption | rfl) | omega | decide) | (refine decBT ?_ ?_; with_reducible first | assumption | rfl | exact Bool.not_false) | (refine decBF ?_ ?_; with_reducible first | assumption | rfl | exact Bool.not_true) | refine ⟨_, by assumption, ?_⟩ | refine ⟨_, _, _, rfl, ?_⟩ | refine WC.seq (fun K hK => ?_) | (refine hK _ _ _ ?_; clear hK K) | (refine hK _ _ _ _ rfl ?_; clear hK K) | (refine WX.thenExit (K := K) ?_; clear hK K) | (refine WX.thenExit (K := KL) ?_; clear hL KL)))
    exact WX.ret1 rfl rfl (fun w sw => ⟨[], [], rfl, sw.to⟩)
end Go.Qd
