/-
  Stamps that rise: Put's plain law (PSort7 has the same lemmas: never import both).
-/
import Derived.Test.YticbfcngepfecaaPS05
import Derived.Test.YticbfcngepfecaaPSeq12
namespace Go.Qd
/-! ### Stamps that rise: Put's plain law (PSort7 has the same lemmas: never import both). -/
section
open Go Go.Proofs
theorem idLess_irr (a : Nat × Int) : ¬ idLess a a := by unfold idLess; omega
theorem idLess_trans {a b c : Nat × Int} (h : idLess a b) (k : idLess b c) : idLess a c := by unfold idLess at *; omega
theorem idLess_tri {a b : Nat × Int} (h : ¬ idLess a b) (k : a ≠ b) : idLess b a := by
  obtain ⟨a1, a2⟩ := a
  obtain ⟨b1, b2⟩ := b
  unfold idLess at *
  dsimp only at *
  by_cases e : a1 = b1
  · subst e
    have : a2 ≠ b2 := fun e => k (by rw [e])
    omega
  · omega
theorem srt_uniq : ∀ {a b : List (Nat × Int)}, a.Pairwise idLess → b.Pairwise idLess → (∀ x, x ∈ a ↔ x ∈ b) → a = b
  | [], [], _, _, _ => rfl
  | [], y :: b, _, _, h => absurd ((h y).2 (.head _)) (by simp)
  | x :: a, [], _, _, h => absurd ((h x).1 (.head _)) (by simp)
  | x :: a, y :: b, ha, hb, h => by
    rw [List.pairwise_cons] at ha hb
    have e : x = y := by
      rcases List.mem_cons.1 ((h x).1 (.head _)) with e | e
      · exact e
      · rcases List.mem_cons.1 ((h y).2 (.head _)) with e2 | e2
        · exact e2.symm
        · exact absurd (idLess_trans (ha.1 y e2) (hb.1 x e)) (idLess_irr x)
    subst e
    rw [srt_uniq ha.2 hb.2 fun z => ?_]
    constructor
    · intro hz
      rcases List.mem_cons.1 ((h z).1 (.tail _ hz)) with e | e
      · subst e; exact absurd (ha.1 z hz) (idLess_irr z)
      · exact e
    · intro hz
      rcases List.mem_cons.1 ((h z).2 (.tail _ hz)) with e | e
      · subst e; exact absurd (hb.1 z hz) (idLess_irr z)
      · exact e
theorem putI_cons (x : Nat × Int) (l : List (Nat × Int)) (a : Nat × Int) : putI (x :: l) a = if idLess x a then x :: putI l a else if x = a then x :: l else a :: x :: l := by
  by_cases h : idLess x a
  · have e : putK (x :: l) a 0 = putK l a 0 + 1 := by
      unfold putK
      rw [List.drop_zero, List.drop_zero, List.takeWhile_cons, if_pos (decide_eq_true h), List.length_cons]; omega
    rw [if_pos h]
    unfold putI
    rw [e, List.getElem?_cons_succ, List.take_succ_cons, List.drop_succ_cons]
    split <;> rfl
  · have e : putK (x :: l) a 0 = 0 := putK_stop (x := x) rfl h
    rw [if_neg h]
    unfold putI
    rw [e, List.getElem?_cons_zero, List.take_zero, List.drop_zero]
    by_cases h2 : x = a
    · rw [if_pos (by rw [h2]), if_pos h2]
    · rw [if_neg (fun h => h2 (Option.some.inj h)), if_neg h2]; rfl
theorem putI_nil (a : Nat × Int) : putI [] a = [a] := rfl
theorem mem_putI : ∀ {l : List (Nat × Int)} {a z : Nat × Int}, z ∈ putI l a ↔ z = a ∨ z ∈ l
  | [], a, z => by rw [putI_nil]; simp
  | x :: l, a, z => by
    rw [putI_cons]
    split
    · rw [List.mem_cons, mem_putI, List.mem_cons]
      constructor
      · rintro (h | h | h) <;> simp [h]
      · rintro (h | h | h) <;> simp [h]
    · split
      · rename_i h; subst h; simp
      · simp
theorem putI_sorted : ∀ {l : List (Nat × Int)} {a : Nat × Int}, l.Pairwise idLess → (putI l a).Pairwise idLess
  | [], a, _ => by rw [putI_nil]; simp
  | x :: l, a, h => by
    rw [putI_cons]
    have h' := h
    rw [List.pairwise_cons] at h'
    split
    · rename_i hx
      rw [List.pairwise_cons]
      refine ⟨fun z hz => ?_, putI_sorted h'.2⟩
      rcases mem_putI.1 hz with rfl | hz
      · exact hx
      · exact h'.1 z hz
    · rename_i hx
      split
      · exact h
      · rename_i hn
        have hax := idLess_tri hx hn
        rw [List.pairwise_cons]
        refine ⟨fun z hz => ?_, h⟩
        rcases List.mem_cons.1 hz with rfl | hz
        · exact hax
        · exact idLess_trans hax (h'.1 z hz)
theorem putAllI_facts (l : List (Nat × Int)) : ∀ (s : List (Nat × Int)), s.Pairwise idLess → (l.foldl putI s).Pairwise idLess ∧ (∀ x, x ∈ l.foldl putI s ↔ x ∈ s ∨ x ∈ l) ∧ (l.foldl putI s).length ≤ s.length + l.length := by
  induction l with
  | nil => intro s hs; exact ⟨hs, by simp, by simp⟩
  | cons a l ih =>
    intro s hs
    obtain ⟨h1, h2, h3⟩ := ih (putI s a) (putI_sorted hs)
    refine ⟨h1, fun x => ?_, ?_⟩
    · rw [List.foldl_cons, h2, mem_putI, List.mem_cons]
      constructor
      · rintro ((h | h) | h) <;> simp [h]
      · rintro (h | h | h) <;> simp [h]
    · rw [List.foldl_cons, List.length_cons]
      have := putI_len s a
      omega
end
/-! ### Lines put behind others: the tree (plain law). -/
section
open Go Go.Proofs
abbrev PtI := (Nat × Int) × (Nat × Int)
theorem flatMap_cong {f g : Nat × Int → List (Nat × Int)} : ∀ {l : List (Nat × Int)}, (∀ k ∈ l, f k = g k) → l.flatMap f = l.flatMap g
  | [], _ => rfl
  | k :: l, h => by rw [List.flatMap_cons, List.flatMap_cons, h k (.head _), flatMap_cong fun k hk => h k (.tail _ hk)]
def kidsP (D : List PtI) (a : Nat × Int) : List (Nat × Int) := ((D.filter fun p => decide (p.1 = a)).map fun p => p.2).foldl putI []
theorem kidsP_srt (D : List PtI) (a : Nat × Int) : (kidsP D a).Pairwise idLess := (putAllI_facts _ [] List.Pairwise.nil).1
theorem kidsP_mem {D : List PtI} {a k : Nat × Int} : k ∈ kidsP D a ↔ (a, k) ∈ D := by
  unfold kidsP
  rw [(putAllI_facts _ [] List.Pairwise.nil).2.1 k]
  simp only [List.not_mem_nil, false_or, List.mem_map, List.mem_filter, decide_eq_true_eq]
  constructor
  · rintro ⟨⟨u, v⟩, ⟨h1, rfl⟩, rfl⟩; exact h1
  · intro h; exact ⟨_, ⟨h, rfl⟩, rfl⟩
theorem kidsP_len (D : List PtI) (a : Nat × Int) : (kidsP D a).length ≤ D.length := by
  have h := (putAllI_facts ((D.filter fun p => decide (p.1 = a)).map fun p => p.2) [] List.Pairwise.nil).2.2
  rw [List.length_nil, List.length_map] at h
  have := List.length_filter_le (fun p : PtI => decide (p.1 = a)) D
  unfold kidsP; omega
def trP : Nat → List PtI → (Nat × Int) → List (Nat × Int)
  | 0, _, _ => []
  | n + 1, D, a => (kidsP D a).reverse.flatMap fun k => k :: trP n D k
abbrev blkP (n : Nat) (D : List PtI) (k : Nat × Int) : List (Nat × Int) := k :: trP n D k
theorem trP_succ (n : Nat) (D : List PtI) (a : Nat × Int) : trP (n + 1) D a = (kidsP D a).reverse.flatMap (blkP n D) := rfl
theorem kidsP_cong {D D' : List PtI} (h : ∀ q, q ∈ D ↔ q ∈ D') (a : Nat × Int) : kidsP D a = kidsP D' a :=
  srt_uniq (kidsP_srt D a) (kidsP_srt D' a) fun k => by rw [kidsP_mem, kidsP_mem, h]
theorem trP_cong {D D' : List PtI} (h : ∀ q, q ∈ D ↔ q ∈ D') : ∀ (n : Nat) (a : Nat × Int), trP n D a = trP n D' a
  | 0, _ => rfl
  | n + 1, a => by
    rw [trP_succ, trP_succ, kidsP_cong h]
    congr 1
    funext k
    rw [blkP, blkP, trP_cong h n k]
/-- Put where it belongs in a row that falls. -/
def skP (x : Nat × Int) : List (Nat × Int) → List (Nat × Int)
  | [] => [x]
  | y :: l => if idLess x y then y :: skP x l else x :: y :: l
/-- Put behind p. -/
def aftP (p x : Nat × Int) : List (Nat × Int) → List (Nat × Int)
  | [] => []
  | y :: l => if y = p then y :: skP x l else y :: aftP p x l
theorem mem_skP {x z : Nat × Int} : ∀ {l : List (Nat × Int)}, z ∈ skP x l ↔ z = x ∨ z ∈ l
  | [] => by simp [skP]
  | y :: l => by
    rw [skP]; split
    · rw [List.mem_cons, mem_skP, List.mem_cons]
      constructor
      · rintro (h | h | h) <;> simp [h]
      · rintro (h | h | h) <;> simp [h]
    · simp
theorem mem_aftP {p x z : Nat × Int} : ∀ {l : List (Nat × Int)}, p ∈ l → (z ∈ aftP p x l ↔ z = x ∨ z ∈ l)
  | [], h => by simp at h
  | y :: l, h => by
    rw [aftP]; split
    · rw [List.mem_cons, mem_skP, List.mem_cons]
      constructor
      · rintro (h | h | h) <;> simp [h]
      · rintro (h | h | h) <;> simp [h]
    · rename_i hn
      have hl : p ∈ l := by
        rcases List.mem_cons.1 h with e | e
        · exact absurd e.symm hn
        · exact e
      rw [List.mem_cons, mem_aftP hl, List.mem_cons]
      constructor
      · rintro (h | h | h) <;> simp [h]
      · rintro (h | h | h) <;> simp [h]
theorem skP_fall {x : Nat × Int} : ∀ {l : List (Nat × Int)}, l.Pairwise (fun a b => idLess b a) → x ∉ l → (skP x l).Pairwise fun a b => idLess b a
  | [], _, _ => by simp [skP]
  | y :: l, h, hx => by
    rw [List.pairwise_cons] at h
    rw [List.mem_cons, not_or] at hx
    rw [skP]; split
    · rename_i hl
      rw [List.pairwise_cons]
      refine ⟨fun z hz => ?_, skP_fall h.2 hx.2⟩
      rcases mem_skP.1 hz with rfl | hz
      · exact hl
      · exact h.1 z hz
    · rename_i hl
      have hyx : idLess y x := idLess_tri hl hx.1
      rw [List.pairwise_cons, List.pairwise_cons]
      refine ⟨fun z hz => ?_, h⟩
      rcases List.mem_cons.1 hz with rfl | hz
      · exact hyx
      · exact idLess_trans (h.1 z hz) hyx
theorem skP_app {x : Nat × Int} {R : List (Nat × Int)} : ∀ {l : List (Nat × Int)}, (∀ y ∈ l, idLess x y) → skP x (l ++ R) = l ++ skP x R
  | [], _ => rfl
  | y :: l, h => by
    rw [List.cons_append, skP, if_pos (h y (.head _)), skP_app fun z hz => h z (.tail _ hz), List.cons_append]
/-- What follows is not above x. -/
def stopP (x : Nat × Int) (R : List (Nat × Int)) : Prop := ∀ y, R.head? = some y → ¬ idLess x y
theorem skP_stop {x : Nat × Int} {R : List (Nat × Int)} (h : stopP x R) : skP x R = x :: R := by
  cases R with
  | nil => rfl
  | cons y R => rw [skP, if_neg (h y rfl)]
theorem aftP_app {p x : Nat × Int} {R : List (Nat × Int)} : ∀ {l : List (Nat × Int)}, p ∉ l → aftP p x (l ++ R) = l ++ aftP p x R
  | [], _ => rfl
  | y :: l, h => by
    rw [List.mem_cons, not_or] at h
    rw [List.cons_append, aftP, if_neg (fun e => h.1 e.symm), aftP_app h.2, List.cons_append]
/-- A new line's row grows by it. -/
structure NewP (D D' : List PtI) (p x : Nat × Int) : Prop where
  mem : ∀ q, q ∈ D' ↔ q = (p, x) ∨ q ∈ D
  lt : ∀ q ∈ D, idLess q.1 q.2
  ltx : idLess p x
  fresh : ∀ q ∈ D, q.2 ≠ x
  leaf : ∀ q ∈ D, q.1 ≠ x
  up : ∀ q ∈ D, q.1.2 < q.2.2
  upx : p.2 < x.2
  x24 : x.2 ≤ 24
theorem trP_mem {D : List PtI} (h : ∀ q ∈ D, idLess q.1 q.2) : ∀ (n : Nat) (a y : Nat × Int), y ∈ trP n D a → idLess a y ∧ ∃ q ∈ D, q.2 = y
  | 0, a, y, hy => by simp [trP] at hy
  | n + 1, a, y, hy => by
    rw [trP_succ, List.mem_flatMap] at hy
    obtain ⟨k, hk, hy⟩ := hy
    rw [List.mem_reverse, kidsP_mem] at hk
    have hak := h _ hk
    rcases List.mem_cons.1 hy with rfl | hy
    · exact ⟨hak, _, hk, rfl⟩
    · obtain ⟨h1, h2⟩ := trP_mem h n k y hy
      exact ⟨idLess_trans hak h1, h2⟩
section
variable {D D' : List PtI} {p x : Nat × Int}
theorem NewP.kids (h : NewP D D' p x) {a : Nat × Int} (ha : a ≠ p) : kidsP D' a = kidsP D a :=
  srt_uniq (kidsP_srt D' a) (kidsP_srt D a) fun k => by
    rw [kidsP_mem, kidsP_mem, h.mem]
    constructor
    · rintro (e | e)
      · exact absurd (congrArg Prod.fst e) ha
      · exact e
    · exact .inr
theorem NewP.tr (h : NewP D D' p x) : ∀ (n : Nat) (a : Nat × Int), a ≠ p → p ∉ trP n D a → trP n D' a = trP n D a
  | 0, _, _, _ => rfl
  | n + 1, a, ha, hp => by
    rw [trP_succ, trP_succ, h.kids ha]
    rw [trP_succ, List.mem_flatMap] at hp
    have e : ∀ k ∈ (kidsP D a).reverse, blkP n D' k = blkP n D k := fun k hk => by
      have hk2 : p ∉ blkP n D k := fun hh => hp ⟨k, hk, hh⟩
      rw [blkP, List.mem_cons, not_or] at hk2
      rw [blkP, blkP, h.tr n k (fun e => hk2.1 e.symm) hk2.2]
    exact flatMap_cong e
theorem NewP.leafT (h : NewP D D' p x) (n : Nat) : trP n D' x = [] := by
  cases n with
  | zero => rfl
  | succ n =>
    have hx : x ≠ p := fun e => idLess_irr p (e ▸ h.ltx)
    have : kidsP D x = [] := by
      rw [List.eq_nil_iff_forall_not_mem]
      intro k hk
      exact h.leaf _ (kidsP_mem.1 hk) rfl
    rw [trP_succ, h.kids hx, this]; rfl
theorem NewP.kidsX (h : NewP D D' p x) : (kidsP D' p).reverse = skP x (kidsP D p).reverse := by
  have hx : x ∉ (kidsP D p).reverse := fun hh => h.fresh _ (kidsP_mem.1 (List.mem_reverse.1 hh)) rfl
  have hs := skP_fall (List.pairwise_reverse.2 (kidsP_srt D p)) hx
  have e : kidsP D' p = (skP x (kidsP D p).reverse).reverse := srt_uniq (kidsP_srt D' p) (List.pairwise_reverse.2 hs) fun k => by
    rw [kidsP_mem, h.mem, List.mem_reverse, mem_skP, List.mem_reverse, kidsP_mem]
    constructor
    · rintro (e | e)
      · exact .inl (congrArg Prod.snd e)
      · exact .inr e
    · rintro (rfl | e)
      · exact .inl rfl
      · exact .inr e
  rw [e, List.reverse_reverse]
theorem skP_blocks {f g : Nat × Int → List (Nat × Int)} {x : Nat × Int} {R : List (Nat × Int)} (hR : stopP x R) (hx : g x = [x]) :
    ∀ ks : List (Nat × Int), (∀ k ∈ ks, g k = f k) → (∀ k ∈ ks, ∃ t, f k = k :: t ∧ ∀ y ∈ t, idLess k y) → skP x (ks.flatMap f ++ R) = (skP x ks).flatMap g ++ R
  | [], _, _ => by
    rw [List.flatMap_nil, List.nil_append, skP_stop hR, skP, List.flatMap_cons, List.flatMap_nil, hx]; rfl
  | k :: ks, h1, h2 => by
    obtain ⟨t, ht, htt⟩ := h2 k (.head _)
    rw [List.flatMap_cons, List.append_assoc]
    by_cases hk : idLess x k
    · rw [skP_app, skP_blocks hR hx ks (fun k hk => h1 k (.tail _ hk)) (fun k hk => h2 k (.tail _ hk))]
      · rw [skP, if_pos hk, List.flatMap_cons, h1 k (.head _), List.append_assoc]
      · intro y hy
        rw [ht] at hy
        rcases List.mem_cons.1 hy with rfl | hy
        · exact hk
        · exact idLess_trans hk (htt y hy)
    · have e : (k :: ks).flatMap g = (k :: ks).flatMap f := flatMap_cong h1
      rw [skP, if_neg hk, List.flatMap_cons, hx, e, List.flatMap_cons, ht]
      rw [List.cons_append, skP, if_neg hk]
      simp
theorem NewP.at_p (h : NewP D D' p x) {n : Nat} {R : List (Nat × Int)} (hR : stopP x R) : skP x (trP (n + 1) D p ++ R) = trP (n + 1) D' p ++ R := by
  rw [trP_succ, trP_succ, h.kidsX]
  refine skP_blocks hR (by rw [blkP, h.leafT]) _ (fun k hk => ?_) (fun k _ => ⟨_, rfl, fun y hy => (trP_mem h.lt n k y hy).1⟩)
  have hpk := h.lt _ (kidsP_mem.1 (List.mem_reverse.1 hk))
  have hne : k ≠ p := fun e => idLess_irr p (e ▸ hpk)
  rw [blkP, blkP, h.tr n k hne]
  intro hh
  exact idLess_irr p (idLess_trans hpk (trP_mem h.lt n k p hh).1)
theorem stopP_blocks {n : Nat} {k : Nat × Int} {R : List (Nat × Int)} (hkx : idLess k x) (hR : stopP x R) : ∀ ks : List (Nat × Int), (∀ y ∈ ks, idLess y k) → stopP x (ks.flatMap (blkP n D) ++ R)
  | [], _ => hR
  | y :: ks, h => fun z hz => by
    rw [List.flatMap_cons, blkP, List.cons_append, List.cons_append, List.head?_cons, Option.some.injEq] at hz
    subst hz
    exact fun hh => idLess_irr x (idLess_trans hh (idLess_trans (h y (.head _)) hkx))
theorem NewP.deep (h : NewP D D' p x) : ∀ (n : Nat) (a : Nat × Int) (R : List (Nat × Int)), p ∈ trP n D a → 24 < (n : Int) + a.2 → (trP n D a).Nodup → stopP x R → aftP p x (trP n D a ++ R) = trP n D' a ++ R
  | 0, a, R, hp, _, _, _ => by simp [trP] at hp
  | n + 1, a, R, hp, hn, hd, hR => by
    have hap : a ≠ p := fun e => idLess_irr p (e ▸ (trP_mem h.lt _ _ _ hp).1)
    rw [trP_succ] at hp hd
    rw [trP_succ, trP_succ, h.kids hap]
    have hks : ∀ k ∈ (kidsP D a).reverse, a.2 < k.2 := fun k hk => h.up _ (kidsP_mem.1 (List.mem_reverse.1 hk))
    have hfall : (kidsP D a).reverse.Pairwise fun a b => idLess b a := List.pairwise_reverse.2 (kidsP_srt D a)
    generalize (kidsP D a).reverse = ks at *
    induction ks with
    | nil => simp at hp
    | cons k ks ih =>
      rw [List.flatMap_cons] at hp hd
      rw [List.flatMap_cons, List.flatMap_cons, List.append_assoc, List.append_assoc]
      rw [List.pairwise_cons] at hfall
      rw [List.nodup_append] at hd
      obtain ⟨hd1, hd2, hd3⟩ := hd
      by_cases hpk : p ∈ blkP n D k
      · have hrest : ks.flatMap (blkP n D') = ks.flatMap (blkP n D) := flatMap_cong fun k' hk' => by
          have hnk : p ∉ blkP n D k' := fun hh => hd3 p hpk p (List.mem_flatMap.2 ⟨k', hk', hh⟩) rfl
          rw [blkP, List.mem_cons, not_or] at hnk
          rw [blkP, blkP, h.tr n k' (fun e => hnk.1 e.symm) hnk.2]
        rw [hrest]
        have hkx : idLess k x := by
          rcases List.mem_cons.1 hpk with e | e
          · rw [← e]; exact h.ltx
          · exact idLess_trans (trP_mem h.lt _ _ _ e).1 h.ltx
        have hst : stopP x (ks.flatMap (blkP n D) ++ R) := stopP_blocks hkx hR ks hfall.1
        have hk2 := hks k (.head _)
        by_cases hpe : k = p
        · subst hpe
          obtain ⟨m, rfl⟩ : ∃ m, n = m + 1 := ⟨n - 1, by have := h.upx; have := h.x24; omega⟩
          rw [blkP, List.cons_append, aftP, if_pos rfl, h.at_p hst, blkP, List.cons_append]
        · have hpt : p ∈ trP n D k := by
            rcases List.mem_cons.1 hpk with e | e
            · exact absurd e.symm hpe
            · exact e
          rw [blkP, List.nodup_cons] at hd1
          rw [blkP, List.cons_append, aftP, if_neg hpe, h.deep n k _ hpt (by omega) hd1.2 hst, blkP, List.cons_append]
      · have hpr : p ∈ ks.flatMap (blkP n D) := by
          rcases List.mem_append.1 hp with e | e
          · exact absurd e hpk
          · exact e
        rw [aftP_app hpk, ih hpr hd2 (fun k hk => hks k (.tail _ hk)) hfall.2]
        rw [blkP, List.mem_cons, not_or] at hpk
        rw [blkP, blkP, h.tr n k (fun e => hpk.1 e.symm) hpk.2]
end
end
/-! ### Lines put behind others: what the law puts, and what Insert makes of it (plain). -/
section
open Go Go.Proofs
/-! ### Insert, of lines that are all there -/
def lnI (l : List (Nat × Int)) : List Ln := l.map fun a => ⟨a.1, a.2, false⟩
theorem lnI_ids (l : List (Nat × Int)) : idsL (lnI l) = l := by
  unfold idsL lnI; rw [List.map_map]; exact List.map_id l
theorem lnI_seen (l : List (Nat × Int)) : seenL (lnI l) = l := by
  unfold seenL lnI
  rw [List.filter_eq_self.2 (fun a ha => by obtain ⟨b, _, rfl⟩ := List.mem_map.1 ha; rfl), List.map_map]
  exact List.map_id l
theorem lnI_cons (y : Nat × Int) (l : List (Nat × Int)) : lnI (y :: l) = ⟨y.1, y.2, false⟩ :: lnI l := rfl
theorem ixZ_cons (y : Ln) (l : List Ln) (t : Nat) (r : Int) : ixZ (y :: l) t r = if (y.t, y.r) = (t, r) then 0 else if ixZ l t r = -1 then -1 else ixZ l t r + 1 := by
  unfold ixZ ixN
  rw [List.findIdx?_cons]
  by_cases h : (y.t, y.r) = (t, r)
  · have hy : isId t r y = true := by
      simp only [Prod.mk.injEq] at h
      unfold isId; simp [h.1, h.2]
    rw [if_pos h, if_pos hy]; rfl
  · have hy : isId t r y = false := by
      unfold isId
      refine decide_eq_false fun e => h ?_
      obtain ⟨e1, e2⟩ := e
      rw [Int.ofNat_inj.1 e1, e2]
    rw [if_neg h, if_neg (by rw [hy]; decide)]
    cases hh : List.findIdx? (isId t r) l with
    | none => rfl
    | some i => 
      show ((i + 1 : Nat) : Int) = if (i : Int) = -1 then -1 else (i : Int) + 1
      rw [if_neg (by omega)]; rfl
theorem advK_lnI (t : Nat) (r : Int) : ∀ l : List (Nat × Int), putAtL (lnI l) (advK (lnI l) t r 0) t r = lnI (skP (t, r) l)
  | [] => rfl
  | y :: l => by
    have hy0 : (lnI (y :: l))[0]? = some ⟨y.1, y.2, false⟩ := rfl
    by_cases h : idLess (t, r) y
    · rw [skP, if_pos h]
      have e : advK (lnI (y :: l)) t r 0 = advK (lnI l) t r 0 + 1 := by
        unfold advK
        rw [List.drop_zero, List.drop_zero, lnI_cons, List.takeWhile_cons, if_pos (decide_eq_true h), List.length_cons]; omega
      rw [e, lnI_cons, lnI_cons, ← advK_lnI t r l]; rfl
    · rw [skP, if_neg h, advK_stop hy0 h]; rfl
theorem putAt_cons (y : Ln) (l : List Ln) (k t : Nat) (r : Int) : putAtL (y :: l) (k + 1) t r = y :: putAtL l k t r := rfl
theorem advK_cons (y : Ln) (l : List Ln) (k t : Nat) (r : Int) : advK (y :: l) t r (k + 1) = advK l t r k + 1 := by
  unfold advK; rw [List.drop_succ_cons]; omega
theorem aft_lnI (pt : Nat) (pr : Int) (t : Nat) (r : Int) : ∀ l : List (Nat × Int), (pt, pr) ∈ l → 0 ≤ ixZ (lnI l) pt pr ∧ putAtL (lnI l) (advK (lnI l) t r (ixZ (lnI l) pt pr + 1).toNat) t r = lnI (aftP (pt, pr) (t, r) l)
  | [], h => by simp at h
  | y :: l, h => by
    rw [lnI_cons, ixZ_cons, aftP]
    by_cases hy : y = (pt, pr)
    · rw [if_pos (show ((⟨y.1, y.2, false⟩ : Ln).t, (⟨y.1, y.2, false⟩ : Ln).r) = (pt, pr) from hy), if_pos hy]
      refine ⟨Int.le_refl _, ?_⟩
      rw [show ((0 : Int) + 1).toNat = 0 + 1 from rfl, advK_cons, putAt_cons, advK_lnI]; rfl
    · rw [if_neg (show ¬ ((⟨y.1, y.2, false⟩ : Ln).t, (⟨y.1, y.2, false⟩ : Ln).r) = (pt, pr) from hy), if_neg hy]
      have hl : (pt, pr) ∈ l := by
        rcases List.mem_cons.1 h with e | e
        · exact absurd e.symm hy
        · exact e
      obtain ⟨h0, h1⟩ := aft_lnI pt pr t r l hl
      rw [if_neg (by omega)]
      refine ⟨by omega, ?_⟩
      rw [show (ixZ (lnI l) pt pr + 1 + 1).toNat = (ixZ (lnI l) pt pr + 1).toNat + 1 from by omega, advK_cons, putAt_cons, h1]; rfl
/-! ### What is put -/
def putS (out : List PtI) (x : Nat) : PtI :=
  if x / 5 % (out.length + 1) = 0 then ((0, 0), (1 + x % 5, (out.length : Int) + 1))
  else ((out.getD (x / 5 % (out.length + 1) - 1) ((0, 0), (0, 0))).2, ((out.getD (x / 5 % (out.length + 1) - 1) ((0, 0), (0, 0))).2.1 + 1 + x % 3, (out.length : Int) + 1))
def putsI (l : List Nat) : List PtI := l.foldl (fun out x => out ++ [putS out x]) []
theorem putsI_snoc {l : List Nat} {i : Nat} {x : Nat} (h : l[i]? = some x) : putsI (l.take (i + 1)) = putsI (l.take i) ++ [putS (putsI (l.take i)) x] := by
  unfold putsI; rw [List.take_add_one, h, Option.toList_some, List.foldl_append]; rfl
theorem putsI_len (l : List Nat) : (putsI l).length = l.length := by
  unfold putsI
  suffices ∀ s : List PtI, (l.foldl (fun out x => out ++ [putS out x]) s).length = s.length + l.length by simpa using this []
  induction l with
  | nil => intro s; rfl
  | cons x l ih => intro s; rw [List.foldl_cons, ih, List.length_append, List.length_cons, List.length_cons, List.length_nil]; omega
structure OkA (A : List PtI) : Prop where
  len : A.length ≤ 24
  rep : ∀ (i : Nat) (q : PtI), A[i]? = some q → q.2.2 = (i : Int) + 1
  tim : ∀ (i : Nat) (q : PtI), A[i]? = some q → 1 ≤ q.2.1 ∧ q.2.1 ≤ 5 + 3 * i
  par : ∀ (i : Nat) (q : PtI), A[i]? = some q → q.1 = (0, 0) ∨ ∃ (j : Nat) (r : PtI), j < i ∧ A[j]? = some r ∧ r.2 = q.1 ∧ r.2.1 < q.2.1
theorem OkA.nil : OkA [] := ⟨by simp, by simp, by simp, by simp⟩
theorem OkA.snoc {A : List PtI} (h : OkA A) (hl : A.length < 24) (x : Nat) : OkA (A ++ [putS A x]) := by
  have hcase : ∀ (i : Nat) (q : PtI), (A ++ [putS A x])[i]? = some q → A[i]? = some q ∨ i = A.length ∧ q = putS A x := by
    intro i q hq
    by_cases hi : i < A.length
    · rw [List.getElem?_append_left hi] at hq; exact .inl hq
    · rw [List.getElem?_append_right (by omega)] at hq
      have : i - A.length < 1 := (List.getElem?_eq_some_iff.1 hq).1
      have e : i = A.length := by omega
      subst e
      rw [Nat.sub_self] at hq
      cases hq; exact .inr ⟨rfl, rfl⟩
  have hk : ¬ x / 5 % (A.length + 1) = 0 → ∃ r, A[x / 5 % (A.length + 1) - 1]? = some r ∧ A.getD (x / 5 % (A.length + 1) - 1) ((0, 0), (0, 0)) = r ∧ x / 5 % (A.length + 1) - 1 < A.length := fun hk => by
    have hb : x / 5 % (A.length + 1) < A.length + 1 := Nat.mod_lt _ (by omega)
    have hb2 : x / 5 % (A.length + 1) - 1 < A.length := by omega
    exact ⟨_, List.getElem?_eq_getElem hb2, by rw [List.getD_eq_getElem?_getD, List.getElem?_eq_getElem hb2]; rfl, hb2⟩
  refine ⟨by rw [List.length_append]; simp only [List.length_cons, List.length_nil]; omega, fun i q hq => ?_, fun i q hq => ?_, fun i q hq => ?_⟩
  · rcases hcase i q hq with h1 | ⟨rfl, rfl⟩
    · exact h.rep i q h1
    · unfold putS; split <;> rfl
  · rcases hcase i q hq with h1 | ⟨rfl, rfl⟩
    · exact h.tim i q h1
    · unfold putS; split
      · dsimp only; omega
      · rename_i hn
        obtain ⟨r, h1, h2, h3⟩ := hk hn
        have := h.tim _ r h1
        rw [h2]; dsimp only; omega
  · rcases hcase i q hq with h1 | ⟨rfl, rfl⟩
    · rcases h.par i q h1 with e | ⟨j, r, hj, hr, e1, e2⟩
      · exact .inl e
      · exact .inr ⟨j, r, hj, by rw [List.getElem?_append_left (List.getElem?_eq_some_iff.1 hr).1]; exact hr, e1, e2⟩
    · by_cases hn : x / 5 % (A.length + 1) = 0
      · left; unfold putS; rw [if_pos hn]
      · right
        obtain ⟨r, h1, h2, h3⟩ := hk hn
        refine ⟨_, r, h3, by rw [List.getElem?_append_left h3]; exact h1, ?_, ?_⟩
        · unfold putS; rw [if_neg hn, h2]
        · unfold putS; rw [if_neg hn, h2]; dsimp only; omega
theorem putsI_ok {l : List Nat} : ∀ i, i ≤ 24 → i ≤ l.length → OkA (putsI (l.take i))
  | 0, _, _ => by rw [List.take_zero]; exact OkA.nil
  | i + 1, h, h2 => by
    have hx := List.getElem?_eq_getElem (l := l) (i := i) (by omega)
    rw [putsI_snoc hx]
    refine (putsI_ok i (by omega) (by omega)).snoc ?_ _
    rw [putsI_len, List.length_take]; omega
section
variable {A D : List PtI} {L : List (Nat × Int)} {dn : List Bool}
theorem OkA.at (h : OkA A) {q : PtI} (hq : q ∈ A) : ∃ i, i < 24 ∧ A[i]? = some q := by
  obtain ⟨i, hi⟩ := List.mem_iff_getElem?.1 hq
  have := (List.getElem?_eq_some_iff.1 hi).1
  exact ⟨i, by have := h.len; omega, hi⟩
theorem OkA.lt (h : OkA A) {q : PtI} (hq : q ∈ A) : idLess q.1 q.2 ∧ q.1.2 < q.2.2 ∧ q.2.2 ≤ 24 ∧ idRight q.2 ∧ okId q.1.1 q.1.2 ∧ okId q.2.1 q.2.2 ∧ (q.1 = (0, 0) ∨ ¬ isZ q.1.1 q.1.2) := by
  obtain ⟨i, hi, hq⟩ := h.at hq
  have h1 := h.rep i q hq
  have h2 := h.tim i q hq
  have h6 : idRight q.2 := by unfold idRight; omega
  have h7 : okId q.2.1 q.2.2 := by unfold okId; omega
  rcases h.par i q hq with e | ⟨j, r, hj, hr, e1, e2⟩
  · rw [e]
    refine ⟨.inl (by dsimp only; omega), by dsimp only; omega, by omega, h6, ⟨by decide, by decide, by decide⟩, h7, .inl rfl⟩
  · have h3 := h.rep j r hr
    have h4 := h.tim j r hr
    rw [← e1]
    refine ⟨.inl e2, by omega, by omega, h6, ?_, h7, .inr ?_⟩
    · unfold okId; omega
    · unfold isZ; omega
theorem OkA.inj (h : OkA A) {q r : PtI} (hq : q ∈ A) (hr : r ∈ A) (e : q.2 = r.2) : q = r := by
  obtain ⟨i, _, hq⟩ := h.at hq
  obtain ⟨j, _, hr⟩ := h.at hr
  have h1 := h.rep i q hq
  have h2 := h.rep j r hr
  rw [e] at h1
  obtain rfl : i = j := by omega
  rw [hq] at hr; exact Option.some.inj hr
structure InvP (A D : List PtI) (L : List (Nat × Int)) (dn : List Bool) : Prop where
  sub : ∀ q ∈ D, q ∈ A
  par : ∀ q ∈ D, q.1 = (0, 0) ∨ ∃ r ∈ D, r.2 = q.1
  tr : L = trP 30 D (0, 0)
  nd : L.Nodup
  mem : ∀ y, y ∈ L ↔ ∃ q ∈ D, q.2 = y
  dl : dn.length = A.length
  dm : ∀ (k : Nat) (q : PtI), A[k]? = some q → (dn[k]? = some true ↔ q ∈ D)
theorem InvP.nil (A : List PtI) : InvP A [] [] (List.replicate A.length false) := by
  refine ⟨by simp, by simp, ?_, by simp, by simp, by simp, fun k q _ => ?_⟩
  · rw [trP_succ]; rfl
  · simp only [List.not_mem_nil, iff_false]
    intro h
    rw [List.getElem?_replicate] at h
    split at h <;> simp at h
theorem InvP.step (hA : OkA A) (h : InvP A D L dn) {k : Nat} {q : PtI} (hk : A[k]? = some q) (hn : dn[k]? = some false) (hp : q.1 = (0, 0) ∨ q.1 ∈ L) :
    ∃ L', insL (lnI L) q.1.1 q.1.2 q.2.1 q.2.2 = lnI L' ∧ insE (lnI L) q.1.1 q.1.2 q.2.1 q.2.2 = 0 ∧ L'.length = L.length + 1 ∧ InvP A (q :: D) L' (dn.set k true) := by
  have hqA : q ∈ A := List.mem_of_getElem? hk
  have hqD : q ∉ D := fun hh => by
    have := (h.dm k q hk).2 hh
    rw [hn] at this; cases this
  obtain ⟨q1, q2, q3, q4, q5, q6, q7⟩ := hA.lt hqA
  have hfresh : ∀ r ∈ D, r.2 ≠ q.2 := fun r hr e => hqD (hA.inj (h.sub r hr) hqA e ▸ hr)
  have hz : (0, 0) ≠ q.2 := fun e => by rw [← e] at q3 q4; unfold idRight at q4; simp at q4
  have hnew : NewP D (q :: D) q.1 q.2 := by
    refine ⟨fun r => by rw [List.mem_cons], fun r hr => (hA.lt (h.sub r hr)).1, q1, hfresh, fun r hr e => ?_, fun r hr => (hA.lt (h.sub r hr)).2.1, q2, q3⟩
    rcases h.par r hr with e2 | ⟨s, hs, e2⟩
    · exact hz (e2 ▸ e)
    · exact hfresh s hs (e2.trans e)
  have hqL : q.2 ∉ L := fun hh => by
    obtain ⟨r, hr, e⟩ := (h.mem _).1 hh
    exact hfresh r hr e
  have hix : ixZ (lnI L) q.2.1 q.2.2 < 0 := ixZ_neg.2 (by rw [lnI_ids]; exact hqL)
  have hE : insE (lnI L) q.1.1 q.1.2 q.2.1 q.2.2 = 0 := by
    unfold insE
    rw [if_neg (by simpa using q4), if_neg (by omega), if_neg]
    rintro ⟨e1, e2⟩
    rcases hp with e | e
    · exact e1 (by rw [e]; exact ⟨rfl, rfl⟩)
    · have := (aft_lnI q.1.1 q.1.2 0 0 L e).1
      omega
  have hL : insL (lnI L) q.1.1 q.1.2 q.2.1 q.2.2 = lnI (trP 30 (q :: D) (0, 0)) ∧ (∀ z, z ∈ trP 30 (q :: D) (0, 0) ↔ z = q.2 ∨ z ∈ L) := by
    unfold insL
    rw [if_pos hE]
    unfold insK
    by_cases hz : q.1 = (0, 0)
    · have hs : skP q.2 (trP 30 D q.1) = trP 30 (q :: D) q.1 := by
        have := hnew.at_p (n := 29) (R := []) (fun y hy => by cases hy)
        rwa [List.append_nil, List.append_nil] at this
      rw [hz] at hs
      rw [if_pos (show isZ q.1.1 q.1.2 by rw [hz]; exact ⟨rfl, rfl⟩), advK_lnI, h.tr]
      refine ⟨by rw [hs], fun z => ?_⟩
      rw [← hs, mem_skP]
    · have hm : q.1 ∈ L := hp.resolve_left hz
      have hs : aftP q.1 q.2 (trP 30 D (0, 0)) = trP 30 (q :: D) (0, 0) := by
        have := hnew.deep 30 (0, 0) [] (h.tr ▸ hm) (by decide) (h.tr ▸ h.nd) (fun y hy => by cases hy)
        rwa [List.append_nil, List.append_nil] at this
      rw [if_neg (q7.resolve_left hz), (aft_lnI q.1.1 q.1.2 q.2.1 q.2.2 L hm).2]
      rw [← hs, ← h.tr]
      exact ⟨rfl, fun z => mem_aftP hm⟩
  have hnd : (trP 30 (q :: D) (0, 0)).Nodup := by
    have := insL_nd (at_ := q.1.1) (ar := q.1.2) (t := q.2.1) (r := q.2.2) (show (idsL (lnI L)).Nodup by rw [lnI_ids]; exact h.nd)
    rwa [hL.1, lnI_ids] at this
  refine ⟨trP 30 (q :: D) (0, 0), hL.1, hE, ?_, ⟨fun r hr => ?_, fun r hr => ?_, rfl, hnd, fun y => ?_, by rw [List.length_set]; exact h.dl, fun j r hj => ?_⟩⟩
  · have h1 := congrArg List.length hL.1
    unfold insL at h1
    rw [if_pos hE, putAtL_len] at h1
    unfold lnI at h1
    rw [List.length_map, List.length_map] at h1
    exact h1.symm
  · rcases List.mem_cons.1 hr with rfl | hr
    · exact hqA
    · exact h.sub r hr
  · rcases List.mem_cons.1 hr with rfl | hr
    · rcases hp with e | e
      · exact .inl e
      · obtain ⟨s, hs, e2⟩ := (h.mem _).1 e
        exact .inr ⟨s, .tail _ hs, e2⟩
    · rcases h.par r hr with e | ⟨s, hs, e⟩
      · exact .inl e
      · exact .inr ⟨s, .tail _ hs, e⟩
  · rw [hL.2, h.mem]
    constructor
    · rintro (rfl | ⟨s, hs, e⟩)
      · exact ⟨q, .head _, rfl⟩
      · exact ⟨s, .tail _ hs, e⟩
    · rintro ⟨s, hs, rfl⟩
      rcases List.mem_cons.1 hs with rfl | hs
      · exact .inl rfl
      · exact .inr ⟨s, hs, rfl⟩
  · have hkl := (List.getElem?_eq_some_iff.1 hk).1
    by_cases e : j = k
    · subst e
      rw [hk] at hj; cases hj
      rw [List.getElem?_set_self (by rw [h.dl]; exact hkl)]
      simp
    · rw [List.getElem?_set_ne (fun e2 => e e2.symm), h.dm j r hj, List.mem_cons]
      constructor
      · exact .inr
      · rintro (rfl | h2)
        · exfalso
          have h1 := hA.rep j _ hj
          have h2 := hA.rep k _ hk
          omega
        · exact h2
theorem InvP.all (h : InvP A D L dn) (hd : ∀ k, k < A.length → dn[k]? = some true) : L = trP 30 A (0, 0) := by
  rw [h.tr]
  refine trP_cong (fun q => ⟨h.sub q, fun hq => ?_⟩) _ _
  obtain ⟨k, hk⟩ := List.mem_iff_getElem?.1 hq
  exact (h.dm k q hk).1 (hd k (List.getElem?_eq_some_iff.1 hk).1)
theorem InvP.has (hA : OkA A) (h : InvP A D L dn) {k : Nat} {q : PtI} (hk : A[k]? = some q) (hd : ∀ j, j < k → dn[j]? = some true) : q.1 = (0, 0) ∨ q.1 ∈ L := by
  rcases hA.par k q hk with e | ⟨j, r, hj, hr, e1, _⟩
  · exact .inl e
  · exact .inr ((h.mem _).2 ⟨r, (h.dm j r hr).1 (hd j hj), e1⟩)
end
end
end Go.Qd
