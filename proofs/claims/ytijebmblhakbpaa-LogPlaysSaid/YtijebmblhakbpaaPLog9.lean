/-
  The log: plain law.
-/
import Derived.Test.YtijebmblhakbpaaPLog7
namespace Go.Qd
/-! ### The log: plain law. -/
section
open Go Go.Proofs
def ofO (D : List OpT) (k : Int) : List OpT := D.filter fun x => decide (x.o = k)
def cntD (D : List OpT) (k : Int) : Nat := (ofO D k).length
theorem cntD_le (D : List OpT) (k : Int) : cntD D k ≤ D.length := List.length_filter_le _ _
theorem ofO_snoc (D : List OpT) (x : OpT) (k : Int) : ofO (D ++ [x]) k = ofO D k ++ if x.o = k then [x] else [] := by
  unfold ofO
  rw [List.filter_append, List.filter_cons, List.filter_nil]
  by_cases h : x.o = k
  · rw [if_pos h, if_pos (decide_eq_true h)]
  · rw [if_neg h, if_neg (by simpa using h)]
theorem filt_drop : ∀ {F : List OpT} {s c : Nat}, (∀ j x, F[j]? = some x → x.n = s + j + 1) → F.filter (fun x => decide (s + c < x.n)) = F.drop c
  | [], s, c, _ => by simp
  | x :: F, s, 0, h => by
    rw [List.drop_zero]
    refine List.filter_eq_self.2 fun y hy => ?_
    obtain ⟨j, hj⟩ := List.mem_iff_getElem?.1 hy
    have := h j y hj
    exact decide_eq_true (by omega)
  | x :: F, s, c + 1, h => by
    have h0 := h 0 x rfl
    rw [List.filter_cons, if_neg (by simp; omega), List.drop_succ_cons]
    have ih := filt_drop (F := F) (s := s + 1) (c := c) fun j y hy => by have := h (j + 1) y (by simpa using hy); omega
    rw [← ih]
    congr 1
    funext y
    exact decide_eq_decide.2 (by omega)
theorem sum_add {α : Type} {a b : α → Nat} : ∀ (l : List α), (l.map fun k => a k + b k).sum = (l.map a).sum + (l.map b).sum
  | [] => rfl
  | k :: l => by
    have := sum_add (a := a) (b := b) l
    simp only [List.map_cons, List.sum_cons]; omega
theorem sum_congr {α : Type} {a b : α → Nat} : ∀ {l : List α}, (∀ k ∈ l, a k = b k) → (l.map a).sum = (l.map b).sum
  | [], _ => rfl
  | k :: l, h => by
    rw [List.map_cons, List.map_cons, List.sum_cons, List.sum_cons, h k (.head _), sum_congr fun k hk => h k (.tail _ hk)]
theorem sum_one {o : Int} {c : Bool} : ∀ {l : List Int}, l.Nodup → o ∈ l → (l.map fun k => if (decide (o = k) && c) = true then 1 else 0).sum = if c = true then 1 else 0
  | [], _, h => by simp at h
  | k :: l, hn, h => by
    obtain ⟨h1, h2⟩ := List.nodup_cons.1 hn
    rw [List.map_cons, List.sum_cons]
    by_cases e : o = k
    · subst e
      have hz : (l.map fun k => if (decide (o = k) && c) = true then 1 else 0).sum = (l.map fun _ => 0).sum := sum_congr fun k hk => by
        rw [decide_eq_false (show ¬ o = k from fun e => h1 (by rw [e]; exact hk))]; rfl
      have hz2 : ∀ l : List Int, (l.map fun _ => 0).sum = 0 := fun l => by induction l with | nil => rfl | cons _ _ ih => simpa using ih
      rw [hz, hz2, decide_eq_true rfl, Bool.true_and, Nat.add_zero]
    · rcases List.mem_cons.1 h with h | h
      · exact absurd h e
      · rw [decide_eq_false e, sum_one h2 h]; simp
theorem sum_split {p : OpT → Bool} {keys : List Int} (hn : keys.Nodup) : ∀ {D : List OpT}, (∀ x ∈ D, x.o ∈ keys) → (keys.map fun k => (D.filter fun x => decide (x.o = k) && p x).length).sum = (D.filter p).length
  | [], _ => by
    have hz2 : ∀ l : List Int, (l.map fun _ => 0).sum = 0 := fun l => by induction l with | nil => rfl | cons _ _ ih => simpa using ih
    exact hz2 keys
  | x :: D, h => by
    have ih := sum_split hn (p := p) (D := D) fun y hy => h y (.tail _ hy)
    have e : ∀ k, ((x :: D).filter fun x => decide (x.o = k) && p x).length = (if (decide (x.o = k) && p x) = true then 1 else 0) + (D.filter fun x => decide (x.o = k) && p x).length := fun k => by
      rw [List.filter_cons]; split <;> simp <;> omega
    rw [show (keys.map fun k => ((x :: D).filter fun x => decide (x.o = k) && p x).length) = keys.map fun k => (if (decide (x.o = k) && p x) = true then 1 else 0) + (D.filter fun x => decide (x.o = k) && p x).length from List.map_congr_left fun k _ => e k]
    rw [sum_add, ih, sum_one hn (h x (.head _)), List.filter_cons]
    cases p x <;> simp <;> omega
structure LogR (D : List OpT) (cut : List Nat) (M : List LgE) (R : List KpI) : Prop where
  nd : (M.map (·.1)).Nodup
  k4 : ∀ k ∈ M.map (·.1), 1 ≤ k ∧ k ≤ 4
  ml : M.length ≤ D.length
  cl : cut.length ≤ 64
  rel : relO D (R.map (·.1))
  gone : R.map (·.2) = D.map fun x => decide (x.n ≤ getC cut x.o)
  lists : ∀ k, listK M k = (ofO D k).drop (getC cut k)
  inK : ∀ x ∈ D, x.o ∈ M.map (·.1)
  num : ∀ k j x, (ofO D k)[j]? = some x → x.n = j + 1
  cle : ∀ k, getC cut k ≤ cntD D k
  kn : ∀ k, 1 ≤ k → k ≤ 64 → getC (knF R) k = cntD D k
theorem LogR.lenK {D : List OpT} {cut : List Nat} {M : List LgE} {R : List KpI} (h : LogR D cut M R) (k : Int) : Qd.lenK M k = cntD D k - getC cut k := by
  rw [← listK_len, h.lists, List.length_drop]; rfl
theorem LogR.ok {D : List OpT} {cut : List Nat} {M : List LgE} {R : List KpI} (h : LogR D cut M R) (hD : D.length ≤ 60) : LgOk M cut :=
  ⟨h.nd, fun k hk => ⟨(h.k4 k hk).1, by have := (h.k4 k hk).2; omega⟩, fun k => by have := h.lenK k; have := cntD_le D k; omega, h.cl, fun k => by have := h.cle k; have := cntD_le D k; omega, by have := h.ml; omega⟩
theorem LogR.size {D : List OpT} {cut : List Nat} {M : List LgE} {R : List KpI} (h : LogR D cut M R) : lenR R = sizeM M := by
  have e1 : lenR R = (D.filter fun x => decide (getC cut x.o < x.n)).length := by
    have h1 : lenR R = ((R.map (·.2)).filter fun b => !b).length := by unfold lenR; rw [List.filter_map, List.length_map]; rfl
    rw [h1, h.gone, List.filter_map, List.length_map]
    congr 2
    funext x
    show (!decide (x.n ≤ getC cut x.o)) = decide (getC cut x.o < x.n)
    by_cases hx : x.n ≤ getC cut x.o
    · rw [decide_eq_true hx, decide_eq_false (by omega)]; rfl
    · rw [decide_eq_false hx, decide_eq_true (by omega)]; rfl
  rw [e1]
  unfold sizeM
  rw [← sum_split h.nd (p := fun x => decide (getC cut x.o < x.n)) h.inK]
  refine (sum_congr fun k _ => ?_).symm
  have hf := filt_drop (F := ofO D k) (s := 0) (c := getC cut k) (fun j x hx => by have := h.num k j x hx; omega)
  rw [← listK_len, h.lists, ← hf]
  unfold ofO
  rw [List.filter_filter]
  congr 2
  funext x
  by_cases e : x.o = k
  · subst e
    rw [decide_eq_true rfl, Bool.and_true, Bool.true_and]
    exact decide_eq_decide.2 (by omega)
  · rw [decide_eq_false e, Bool.and_false, Bool.false_and]
theorem LogR.nil : LogR [] [] [] [] := ⟨by simp, by simp, Nat.le_refl _, by simp, rfl, rfl, fun k => by simp [listK, getM, ofO], by simp, fun k j x h => by simp [ofO] at h, fun k => by unfold getC; simp, fun k h1 h2 => by
  unfold getC
  rw [if_neg (by omega), List.getD_eq_getElem?_getD, show knF [] = List.replicate 64 0 from rfl, List.getElem?_replicate]
  split <;> rfl⟩
end
/-! ### The log: plain law, what the calls keep. -/
section
open Go Go.Proofs
section
variable {D : List OpT} {cut : List Nat} {M : List LgE} {R : List KpI}
theorem LogR.both (h : LogR D cut M R) : R.map (fun a => (keyF a.1, a.2)) = D.map (fun x => (keyT x, decide (x.n ≤ getC cut x.o))) := by
  have h1 : R.map (fun a => (keyF a.1, a.2)) = List.zip ((R.map (·.1)).map keyF) (R.map (·.2)) := by rw [List.map_map]; exact (List.zip_map' ..).symm
  have h2 : D.map (fun x => (keyT x, decide (x.n ≤ getC cut x.o))) = List.zip (D.map keyT) (D.map fun x => decide (x.n ≤ getC cut x.o)) := (List.zip_map' ..).symm
  rw [h1, h2, h.gone]
  congr 1
  exact h.rel.symm
theorem LogR.len (h : LogR D cut M R) : R.length = D.length := by simpa using congrArg List.length h.both
theorem LogR.nums (h : LogR D cut M R) {x : OpT} (hx : x ∈ D) : 1 ≤ x.n ∧ x.n ≤ cntD D x.o := by
  have h1 : x ∈ ofO D x.o := List.mem_filter.2 ⟨hx, decide_eq_true rfl⟩
  obtain ⟨j, hj⟩ := List.mem_iff_getElem?.1 h1
  have h2 := h.num _ j x hj
  have h3 := (List.getElem?_eq_some_iff.1 hj).1
  unfold cntD; omega
theorem LogR.has (h : LogR D cut M R) {a : KpI} (ha : a ∈ R) : ∃ x ∈ D, keyT x = keyF a.1 ∧ a.2 = decide (x.n ≤ getC cut x.o) := by
  have h1 : (keyF a.1, a.2) ∈ D.map (fun x => (keyT x, decide (x.n ≤ getC cut x.o))) := h.both ▸ List.mem_map.2 ⟨a, ha, rfl⟩
  obtain ⟨x, hx, e⟩ := List.mem_map.1 h1
  exact ⟨x, hx, congrArg Prod.fst e, (congrArg Prod.snd e).symm⟩
theorem LogR.org (h : LogR D cut M R) {x : OpT} (hx : x ∈ D) : 1 ≤ x.o ∧ x.o ≤ 4 := h.k4 _ (h.inK x hx)
theorem LogR.orgR (h : LogR D cut M R) {a : KpI} (ha : a ∈ R) : 1 ≤ a.1.o ∧ a.1.o ≤ 64 := by
  obtain ⟨x, hx, e, _⟩ := h.has ha
  have := h.org hx
  simp only [keyT, keyF, Prod.mk.injEq] at e
  omega
theorem putL_keys : ∀ (M : List LgE) (k : Int) (p : Value × List OpT) (a : Int), a ∈ (putM M k p).map (·.1) ↔ a = k ∨ a ∈ M.map (·.1)
  | [], k, p, a => by simp [putM]
  | e :: M, k, p, a => by
    rw [putM]
    by_cases h : e.1 = k
    · rw [if_pos h, List.map_cons, List.map_cons, List.mem_cons, List.mem_cons, h]
      constructor
      · rintro (h1 | h1)
        · exact .inl h1
        · exact .inr (.inr h1)
      · rintro (h1 | h1 | h1)
        · exact .inl h1
        · exact .inl h1
        · exact .inr h1
    · rw [if_neg h, List.map_cons, List.map_cons, List.mem_cons, List.mem_cons, putL_keys M k p a]
      constructor
      · rintro (h1 | h1 | h1)
        · exact .inr (.inl h1)
        · exact .inl h1
        · exact .inr (.inr h1)
      · rintro (h1 | h1 | h1)
        · exact .inr (.inl h1)
        · exact .inl h1
        · exact .inr (.inr h1)
theorem putL_nd : ∀ {M : List LgE} {k : Int} {p : Value × List OpT}, (M.map (·.1)).Nodup → ((putM M k p).map (·.1)).Nodup
  | [], k, p, _ => by simp [putM]
  | e :: M, k, p, h => by
    obtain ⟨h1, h2⟩ := List.nodup_cons.1 h
    rw [putM]
    by_cases h3 : e.1 = k
    · rw [if_pos h3, List.map_cons, List.nodup_cons]
      exact ⟨by rw [← h3]; exact h1, h2⟩
    · rw [if_neg h3, List.map_cons, List.nodup_cons]
      refine ⟨fun h4 => ?_, putL_nd h2⟩
      rcases (putL_keys M k p e.1).1 h4 with h5 | h5
      · exact h3 h5
      · exact h1 h5
theorem putL_len9 : ∀ (M : List LgE) (k : Int) (p : Value × List OpT), (putM M k p).length ≤ M.length + 1
  | [], k, p => by simp [putM]
  | e :: M, k, p => by
    rw [putM]
    by_cases h : e.1 = k
    · rw [if_pos h, List.length_cons, List.length_cons]; omega
    · rw [if_neg h, List.length_cons, List.length_cons]
      have := putL_len9 M k p
      omega
theorem listK_put (M : List LgE) (a : Int) (v : Value) (l : List OpT) (k : Int) : listK (putM M a (v, l)) k = if k = a then l else listK M k := by
  unfold listK
  rw [getM_putL]
  by_cases h : k = a
  · rw [if_pos h, if_pos h]
  · rw [if_neg h, if_neg h]
theorem cntD_snoc (D : List OpT) (x : OpT) (k : Int) : cntD (D ++ [x]) k = cntD D k + if x.o = k then 1 else 0 := by
  unfold cntD
  rw [ofO_snoc, List.length_append]
  by_cases h : x.o = k
  · rw [if_pos h, if_pos h]; rfl
  · rw [if_neg h, if_neg h]; rfl
theorem getC_set {l : List Nat} (hl : l.length = 64) {o : Int} {n : Nat} {k : Int} (ho : 1 ≤ o ∧ o ≤ 64) (hk : 1 ≤ k) : getC (l.set (o - 1).toNat n) k = if o = k then n else getC l k := by
  have hk1 : ¬ k < 1 := by omega
  unfold getC
  rw [if_neg hk1, if_neg hk1, List.getD_eq_getElem?_getD, List.getD_eq_getElem?_getD, List.getElem?_set]
  by_cases h : o = k
  · rw [if_pos h, if_pos (show (o - 1).toNat = (k - 1).toNat from by omega), if_pos (by omega)]; rfl
  · rw [if_neg h, if_neg (show ¬ (o - 1).toNat = (k - 1).toNat from by omega)]
theorem getC_ofL {kn : List Nat} (h : kn.length ≤ 64) (o : Int) : getC (ofL kn) o = getC kn o := by
  unfold getC
  split
  · rfl
  · rw [ofL_getD]
    split
    · rfl
    · rw [List.getD_eq_getElem?_getD, List.getElem?_eq_none (by omega)]; rfl
theorem LogR.cut_lenK (h : LogR D cut M R) (k : Int) : getC cut k + Qd.lenK M k = cntD D k := by
  have := h.lenK k
  have := h.cle k
  omega
theorem LogR.err (h : LogR D cut M R) {x : OpT} {y : OpF} (hk : keyT x = keyF y) (hx : 1 ≤ x.o ∧ x.o ≤ 64) (most : Int) : addE most cut M x = raddE most R y := by
  simp only [keyT, keyF, Prod.mk.injEq] at hk
  have h1 := h.cut_lenK x.o
  have h2 := h.kn x.o hx.1 hx.2
  have h3 := h.size
  unfold addE raddE
  rw [← hk.2.1, ← hk.2.2.1, ← hk.1, h1, h2, h3]
  by_cases c1 : ¬ (0 < x.n ∧ 0 < x.t)
  · rw [if_pos c1, if_pos c1]
  rw [if_neg c1, if_neg c1]
  by_cases c2 : x.n ≤ cntD D x.o
  · rw [if_pos (by omega), if_pos c2]
  rw [if_neg (by omega), if_neg c2]
  by_cases c3 : 1 < x.n - cntD D x.o
  · rw [if_pos (by omega), if_pos c3]
  rw [if_neg (by omega), if_neg c3]
  by_cases c4 : most ≤ (sizeM M : Int)
  · rw [if_pos (by omega), if_pos c4]
  · rw [if_neg (by omega), if_neg c4]
theorem LogR.add (h : LogR D cut M R) {x : OpT} {y : OpF} (hk : keyT x = keyF y) (hx : 1 ≤ x.o ∧ x.o ≤ 4) (hn : x.n = cntD D x.o + 1) (v' : Value) : LogR (D ++ [x]) cut (putM M x.o (v', listK M x.o ++ [x])) (R ++ [(y, false)]) where
  nd := putL_nd h.nd
  k4 k hk1 := by
    rcases (putL_keys _ _ _ _).1 hk1 with rfl | h1
    · exact hx
    · exact h.k4 k h1
  ml := by
    have := putL_len9 M x.o (v', listK M x.o ++ [x])
    have := h.ml
    rw [List.length_append, List.length_singleton]; omega
  cl := h.cl
  rel := by rw [List.map_append]; exact relO_snoc h.rel hk
  gone := by
    have := h.cle x.o
    rw [List.map_append, List.map_append, h.gone]
    simp only [List.map_cons, List.map_nil]
    rw [decide_eq_false (by omega)]
  lists k := by
    rw [listK_put, ofO_snoc]
    have h1 := h.cle k
    by_cases e : k = x.o
    · subst e
      rw [if_pos rfl, if_pos rfl, List.drop_append_of_le_length h1, h.lists]
    · rw [if_neg e, if_neg (fun e2 => e e2.symm), List.append_nil, h.lists]
  inK z hz := by
    rw [putL_keys]
    rcases List.mem_append.1 hz with h1 | h1
    · exact .inr (h.inK z h1)
    · rw [List.mem_singleton] at h1; rw [h1]; exact .inl rfl
  num k j z hz := by
    rw [ofO_snoc] at hz
    by_cases e : x.o = k
    · rw [if_pos e] at hz
      by_cases hj : j < (ofO D k).length
      · rw [List.getElem?_append_left hj] at hz
        exact h.num k j z hz
      · rw [List.getElem?_append_right (by omega)] at hz
        have hj2 := (List.getElem?_eq_some_iff.1 hz).1
        rw [List.length_singleton] at hj2
        rw [show j - (ofO D k).length = 0 from by omega] at hz
        have : x = z := by simpa using hz
        subst this
        rw [hn]
        unfold cntD
        rw [e]; omega
    · rw [if_neg e, List.append_nil] at hz
      exact h.num k j z hz
  cle k := by rw [cntD_snoc]; have := h.cle k; omega
  kn k h1 h2 := by
    have e : knF (R ++ [(y, false)]) = (knF R).set (y.o - 1).toNat y.n := by unfold knF; rw [List.foldl_append]; rfl
    simp only [keyT, keyF, Prod.mk.injEq] at hk
    rw [e, ← hk.1, ← hk.2.1, getC_set (knF_len R) ⟨hx.1, by omega⟩ h1, cntD_snoc, h.kn k h1 h2, hn]
    by_cases e2 : x.o = k
    · rw [if_pos e2, if_pos e2, e2]
    · rw [if_neg e2, if_neg e2]; rfl
theorem listK_cut {kc cut' : List Nat} {M' : List LgE} {n : Nat} (hc : cutTo M kc cut M' cut' n) (k : Int) : listK M' k = (listK M k).drop (cutD kc cut M k) := by
  unfold listK
  cases h : getM M k with
  | some p =>
    obtain ⟨v', h2⟩ := hc.2.1 k p h
    rw [h2]
  | none =>
    cases h2 : getM M' k with
    | none => simp
    | some p =>
      have h3 := lenK_nin h2
      rw [hc.1] at h3
      obtain ⟨e, he, e1⟩ := List.mem_map.1 h3
      subst e1
      exfalso
      have : ∀ {M : List LgE} {e : LgE}, e ∈ M → getM M e.1 ≠ none := fun {M} => by
        induction M with
        | nil => intro e he; cases he
        | cons z M ih =>
          intro e he
          rw [getM]
          by_cases hz : z.1 = e.1
          · rw [if_pos hz]; simp
          · rw [if_neg hz]
            rcases List.mem_cons.1 he with rfl | he
            · exact absurd rfl hz
            · exact ih he
      exact this he h
theorem LogR.cut' (h : LogR D cut M R) {kc cut' : List Nat} {M' : List LgE} {n : Nat} (hkc : kc.length ≤ 64) (hc : cutTo M kc cut M' cut' n) : LogR D cut' M' (cutR R (ofL kc)) ∧ Qd.gone R (ofL kc) = n := by
  have hcut : ∀ k, getC cut' k = min (cntD D k) (max (getC kc k) (getC cut k)) := fun k => by
    have h1 := hc.2.2.2.1 k
    have h2 := h.lenK k
    have h3 := h.cle k
    unfold cutD at h1
    omega
  have hgo : ∀ x ∈ D, decide (x.n ≤ getC cut' x.o) = (decide (x.n ≤ getC cut x.o) || decide (x.n ≤ getC kc x.o)) := fun x hx => by
    have h1 := h.nums hx
    have h2 := h.cle x.o
    rw [hcut, ← Bool.decide_or]
    exact decide_eq_decide.2 (by omega)
  have hb := h.both
  have key : LogR D cut' M' (cutR R (ofL kc)) := by
    refine ⟨hc.1 ▸ h.nd, hc.1 ▸ h.k4, ?_, hc.2.2.1, ?_, ?_, fun k => ?_, hc.1 ▸ h.inK, h.num, fun k => by rw [hcut]; omega, fun k h1 h2 => ?_⟩
    · have e := congrArg List.length hc.1
      rw [List.length_map, List.length_map] at e
      rw [e]; exact h.ml
    · have : (cutR R (ofL kc)).map (·.1) = R.map (·.1) := by unfold cutR; rw [List.map_map]; rfl
      rw [this]; exact h.rel
    · have e1 : (cutR R (ofL kc)).map (·.2) = (R.map fun a => (keyF a.1, a.2)).map fun p => p.2 || decide (p.1.2.1 ≤ getC kc p.1.1) := by
        unfold cutR
        rw [List.map_map, List.map_map]
        refine List.map_congr_left fun a _ => ?_
        show (a.2 || decide (a.1.n ≤ getC (ofL kc) a.1.o)) = (a.2 || decide (a.1.n ≤ getC kc a.1.o))
        rw [getC_ofL hkc]
      rw [e1, hb, List.map_map]
      exact List.map_congr_left fun x hx => (hgo x hx).symm
    · rw [listK_cut hc, h.lists, List.drop_drop, hc.2.2.2.1]
    · have e : knF (cutR R (ofL kc)) = knF R := by unfold knF cutR; rw [List.foldl_map]; rfl
      rw [e]; exact h.kn k h1 h2
  refine ⟨key, ?_⟩
  unfold Qd.gone
  rw [h.size, key.size, hc.2.2.2.2]
  unfold sizeM
  rw [hc.1]
  have e := sum_add (a := Qd.lenK M') (b := cutD kc cut M) (M.map (·.1))
  have e2 : ((M.map (·.1)).map fun k => Qd.lenK M' k + cutD kc cut M k).sum = ((M.map (·.1)).map (Qd.lenK M)).sum := sum_congr fun k _ => by
    have h1 : Qd.lenK M' k = Qd.lenK M k - cutD kc cut M k := by rw [← listK_len, listK_cut hc, List.length_drop, listK_len]
    have h2 : cutD kc cut M k ≤ Qd.lenK M k := Nat.min_le_left _ _
    omega
  omega
theorem LogR.getS (h : LogR D cut M R) {o : Int} {n : Nat} (h1 : getC cut o < n) (h2 : n ≤ cntD D o) : ∃ v l x a, getM M o = some (v, l) ∧ l[n - getC cut o - 1]? = some x ∧ x ∈ D ∧ getR R o n = some a ∧ a ∈ R ∧ keyT x = keyF a.1 := by
  have hlt : n - 1 < (ofO D o).length := by unfold cntD at h2; omega
  obtain ⟨x, hx⟩ : ∃ x, (ofO D o)[n - 1]? = some x := ⟨_, List.getElem?_eq_getElem hlt⟩
  have hxn := h.num o _ x hx
  obtain ⟨hxD, hxo⟩ := List.mem_filter.1 (List.mem_of_getElem? hx)
  have hxo := of_decide_eq_true hxo
  have hl : (listK M o)[n - getC cut o - 1]? = some x := by
    rw [h.lists, List.getElem?_drop, show getC cut o + (n - getC cut o - 1) = n - 1 from by omega]; exact hx
  have hf : (R.find? (okG o n)).map (fun a => (keyF a.1, a.2)) = (D.find? fun z => !decide (z.n ≤ getC cut z.o) && (decide (z.o = o) && decide ((z.n : Int) = (n : Int)))).map (fun z => (keyT z, decide (z.n ≤ getC cut z.o))) := by
    have e1 := List.find?_map (f := fun a : KpI => (keyF a.1, a.2)) (p := fun p => !p.2 && (decide (p.1.1 = o) && decide ((p.1.2.1 : Int) = (n : Int)))) (l := R)
    have e2 := List.find?_map (f := fun z : OpT => (keyT z, decide (z.n ≤ getC cut z.o))) (p := fun p => !p.2 && (decide (p.1.1 = o) && decide ((p.1.2.1 : Int) = (n : Int)))) (l := D)
    rw [h.both] at e1
    exact e1.symm.trans e2
  cases hd : D.find? fun z => !decide (z.n ≤ getC cut z.o) && (decide (z.o = o) && decide ((z.n : Int) = (n : Int))) with
  | none =>
    have := List.find?_eq_none.1 hd x hxD
    exfalso
    apply this
    rw [decide_eq_false (by rw [hxo]; omega), decide_eq_true hxo, decide_eq_true (by omega)]; rfl
  | some z =>
    have hz1 := List.find?_some hd
    have hz2 := List.mem_of_find?_eq_some hd
    simp only [Bool.and_eq_true, decide_eq_true_eq] at hz1
    obtain ⟨_, hzo, hzn⟩ := hz1
    have hz3 : z ∈ ofO D o := List.mem_filter.2 ⟨hz2, decide_eq_true hzo⟩
    obtain ⟨j, hj⟩ := List.mem_iff_getElem?.1 hz3
    have hzj := h.num o j z hj
    obtain rfl : j = n - 1 := by omega
    rw [hx] at hj
    obtain rfl := Option.some.inj hj
    rw [hd] at hf
    cases hr : R.find? (okG o n) with
    | none => rw [hr] at hf; cases hf
    | some a =>
      rw [hr] at hf
      have hk : keyF a.1 = keyT x := congrArg Prod.fst (Option.some.inj hf)
      have : ∃ v, getM M o = some (v, listK M o) := by
        unfold listK at hl ⊢
        cases hg : getM M o with
        | none => rw [hg] at hl; simp at hl
        | some p => exact ⟨p.1, rfl⟩
      obtain ⟨v, hv⟩ := this
      exact ⟨v, _, x, a, hv, hl, hxD, hr, List.mem_of_find?_eq_some hr, hk.symm⟩
theorem LogR.getN (h : LogR D cut M R) {o : Int} {n : Nat} (h1 : n ≤ getC cut o ∨ cntD D o < n) : getR R o n = none := by
  unfold getR
  refine List.find?_eq_none.2 fun a ha hok => ?_
  obtain ⟨x, hx, hk, hg⟩ := h.has ha
  have h2 := h.nums hx
  simp only [keyT, keyF, Prod.mk.injEq] at hk
  unfold okG at hok
  simp only [Bool.and_eq_true, decide_eq_true_eq, Bool.not_eq_true'] at hok
  obtain ⟨h3, h4, h5⟩ := hok
  rw [hg] at h3
  have h3 := of_decide_eq_false h3
  have h6 : x.o = o := hk.1.trans h4
  have h7 : x.n = n := by omega
  rw [h6] at h2 h3
  omega
theorem LogR.one (h : LogR D cut M R) (hD : ∀ u ∈ opsC D, u.oneCell' = true) : ∀ k p, getM M k = some p → ∀ u ∈ opsC p.2, u.oneCell' = true := fun k p hp u hu => by
  have h1 : listK M k = p.2 := by unfold listK; rw [hp]
  have h2 := h.lists k
  rw [h1] at h2
  unfold opsC at hu hD
  obtain ⟨x, hx, hux⟩ := List.mem_flatMap.1 hu
  rw [h2] at hx
  exact hD u (List.mem_flatMap.2 ⟨x, (List.mem_filter.1 (List.mem_of_mem_drop hx)).1, hux⟩)
end
end
end Go.Qd
