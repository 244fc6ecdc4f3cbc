import Derived.Test.YthkeakecckiokaaQApp
namespace Go.Qd
open Go
/-! ### A region that draws its order: a slot that is read ahead of being written -/
section
variable {P : Program} {n : Nat} {Q : Exit → Act → World → Prop} {B : Base} {env env' : Env} {G : List Pers} {S S₀ : List Res} {L L' : List Oper}
theorem upon_keep {o : Oper} {a : Act} {K : Act → World → Prop} {r : Result Next} (h : Oper.upon P o a K Q r) : Oper.upon P o a (fun a' w' => K a' w' ∧ ∀ t, o.dst ≠ some t → a'.tmps[t]? = a.tmps[t]?) Q r := by
  have hput : ∀ (a₀ : Act) (v : Value), a₀.tmps = a.tmps → ∀ t, o.dst ≠ some t → (a₀.put o.dst v).tmps[t]? = a.tmps[t]? := by
    intro a₀ v he t ht
    cases hd : o.dst with
    | none => simp [Act.put, he]
    | some d =>
      rw [hd] at ht
      have : d ≠ t := fun e => ht (by rw [e])
      simp [Act.put, he, Array.getElem?_setIfInBounds_ne this]
  cases r with
  | ok x w' =>
    cases x <;> simp only [Oper.upon] at h ⊢ <;> first
      | exact ⟨h, hput _ _ rfl⟩
      | (refine Calls.mono h ?_
         intro e w'' he
         cases e <;> simp only at he ⊢ <;> first | exact ⟨he, hput _ _ rfl⟩ | exact he)
      | exact Rows.mono h (fun v w'' he => ⟨he, hput _ _ rfl⟩)
      | (refine RoundIn.mono h ?_
         intro e w'' he
         cases e <;> simp only at he ⊢ <;> first | exact ⟨he, hput _ _ rfl⟩ | exact he)
  | halt x w' => simp only [Oper.upon] at h
theorem wpOp_keep {i : Nat} {o : Oper} {K : Act → World → Prop} {a : Act} {w : World} (ho : L[i]? = some o) (h : wpOp P L.toArray Q i K a w) : wpOp P L.toArray Q i (fun a' w' => K a' w' ∧ ∀ t, o.dst ≠ some t → a'.tmps[t]? = a.tmps[t]?) a w := by
  have ho' : L.toArray[i]? = some o := by simpa using ho
  unfold wpOp at h ⊢
  rw [ho'] at h ⊢
  dsimp only at h ⊢
  split at h
  · rename_i hw
    rw [if_pos hw]
    unfold Oper.wp at h ⊢; exact upon_keep h
  · rename_i hw
    rw [if_neg hw]
    refine ⟨h, fun t ht => ?_⟩
    cases hd : o.dst with
    | none => rfl
    | some d =>
      rw [hd] at ht
      have : d ≠ t := fun e => ht (by rw [e])
      simp [Act.put, Array.getElem?_setIfInBounds_ne this]
def lateB (L : List Oper) (j s : Nat) : Bool := L.all fun o => match o.dst with
  | some t => bif Nat.beq t s then (depsOf o).any (Nat.beq j) else true
  | none => true
/-- At place j stands another operation. -/
class SetOp (L : List Oper) (j : Nat) (o : Oper) (L' : outParam (List Oper)) : Prop where
  h : L.set j o = L'
instance SetOp.zero {q o : Oper} {r : List Oper} : SetOp (q :: r) 0 o (o :: r) := ⟨rfl⟩
instance SetOp.succ {q o : Oper} {r r' : List Oper} {j : Nat} [i : SetOp r j o r'] : SetOp (q :: r) (j + 1) o (q :: r') := ⟨by rw [List.set_cons_succ, i.h]⟩
theorem wpAny_late {j s d : Nat} {v : Value} {ty : TypeId} {pos : String} {af : Array Edge} (hj : L[j]? = some ⟨some d, .move (.tmp s), ty, pos, af, none⟩) (hl : lateB L j s = true) (hL : L.set j ⟨some d, .move (.const v), ty, pos, af, none⟩ = L') :
    ∀ (fuel : Nat) (arr : Array Bool) (a : Act) (w : World), arr.size = L.length → (arr.getD j false = true ∨ a.tmps[s]? = some v) → wpAny P .any L'.toArray Q fuel arr a w → wpAny P .any L.toArray Q fuel arr a w := by
  have hlen : L'.length = L.length := by rw [← hL]; simp
  have hget : ∀ i, i ≠ j → L'[i]? = L[i]? := fun i hi => by rw [← hL, List.getElem?_set_ne (fun e => hi e.symm)]
  have hjl : j < L.length := (List.getElem?_eq_some_iff.1 hj).1
  have hgj : L'[j]? = some ⟨some d, .move (.const v), ty, pos, af, none⟩ := by rw [← hL, List.getElem?_set_self hjl]
  have hafter : ∀ i, (L'.toArray[i]?).map Oper.after = (L.toArray[i]?).map Oper.after := fun i => by
    by_cases e : i = j
    · subst e; rw [List.getElem?_toArray, List.getElem?_toArray, hgj, hj]; rfl
    · rw [List.getElem?_toArray, List.getElem?_toArray, hget i e]
  have hdst : ∀ i, (L'.toArray[i]?).bind Oper.dst = (L.toArray[i]?).bind Oper.dst := fun i => by
    by_cases e : i = j
    · subst e; rw [List.getElem?_toArray, List.getElem?_toArray, hgj, hj]; rfl
    · rw [List.getElem?_toArray, List.getElem?_toArray, hget i e]
  have hy : ∀ tm, yielded L'.toArray tm = yielded L.toArray tm := fun tm => by
    funext k
    unfold yielded
    rw [hdst k]
  have hready : ∀ arr, Region.ready .any L'.toArray arr = Region.ready .any L.toArray arr := fun arr => by
    unfold Region.ready
    have hsz : L'.toArray.size = L.toArray.size := by simp [hlen]
    rw [hsz]
    refine List.filter_congr fun i _ => ?_
    have := hafter i
    cases h1 : L'.toArray[i]? with
    | none => rw [h1] at this; cases h2 : L.toArray[i]? with
      | none => rfl
      | some q => rw [h2] at this; cases this
    | some p => rw [h1] at this; cases h2 : L.toArray[i]? with
      | none => rw [h2] at this; cases this
      | some q =>
        rw [h2] at this
        simp only [Option.map_some, Option.some.injEq] at this
        simp [this]
  intro fuel
  induction fuel with
  | zero => intro arr a w _ _ h; exact ⟨by rw [← hready]; exact h.1, h.2⟩
  | succ fuel ih =>
    intro arr a w hsz hinv h
    refine ⟨fun hr => h.1 (by rw [hready]; exact hr), fun i hi => ?_⟩
    have hi' := h.2 i (by rw [hready]; exact hi)
    have hsz' : (arr.setIfInBounds i true).size = L.length := by simpa using hsz
    have hset : ∀ k, arr.getD k false = true → (arr.setIfInBounds i true).getD k false = true := fun k hk => by
      rw [Array.getD_eq_getD_getElem?] at hk ⊢
      by_cases e : k = i
      · subst e
        have hk2 : k < arr.size := by
          refine Decidable.byContradiction fun hn => ?_
          rw [Array.getElem?_eq_none (by omega)] at hk; cases hk
        rw [Array.getElem?_setIfInBounds_self_of_lt hk2]; rfl
      · rw [Array.getElem?_setIfInBounds_ne (fun e' => e e'.symm)]; exact hk
    by_cases e : i = j
    · subst e
      have hin : (arr.setIfInBounds i true).getD i false = true := by
        have : i < arr.size := by omega
        simp [Array.getD, this]
      have hnl : arr.getD i true = false := by
        unfold Region.ready at hi
        have := (List.mem_filter.1 hi).2
        simp only [Bool.and_eq_true, Bool.not_eq_true'] at this
        exact this.1
      have hv : a.tmps[s]? = some v := by
        rcases hinv with h1 | h1
        · exfalso
          have hk2 : i < arr.size := by omega
          simp [Array.getD, hk2] at h1 hnl
          rw [h1] at hnl; cases hnl
        · exact h1
      unfold wpOp at hi' ⊢
      have o1 : L'.toArray[i]? = some ⟨some d, .move (.const v), ty, pos, af, none⟩ := by simpa using hgj
      have o2 : L.toArray[i]? = some ⟨some d, .move (.tmp s), ty, pos, af, none⟩ := by simpa using hj
      rw [o1] at hi'
      rw [o2]
      dsimp only at hi' ⊢
      have hw1 : Region.wanted ⟨some d, .move (.const v), ty, pos, af, none⟩ (yielded L'.toArray a.tmps) = true := rfl
      have hw2 : Region.wanted ⟨some d, .move (.tmp s), ty, pos, af, none⟩ (yielded L.toArray a.tmps) = true := rfl
      rw [if_pos hw1] at hi'
      rw [if_pos hw2]
      have r1 : (execOp a.eval ⟨some d, .move (.const v), ty, pos, af, none⟩).run P w = .ok (.value v) w := by simp [execOp, Act.eval]
      have r2 : (execOp a.eval ⟨some d, .move (.tmp s), ty, pos, af, none⟩).run P w = .ok (.value v) w := by simp [execOp, Act.eval, hv]
      unfold Oper.wp at hi' ⊢
      rw [r1] at hi'
      rw [r2]
      exact ih _ _ _ hsz' (.inl hin) hi'
    · have hig : ∃ o, L[i]? = some o := by
        have : i < L.length := by
          unfold Region.ready at hi
          have := (List.mem_filter.1 hi).1
          simpa using this
        exact ⟨_, List.getElem?_eq_getElem this⟩
      obtain ⟨o, ho⟩ := hig
      have hi2 : wpOp P L.toArray Q i (wpAny P .any L'.toArray Q fuel (arr.setIfInBounds i true)) a w := by
        unfold wpOp at hi' ⊢
        have o1 : L'.toArray[i]? = some o := by simpa [hget i e] using ho
        have o2 : L.toArray[i]? = some o := by simpa using ho
        rw [o1] at hi'
        rw [o2]
        rw [hy] at hi'
        exact hi'
      refine wpOp_mono (fun a' w' hh => ?_) (wpOp_keep ho hi2)
      refine ih _ _ _ hsz' ?_ hh.1
      rcases hinv with h1 | h1
      · exact .inl (hset j h1)
      · by_cases hjl2 : arr.getD j false = true
        · exact .inl (hset j hjl2)
        · refine .inr ?_
          rw [hh.2 s ?_]; exact h1
          intro hds
          apply hjl2
          -- the writer waits for j
          have hlo := List.all_eq_true.1 hl o (List.mem_of_getElem? ho)
          rw [hds] at hlo
          have hbb : Nat.beq s s = true := Nat.beq_refl s
          simp only [hbb, cond_true] at hlo
          obtain ⟨q, hq, hqj⟩ := List.any_eq_true.1 hlo
          have hqe := Nat.eq_of_beq_eq_true hqj
          subst hqe
          unfold depsOf at hq
          obtain ⟨ed, hed, hon⟩ := List.mem_map.1 hq
          obtain ⟨hed1, hed2⟩ := List.mem_filter.1 hed
          unfold Region.ready at hi
          have hrd := (List.mem_filter.1 hi).2
          have o2 : L.toArray[i]? = some o := by simpa using ho
          rw [o2] at hrd
          simp only [Bool.and_eq_true, Option.map_some, Option.getD_some, Array.all_eq_true_iff_forall_mem] at hrd
          have := hrd.2 ed (Array.mem_toList_iff.1 hed1)
          rw [hed2] at this
          rw [← hon]
          simpa using this
theorem WC.drawVL {id j s d : Nat} {v : Value} {ty : TypeId} {pos : String} {af : Array Edge} [hm : Mixed P] (V : List (List Res)) (hj : L[j]? = some ⟨some d, .move (.tmp s), ty, pos, af, none⟩) (hv : env.get s = some v) [hL : SetOp L j ⟨some d, .move (.const v), ty, pos, af, none⟩ L'] (hl : lateB L j s = true)
    (hok : (depsOK 0 L' && distinct (dstsOf L') && Nat.ble L'.length 1000) = true) (hw : Wo (dstsOf L') env env') (hst : ∀ w, Sat B G S₀ w → Sat B G (V.flatten ++ S) w) (h : ObP3 P n L' B env' G S (Fin3 n Q B env' G S) 0 L' (chunks 0 V)) : WC P n (.region id L.toArray true) Q B env G S₀ :=
  ⟨fun a w sa sw => wp_region_any hm.h (by
    have h1 := parAny (Q := Q) V hok hw (fun w sw => (hst w sw).perm List.perm_append_comm) h a w sa sw
    have hlen : L'.toArray.size = L.toArray.size := by rw [← hL.h]; simp
    rw [hlen] at h1
    exact wpAny_late hj hl hL.h _ _ _ _ (by simp) (.inr (sa.get s v hv)) h1)⟩
end
end Go.Qd
