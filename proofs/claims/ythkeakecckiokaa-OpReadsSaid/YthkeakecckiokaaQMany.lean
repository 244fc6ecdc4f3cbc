import Derived.Test.YthkeakecckiokaaQCopy
namespace Go.Qd
open Go
/-! ### Many owned pieces at once: one for each thing of a list -/
def many {α : Type} (f : α → Value → Res) (l : List α) (vs : List Value) : Res := fun h => l.length = vs.length ∧ Star (List.zipWith f l vs) h
theorem Star.app {s t : List Res} : ∀ {h : Hp}, Star (s ++ t) h ↔ ∃ h1 h2, Hp.disj h1 h2 ∧ h = Hp.union h1 h2 ∧ Star s h1 ∧ Star t h2 := by
  induction s with
  | nil =>
    intro h
    constructor
    · intro H
      exact ⟨Hp.none, h, fun b => .inl rfl, (Hp.union_none_left h).symm, fun _ => rfl, H⟩
    · rintro ⟨h1, h2, d, rfl, e, H⟩
      have : h1 = Hp.none := funext e
      rw [this, Hp.union_none_left]; exact H
  | cons r s ih =>
    intro h
    constructor
    · rintro ⟨h1, k, d, rfl, hr, H⟩
      obtain ⟨h2, h3, d2, rfl, H2, H3⟩ := ih.1 H
      rw [Hp.disj_union] at d
      refine ⟨Hp.union h1 h2, h3, Hp.disj_comm (Hp.disj_union.2 ⟨Hp.disj_comm d.2, Hp.disj_comm d2⟩), (Hp.union_assoc _ _ _).symm, ⟨h1, h2, d.1, rfl, hr, H2⟩, H3⟩
    · rintro ⟨k, h3, d, rfl, ⟨h1, h2, d1, rfl, hr, H2⟩, H3⟩
      have d' := Hp.disj_union.1 (Hp.disj_comm d)
      refine ⟨h1, Hp.union h2 h3, Hp.disj_union.2 ⟨d1, Hp.disj_comm d'.1⟩, Hp.union_assoc _ _ _, hr, ih.2 ⟨h2, h3, Hp.disj_comm d'.2, rfl, H2, H3⟩⟩
section
variable {B w : World} {G : List Pers} {S S' : List Res} {α : Type} {f : α → Value → Res} {l : List α} {vs : List Value}
theorem Sat.res {T : List Res} (h : Sat B G S w) (g : ∀ k, Star S k → Star T k) : Sat B G T w := by
  obtain ⟨m, k, d, hm, hk, hg, hs⟩ := h.heap
  exact ⟨h.os, h.tape, h.output, h.size, m, k, d, hm, hk, hg, g k hs⟩
theorem Sat.many_open (h : Sat B G (many f l vs :: S) w) : l.length = vs.length ∧ Sat B G (List.zipWith f l vs ++ S) w := by
  refine ⟨h.pureRes fun k hk => hk.1, h.res fun k hk => ?_⟩
  obtain ⟨h1, h2, d, rfl, hr, hs⟩ := hk
  exact Star.app.2 ⟨h1, h2, d, rfl, hr.2, hs⟩
theorem Sat.many_close (hl : l.length = vs.length) (h : Sat B G (List.zipWith f l vs ++ S) w) : Sat B G (many f l vs :: S) w := by
  refine h.res fun k hk => ?_
  obtain ⟨h1, h2, d, rfl, hr, hs⟩ := Star.app.1 hk
  exact ⟨h1, h2, d, rfl, ⟨hl, hr⟩, hs⟩
theorem zip_out : ∀ {l : List α} {vs : List Value} {i : Nat} {a : α} {v : Value}, l[i]? = some a → vs[i]? = some v → (List.zipWith f l vs).Perm (f a v :: List.zipWith f (l.eraseIdx i) (vs.eraseIdx i))
  | [], _, _, _, _, h, _ => by simp at h
  | _ :: _, [], _, _, _, _, h => by simp at h
  | a :: l, v :: vs, 0, _, _, h1, h2 => by
    simp at h1 h2; subst h1; subst h2
    exact List.Perm.refl _
  | a :: l, v :: vs, i + 1, x, u, h1, h2 => by
    have := zip_out (l := l) (vs := vs) (i := i) (a := x) (v := u) (by simpa using h1) (by simpa using h2)
    simp only [List.zipWith_cons_cons, List.eraseIdx_cons_succ]
    exact (List.Perm.cons _ this).trans (List.Perm.swap _ _ _)
/-- One piece is taken out. -/
theorem Sat.manyOut {i : Nat} {a : α} (h : Sat B G (many f l vs :: S) w) (ha : l[i]? = some a) : ∃ v, vs[i]? = some v ∧ Sat B G (f a v :: many f (l.eraseIdx i) (vs.eraseIdx i) :: S) w := by
  obtain ⟨hl, h1⟩ := h.many_open
  have hi : i < vs.length := by have := (List.getElem?_eq_some_iff.1 ha).1; omega
  refine ⟨vs[i], List.getElem?_eq_getElem hi, ?_⟩
  have h2 := h1.perm ((zip_out (f := f) ha (List.getElem?_eq_getElem hi)).append_right S)
  have h3 : Sat B G (List.zipWith f (l.eraseIdx i) (vs.eraseIdx i) ++ (f a vs[i] :: S)) w := h2.perm (by
    rw [List.cons_append]; exact List.perm_middle.symm)
  exact (Sat.many_close (by rw [List.length_eraseIdx, List.length_eraseIdx, hl]) h3).perm (List.Perm.swap _ _ _)
/-- .. and put back. -/
theorem Sat.manyIn {i : Nat} {a : α} {v : Value} (ha : l[i]? = some a) (hv : vs[i]? = some v) (h : Sat B G (f a v :: many f (l.eraseIdx i) (vs.eraseIdx i) :: S) w) : Sat B G (many f l vs :: S) w := by
  obtain ⟨hl, h1⟩ := (h.perm (List.Perm.swap _ _ _)).many_open
  have hi := (List.getElem?_eq_some_iff.1 ha).1
  have hj := (List.getElem?_eq_some_iff.1 hv).1
  rw [List.length_eraseIdx, List.length_eraseIdx, if_pos hi, if_pos hj] at hl
  refine Sat.many_close (by omega) ?_
  refine h1.perm (List.perm_middle.trans ?_)
  rw [← List.cons_append]
  exact (zip_out (f := f) ha hv).symm.append_right S
theorem Sat.manyLen (h : Sat B G (many f l vs :: S) w) : l.length = vs.length := h.many_open.1
theorem many_ones (hf : ∀ a v k, f a v k → v.oneCell' = true) : ∀ {l : List α} {vs : List Value} {k : Hp}, l.length = vs.length → Star (List.zipWith f l vs) k → ∀ v ∈ vs, v.oneCell' = true
  | [], [], _, _, _, v, hv => by cases hv
  | a :: l, u :: vs, _, hl, ⟨h1, h2, _, _, hr, hs⟩, v, hv => by
    rcases List.mem_cons.1 hv with e | e
    · subst e; exact hf _ _ _ hr
    · exact many_ones hf (by simpa using hl) hs v e
  | [], _ :: _, _, hl, _, _, _ => by simp at hl
  | _ :: _, [], _, hl, _, _, _ => by simp at hl
theorem Sat.manyOnes (hf : ∀ a v k, f a v k → v.oneCell' = true) (h : Sat B G (many f l vs :: S) w) : ∀ v ∈ vs, v.oneCell' = true := h.pureRes fun _ hk => many_ones hf hk.1 hk.2
theorem Sat.manyNil (h : Sat B G S w) : Sat B G (many f [] [] :: S) w := Sat.many_close rfl h
theorem Sat.manySnoc {a : α} {v : Value} (h : Sat B G (f a v :: many f l vs :: S) w) : Sat B G (many f (l ++ [a]) (vs ++ [v]) :: S) w := by
  have hl := (h.perm (List.Perm.swap _ _ _)).manyLen
  refine Sat.manyIn (i := l.length) (a := a) (v := v) (by simp) (by rw [hl]; simp) ?_
  have e1 : (l ++ [a]).eraseIdx l.length = l := by rw [List.eraseIdx_append_of_length_le (Nat.le_refl _)]; simp
  have e2 : (vs ++ [v]).eraseIdx l.length = vs := by rw [hl, List.eraseIdx_append_of_length_le (Nat.le_refl _)]; simp
  rw [e1, e2]; exact h
theorem Sat.manySet {i : Nat} {a' : α} {v' : Value} (hi : i < l.length) (hj : i < vs.length) (h : Sat B G (f a' v' :: many f (l.eraseIdx i) (vs.eraseIdx i) :: S) w) : Sat B G (many f (l.set i a') (vs.set i v') :: S) w := by
  refine Sat.manyIn (i := i) (a := a') (v := v') (by simp [hi]) (by simp [hj]) ?_
  rw [List.eraseIdx_set_eq, List.eraseIdx_set_eq]; exact h
end
section
variable {B w : World} {G : List Pers} {S : List Res} {α : Type} {l : List (List α)} {vs : List Value}
/-- All pieces become known for good. -/
theorem Sat.manyPub {R : Ty α} {E sz : Nat} {g : α → Value} {ok : α → Prop} [hR : R.Is g ok] (h1 : R.sz = sz) (hok : ∀ r ∈ l, ∀ a ∈ r, ok a) (h : Sat B G (many (fun (r : List α) v => own E sz v r.length (flat (r.map g))) l vs :: S) w) : Sat B (rdAll (Ty.sl R) l vs :: G) S w := by
  induction l generalizing vs G with
  | nil =>
    obtain ⟨hl, h2⟩ := h.many_open
    obtain rfl : vs = [] := List.eq_nil_of_length_eq_zero hl.symm
    exact h2.rdAllNil _
  | cons r l ih =>
    obtain ⟨v, hv, h2⟩ := h.manyOut (i := 0) (a := r) rfl
    match vs, hv with
    | v' :: vs, hv =>
      simp at hv; subst hv
      have h3 : Sat B (Qd.rd (Ty.sl R) r v' :: G) (many (fun (r : List α) v => own E sz v r.length (flat (r.map g))) l vs :: S) w := h2.pub SelOwn.h h1 rfl rfl (hok r (.head _))
      have h5 := ih (fun r hr => hok r (.tail _ hr)) h3
      exact h5.pers fun m hm g hg => by
        rcases List.mem_cons.1 hg with e | e
        · subst e; exact ⟨hm _ (.tail _ (.head _)), hm _ (.head _)⟩
        · exact hm g (.tail _ (.tail _ e))
end
section
variable {P : Program} {n : Nat} {Q : Exit → Act → World → Prop} {B : Base} {env : Env} {G : List Pers} {S S' : List Res} {L rest : List Oper} {α : Type} {c : Code} {dst : Option Nat}
theorem WC.manyOut (f : α → Value → Res) (l : List α) (vs : List Value) {i : Nat} {a : α} [hS : SelC S (many f l vs) S'] (ha : l[i]? = some a) (h : ∀ v, vs[i]? = some v → WC P n c Q B env G (f a v :: many f (l.eraseIdx i) (vs.eraseIdx i) :: S')) : WC P n c Q B env G S :=
  ⟨fun ac w sa sw => by
    obtain ⟨v, hv, hs⟩ := (sw.perm hS.h.perm).manyOut ha
    exact (h v hv).go ac w sa hs⟩
theorem CallV.ex {f : FuncId} {vs : List Value} {p : Prop} (hp : ∀ w, Sat B G S w → p) (h : p → CallV P n L Q rest B env G S dst f vs) : CallV P n L Q rest B env G S dst f vs := ⟨fun ty pos af op h1 h2 => WL.ex hp (fun e => (h e).go ty pos af op h1 h2)⟩
end
end Go.Qd
