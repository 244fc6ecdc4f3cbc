/-
  What waits: the law of all calls.
-/
import Derived.Test.YtnkpfeaddjkpbaaPHold8
import Derived.Test.YtnkpfeaddjkpbaaPTree6
namespace Go.Qd
open Go Go.Proofs
abbrev keyT (x : OpT) : Int × Nat × Nat × List Nat × Int := (x.o, x.n, x.t, x.c, x.k)
abbrev keyF (x : OpF) : Int × Nat × Nat × List Nat × Int := (x.o, x.n, x.t, trimL x.f, x.k)
def relO (l : List OpT) (R : List OpF) : Prop := l.map keyT = R.map keyF
theorem relO_len {l : List OpT} {R : List OpF} (h : relO l R) : l.length = R.length := by simpa using congrArg List.length h
theorem relO_cons {x : OpT} {y : OpF} {l : List OpT} {R : List OpF} : relO (x :: l) (y :: R) ↔ keyT x = keyF y ∧ relO l R := by
  unfold relO; rw [List.map_cons, List.map_cons, List.cons.injEq]
theorem relO_filter {p : OpT → Bool} {q : OpF → Bool} (hpq : ∀ x y, keyT x = keyF y → (y.f.length = 64) → p x = q y) : ∀ {l : List OpT} {R : List OpF}, relO l R → (∀ y ∈ R, y.f.length = 64) → relO (l.filter p) (R.filter q)
  | [], [], _, _ => rfl
  | x :: l, y :: R, h, h64 => by
    obtain ⟨h1, h2⟩ := relO_cons.1 h
    have ih := relO_filter hpq h2 (fun z hz => h64 z (.tail _ hz))
    have e := hpq x y h1 (h64 y (.head _))
    rw [List.filter_cons, List.filter_cons, e]
    cases q y
    · simpa using ih
    · simpa using relO_cons.2 ⟨h1, ih⟩
  | [], _ :: _, h, _ => by simp [relO] at h
  | _ :: _, [], h, _ => by simp [relO] at h
theorem relO_any {p : OpT → Bool} {q : OpF → Bool} (hpq : ∀ x y, keyT x = keyF y → (y.f.length = 64) → p x = q y) : ∀ {l : List OpT} {R : List OpF}, relO l R → (∀ y ∈ R, y.f.length = 64) → l.any p = R.any q
  | [], [], _, _ => rfl
  | x :: l, y :: R, h, h64 => by
    obtain ⟨h1, h2⟩ := relO_cons.1 h
    rw [List.any_cons, List.any_cons, hpq x y h1 (h64 y (.head _)), relO_any hpq h2 (fun z hz => h64 z (.tail _ hz))]
  | [], _ :: _, h, _ => by simp [relO] at h
  | _ :: _, [], h, _ => by simp [relO] at h
theorem relO_find {p : OpT → Bool} {q : OpF → Bool} (hpq : ∀ x y, keyT x = keyF y → (y.f.length = 64) → p x = q y) : ∀ {l : List OpT} {R : List OpF}, relO l R → (∀ y ∈ R, y.f.length = 64) → l.findIdx? p = R.findIdx? q
  | [], [], _, _ => rfl
  | x :: l, y :: R, h, h64 => by
    obtain ⟨h1, h2⟩ := relO_cons.1 h
    rw [List.findIdx?_cons, List.findIdx?_cons, hpq x y h1 (h64 y (.head _)), relO_find hpq h2 (fun z hz => h64 z (.tail _ hz))]
  | [], _ :: _, h, _ => by simp [relO] at h
  | _ :: _, [], h, _ => by simp [relO] at h
theorem relO_erase {i : Nat} {l : List OpT} {R : List OpF} (h : relO l R) : relO (l.eraseIdx i) (R.eraseIdx i) := by
  unfold relO at h ⊢
  have : ∀ {α β : Type} (f : α → β) (l : List α) (i : Nat), (l.eraseIdx i).map f = (l.map f).eraseIdx i := by
    intro α β f l
    induction l with
    | nil => intro i; rfl
    | cons x l ih =>
      intro i
      cases i with
      | zero => rfl
      | succ i => simp [ih]
  rw [this, this, h]
theorem relO_get {l : List OpT} {R : List OpF} (h : relO l R) {i : Nat} {x : OpT} (hx : l[i]? = some x) : ∃ y, R[i]? = some y ∧ keyT x = keyF y := by
  have h1 : (l.map keyT)[i]? = some (keyT x) := by rw [List.getElem?_map, hx]; rfl
  rw [h, List.getElem?_map] at h1
  cases hR : R[i]? with
  | none => rw [hR] at h1; cases h1
  | some y => rw [hR] at h1; exact ⟨y, rfl, (Option.some.inj h1).symm⟩
theorem relO_snoc {l : List OpT} {R : List OpF} {x : OpT} {y : OpF} (h : relO l R) (hk : keyT x = keyF y) : relO (l ++ [x]) (R ++ [y]) := by
  unfold relO at h ⊢; rw [List.map_append, List.map_append, h]; simp only [List.map_cons, List.map_nil]; rw [hk]
theorem idxI_any (p : OpT → Bool) (l : List OpT) : decide (0 ≤ idxI p l) = l.any p := by
  unfold idxI
  cases hf : l.findIdx? p with
  | none =>
    rw [List.findIdx?_eq_none_iff] at hf
    have : l.any p = false := by rw [List.any_eq_false]; exact fun x hx => by rw [hf x hx]; simp
    rw [this]; rfl
  | some i =>
    obtain ⟨hi, hp, _⟩ := List.findIdx?_eq_some_iff_getElem.1 hf
    rw [List.any_eq_true.2 ⟨_, List.getElem_mem hi, hp⟩]
    simp
theorem has_same {l : List OpT} {R : List OpF} (h : relO l R) (h64 : ∀ y ∈ R, y.f.length = 64) (o : Int) (n : Nat) : decide (0 ≤ idxI (fun x : OpT => decide (x.o = o ∧ x.n = n)) l) = hasF R o n := by
  rw [idxI_any]
  exact relO_any (fun x y hk _ => by simp only [keyT, keyF, Prod.mk.injEq] at hk; rw [hk.1, hk.2.1]) h h64
theorem put_same {l : List OpT} {R : List OpF} (h : relO l R) (h64 : ∀ y ∈ R, y.f.length = 64) {m : Nat} {x : OpT} {y : OpF} (hk : keyT x = keyF y) : putE l m x = putFE R m y ∧ relO (putL l m x) (putFL R m y) := by
  have hh := has_same h h64 x.o x.n
  have hl := relO_len h
  have hk' := hk
  simp only [keyT, keyF, Prod.mk.injEq] at hk'
  unfold putE putL putFE putFL
  rw [← hk'.1, ← hk'.2.1]
  by_cases h1 : hasP l x.o x.n
  · rw [decide_eq_true h1] at hh
    rw [if_pos h1, if_pos h1, if_pos hh.symm, if_pos hh.symm]
    exact ⟨rfl, h⟩
  · rw [decide_eq_false h1] at hh
    have hnF : ¬ hasF R x.o x.n = true := by rw [← hh]; simp
    by_cases h2 : m ≤ l.length
    · have h3 : (m : Int) ≤ ((R.length : Nat) : Int) := by omega
      simp only [if_neg h1, if_neg hnF, if_pos h2, if_pos h3]
      exact ⟨trivial, h⟩
    · have h3 : ¬ (m : Int) ≤ ((R.length : Nat) : Int) := by omega
      simp only [if_neg h1, if_neg hnF, if_neg h2, if_neg h3]
      exact ⟨trivial, relO_snoc h hk⟩
theorem dueP_same {kn : List Nat} (hkn : kn.length ≤ 64) {x : OpT} {y : OpF} (hk : keyT x = keyF y) (h64 : y.f.length = 64) : dueP kn x = dueF (ofL kn) y.o y.n y.f := by
  simp only [keyT, keyF, Prod.mk.injEq] at hk
  rw [← due_same hkn h64]
  unfold dueP dueQ
  rw [hk.1, hk.2.1, hk.2.2.2.1]
theorem next_same {l l' : List OpT} {R : List OpF} (h : relO l R) (h64 : ∀ y ∈ R, y.f.length = 64) {kn : List Nat} (hkn : kn.length ≤ 64) {u : OpT} {b : Bool} (hn : nextOK l kn l' u b) : relO l' (nextFL (ofL kn) R) ∧ keyT u = keyF (nextFX (ofL kn) R) ∧ b = nextFB (ofL kn) R := by
  have hf : l.findIdx? (dueP kn) = nextF (ofL kn) R := relO_find (fun x y hk h6 => dueP_same hkn hk h6) h h64
  unfold nextFL nextFX nextFB
  rw [← hf]
  rcases hn with ⟨i, hu, hidx, rfl, rfl⟩ | ⟨hidx, hl', rfl, rfl⟩
  · unfold idxI at hidx
    cases hfi : l.findIdx? (dueP kn) with
    | none => rw [hfi] at hidx; simp only [] at hidx; omega
    | some k =>
      rw [hfi] at hidx
      obtain rfl : k = i := by simp only [] at hidx; omega
      obtain ⟨y, hy, hk⟩ := relO_get h hu
      refine ⟨relO_erase h, ?_, rfl⟩
      simp only []
      rw [List.getD_eq_getElem?_getD, hy]; exact hk
  · obtain rfl := hl'.symm
    unfold idxI at hidx
    cases hfi : l.findIdx? (dueP kn) with
    | none => exact ⟨h, by simp only [keyT, keyF, zOp, zOF, trim_zero], rfl⟩
    | some k => rw [hfi] at hidx; simp only [] at hidx; omega
theorem drop_same {l : List OpT} {R : List OpF} (h : relO l R) (h64 : ∀ y ∈ R, y.f.length = 64) {kn : List Nat} (hkn : kn.length ≤ 64) : relO (dropL l kn) (dropF (ofL kn) R) :=
  relO_filter (fun x y hk _ => by simp only [keyT, keyF, Prod.mk.injEq] at hk; rw [hk.1, hk.2.1, getC_of hkn]) h h64
abbrev same17 (x y : OpT) : Prop := x.o = y.o ∧ x.n = y.n ∧ x.t = y.t ∧ (withinL x.c y.c ∧ withinL y.c x.c) ∧ x.k = y.k
abbrev ndO : Nd := .mk 0 0 [] ((0, 0), (0, 0)) ((0, 0), (0, 0)) []
theorem hsame_fun (x y : OpT) : Fun Try.prog 16 [x.V, y.V] [rd (Ty.sl Ty.u64) x.c x.d, rd (Ty.sl Ty.u64) y.c y.d] [] (fun r G S => r = .bool (decide (same17 x y)) ∧ G = [] ∧ S = []) := by
  have h1 := osame_fun ⟨x.o, x.n, x.t, x.c, x.k, (0, 0), (0, 0), 0, 0, [], ndO⟩ ⟨y.o, y.n, y.t, y.c, y.k, (0, 0), (0, 0), 0, 0, [], ndO⟩ x.d y.d (.slice none 0 0) (.slice none 0 0)
  have e : ∀ a b : OpT, decide (osameP ⟨a.o, a.n, a.t, a.c, a.k, (0, 0), (0, 0), 0, 0, [], ndO⟩ ⟨b.o, b.n, b.t, b.c, b.k, (0, 0), (0, 0), 0, 0, [], ndO⟩) = decide (same17 a b) := fun a b => decide_eq_decide.2 ⟨fun h => ⟨h.1, h.2.1, h.2.2.1, h.2.2.2.1, h.2.2.2.2.1⟩, fun h => ⟨h.1, h.2.1, h.2.2.1, h.2.2.2.1, h.2.2.2.2, rfl, rfl, rfl, rfl, rfl, rfl⟩⟩
  rw [e x y] at h1
  refine Fun.look (ι := Unit) (fun _ => [x.V, y.V]) (fun _ => [rd (Ty.sl nodeT) [] (.slice none 0 0), rd (Ty.sl nodeT) [] (.slice none 0 0), rd (Ty.sl Ty.u64) x.c x.d, rd (Ty.sl Ty.u64) y.c y.d]) () (fun m hm => ⟨(), rfl, fun g hg => ?_⟩) (fun _ => h1)
  have hz : (rd (Ty.sl nodeT) ([] : List Nd) (.slice none 0 0)).holds m := .inl ⟨rfl, none, 0, rfl, by simp, fun _ => rfl⟩
  rcases List.mem_cons.1 hg with rfl | hg
  · exact hz
  rcases List.mem_cons.1 hg with rfl | hg
  · exact hz
  · exact hm g hg
theorem same_of_key {x : OpT} {y : OpF} (h : keyT x = keyF y) (d : Value) : same17 x ⟨y.o, y.n, y.t, trimL y.f, d, y.k⟩ := by
  simp only [keyT, keyF, Prod.mk.injEq] at h
  refine ⟨h.1, h.2.1, h.2.2.1, ?_, h.2.2.2.2⟩
  rw [h.2.2.2.1]
  exact ⟨fun _ _ => Nat.le_refl _, fun _ _ => Nat.le_refl _⟩
end Go.Qd
