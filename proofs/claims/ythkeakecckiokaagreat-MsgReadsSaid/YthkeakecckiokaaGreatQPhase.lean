import Derived.Test.YthkeakecckiokaaGreatQStr
namespace Go.Qd
open Go

theorem Sel.app {S Sx T : List Res} {r : Res} (h : Sel S r T) : Sel (S ++ Sx) r (T ++ Sx) := by
  induction h with
  | here => exact .here
  | there _ ih => exact .there ih

/-! ### A region that draws its order, and some operations of which change what the call owns, one after the other -/
section
variable {Ξ : Type}
/-- What an operation must come to. -/
def PM (n : Nat) (B : Base) (GG1 : Ξ → List Pers) (SS1 : Ξ → List Res) (G : List Pers) (S : List Res) (d : Option Nat) (p : Post) : Exit → Act → World → Prop := fun e a w =>
  e = .normal ∧ a.tmps.size = n ∧ a.defers = B.ds ∧ ∃ v, (∀ t, d = some t → a.tmps[t]? = some v) ∧ ∃ ξ, Sat B (p.pers v :: (GG1 ξ ++ G)) (SS1 ξ ++ S) w
structure ObA (P : Program) (n : Nat) (L : List Oper) (B : Base) (env : Env) (G : List Pers) (S : List Res) (acc : Acc) (o : Oper) (p : Post) : Prop where
  go : ∀ Gx Sx, withDeps (depsOf o) acc env (G ++ Gx) fun env' G' => WL P n L (PQ n B (G ++ Gx) (S ++ Sx) o.dst p) [o] B env' G' (S ++ Sx)
structure ObM (P : Program) (n : Nat) (L : List Oper) (B : Base) (env : Env) (G : List Pers) (S : List Res) (GG : Nat → Ξ → List Pers) (SS : Nat → Ξ → List Res) (k : Nat) (acc : Acc) (o : Oper) (p : Post) : Prop where
  go : ∀ ξ Gx, withDeps (depsOf o) acc env (GG k ξ ++ (G ++ Gx)) fun env' G' => WL P n L (PM n B (GG (k + 1)) (SS (k + 1)) (G ++ Gx) S o.dst p) [o] B env' G' (SS k ξ ++ S)
def reach : List Nat → Acc → Nat → Bool
  | _, [], _ => false
  | deps, (i, _, _, ds) :: r, j => bif deps.any (Nat.beq i) then (Nat.beq i j || reach (ds ++ deps) r j) else reach deps r j
def okLast (deps : List Nat) (acc : Acc) : Option Nat → Bool
  | none => true
  | some j => reach deps acc j
def ObP (P : Program) (n : Nat) (L : List Oper) (B : Base) (env : Env) (G : List Pers) (S : List Res) (GG : Nat → Ξ → List Pers) (SS : Nat → Ξ → List Res) (fin : Nat → Acc → Prop) : Nat → Nat → Option Nat → List Oper → Acc → Prop
  | _, k, _, [], acc => fin k acc
  | i, k, last, o :: r, acc => ∃ p, (ObA P n L B env G S acc o p ∧ ObP P n L B env G S GG SS fin (i + 1) k last r ((i, o.dst, p, depsOf o) :: acc)) ∨
      (ObM P n L B env G S GG SS k acc o p ∧ okLast (depsOf o) acc last = true ∧ ObP P n L B env G S GG SS fin (i + 1) (k + 1) (some i) r ((i, o.dst, p, depsOf o) :: acc))

variable {P : Program} {n : Nat} {Q : Exit → Act → World → Prop} {B : Base} {env : Env} {G : List Pers} {S : List Res} {L : List Oper} {GG : Nat → Ξ → List Pers} {SS : Nat → Ξ → List Res}
structure Mid2 (n : Nat) (B : Base) (env : Env) (G : List Pers) (S : List Res) (GG : Nat → Ξ → List Pers) (SS : Nat → Ξ → List Res) (ms : List Nat) (accs : Acc) (vals : Nat → Value) (listed : Nat → Bool) (a : Act) (w : World) : Prop where
  st : St n B.ds env a
  slot : ∀ i d p ds, (i, some d, p, ds) ∈ accs → listed i = true → a.tmps[d]? = some (vals i)
  clos : ∀ x ∈ accs, listed x.1 = true → ∀ j ∈ x.2.2.2, listed j = true
  sat : ∃ t, t ≤ ms.length ∧ (∀ s j, s < t → ms[s]? = some j → listed j = true) ∧ (∀ s j, t ≤ s → ms[s]? = some j → listed j = false) ∧
    ∃ ξ, Sat B (((accs.filter fun x => listed x.1).map fun x => x.2.2.1.pers (vals x.1)) ++ (GG t ξ ++ G)) (SS t ξ ++ S) w

theorem ObP.all {fin : Nat → Acc → Prop} : ∀ (l : List Oper) (i k : Nat) (last : Option Nat) (acc : Acc), ObP P n L B env G S GG SS fin i k last l acc →
    ∃ (ps : List Post) (ms : List Nat), ps.length = l.length ∧ ms.Nodup ∧ (∀ x ∈ ms, i ≤ x ∧ x < i + l.length) ∧ ∃ accs : Acc, fin (k + ms.length) accs ∧ (∀ x, x ∈ accs ↔ x ∈ acc ∨ ∃ (j : Nat) (o : Oper) (p : Post), l[j]? = some o ∧ ps[j]? = some p ∧ x = (i + j, o.dst, p, depsOf o)) ∧
      ∀ (j : Nat) (o : Oper), l[j]? = some o → ∃ p acc', ps[j]? = some p ∧ (∀ x ∈ acc', x ∈ accs) ∧
        ((ObA P n L B env G S acc' o p ∧ (i + j) ∉ ms) ∨ ∃ t, ms[t]? = some (i + j) ∧ ObM P n L B env G S GG SS (k + t) acc' o p ∧ okLast (depsOf o) acc' (match t with | 0 => last | s + 1 => ms[s]?) = true)
  | [], i, k, last, acc, h => ⟨[], [], rfl, by simp, by simp, acc, h, fun x => ⟨.inl, fun hx => by rcases hx with hx | ⟨j, o, p, hj, _⟩; exact hx; simp at hj⟩, fun j o hj => by simp at hj⟩
  | o :: r, i, k, last, acc, h => by
    obtain ⟨p, h⟩ := h
    have mems : ∀ (ps : List Post) (accs : Acc), (∀ x, x ∈ accs ↔ x ∈ (i, o.dst, p, depsOf o) :: acc ∨ ∃ (j : Nat) (q : Oper) (p : Post), r[j]? = some q ∧ ps[j]? = some p ∧ x = (i + 1 + j, q.dst, p, depsOf q)) →
        ∀ x, x ∈ accs ↔ x ∈ acc ∨ ∃ (j : Nat) (q : Oper) (p' : Post), (o :: r)[j]? = some q ∧ (p :: ps)[j]? = some p' ∧ x = (i + j, q.dst, p', depsOf q) := by
      intro ps accs hmem x
      rw [hmem]
      constructor
      · rintro (hx | ⟨j, q, p', h1, h2, rfl⟩)
        · cases hx with
          | head => exact .inr ⟨0, o, p, rfl, rfl, rfl⟩
          | tail _ hx => exact .inl hx
        · exact .inr ⟨j + 1, q, p', by simpa using h1, by simpa using h2, by rw [Nat.add_assoc, Nat.add_comm 1 j]⟩
      · rintro (hx | ⟨j, q, p', h1, h2, rfl⟩)
        · exact .inl (.tail _ hx)
        · cases j with
          | zero => simp at h1 h2; subst h1; subst h2; exact .inl (.head _)
          | succ j => exact .inr ⟨j, q, p', by simpa using h1, by simpa using h2, by rw [Nat.add_assoc, Nat.add_comm 1 j]⟩
    rcases h with ⟨hob, hr⟩ | ⟨hob, hok, hr⟩
    · obtain ⟨ps, ms, hl, hnd, hms, accs, hf, hmem, hall⟩ := ObP.all r (i + 1) k last _ hr
      refine ⟨p :: ps, ms, by simp [hl], hnd, fun x hx => by have := hms x hx; simp; omega, accs, hf, mems ps accs hmem, fun j q hj => ?_⟩
      cases j with
      | zero =>
        simp at hj; subst hj
        exact ⟨p, acc, rfl, fun x hx => (hmem x).2 (.inl (.tail _ hx)), .inl ⟨hob, fun hx => by have := hms _ hx; omega⟩⟩
      | succ j =>
        obtain ⟨p', acc', h1, h2, h3⟩ := hall j q (by simpa using hj)
        refine ⟨p', acc', by simpa using h1, h2, ?_⟩
        rw [show i + (j + 1) = i + 1 + j from by omega]
        exact h3
    · obtain ⟨ps, ms, hl, hnd, hms, accs, hf, hmem, hall⟩ := ObP.all r (i + 1) (k + 1) (some i) _ hr
      refine ⟨p :: ps, i :: ms, by simp [hl], List.nodup_cons.2 ⟨fun hx => by have := hms _ hx; omega, hnd⟩, fun x hx => ?_, accs, by rw [List.length_cons, show k + (ms.length + 1) = k + 1 + ms.length from by omega]; exact hf, mems ps accs hmem, fun j q hj => ?_⟩
      · cases hx with
        | head => simp
        | tail _ hx => have := hms x hx; simp; omega
      · cases j with
        | zero =>
          simp at hj; subst hj
          exact ⟨p, acc, rfl, fun x hx => (hmem x).2 (.inl (.tail _ hx)), .inr ⟨0, rfl, hob, hok⟩⟩
        | succ j =>
          obtain ⟨p', acc', h1, h2, h3⟩ := hall j q (by simpa using hj)
          refine ⟨p', acc', by simpa using h1, h2, ?_⟩
          rw [show i + (j + 1) = i + 1 + j from by omega]
          rcases h3 with ⟨h3, h4⟩ | ⟨t, h3, h4, h5⟩
          · refine .inl ⟨h3, fun hx => ?_⟩
            rcases List.mem_cons.1 hx with hx | hx
            · omega
            · exact h4 hx
          · refine .inr ⟨t + 1, by simpa using h3, by rw [show k + (t + 1) = k + 1 + t from by omega]; exact h4, ?_⟩
            cases t with
            | zero => exact h5
            | succ t => simpa using h5
theorem ObP.nil {fin : Nat → Acc → Prop} {i k : Nat} {last : Option Nat} {acc : Acc} (h : fin k acc) : ObP P n L B env G S GG SS fin i k last [] acc := h
variable {d : Nat} {α : Type} {R : Ty α} {a : α}
instance SelC.app {S Sx T : List Res} {r : Res} [i : SelC S r T] : SelC (S ++ Sx) r (T ++ Sx) := ⟨i.h.app⟩
instance SelBox.app {b : Nat} {S Sx T : List Res} {E : TypeId} {cs : List Value} [i : SelBox b S E cs T] : SelBox b (S ++ Sx) E cs (T ++ Sx) := ⟨i.h.app⟩
instance SelOwn.app {v : Value} {S Sx T : List Res} {E sz m : Nat} {xs : List Value} [i : SelOwn v S E sz m xs T] : SelOwn v (S ++ Sx) E sz m xs (T ++ Sx) := ⟨i.h.app⟩
end
end Go.Qd
