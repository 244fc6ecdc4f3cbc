/-
  Lines in an order: what the document's functions compute.
-/
import Derived.Test.YticbfcngepfecaaPS05
namespace Go.Qd
open Go Go.Proofs
structure Ln where
  t : Nat
  r : Int
  d : Bool
deriving DecidableEq
abbrev Ln.C (x : Ln) : List Value := [.int .u64 (x.t : Int), .int .i64 x.r, .bool x.d]
abbrev Ln.V (x : Ln) : Value := .agg x.C.toArray
def okLn (x : Ln) : Prop := okId x.t x.r
def lnT : Ty Ln where
  sz := 3
  agg := true
  rel a v _ := v = a.V ∧ okLn a
  mono _ h := h
  size := by rintro a v h ⟨rfl, h1⟩; rfl
  form := by rintro a v h ⟨rfl, _⟩; exact ⟨_, rfl⟩
  ones := by
    rintro a v h ⟨rfl, _⟩ c hc
    have hc : c ∈ a.C := hc
    simp only [Ln.C, List.mem_cons, List.not_mem_nil, or_false] at hc
    rcases hc with rfl | rfl | rfl <;> rfl
instance : Ty.Is lnT (fun a => a.V) okLn := ⟨fun _ _ _ => Iff.rfl⟩
instance : Ty.Sz lnT 3 := ⟨rfl, by decide⟩
instance : FlG (fun a : Ln => a.V) := ⟨fun a c hc => by
  have hc : c ∈ a.C := hc
  simp only [Ln.C, List.mem_cons, List.not_mem_nil, or_false] at hc
  rcases hc with rfl | rfl | rfl <;> rfl⟩
instance {a : Ln} : Fld lnT 0 a idT (a.t, a.r) := ⟨fun v h x => ⟨idV a.t a.r, ⟨_, _, rfl, ⟨rfl, x.2.1⟩, _, rfl, rfl, x.2.2⟩, fun j c hc => by
  obtain ⟨rfl, _⟩ := x
  have hl : j < 2 := (List.getElem?_eq_some_iff.1 hc).1
  rcases j with _ | _ | j
  · exact hc
  · exact hc
  · omega⟩⟩
instance {a : Ln} : Fld lnT 2 a Ty.bool a.d := ⟨fun v h x => ⟨.bool a.d, ⟨rfl, trivial⟩, fun j c hc => by
  obtain ⟨rfl, _⟩ := x
  have hj : j = 0 := by have := (List.getElem?_eq_some_iff.1 hc).1; have e : (Value.bool a.d).cells.toList.length = 1 := rfl; omega
  subst hj
  exact hc⟩⟩
/-! ### The row, in plain words -/
def isId (t : Nat) (r : Int) (x : Ln) : Bool := decide ((x.t : Int) = (t : Int) ∧ x.r = r)
def ixN (l : List Ln) (t : Nat) (r : Int) : Option Nat := l.findIdx? (isId t r)
def ixZ (l : List Ln) (t : Nat) (r : Int) : Int := match ixN l t r with
  | some i => (i : Int)
  | none => -1
theorem ixZ_at {l : List Ln} {t : Nat} {r : Int} {i : Nat} {x : Ln} (h : l[i]? = some x) (hp : isId t r x = true) (hn : ∀ (j : Nat) (y : Ln), j < i → l[j]? = some y → isId t r y = false) : ixZ l t r = (i : Int) := by
  have : ixN l t r = some i := by
    unfold ixN
    rw [List.findIdx?_eq_some_iff_getElem]
    obtain ⟨h1, rfl⟩ := List.getElem?_eq_some_iff.1 h
    exact ⟨h1, hp, fun j hj => by simpa using hn j _ hj (List.getElem?_eq_getElem (by omega))⟩
  unfold ixZ; rw [this]
theorem ixZ_no {l : List Ln} {t : Nat} {r : Int} (hn : ∀ (j : Nat) (y : Ln), l[j]? = some y → isId t r y = false) : ixZ l t r = -1 := by
  have : ixN l t r = none := by
    unfold ixN
    rw [List.findIdx?_eq_none_iff]
    intro x hx
    obtain ⟨j, hj⟩ := List.mem_iff_getElem?.1 hx
    exact hn j x hj
  unfold ixZ; rw [this]
theorem ixZ_cases (l : List Ln) (t : Nat) (r : Int) : ixZ l t r = -1 ∨ ∃ (i : Nat) (x : Ln), l[i]? = some x ∧ ixZ l t r = (i : Int) ∧ isId t r x = true := by
  unfold ixZ ixN
  cases h : l.findIdx? (isId t r) with
  | none => exact .inl rfl
  | some i =>
    rw [List.findIdx?_eq_some_iff_getElem] at h
    exact .inr ⟨i, _, List.getElem?_eq_getElem h.1, rfl, h.2.1⟩
theorem ixZ_b (l : List Ln) (t : Nat) (r : Int) : -1 ≤ ixZ l t r ∧ ixZ l t r < l.length := by
  rcases ixZ_cases l t r with h | ⟨i, x, hx, h, _⟩
  · omega
  · have := (List.getElem?_eq_some_iff.1 hx).1; omega
def seenL (l : List Ln) : List (Nat × Int) := (l.filter fun x => !x.d).map fun x => (x.t, x.r)
theorem rfirst_fun (n : Int) : Fun Try.prog 74 [.int .i64 n] [] [] (fun r G S => r = idV 0 n ∧ G = [] ∧ S = []) := by
  refine Fun.enter Try.func74 (by kernel_rfl) rfl Try.ntmps74 rfl (fun B Gf Sf => ?_); (try simp only [List.cons_append]); (try simp only [List.nil_append]); simp only [argEnv]
  (repeat (first | refine vgo ?_ | refine ⟨_, rfl, rfl, ?_⟩ | refine ⟨_, rfl, ?_⟩ | refine ⟨rfl, ?_⟩ | intro hb | (refine altL ?_ ?_; omega) | refine altR ?_ | (refine side ?_ ?_; first | omega | exact True.intro | ((try simp only [List.length_append, List.length_cons, List.length_nil, List.length_map, List.length_replicate, List.length_set, and_true, true_and]); omega) | assumption | (and_intros <;> first | omega | assumption) | decide) | (refine decT ?_ ?_; first | with_reducible assumption | with_reducible rfl | (refine not_not_intro ?_; with_reducible first | assumption | rfl) | omega | decide) | (refine decF ?_ ?_; first | with_reducible assumption | with_reducible rfl | (refine not_not_intro ?_; with_reducible first | assumption | rfl) | omega | decide) | (refine decBT ?_ ?_; with_reducible first | assumption | rfl | exact Bool.not_false) | (refine decBF ?_ ?_; with_reducible first | assumption | rfl | exact Bool.not_true) | refine ⟨_, by assumption, ?_⟩ | refine ⟨_, _, _, rfl, ?_⟩ | refine WC.seq (fun K hK => ?_) | (refine hK _ _ _ ?_; clear hK K) | (refine hK _ _ _ _ rfl ?_; clear hK K) | (refine WX.thenExit (K := K) ?_; clear hK K) | (refine WX.thenExit (K := KL) ?_; clear hL KL)))
  refine WL.alloc rfl ?_; intro b1
  (repeat (first | refine vgo ?_ | refine ⟨_, rfl, rfl, ?_⟩ | refine ⟨_, rfl, ?_⟩ | refine ⟨rfl, ?_⟩ | intro hb | (refine altL ?_ ?_; omega) | refine altR ?_ | (refine side ?_ ?_; first | omega | exact True.intro | ((try simp only [List.length_append, List.length_cons, List.length_nil, List.length_map, List.length_replicate, List.length_set, and_true, true_and]); omega) | assumption | (and_intros <;> first | omega | assumption) | decide) | (refine decT ?_ ?_; first | with_reducible assumption | with_reducible rfl | (refine not_not_intro ?_; with_reducible first | assumption | rfl) | omega | decide) | (refine decF ?_ ?_; first | with_reducible assumption | with_reducible rfl | (refine not_not_intro ?_; with_reducible first | assumption | rfl) | omega | decide) | (refine decBT ?_ ?_; with_reducible first | assumption | rfl | exact Bool.not_false) | (refine decBF ?_ ?_; with_reducible first | assumption | rfl | exact Bool.not_true) | refine ⟨_, by assumption, ?_⟩ | refine ⟨_, _, _, rfl, ?_⟩ | refine WC.seq (fun K hK => ?_) | (refine hK _ _ _ ?_; clear hK K) | (refine hK _ _ _ _ rfl ?_; clear hK K) | (refine WX.thenExit (K := K) ?_; clear hK K) | (refine WX.thenExit (K := KL) ?_; clear hL KL)))
  exact WX.retC rfl rfl rfl (fun w sw => ⟨[], [], ⟨rfl, rfl, rfl⟩, sw.to⟩)
theorem sfirst_fun (n : Int) : Fun Try.prog 75 [.int .i64 n] [] [] (fun r G S => r = idV 0 n ∧ G = [] ∧ S = []) := by
  refine Fun.enter Try.func75 (by kernel_rfl) rfl Try.ntmps75 rfl (fun B Gf Sf => ?_); (try simp only [List.cons_append]); (try simp only [List.nil_append]); simp only [argEnv]
  (repeat (first | refine vgo ?_ | refine ⟨_, rfl, rfl, ?_⟩ | refine ⟨_, rfl, ?_⟩ | refine ⟨rfl, ?_⟩ | intro hb | (refine altL ?_ ?_; omega) | refine altR ?_ | (refine side ?_ ?_; first | omega | exact True.intro | ((try simp only [List.length_append, List.length_cons, List.length_nil, List.length_map, List.length_replicate, List.length_set, and_true, true_and]); omega) | assumption | (and_intros <;> first | omega | assumption) | decide) | (refine decT ?_ ?_; first | with_reducible assumption | with_reducible rfl | (refine not_not_intro ?_; with_reducible first | assumption | rfl) | omega | decide) | (refine decF ?_ ?_; first | with_reducible assumption | with_reducible rfl | (refine not_not_intro ?_; with_reducible first | assumption | rfl) | omega | decide) | (refine decBT ?_ ?_; with_reducible first | assumption | rfl | exact Bool.not_false) | (refine decBF ?_ ?_; with_reducible first | assumption | rfl | exact Bool.not_true) | refine ⟨_, by assumption, ?_⟩ | refine ⟨_, _, _, rfl, ?_⟩ | refine WC.seq (fun K hK => ?_) | (refine hK _ _ _ ?_; clear hK K) | (refine hK _ _ _ _ rfl ?_; clear hK K) | (refine WX.thenExit (K := K) ?_; clear hK K) | (refine WX.thenExit (K := KL) ?_; clear hL KL)))
  refine WL.alloc rfl ?_; intro b1
  (repeat (first | refine vgo ?_ | refine ⟨_, rfl, rfl, ?_⟩ | refine ⟨_, rfl, ?_⟩ | refine ⟨rfl, ?_⟩ | intro hb | (refine altL ?_ ?_; omega) | refine altR ?_ | (refine side ?_ ?_; first | omega | exact True.intro | ((try simp only [List.length_append, List.length_cons, List.length_nil, List.length_map, List.length_replicate, List.length_set, and_true, true_and]); omega) | assumption | (and_intros <;> first | omega | assumption) | decide) | (refine decT ?_ ?_; first | with_reducible assumption | with_reducible rfl | (refine not_not_intro ?_; with_reducible first | assumption | rfl) | omega | decide) | (refine decF ?_ ?_; first | with_reducible assumption | with_reducible rfl | (refine not_not_intro ?_; with_reducible first | assumption | rfl) | omega | decide) | (refine decBT ?_ ?_; with_reducible first | assumption | rfl | exact Bool.not_false) | (refine decBF ?_ ?_; with_reducible first | assumption | rfl | exact Bool.not_true) | refine ⟨_, by assumption, ?_⟩ | refine ⟨_, _, _, rfl, ?_⟩ | refine WC.seq (fun K hK => ?_) | (refine hK _ _ _ ?_; clear hK K) | (refine hK _ _ _ _ rfl ?_; clear hK K) | (refine WX.thenExit (K := K) ?_; clear hK K) | (refine WX.thenExit (K := KL) ?_; clear hL KL)))
  exact WX.retC rfl rfl rfl (fun w sw => ⟨[], [], ⟨rfl, rfl, rfl⟩, sw.to⟩)
instance rfirst_pure {G : List Pers} {n : Int} : PureF Try.prog 74 [.int .i64 n] G True (idV 0 n) := ⟨fun _ => PureF.of0 (rfirst_fun n)⟩
instance sfirst_pure {G : List Pers} {n : Int} : PureF Try.prog 75 [.int .i64 n] G True (idV 0 n) := ⟨fun _ => PureF.of0 (sfirst_fun n)⟩
end Go.Qd
