/-
  Trees: formulas over stamps. How they read, and that the law's arguments read so.
-/
import Derived.Test.YthkeakecckiokaaPStamp
import Derived.Test.YthkeakecckiokaaPMat3
namespace Go.Qd
open Go Go.Proofs Go.ChangeShapes Go.WideShapes Go.RowKit
abbrev Ref2 := (Nat × Int) × (Nat × Int)
inductive Nd where
  | mk (k n : Int) (s : List UInt8) (f t : Ref2) (ar : List Nd)
def Nd.k : Nd → Int | .mk k _ _ _ _ _ => k
def Nd.n : Nd → Int | .mk _ n _ _ _ _ => n
def Nd.s : Nd → List UInt8 | .mk _ _ s _ _ _ => s
def Nd.f : Nd → Ref2 | .mk _ _ _ f _ _ => f
def Nd.t : Nd → Ref2 | .mk _ _ _ _ t _ => t
def Nd.ar : Nd → List Nd | .mk _ _ _ _ _ ar => ar
def Nd.tup : Nd → Int × Int × List UInt8 × Ref2 × Ref2 × List Nd | .mk k n s f t ar => (k, n, s, f, t, ar)
abbrev refT : Ty Ref2 := Ty.pair idT (Ty.rec1 idT)
abbrev bodyT (R : Ty Nd) : Ty (Int × Int × List UInt8 × Ref2 × Ref2 × List Nd) := Ty.pair Ty.i64 (Ty.pair Ty.i64 (Ty.pair Ty.str (Ty.pair refT (Ty.pair refT (Ty.rec1 (Ty.sl R))))))
def nodeD : Nat → Ty Nd
  | 0 => ⟨12, true, fun _ _ _ => False, fun _ h => h, fun h => h.elim, fun h => h.elim, fun h => h.elim⟩
  | d + 1 => ⟨12, true, fun a v h => (bodyT (nodeD d)).rel a.tup v h, (bodyT (nodeD d)).mono, (bodyT (nodeD d)).size, (bodyT (nodeD d)).form, (bodyT (nodeD d)).ones⟩
theorem nodeD_sz : ∀ d, (nodeD d).sz = 12
  | 0 => rfl
  | _ + 1 => rfl
theorem nodeD_agg : ∀ d, (nodeD d).agg = true
  | 0 => rfl
  | _ + 1 => rfl
theorem AllR.imp {α : Type} {R R' : Ty α} {h : Hp} (hR : ∀ a v, R.rel a v h → R'.rel a v h) : ∀ {l : List α} {vs : List Value}, AllR R l vs h → AllR R' l vs h
  | [], [], _ => trivial
  | _ :: _, _ :: _, ⟨x, y⟩ => ⟨hR _ _ x, AllR.imp hR y⟩
  | [], _ :: _, x => x.elim
  | _ :: _, [], x => x.elim
theorem slRel.imp {α : Type} {R R' : Ty α} {h : Hp} (hs : R.sz = R'.sz) (hR : ∀ a v, R.rel a v h → R'.rel a v h) {l : List α} {v : Value} (x : slRel R l v h) : slRel R' l v h := by
  rcases x with x | ⟨b, o, c, cs, E, fr, vs, h1, h2, h3, h4, h5, h6⟩
  · exact .inl x
  · exact .inr ⟨b, o, c, cs, E, fr, vs, h1, h2, h3, h4, h5.imp hR, by rw [← hs]; exact h6⟩
theorem body_imp {R R' : Ty Nd} {h : Hp} (hs : R.sz = R'.sz) (hR : ∀ a v, R.rel a v h → R'.rel a v h) {a : Int × Int × List UInt8 × Ref2 × Ref2 × List Nd} {v : Value} : (bodyT R).rel a v h → (bodyT R').rel a v h := by
  rintro ⟨x1, y1, rfl, h1, x2, y2, rfl, h2, x3, y3, rfl, h3, x4, y4, rfl, h4, x5, y5, rfl, h5, z, rfl, hz⟩
  exact ⟨x1, _, rfl, h1, x2, _, rfl, h2, x3, _, rfl, h3, x4, _, rfl, h4, x5, _, rfl, h5, z, rfl, slRel.imp hs hR hz⟩
theorem nodeD_up {h : Hp} : ∀ (d : Nat) {a : Nd} {v : Value}, (nodeD d).rel a v h → (nodeD (d + 1)).rel a v h
  | 0, _, _, x => x.elim
  | d + 1, _, _, x => body_imp (by rw [nodeD_sz, nodeD_sz]) (fun _ _ => nodeD_up d) x
theorem nodeD_le {h : Hp} {d e : Nat} (hde : d ≤ e) {a : Nd} {v : Value} (x : (nodeD d).rel a v h) : (nodeD e).rel a v h := by
  induction hde with
  | refl => exact x
  | step _ ih => exact nodeD_up _ ih
def nodeT : Ty Nd := ⟨12, true, fun a v h => ∃ d, (nodeD d).rel a v h, fun le ⟨d, x⟩ => ⟨d, (nodeD d).mono le x⟩, fun ⟨d, x⟩ => by rw [← nodeD_sz d]; exact (nodeD d).size x,
  fun ⟨d, x⟩ => by have := (nodeD d).form x; rw [nodeD_agg d] at this; exact this, fun ⟨d, x⟩ => (nodeD d).ones x⟩
theorem allD {h : Hp} : ∀ {l : List Nd} {vs : List Value}, AllR nodeT l vs h → ∃ d, AllR (nodeD d) l vs h
  | [], [], _ => ⟨0, trivial⟩
  | _ :: _, _ :: _, ⟨⟨d, x⟩, y⟩ => by
    obtain ⟨e, y⟩ := allD y
    exact ⟨max d e, nodeD_le (Nat.le_max_left _ _) x, y.imp fun _ _ => nodeD_le (Nat.le_max_right _ _)⟩
  | [], _ :: _, x => x.elim
  | _ :: _, [], x => x.elim
theorem node_rel {a : Nd} {v : Value} {h : Hp} : nodeT.rel a v h ↔ (bodyT nodeT).rel a.tup v h := by
  constructor
  · rintro ⟨d, x⟩
    cases d with
    | zero => exact x.elim
    | succ d => exact body_imp (R' := nodeT) (nodeD_sz d) (fun _ _ y => ⟨d, y⟩) x
  · rintro ⟨x1, y1, rfl, h1, x2, y2, rfl, h2, x3, y3, rfl, h3, x4, y4, rfl, h4, x5, y5, rfl, h5, z, rfl, hz⟩
    have : ∃ d, slRel (nodeD d) a.tup.2.2.2.2.2 z h := by
      rcases hz with x | ⟨b, o, c, cs, E, fr, vs, h1, h2, h3, h4, h5, h6⟩
      · exact ⟨0, .inl x⟩
      · obtain ⟨d, h5⟩ := allD h5
        exact ⟨d, .inr ⟨b, o, c, cs, E, fr, vs, h1, h2, h3, h4, h5, by rw [nodeD_sz]; exact h6⟩⟩
    obtain ⟨d, hz⟩ := this
    exact ⟨d + 1, x1, _, rfl, h1, x2, _, rfl, h2, x3, _, rfl, h3, x4, _, rfl, h4, x5, _, rfl, h5, z, rfl, hz⟩
instance : Ty.Sz nodeT 12 := ⟨rfl, by decide⟩
instance {a : Nd} {γ : Type} {o : Nat} {R' : Ty γ} {b : γ} [f : Fld (bodyT nodeT) o a.tup R' b] : Fld nodeT o a R' b := ⟨fun v h x => f.h v h (node_rel.1 x)⟩
/-! Trees of so many levels at most, no list longer than so many -/
def okId (x : Nat × Int) : Prop := x.1 < 18446744073709551616 ∧ -9223372036854775808 ≤ x.2 ∧ x.2 ≤ 9223372036854775807
def okI (x : Int) : Prop := -9223372036854775808 ≤ x ∧ x ≤ 9223372036854775807
def okNd (a : Nd) : Prop := okI a.k ∧ okI a.n ∧ a.s.length ≤ maxLen ∧ okId a.f.1 ∧ okId a.f.2 ∧ okId a.t.1 ∧ okId a.t.2
def smN (M : Nat) : Nat → Nd → Prop
  | 0, _ => False
  | d + 1, a => okNd a ∧ a.ar.length ≤ M ∧ ∀ x ∈ a.ar, smN M d x
def nodeS (M d : Nat) : Ty Nd := ⟨12, true, fun a v h => nodeT.rel a v h ∧ smN M d a, fun le x => ⟨nodeT.mono le x.1, x.2⟩, fun x => nodeT.size x.1, fun x => nodeT.form x.1, fun x => nodeT.ones x.1⟩
def slS {α : Type} (M : Nat) (R : Ty α) : Ty (List α) := ⟨1, false, fun l v h => slRel R l v h ∧ l.length ≤ M, fun le x => ⟨x.1.mono le, x.2⟩, fun x => (Ty.sl R).size x.1, fun x => (Ty.sl R).form x.1, fun x => (Ty.sl R).ones x.1⟩
instance {M d : Nat} : Ty.Sz (nodeS M d) 12 := ⟨rfl, by decide⟩
instance {α : Type} {M : Nat} {R : Ty α} : Ty.Sz (slS M R) 1 := ⟨rfl, by decide⟩
theorem wtAll_len {H : Type} : ∀ l : List (DataW H × List MemPlace), l.length ≤ wtAll (l.map (·.1))
  | [] => by simp [wtAll]
  | x :: l => by
    have := wtAll_len l
    have h1 : 1 ≤ wt x.1 := by cases x.1 with
      | lit b => cases b <;> simp [wt]
      | _ => simp [wt]
    simp only [List.length_cons, List.map_cons, wtAll]; omega
instance reads_slS {N M : Nat} {P : Program} {T E : TypeId} {α : Type} {R : Ty α} {s : Nat} [hT : TU P T (.slice E)] [hE : ReadsN N M P E R] [hs : TS P E s] [hR : Ty.Sz R s] : ReadsN N M P T (slS M R) := ⟨fun {H enc w base spare held fuel cs x} hN h hW => by
  obtain ⟨v, l, hv, hl⟩ := (reads_sl (T := T) (R := R)).read hN h hW
  refine ⟨v, l, hv, hl, ?_⟩
  obtain ⟨p, c, rfl, _⟩ := slRel.shape hl
  rcases DataW.trod_slice hT.h h with ⟨rfl, _⟩ | ⟨a, len, cap, elems, rest, n, hfu, rfl, rfl, hb, h1, h2, hlen, _⟩
  · have : l.length = 0 := by simp [Value.cells] at hv; simp [hv]
    omega
  · have : l.length = len := by simp [Value.cells] at hv; exact hv.2.1
    rw [wt] at hW
    have := wtAll_len elems
    omega⟩
abbrev bodyS (M d : Nat) : Ty (Int × Int × List UInt8 × Ref2 × Ref2 × List Nd) := Ty.pair Ty.i64 (Ty.pair Ty.i64 (Ty.pair Ty.str (Ty.pair refT (Ty.pair refT (Ty.rec1 (slS d (nodeS M d)))))))
theorem reads_node {P : Program} {T : TypeId} {fs : List (TypeId × Nat × Nat)} {M : Nat} [hF : SF P T fs] (hb : ∀ N d, ReadsN N d P T (nodeS M d) → ReadsF N d P fs 0 (bodyS M d)) [hs : TS P T 12] : ∀ N d, d ≤ M → ReadsN N d P T (nodeS M d)
  | 0, _, _ => ⟨fun {H enc w base spare held fuel cs x} hN h _ => by
    obtain rfl : fuel = 0 := by omega
    simp [DataW.trod] at h⟩
  | N + 1, 0, _ => ⟨fun {H enc w base spare held fuel cs x} _ _ hW => by
    exfalso
    have h1 : 1 ≤ wt x.1 := by cases x.1 with
      | lit b => cases b <;> simp [wt]
      | _ => simp [wt]
    omega⟩
  | N + 1, d + 1, hd => by
    have ih := reads_node hb N d (by omega)
    have k := hb N d ih
    have r : ReadsN (N + 1) (d + 1) P T (bodyS M d) := Reads.structS
    exact ⟨fun hN h hW => by
      obtain ⟨v, a, hv, ha⟩ := r.read hN h hW
      obtain ⟨k, n, s, f, t, ar⟩ := a
      obtain ⟨x1, y1, rfl, h1, x2, y2, rfl, h2, x3, y3, rfl, h3, x4, y4, rfl, h4, x5, y5, rfl, h5, z, rfl, hz, hzl⟩ := ha
      have hok : okNd (.mk k n s f t ar) := by
        obtain ⟨p1, q1, rfl, e1, r1, rfl, e2⟩ := h4
        obtain ⟨p2, q2, rfl, e3, r2, rfl, e4⟩ := h5
        exact ⟨h1.2, h2.2, h3.2, (idT_is e1).2, (idT_is e2).2, (idT_is e3).2, (idT_is e4).2⟩
      refine ⟨_, .mk k n s f t ar, hv, node_rel.2 ⟨x1, _, rfl, h1, x2, _, rfl, h2, x3, _, rfl, h3, x4, _, rfl, h4, x5, _, rfl, h5, z, rfl, slRel.imp (R := nodeS M d) (R' := nodeT) rfl (fun _ _ y => y.1) hz⟩, hok, Nat.le_trans hzl (by omega), fun x hx => ?_⟩
      rcases hz with ⟨rfl, _⟩ | ⟨b, o, c, cs, E, fr, vs, _, _, _, _, h5, _⟩
      · cases hx
      · obtain ⟨u, hu⟩ := AllR.mem h5 x hx
        exact hu.2⟩
end Go.Qd
