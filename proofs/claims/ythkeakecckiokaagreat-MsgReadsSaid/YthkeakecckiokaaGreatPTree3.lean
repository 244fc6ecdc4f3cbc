/-
  Trees: formulas over stamps. How they read, and that the law's arguments read so.
-/
import Derived.Test.YthkeakecckiokaaGreatPStamp
import Derived.Test.YthkeakecckiokaaGreatPMat3
namespace Go.Qd
/-! ### Trees: formulas over stamps. How they read, and that the law's arguments read so. -/
section
open Go Go.Proofs Go.ChangeShapes Go.WideShapes Go.RowKit
abbrev Ref2 := (Nat × Int) × (Nat × Int)
inductive Nd where
  | mk (k n : Int) (s : List UInt8) (f t : Ref2) (ar : List Nd)
def Nd.k : Nd → Int | .mk k _ _ _ _ _ => k
def Nd.n : Nd → Int | .mk _ n _ _ _ _ => n
def Nd.s : Nd → List UInt8 | .mk _ _ s _ _ _ => s
def Nd.f : Nd → Ref2 | .mk _ _ _ f _ _ => f
def Nd.t : Nd → Ref2 | .mk _ _ _ _ t _ => t
def Nd.ar : Nd → List Nd | .mk _ _ _ _ _ ar => ar
def Nd.tup : Nd → Int × Int × List UInt8 × Ref2 × Ref2 × List Nd | .mk k n s f t ar => (k, n, s, f, t, ar)
abbrev refT : Ty Ref2 := Ty.pair idT (Ty.rec1 idT)
abbrev bodyT (R : Ty Nd) : Ty (Int × Int × List UInt8 × Ref2 × Ref2 × List Nd) := Ty.pair Ty.i64 (Ty.pair Ty.i64 (Ty.pair Ty.str (Ty.pair refT (Ty.pair refT (Ty.rec1 (Ty.sl R))))))
def nodeD : Nat → Ty Nd
  | 0 => ⟨12, true, fun _ _ _ => False, fun _ h => h, fun h => h.elim, fun h => h.elim, fun h => h.elim⟩
  | d + 1 => ⟨12, true, fun a v h => (bodyT (nodeD d)).rel a.tup v h, (bodyT (nodeD d)).mono, (bodyT (nodeD d)).size, (bodyT (nodeD d)).form, (bodyT (nodeD d)).ones⟩
theorem nodeD_sz : ∀ d, (nodeD d).sz = 12
  | 0 => rfl
  | _ + 1 => rfl
theorem nodeD_agg : ∀ d, (nodeD d).agg = true
  | 0 => rfl
  | _ + 1 => rfl
theorem AllR.imp {α : Type} {R R' : Ty α} {h : Hp} (hR : ∀ a v, R.rel a v h → R'.rel a v h) : ∀ {l : List α} {vs : List Value}, AllR R l vs h → AllR R' l vs h
  | [], [], _ => trivial
  | _ :: _, _ :: _, ⟨x, y⟩ => ⟨hR _ _ x, AllR.imp hR y⟩
  | [], _ :: _, x => x.elim
  | _ :: _, [], x => x.elim
theorem slRel.imp {α : Type} {R R' : Ty α} {h : Hp} (hs : R.sz = R'.sz) (hR : ∀ a v, R.rel a v h → R'.rel a v h) {l : List α} {v : Value} (x : slRel R l v h) : slRel R' l v h := by
  rcases x with x | ⟨b, o, c, cs, E, fr, vs, h1, h2, h3, h4, h5, h6⟩
  · exact .inl x
  · exact .inr ⟨b, o, c, cs, E, fr, vs, h1, h2, h3, h4, h5.imp hR, by rw [← hs]; exact h6⟩
theorem body_imp {R R' : Ty Nd} {h : Hp} (hs : R.sz = R'.sz) (hR : ∀ a v, R.rel a v h → R'.rel a v h) {a : Int × Int × List UInt8 × Ref2 × Ref2 × List Nd} {v : Value} : (bodyT R).rel a v h → (bodyT R').rel a v h := by
  rintro ⟨x1, y1, rfl, h1, x2, y2, rfl, h2, x3, y3, rfl, h3, x4, y4, rfl, h4, x5, y5, rfl, h5, z, rfl, hz⟩
  exact ⟨x1, _, rfl, h1, x2, _, rfl, h2, x3, _, rfl, h3, x4, _, rfl, h4, x5, _, rfl, h5, z, rfl, slRel.imp hs hR hz⟩
theorem nodeD_up {h : Hp} : ∀ (d : Nat) {a : Nd} {v : Value}, (nodeD d).rel a v h → (nodeD (d + 1)).rel a v h
  | 0, _, _, x => x.elim
  | d + 1, _, _, x => body_imp (by rw [nodeD_sz, nodeD_sz]) (fun _ _ => nodeD_up d) x
theorem nodeD_le {h : Hp} {d e : Nat} (hde : d ≤ e) {a : Nd} {v : Value} (x : (nodeD d).rel a v h) : (nodeD e).rel a v h := by
  induction hde with
  | refl => exact x
  | step _ ih => exact nodeD_up _ ih
def nodeT : Ty Nd := ⟨12, true, fun a v h => ∃ d, (nodeD d).rel a v h, fun le ⟨d, x⟩ => ⟨d, (nodeD d).mono le x⟩, fun ⟨d, x⟩ => by rw [← nodeD_sz d]; exact (nodeD d).size x,
  fun ⟨d, x⟩ => by have := (nodeD d).form x; rw [nodeD_agg d] at this; exact this, fun ⟨d, x⟩ => (nodeD d).ones x⟩
theorem allD {h : Hp} : ∀ {l : List Nd} {vs : List Value}, AllR nodeT l vs h → ∃ d, AllR (nodeD d) l vs h
  | [], [], _ => ⟨0, trivial⟩
  | _ :: _, _ :: _, ⟨⟨d, x⟩, y⟩ => by
    obtain ⟨e, y⟩ := allD y
    exact ⟨max d e, nodeD_le (Nat.le_max_left _ _) x, y.imp fun _ _ => nodeD_le (Nat.le_max_right _ _)⟩
  | [], _ :: _, x => x.elim
  | _ :: _, [], x => x.elim
theorem node_rel {a : Nd} {v : Value} {h : Hp} : nodeT.rel a v h ↔ (bodyT nodeT).rel a.tup v h := by
  constructor
  · rintro ⟨d, x⟩
    cases d with
    | zero => exact x.elim
    | succ d => exact body_imp (R' := nodeT) (nodeD_sz d) (fun _ _ y => ⟨d, y⟩) x
  · rintro ⟨x1, y1, rfl, h1, x2, y2, rfl, h2, x3, y3, rfl, h3, x4, y4, rfl, h4, x5, y5, rfl, h5, z, rfl, hz⟩
    have : ∃ d, slRel (nodeD d) a.tup.2.2.2.2.2 z h := by
      rcases hz with x | ⟨b, o, c, cs, E, fr, vs, h1, h2, h3, h4, h5, h6⟩
      · exact ⟨0, .inl x⟩
      · obtain ⟨d, h5⟩ := allD h5
        exact ⟨d, .inr ⟨b, o, c, cs, E, fr, vs, h1, h2, h3, h4, h5, by rw [nodeD_sz]; exact h6⟩⟩
    obtain ⟨d, hz⟩ := this
    exact ⟨d + 1, x1, _, rfl, h1, x2, _, rfl, h2, x3, _, rfl, h3, x4, _, rfl, h4, x5, _, rfl, h5, z, rfl, hz⟩
instance : Ty.Sz nodeT 12 := ⟨rfl, by decide⟩
instance {a : Nd} {γ : Type} {o : Nat} {R' : Ty γ} {b : γ} [f : Fld (bodyT nodeT) o a.tup R' b] : Fld nodeT o a R' b := ⟨fun v h x => f.h v h (node_rel.1 x)⟩
/-! Trees of so many levels at most, no list longer than so many -/
def okId (x : Nat × Int) : Prop := x.1 < 18446744073709551616 ∧ -9223372036854775808 ≤ x.2 ∧ x.2 ≤ 9223372036854775807
def okI (x : Int) : Prop := -9223372036854775808 ≤ x ∧ x ≤ 9223372036854775807
def okNd (a : Nd) : Prop := okI a.k ∧ okI a.n ∧ a.s.length ≤ maxLen ∧ okId a.f.1 ∧ okId a.f.2 ∧ okId a.t.1 ∧ okId a.t.2
def smN (M : Nat) : Nat → Nd → Prop
  | 0, _ => False
  | d + 1, a => okNd a ∧ a.ar.length ≤ M ∧ ∀ x ∈ a.ar, smN M d x
def nodeS (M d : Nat) : Ty Nd := ⟨12, true, fun a v h => nodeT.rel a v h ∧ smN M d a, fun le x => ⟨nodeT.mono le x.1, x.2⟩, fun x => nodeT.size x.1, fun x => nodeT.form x.1, fun x => nodeT.ones x.1⟩
def slS {α : Type} (M : Nat) (R : Ty α) : Ty (List α) := ⟨1, false, fun l v h => slRel R l v h ∧ l.length ≤ M, fun le x => ⟨x.1.mono le, x.2⟩, fun x => (Ty.sl R).size x.1, fun x => (Ty.sl R).form x.1, fun x => (Ty.sl R).ones x.1⟩
instance {M d : Nat} : Ty.Sz (nodeS M d) 12 := ⟨rfl, by decide⟩
instance {α : Type} {M : Nat} {R : Ty α} : Ty.Sz (slS M R) 1 := ⟨rfl, by decide⟩
theorem wtAll_len {H : Type} : ∀ l : List (DataW H × List MemPlace), l.length ≤ wtAll (l.map (·.1))
  | [] => by simp [wtAll]
  | x :: l => by
    have := wtAll_len l
    have h1 : 1 ≤ wt x.1 := by cases x.1 with
      | lit b => cases b <;> simp [wt]
      | _ => simp [wt]
    simp only [List.length_cons, List.map_cons, wtAll]; omega
instance reads_slS {N M : Nat} {P : Program} {T E : TypeId} {α : Type} {R : Ty α} {s : Nat} [hT : TU P T (.slice E)] [hE : ReadsN N M P E R] [hs : TS P E s] [hR : Ty.Sz R s] : ReadsN N M P T (slS M R) := ⟨fun {H enc w base spare held fuel cs x} hN h hW => by
  obtain ⟨v, l, hv, hl⟩ := (reads_sl (T := T) (R := R)).read hN h hW
  refine ⟨v, l, hv, hl, ?_⟩
  obtain ⟨p, c, rfl, _⟩ := slRel.shape hl
  rcases DataW.trod_slice hT.h h with ⟨rfl, _⟩ | ⟨a, len, cap, elems, rest, n, hfu, rfl, rfl, hb, h1, h2, hlen, _⟩
  · have : l.length = 0 := by simp [Value.cells] at hv; simp [hv]
    omega
  · have : l.length = len := by simp [Value.cells] at hv; exact hv.2.1
    rw [wt] at hW
    have := wtAll_len elems
    omega⟩
abbrev bodyS (M d : Nat) : Ty (Int × Int × List UInt8 × Ref2 × Ref2 × List Nd) := Ty.pair Ty.i64 (Ty.pair Ty.i64 (Ty.pair Ty.str (Ty.pair refT (Ty.pair refT (Ty.rec1 (slS d (nodeS M d)))))))
theorem reads_node {P : Program} {T : TypeId} {fs : List (TypeId × Nat × Nat)} {M : Nat} [hF : SF P T fs] (hb : ∀ N d, ReadsN N d P T (nodeS M d) → ReadsF N d P fs 0 (bodyS M d)) [hs : TS P T 12] : ∀ N d, d ≤ M → ReadsN N d P T (nodeS M d)
  | 0, _, _ => ⟨fun {H enc w base spare held fuel cs x} hN h _ => by
    obtain rfl : fuel = 0 := by omega
    simp [DataW.trod] at h⟩
  | N + 1, 0, _ => ⟨fun {H enc w base spare held fuel cs x} _ _ hW => by
    exfalso
    have h1 : 1 ≤ wt x.1 := by cases x.1 with
      | lit b => cases b <;> simp [wt]
      | _ => simp [wt]
    omega⟩
  | N + 1, d + 1, hd => by
    have ih := reads_node hb N d (by omega)
    have k := hb N d ih
    have r : ReadsN (N + 1) (d + 1) P T (bodyS M d) := Reads.structS
    exact ⟨fun hN h hW => by
      obtain ⟨v, a, hv, ha⟩ := r.read hN h hW
      obtain ⟨k, n, s, f, t, ar⟩ := a
      obtain ⟨x1, y1, rfl, h1, x2, y2, rfl, h2, x3, y3, rfl, h3, x4, y4, rfl, h4, x5, y5, rfl, h5, z, rfl, hz, hzl⟩ := ha
      have hok : okNd (.mk k n s f t ar) := by
        obtain ⟨p1, q1, rfl, e1, r1, rfl, e2⟩ := h4
        obtain ⟨p2, q2, rfl, e3, r2, rfl, e4⟩ := h5
        exact ⟨h1.2, h2.2, h3.2, (idT_is e1).2, (idT_is e2).2, (idT_is e3).2, (idT_is e4).2⟩
      refine ⟨_, .mk k n s f t ar, hv, node_rel.2 ⟨x1, _, rfl, h1, x2, _, rfl, h2, x3, _, rfl, h3, x4, _, rfl, h4, x5, _, rfl, h5, z, rfl, slRel.imp (R := nodeS M d) (R' := nodeT) rfl (fun _ _ y => y.1) hz⟩, hok, Nat.le_trans hzl (by omega), fun x hx => ?_⟩
      rcases hz with ⟨rfl, _⟩ | ⟨b, o, c, cs, E, fr, vs, _, _, _, _, h5, _⟩
      · cases hx
      · obtain ⟨u, hu⟩ := AllR.mem h5 x hx
        exact hu.2⟩
end
/-! ### Trees: arguments that are operations of the document. -/
section
/-! ### Trees: arguments that are operations of the document. -/
section
open Go Go.Proofs Go.ChangeShapes Go.WideShapes Go.RowKit
theorem trod_arr {P : Program} {H : Type} {enc : TypeId × Value → H} {w : World} {base : Nat} {spare : Nat → Bool} {held : Bool} {fuel n : Nat} {t e : TypeId} {cs : List Value} {x : DataW H × List MemPlace} (ht : P.underlying t = some (.array n e))
    (h : DataW.trod enc P w base spare held fuel t cs = some x) : ∃ m, fuel = m + 1 ∧ cs.length = P.cellsOf t ∧ ∀ i, i < n → ∃ y, DataW.trod enc P w base spare held m e ((cs.drop (i * P.cellsOf e)).take (P.cellsOf e)) = some y ∧ wt y.1 ≤ wt x.1 := by
  obtain ⟨xs, m, hf, rfl, hl, hx, hi⟩ := DataW.trod_array ht h
  exact ⟨m, hf, hl, fun i hin => ⟨_, (hi i hin).trans (List.getElem?_eq_getElem (by omega)), Nat.le_of_succ_le (wt_agg (List.getElem_mem (by omega)))⟩⟩
theorem cellsQ {P : Program} {T : TypeId} {s : Nat} (h : tsz P T = some s) : P.cellsOf T = s := by
  unfold tsz at h
  unfold Program.cellsOf
  rw [h]; rfl
instance reads_pairA {N M : Nat} {P : Program} {T E : TypeId} {α : Type} {R : Ty α} {s t : Nat} [hT : TU P T (.array 2 E)] [r : ReadsN N M P E R] [he : TS P E s] [hs : Ty.Sz R s] [ht : TS P T t] [hp : Ty.Sz (Ty.pair R (Ty.rec1 R)) t] : ReadsN N M P T (Ty.pair R (Ty.rec1 R)) := ⟨fun {H enc w base spare held fuel cs x} hN h hW => by
  obtain ⟨m, rfl, hl, hx⟩ := trod_arr hT.h h
  obtain ⟨rfl, _⟩ := hs.h
  rw [cellsQ ht.h, ← hp.h.1] at hl
  have hl : cs.length = R.sz + R.sz := hl
  obtain ⟨y1, h1, w1⟩ := hx 0 (by omega)
  obtain ⟨y2, h2, w2⟩ := hx 1 (by omega)
  rw [cellsQ he.h] at h1 h2
  obtain ⟨v1, a1, hv1, ha1⟩ := r.read (by omega) h1 (Nat.le_trans w1 hW)
  obtain ⟨v2, a2, hv2, ha2⟩ := r.read (by omega) h2 (Nat.le_trans w2 hW)
  refine ⟨.agg (v1.cells ++ (Value.agg v2.cells).cells), (a1, a2), ?_, v1, _, rfl, ha1, v2, rfl, ha2⟩
  rw [agg_cells, agg_cells, Array.toList_append, hv1, hv2, Nat.zero_mul, List.drop_zero, Nat.one_mul]
  rw [List.take_of_length_le (l := List.drop R.sz cs) (by rw [List.length_drop]; omega), List.take_append_drop]⟩
instance reads_full {N M : Nat} {P : Program} {T E : TypeId} [hT : TU P T (.array 64 E)] [hE : TU P E (.int .u64)] [he : TS P E 1] [ht : TS P T 64] : ReadsN N M P T fullT := ⟨fun {H enc w base spare held fuel cs x} hN h hW => by
  obtain ⟨m, rfl, hl, hx⟩ := trod_arr hT.h h
  rw [cellsQ ht.h] at hl
  have each : ∀ k, k ≤ 64 → ∃ l : List Nat, l.length = k ∧ (∀ a ∈ l, a < 18446744073709551616) ∧ cs.take k = l.map uV := by
    intro k
    induction k with
    | zero => exact fun _ => ⟨[], rfl, by simp, by simp⟩
    | succ k ih =>
      intro hk
      obtain ⟨l, h1, h2, h3⟩ := ih (by omega)
      obtain ⟨y, hy, wy⟩ := hx k (by omega)
      rw [cellsQ he.h, Nat.mul_one] at hy
      obtain ⟨v, a, hv, rfl, ha⟩ := (reads_u64 (N := m) (M := M) (P := P) (T := E)).read (Nat.le_refl _) hy (Nat.le_trans wy hW)
      refine ⟨l ++ [a], by simp [h1], fun b hb => ?_, ?_⟩
      · rcases List.mem_append.1 hb with hb | hb
        · exact h2 b hb
        · simp at hb; rw [hb]; exact ha
      · rw [List.take_add, h3, ← hv, List.map_append]; rfl
  obtain ⟨l, h1, h2, h3⟩ := each 64 (Nat.le_refl _)
  refine ⟨fV l, l, ?_, rfl, h1, h2⟩
  show l.map uV = cs
  rw [← h3, List.take_of_length_le (by omega)]⟩
abbrev upM : Nat := 1048576
abbrev nodeU : Ty Nd := nodeS upM upM
set_option synthInstance.maxSize 4000 in
instance reads_node14 {N : Nat} : ReadsN N upM Tryz.prog 73 nodeU := reads_node (fun _ _ _ => inferInstance) N upM (Nat.le_refl _)
abbrev contT : Ty (Int × Int × List UInt8 × Nd) := Ty.pair Ty.i64 (Ty.pair Ty.i64 (Ty.pair Ty.str (Ty.rec1 nodeU)))
abbrev ROp := Int × Nat × Nat × List Nat × Int × (Nat × Int) × (Nat × Int) × (Int × Int × List UInt8 × Nd)
abbrev rop14T : Ty ROp := Ty.pair Ty.i64 (Ty.pair Ty.u64 (Ty.pair Ty.u64 (Ty.pair fullT (Ty.pair Ty.i64 (Ty.pair idT (Ty.pair idT (Ty.rec1 contT)))))))
set_option synthInstance.maxSize 8000 in
set_option synthInstance.maxHeartbeats 400000 in
instance reads_rop14 : ReadsU upM Tryz.prog 77 rop14T := inferInstance
end
/-! ### Trees compared, by the program and by the document. -/
section
open Go Go.Proofs
abbrev refC (x : Ref2) (r : List Value) : List Value := .int .u64 x.1.1 :: .int .i64 x.1.2 :: .int .u64 x.2.1 :: .int .i64 x.2.2 :: r
abbrev ndC (k n : Int) (s : List UInt8) (f t : Ref2) (sv : Value) : List Value := .int .i64 k :: .int .i64 n :: .string (bs s) :: refC f (refC t [sv])
abbrev ndV (k n : Int) (s : List UInt8) (f t : Ref2) (sv : Value) : Value := .agg (ndC k n s f t sv).toArray
theorem node_shape {a : Nd} {v : Value} {m : Hp} (h : (rd nodeT a v).holds m) : ∃ sv, v = ndV a.k a.n a.s a.f a.t sv ∧ (rd (Ty.sl nodeT) a.ar sv).holds m ∧ a.s.length ≤ maxLen := by
  obtain ⟨k, n, s, ⟨f1, f2⟩, ⟨t1, t2⟩, ar⟩ := a
  obtain ⟨x1, y1, rfl, ⟨rfl, _⟩, x2, y2, rfl, ⟨rfl, _⟩, x3, y3, rfl, ⟨rfl, hs⟩, x4, y4, rfl, ⟨p1, q1, rfl, h1, r1, rfl, g1⟩, x5, y5, rfl, ⟨p2, q2, rfl, h2, r2, rfl, g2⟩, z, rfl, hz⟩ := node_rel.1 h
  obtain ⟨rfl, _⟩ := idT_is h1
  obtain ⟨rfl, _⟩ := idT_is g1
  obtain ⟨rfl, _⟩ := idT_is h2
  obtain ⟨rfl, _⟩ := idT_is g2
  obtain ⟨p, c, rfl, _⟩ := slRel.shape hz
  refine ⟨_, ?_, hz, hs⟩
  simp [Value.cells, idV, Nd.tup, Nd.k, Nd.n, Nd.s, Nd.f, Nd.t]
theorem Sat.node {B w : World} {G : List Pers} {S : List Res} {a : Nd} {v : Value} (h : Sat B G S w) (hm : Qd.rd nodeT a v ∈ G) : ∃ sv, v = ndV a.k a.n a.s a.f a.t sv ∧ a.s.length ≤ maxLen :=
  h.pure fun m hg => by
    obtain ⟨u, h1, _, h2⟩ := node_shape (hg _ hm)
    exact ⟨u, h1, h2⟩
theorem Sat.nodeK {B w : World} {G : List Pers} {S : List Res} {a : Nd} {sv : Value} (h : Sat B G S w) (hm : Qd.rd nodeT a (ndV a.k a.n a.s a.f a.t sv) ∈ G) : Sat B (Qd.rd (Ty.sl nodeT) a.ar sv :: G) S w :=
  h.more fun m hg => by
    obtain ⟨u', h1, h2, _⟩ := node_shape (hg _ hm)
    have h3 := List.toArray_inj (Value.agg.inj h1)
    simp only [List.cons.injEq, and_true, true_and] at h3
    rw [h3]; exact h2
noncomputable instance : DecidableEq Nd := fun _ _ => Classical.propDecidable _
theorem nd_eq {a b : Nd} : a = b ↔ a.k = b.k ∧ a.n = b.n ∧ a.s = b.s ∧ a.f = b.f ∧ a.t = b.t ∧ a.ar = b.ar := by
  obtain ⟨k, n, s, f, t, ar⟩ := a
  obtain ⟨k', n', s', f', t', ar'⟩ := b
  simp [Nd.k, Nd.n, Nd.s, Nd.f, Nd.t, Nd.ar]
abbrev refP (x y : Ref2) : Prop := (((x.1.1 : Nat) : Int) = ((y.1.1 : Nat) : Int) ∧ x.1.2 = y.1.2) ∧ ((x.2.1 : Nat) : Int) = ((y.2.1 : Nat) : Int) ∧ x.2.2 = y.2.2
theorem ref_eq {x y : Ref2} : x = y ↔ refP x y := by
  obtain ⟨⟨a, b⟩, c, d⟩ := x
  obtain ⟨⟨a', b'⟩, c', d'⟩ := y
  simp only [refP, Prod.mk.injEq, Int.ofNat_inj]
theorem drop_eq {α : Type} {a b : List α} {k : Nat} {x y : α} (hx : a[k]? = some x) (hy : b[k]? = some y) : a.drop k = b.drop k ↔ x = y ∧ a.drop (k + 1) = b.drop (k + 1) := by
  obtain ⟨h1, rfl⟩ := List.getElem?_eq_some_iff.1 hx
  obtain ⟨h2, rfl⟩ := List.getElem?_eq_some_iff.1 hy
  rw [List.drop_eq_getElem_cons h1, List.drop_eq_getElem_cons h2, List.cons.injEq]
/-- Same's callee: two lists of trees, a function value that compares trees. -/
theorem nequal_fun (f : FuncId) (a b : List Nd) (va vb : Value)
    (hp : ∀ x ∈ a, ∀ (y : Nd) (u v : Value), Fun Tryz.prog f [ndV x.k x.n x.s x.f x.t u, ndV y.k y.n y.s y.f y.t v] [rd (Ty.sl nodeT) x.ar u, rd (Ty.sl nodeT) y.ar v] [] (fun r G S => r = .bool (decide (x = y)) ∧ G = [] ∧ S = [])) :
    Fun Tryz.prog 80 [va, vb, .func (.func f) #[] #[]] [rd (Ty.sl nodeT) a va, rd (Ty.sl nodeT) b vb] [] (fun r G S => r = .bool (decide (a = b)) ∧ G = [] ∧ S = []) := by
  refine Fun.enter Tryz.func80 (by kernel_rfl) rfl Tryz.ntmps80 rfl (fun B Gf Sf => ?_); (try simp only [List.cons_append]); (try simp only [List.nil_append]); simp only [argEnv]
  refine WC.ex (fun w sw => sw.len_le (RdSl.h (v := va))) (fun hla => ?_)
  by_cases hlen : a.length = b.length
  · (repeat (first | refine vgo ?_ | refine ⟨_, rfl, rfl, ?_⟩ | refine ⟨_, rfl, ?_⟩ | refine ⟨rfl, ?_⟩ | intro hb | refine go2 ?_ | refine WC.seq (fun K hK => ?_) | ((first | refine hK _ _ _ ?_ | refine hK _ _ _ _ rfl ?_ | refine WX.thenExit (K := K) ?_); clear hK K) | (refine WX.thenExit (K := KL) ?_; clear hL KL)))
    refine WC.loop (I := Nat) (fun k => [(0, va), (1, vb), (2, .func (.func f) #[] #[]), (15, va), (16, .int .i64 (a.length : Nat)), (17, .int .i64 (k : Nat))]) (fun _ => rd (Ty.sl nodeT) a va :: rd (Ty.sl nodeT) b vb :: Gf) (fun _ => Sf) (fun k => k ≤ a.length ∧ (a = b ↔ a.drop k = b.drop k)) (fun k => a.length - k) 0 ⟨Nat.zero_le _, Iff.rfl⟩ (.cons rfl (.cons rfl (.cons rfl (.cons rfl (.cons rfl (.cons rfl .nil)))))) (fun w h => h.to) ?_
    rintro k ⟨hk, he⟩ KL hL
    by_cases g : k < a.length
    · obtain ⟨x, hx⟩ : ∃ x, a[k]? = some x := ⟨_, List.getElem?_eq_getElem g⟩
      obtain ⟨y, hy⟩ : ∃ y, b[k]? = some y := ⟨_, List.getElem?_eq_getElem (by omega)⟩
      rw [drop_eq hx hy] at he
      have hpx := hp x (List.mem_of_getElem? hx) y
      (repeat (first | refine vgo ?_ | refine ⟨_, rfl, rfl, ?_⟩ | refine ⟨_, rfl, ?_⟩ | refine ⟨rfl, ?_⟩ | intro hb | refine go2 ?_ | refine WC.seq (fun K hK => ?_) | ((first | refine hK _ _ _ ?_ | refine hK _ _ _ _ rfl ?_ | refine WX.thenExit (K := K) ?_); clear hK K) | (refine WX.thenExit (K := KL) ?_; clear hL KL)))
      refine WL.ex (fun w sw => sw.node (a := x) (v := hb) Rd.h) (fun hsx => ?_)
      obtain ⟨sx, rfl, _⟩ := hsx
      refine WL.sat (fun w sw => sw.nodeK (a := x) (sv := sx) Rd.h) ?_
      refine WL.alloc rfl ?_; intro bx
      (repeat (first | refine vgo ?_ | refine ⟨_, rfl, rfl, ?_⟩ | refine ⟨_, rfl, ?_⟩ | refine ⟨rfl, ?_⟩ | intro hb | refine go2 ?_ | refine WC.seq (fun K hK => ?_) | ((first | refine hK _ _ _ ?_ | refine hK _ _ _ _ rfl ?_ | refine WX.thenExit (K := K) ?_); clear hK K) | (refine WX.thenExit (K := KL) ?_; clear hL KL)))
      refine WL.ex (fun w sw => sw.node (a := y) (v := hb) Rd.h) (fun hsy => ?_)
      obtain ⟨sy, rfl, _⟩ := hsy
      refine WL.sat (fun w sw => sw.nodeK (a := y) (sv := sy) Rd.h) ?_
      refine WL.alloc rfl ?_; intro bY
      (repeat (first | refine vgo ?_ | refine ⟨_, rfl, rfl, ?_⟩ | refine ⟨_, rfl, ?_⟩ | refine ⟨rfl, ?_⟩ | intro hb | refine go2 ?_ | refine WC.seq (fun K hK => ?_) | ((first | refine hK _ _ _ ?_ | refine hK _ _ _ _ rfl ?_ | refine WX.thenExit (K := K) ?_); clear hK K) | (refine WX.thenExit (K := KL) ?_; clear hL KL)))
      refine CallV.by' (hpx sx sy) ?_; rintro _ _ _ ⟨rfl, rfl, rfl⟩; (try simp only [List.cons_append]); (try simp only [List.nil_append])
      by_cases hxy : x = y
      · rw [decide_eq_true hxy]
        (repeat (first | refine vgo ?_ | refine ⟨_, rfl, rfl, ?_⟩ | refine ⟨_, rfl, ?_⟩ | refine ⟨rfl, ?_⟩ | intro hb | refine go2 ?_ | refine WC.seq (fun K hK => ?_) | ((first | refine hK _ _ _ ?_ | refine hK _ _ _ _ rfl ?_ | refine WX.thenExit (K := K) ?_); clear hK K) | (refine WX.thenExit (K := KL) ?_; clear hL KL)))
        exact (hL (k + 1) ⟨g, he.trans ⟨fun h => h.2, fun h => ⟨hxy, h⟩⟩⟩ (by omega)).conv (.cons rfl (.cons rfl (.cons rfl (.cons rfl (.cons rfl (.cons rfl .nil)))))) (fun w h => h.to)
      · rw [decide_eq_false hxy]
        (repeat (first | refine vgo ?_ | refine ⟨_, rfl, rfl, ?_⟩ | refine ⟨_, rfl, ?_⟩ | refine ⟨rfl, ?_⟩ | intro hb | refine go2 ?_ | refine WC.seq (fun K hK => ?_) | ((first | refine hK _ _ _ ?_ | refine hK _ _ _ _ rfl ?_ | refine WX.thenExit (K := K) ?_); clear hK K) | (refine WX.thenExit (K := KL) ?_; clear hL KL)))
        exact WX.ret1 rfl rfl (fun w sw => ⟨[], [], ⟨by rw [decide_eq_false (fun h => hxy (he.1 h).1)], rfl, rfl⟩, sw.to⟩)
    · rw [List.drop_of_length_le (by omega), List.drop_of_length_le (by omega)] at he
      (repeat (first | refine vgo ?_ | refine ⟨_, rfl, rfl, ?_⟩ | refine ⟨_, rfl, ?_⟩ | refine ⟨rfl, ?_⟩ | intro hb | refine go2 ?_ | refine WC.seq (fun K hK => ?_) | ((first | refine hK _ _ _ ?_ | refine hK _ _ _ _ rfl ?_ | refine WX.thenExit (K := K) ?_); clear hK K) | (refine WX.thenExit (K := KL) ?_; clear hL KL)))
      exact WX.ret1 rfl rfl (fun w sw => ⟨[], [], ⟨by rw [decide_eq_true (he.2 rfl)], rfl, rfl⟩, sw.to⟩)
  · have hne : a ≠ b := fun h => hlen (by rw [h])
    (repeat (first | refine vgo ?_ | refine ⟨_, rfl, rfl, ?_⟩ | refine ⟨_, rfl, ?_⟩ | refine ⟨rfl, ?_⟩ | intro hb | refine go2 ?_ | refine WC.seq (fun K hK => ?_) | ((first | refine hK _ _ _ ?_ | refine hK _ _ _ _ rfl ?_ | refine WX.thenExit (K := K) ?_); clear hK K) | (refine WX.thenExit (K := KL) ?_; clear hL KL)))
    exact WX.ret1 rfl rfl (fun w sw => ⟨[], [], ⟨by rw [decide_eq_false hne], rfl, rfl⟩, sw.to⟩)
set_option maxRecDepth 100000 in
theorem tsame_fun (a b : Nd) (u v : Value) : Fun Tryz.prog 67 [ndV a.k a.n a.s a.f a.t u, ndV b.k b.n b.s b.f b.t v] [rd (Ty.sl nodeT) a.ar u, rd (Ty.sl nodeT) b.ar v] [] (fun r G S => r = .bool (decide (a = b)) ∧ G = [] ∧ S = []) := by
  have ih := nequal_fun 67 a.ar b.ar u v (fun x hx y u v => tsame_fun x y u v)
  refine Fun.enter Tryz.func67 (by kernel_rfl) rfl Tryz.ntmps67 rfl (fun B Gf Sf => ?_); (try simp only [List.cons_append]); (try simp only [List.nil_append]); simp only [argEnv]
  refine WC.ex (fun w sw => sw.slOne (v := u) RdSl.h) (fun hu1 => ?_)
  refine WC.ex (fun w sw => sw.slOne (v := v) RdSl.h) (fun hv1 => ?_)
  (repeat (first | refine vgo ?_ | refine ⟨_, rfl, rfl, ?_⟩ | refine ⟨_, rfl, ?_⟩ | refine ⟨rfl, ?_⟩ | intro hb | refine go2 ?_ | refine WC.seq (fun K hK => ?_) | ((first | refine hK _ _ _ ?_ | refine hK _ _ _ _ rfl ?_ | refine WX.thenExit (K := K) ?_); clear hK K) | (refine WX.thenExit (K := KL) ?_; clear hL KL)))
  (first | refine WL.boxA rfl rfl ?_ | refine WL.box rfl rfl rfl ?_); intro b1
  (repeat (first | refine vgo ?_ | refine ⟨_, rfl, rfl, ?_⟩ | refine ⟨_, rfl, ?_⟩ | refine ⟨rfl, ?_⟩ | intro hb | refine go2 ?_ | refine WC.seq (fun K hK => ?_) | ((first | refine hK _ _ _ ?_ | refine hK _ _ _ _ rfl ?_ | refine WX.thenExit (K := K) ?_); clear hK K) | (refine WX.thenExit (K := KL) ?_; clear hL KL)))
  (first | refine WL.boxA rfl rfl ?_ | refine WL.box rfl rfl rfl ?_); intro b2
  by_cases h1 : ¬ a.k = b.k
  · have e : decide (a = b) = false := decide_eq_false fun h => h1 (by rw [h])
    (repeat (first | refine vgo ?_ | refine ⟨_, rfl, rfl, ?_⟩ | refine ⟨_, rfl, ?_⟩ | refine ⟨rfl, ?_⟩ | intro hb | refine go2 ?_ | refine WC.seq (fun K hK => ?_) | ((first | refine hK _ _ _ ?_ | refine hK _ _ _ _ rfl ?_ | refine WX.thenExit (K := K) ?_); clear hK K) | (refine WX.thenExit (K := KL) ?_; clear hL KL)))
    exact WX.ret1 rfl rfl (fun w sw => ⟨[], [], ⟨by rw [e], rfl, rfl⟩, sw.to⟩)
  have h1 := Classical.not_not.1 h1
  by_cases h2 : ¬ a.n = b.n
  · have e : decide (a = b) = false := decide_eq_false fun h => h2 (by rw [h])
    (repeat (first | refine vgo ?_ | refine ⟨_, rfl, rfl, ?_⟩ | refine ⟨_, rfl, ?_⟩ | refine ⟨rfl, ?_⟩ | intro hb | refine go2 ?_ | refine WC.seq (fun K hK => ?_) | ((first | refine hK _ _ _ ?_ | refine hK _ _ _ _ rfl ?_ | refine WX.thenExit (K := K) ?_); clear hK K) | (refine WX.thenExit (K := KL) ?_; clear hL KL)))
    exact WX.ret1 rfl rfl (fun w sw => ⟨[], [], ⟨by rw [e], rfl, rfl⟩, sw.to⟩)
  have h2 := Classical.not_not.1 h2
  by_cases h3 : ¬ a.s = b.s
  · have e : decide (a = b) = false := decide_eq_false fun h => h3 (by rw [h])
    (repeat (first | refine vgo ?_ | refine ⟨_, rfl, rfl, ?_⟩ | refine ⟨_, rfl, ?_⟩ | refine ⟨rfl, ?_⟩ | intro hb | refine go2 ?_ | refine WC.seq (fun K hK => ?_) | ((first | refine hK _ _ _ ?_ | refine hK _ _ _ _ rfl ?_ | refine WX.thenExit (K := K) ?_); clear hK K) | (refine WX.thenExit (K := KL) ?_; clear hL KL)))
    exact WX.ret1 rfl rfl (fun w sw => ⟨[], [], ⟨by rw [e], rfl, rfl⟩, sw.to⟩)
  have h3 := Classical.not_not.1 h3
  by_cases h4 : ¬ refP a.f b.f
  · have e : decide (a = b) = false := decide_eq_false fun h => h4 (by rw [h]; exact ref_eq.1 rfl)
    (repeat (first | refine vgo ?_ | refine ⟨_, rfl, rfl, ?_⟩ | refine ⟨_, rfl, ?_⟩ | refine ⟨rfl, ?_⟩ | intro hb | refine go2 ?_ | refine WC.seq (fun K hK => ?_) | ((first | refine hK _ _ _ ?_ | refine hK _ _ _ _ rfl ?_ | refine WX.thenExit (K := K) ?_); clear hK K) | (refine WX.thenExit (K := KL) ?_; clear hL KL)))
    exact WX.ret1 rfl rfl (fun w sw => ⟨[], [], ⟨by rw [e], rfl, rfl⟩, sw.to⟩)
  have h4 := Classical.not_not.1 h4
  by_cases h5 : ¬ refP a.t b.t
  · have e : decide (a = b) = false := decide_eq_false fun h => h5 (by rw [h]; exact ref_eq.1 rfl)
    (repeat (first | refine vgo ?_ | refine ⟨_, rfl, rfl, ?_⟩ | refine ⟨_, rfl, ?_⟩ | refine ⟨rfl, ?_⟩ | intro hb | refine go2 ?_ | refine WC.seq (fun K hK => ?_) | ((first | refine hK _ _ _ ?_ | refine hK _ _ _ _ rfl ?_ | refine WX.thenExit (K := K) ?_); clear hK K) | (refine WX.thenExit (K := KL) ?_; clear hL KL)))
    exact WX.ret1 rfl rfl (fun w sw => ⟨[], [], ⟨by rw [e], rfl, rfl⟩, sw.to⟩)
  have h5 := Classical.not_not.1 h5
  have e : decide (a.ar = b.ar) = decide (a = b) := decide_eq_decide.2 ⟨fun h => nd_eq.2 ⟨h1, h2, h3, ref_eq.2 h4, ref_eq.2 h5, h⟩, fun h => by rw [h]⟩
  (repeat (first | refine vgo ?_ | refine ⟨_, rfl, rfl, ?_⟩ | refine ⟨_, rfl, ?_⟩ | refine ⟨rfl, ?_⟩ | intro hb | refine go2 ?_ | refine WC.seq (fun K hK => ?_) | ((first | refine hK _ _ _ ?_ | refine hK _ _ _ _ rfl ?_ | refine WX.thenExit (K := K) ?_); clear hK K) | (refine WX.thenExit (K := KL) ?_; clear hL KL)))
  refine CallV.by' (ih) ?_; rintro _ _ _ ⟨rfl, rfl, rfl⟩; (try simp only [List.cons_append]); (try simp only [List.nil_append])
  (repeat (first | refine vgo ?_ | refine ⟨_, rfl, rfl, ?_⟩ | refine ⟨_, rfl, ?_⟩ | refine ⟨rfl, ?_⟩ | intro hb | refine go2 ?_ | refine WC.seq (fun K hK => ?_) | ((first | refine hK _ _ _ ?_ | refine hK _ _ _ _ rfl ?_ | refine WX.thenExit (K := K) ?_); clear hK K) | (refine WX.thenExit (K := KL) ?_; clear hL KL)))
  exact WX.ret1 rfl rfl (fun w sw => ⟨[], [], ⟨by rw [← e], rfl, rfl⟩, sw.to⟩)
termination_by SizeOf.sizeOf a
decreasing_by
  obtain ⟨k, n, s, f, t, ar⟩ := a
  have := List.sizeOf_lt_of_mem hx
  simp only [Nd.ar, Nd.mk.sizeOf_spec] at this ⊢
  omega
instance EqV.arr2 {P : Program} {T E : TypeId} {s k : Nat} {xs ys : List Value} {u1 u2 v1 v2 : Value} {p q : Prop} [hT : TU P T (.array 2 E)] [hs : TS P E s] [a1 : PartC P E xs 0 s u1] [b1 : PartC P E ys 0 s v1] [a2 : PartC P E xs s s u2] [b2 : PartC P E ys s s v2]
    [e1 : EqV P E u1 v1 k p] [e2 : EqV P E u2 v2 k q] : EqV P T (.agg xs.toArray) (.agg ys.toArray) (k + 1) (p ∧ q) := ⟨fun d hd w => by
  obtain ⟨d', rfl⟩ : ∃ d', d = d' + 1 := ⟨d - 1, by omega⟩
  obtain ⟨i, hi, _⟩ := info_of_tsz hs.h
  rw [run_equalIn_array w d' _ _ hT.h hi]
  obtain ⟨r1, h1, g1⟩ := e1.h d' (by omega) w
  obtain ⟨r2, h2, g2⟩ := e2.h d' (by omega) w
  have hc : P.cellsOf E = s := cellsOf_of
  simp only [show List.range 2 = [0, 1] from rfl, Op.eqItems, hc, Nat.zero_mul, Nat.one_mul, Sem.run_bind, a1.h, b1.h, Result.andThen_ok, h1]
  cases r1 with
  | false => exact ⟨false, by simp, by simp only [Bool.false_eq_true, false_iff]; exact fun h => absurd (g1.2 h.1) (by simp)⟩
  | true =>
    simp only [if_true, Sem.run_bind, a2.h, b2.h, Result.andThen_ok, h2, Bool.not_true, Bool.false_eq_true, if_false]
    cases r2 with
    | false => exact ⟨false, by simp, by simp only [Bool.false_eq_true, false_iff]; exact fun h => absurd (g2.2 h.2) (by simp)⟩
    | true => exact ⟨true, by simp, by simp only [true_iff]; exact ⟨g1.1 rfl, g2.1 rfl⟩⟩⟩
/-- What the arguments are is seen from what is known of them. -/
theorem Fun.look {ι : Type} {P : Program} {f : FuncId} {args : List Value} {G : List Pers} {S : List Res} {R : Value → List Pers → List Res → Prop} (A : ι → List Value) (Gi : ι → List Pers) (i0 : ι)
    (h : ∀ m : Hp, (∀ g ∈ G, g.holds m) → ∃ i, args = A i ∧ ∀ g ∈ Gi i, g.holds m) (hF : ∀ i, Fun P f (A i) (Gi i) S R) : Fun P f args G S R := ⟨(hF i0).callable, fun B Gf Sf w sw => by
  obtain ⟨m, k, d, hm, hk, hg, hs⟩ := sw.heap
  obtain ⟨i, rfl, hi⟩ := h m (fun g hg' => hg g (List.mem_append.2 (.inl hg')))
  have sw2 : Sat B (Gi i ++ (G ++ Gf)) (S ++ Sf) w := ⟨sw.os, sw.tape, sw.output, sw.size, m, k, d, hm, hk, fun g hg' => (List.mem_append.1 hg').elim (hi g) (hg g), hs⟩
  refine ((hF i).calls B (G ++ Gf) Sf w sw2).mono ?_
  rintro e w' ⟨v, G', S', h1, h2, h3⟩
  exact ⟨v, G', S', h1, h2, h3.sub fun g hg => by
    rcases List.mem_append.1 hg with h | h
    · exact List.mem_append.2 (.inl h)
    · exact List.mem_append.2 (.inr (List.mem_append.2 (.inr h)))⟩⟩
theorem Fun.nodes2 {f : FuncId} {a b : Nd} {R : Value → List Pers → List Res → Prop} (hF : ∀ u v : Value, Fun Tryz.prog f [ndV a.k a.n a.s a.f a.t u, ndV b.k b.n b.s b.f b.t v] [rd (Ty.sl nodeT) a.ar u, rd (Ty.sl nodeT) b.ar v] [] R) (va vb : Value) : Fun Tryz.prog f [va, vb] [rd nodeT a va, rd nodeT b vb] [] R :=
  Fun.look (ι := Value × Value) (fun i => [ndV a.k a.n a.s a.f a.t i.1, ndV b.k b.n b.s b.f b.t i.2]) (fun i => [rd (Ty.sl nodeT) a.ar i.1, rd (Ty.sl nodeT) b.ar i.2]) (undef, undef) (fun m hm => by
    obtain ⟨u, rfl, h1, _⟩ := node_shape (hm _ (.head _))
    obtain ⟨v, rfl, h2, _⟩ := node_shape (hm _ (.tail _ (.head _)))
    exact ⟨(u, v), rfl, fun g hg => by
      rcases List.mem_cons.1 hg with rfl | hg
      · exact h1
      · rcases List.mem_cons.1 hg with rfl | hg
        · exact h2
        · cases hg⟩) (fun i => hF i.1 i.2)
set_option maxRecDepth 100000 in
theorem rtsame_fun (a b : Nd) (u v : Value) : Fun Tryz.prog 79 [ndV a.k a.n a.s a.f a.t u, ndV b.k b.n b.s b.f b.t v] [rd (Ty.sl nodeT) a.ar u, rd (Ty.sl nodeT) b.ar v] [] (fun r G S => r = .bool (decide (a = b)) ∧ G = [] ∧ S = []) := by
  have ih : ∀ x ∈ a.ar, ∀ (y : Nd) (u v : Value), Fun Tryz.prog 79 [ndV x.k x.n x.s x.f x.t u, ndV y.k y.n y.s y.f y.t v] [rd (Ty.sl nodeT) x.ar u, rd (Ty.sl nodeT) y.ar v] [] (fun r G S => r = .bool (decide (x = y)) ∧ G = [] ∧ S = []) := fun x hx y u v => rtsame_fun x y u v
  refine Fun.enter Tryz.func79 (by kernel_rfl) rfl Tryz.ntmps79 rfl (fun B Gf Sf => ?_); (try simp only [List.cons_append]); (try simp only [List.nil_append]); simp only [argEnv]
  refine WC.ex (fun w sw => sw.slOne (v := u) RdSl.h) (fun hu1 => ?_)
  refine WC.ex (fun w sw => sw.slOne (v := v) RdSl.h) (fun hv1 => ?_)
  refine WC.ex (fun w sw => sw.len_le (RdSl.h (v := u))) (fun hlu => ?_)
  (repeat (first | refine vgo ?_ | refine ⟨_, rfl, rfl, ?_⟩ | refine ⟨_, rfl, ?_⟩ | refine ⟨rfl, ?_⟩ | intro hb | refine go2 ?_ | refine WC.seq (fun K hK => ?_) | ((first | refine hK _ _ _ ?_ | refine hK _ _ _ _ rfl ?_ | refine WX.thenExit (K := K) ?_); clear hK K) | (refine WX.thenExit (K := KL) ?_; clear hL KL)))
  (first | refine WL.boxA rfl rfl ?_ | refine WL.box rfl rfl rfl ?_); intro b1
  (repeat (first | refine vgo ?_ | refine ⟨_, rfl, rfl, ?_⟩ | refine ⟨_, rfl, ?_⟩ | refine ⟨rfl, ?_⟩ | intro hb | refine go2 ?_ | refine WC.seq (fun K hK => ?_) | ((first | refine hK _ _ _ ?_ | refine hK _ _ _ _ rfl ?_ | refine WX.thenExit (K := K) ?_); clear hK K) | (refine WX.thenExit (K := KL) ?_; clear hL KL)))
  (first | refine WL.boxA rfl rfl ?_ | refine WL.box rfl rfl rfl ?_); intro b2
  by_cases h1 : ¬ a.k = b.k
  · have e : decide (a = b) = false := decide_eq_false fun h => h1 (by rw [h])
    (repeat (first | refine vgo ?_ | refine ⟨_, rfl, rfl, ?_⟩ | refine ⟨_, rfl, ?_⟩ | refine ⟨rfl, ?_⟩ | intro hb | refine go2 ?_ | refine WC.seq (fun K hK => ?_) | ((first | refine hK _ _ _ ?_ | refine hK _ _ _ _ rfl ?_ | refine WX.thenExit (K := K) ?_); clear hK K) | (refine WX.thenExit (K := KL) ?_; clear hL KL)))
    exact WX.ret1 rfl rfl (fun w sw => ⟨[], [], ⟨by rw [e], rfl, rfl⟩, sw.to⟩)
  have h1 := Classical.not_not.1 h1
  by_cases h2 : ¬ a.n = b.n
  · have e : decide (a = b) = false := decide_eq_false fun h => h2 (by rw [h])
    (repeat (first | refine vgo ?_ | refine ⟨_, rfl, rfl, ?_⟩ | refine ⟨_, rfl, ?_⟩ | refine ⟨rfl, ?_⟩ | intro hb | refine go2 ?_ | refine WC.seq (fun K hK => ?_) | ((first | refine hK _ _ _ ?_ | refine hK _ _ _ _ rfl ?_ | refine WX.thenExit (K := K) ?_); clear hK K) | (refine WX.thenExit (K := KL) ?_; clear hL KL)))
    exact WX.ret1 rfl rfl (fun w sw => ⟨[], [], ⟨by rw [e], rfl, rfl⟩, sw.to⟩)
  have h2 := Classical.not_not.1 h2
  by_cases h3 : ¬ a.s = b.s
  · have e : decide (a = b) = false := decide_eq_false fun h => h3 (by rw [h])
    (repeat (first | refine vgo ?_ | refine ⟨_, rfl, rfl, ?_⟩ | refine ⟨_, rfl, ?_⟩ | refine ⟨rfl, ?_⟩ | intro hb | refine go2 ?_ | refine WC.seq (fun K hK => ?_) | ((first | refine hK _ _ _ ?_ | refine hK _ _ _ _ rfl ?_ | refine WX.thenExit (K := K) ?_); clear hK K) | (refine WX.thenExit (K := KL) ?_; clear hL KL)))
    exact WX.ret1 rfl rfl (fun w sw => ⟨[], [], ⟨by rw [e], rfl, rfl⟩, sw.to⟩)
  have h3 := Classical.not_not.1 h3
  by_cases h4 : ¬ refP a.f b.f
  · have e : decide (a = b) = false := decide_eq_false fun h => h4 (by rw [h]; exact ref_eq.1 rfl)
    (repeat (first | refine vgo ?_ | refine ⟨_, rfl, rfl, ?_⟩ | refine ⟨_, rfl, ?_⟩ | refine ⟨rfl, ?_⟩ | intro hb | refine go2 ?_ | refine WC.seq (fun K hK => ?_) | ((first | refine hK _ _ _ ?_ | refine hK _ _ _ _ rfl ?_ | refine WX.thenExit (K := K) ?_); clear hK K) | (refine WX.thenExit (K := KL) ?_; clear hL KL)))
    exact WX.ret1 rfl rfl (fun w sw => ⟨[], [], ⟨by rw [e], rfl, rfl⟩, sw.to⟩)
  have h4 := Classical.not_not.1 h4
  by_cases h5 : ¬ refP a.t b.t
  · have e : decide (a = b) = false := decide_eq_false fun h => h5 (by rw [h]; exact ref_eq.1 rfl)
    (repeat (first | refine vgo ?_ | refine ⟨_, rfl, rfl, ?_⟩ | refine ⟨_, rfl, ?_⟩ | refine ⟨rfl, ?_⟩ | intro hb | refine go2 ?_ | refine WC.seq (fun K hK => ?_) | ((first | refine hK _ _ _ ?_ | refine hK _ _ _ _ rfl ?_ | refine WX.thenExit (K := K) ?_); clear hK K) | (refine WX.thenExit (K := KL) ?_; clear hL KL)))
    exact WX.ret1 rfl rfl (fun w sw => ⟨[], [], ⟨by rw [e], rfl, rfl⟩, sw.to⟩)
  have h5 := Classical.not_not.1 h5
  by_cases h6 : ¬ a.ar.length = b.ar.length
  · have e : decide (a = b) = false := decide_eq_false fun h => h6 (by rw [h])
    (repeat (first | refine vgo ?_ | refine ⟨_, rfl, rfl, ?_⟩ | refine ⟨_, rfl, ?_⟩ | refine ⟨rfl, ?_⟩ | intro hb | refine go2 ?_ | refine WC.seq (fun K hK => ?_) | ((first | refine hK _ _ _ ?_ | refine hK _ _ _ _ rfl ?_ | refine WX.thenExit (K := K) ?_); clear hK K) | (refine WX.thenExit (K := KL) ?_; clear hL KL)))
    exact WX.ret1 rfl rfl (fun w sw => ⟨[], [], ⟨by rw [e], rfl, rfl⟩, sw.to⟩)
  have h6 := Classical.not_not.1 h6
  have e : decide (a.ar = b.ar) = decide (a = b) := decide_eq_decide.2 ⟨fun h => nd_eq.2 ⟨h1, h2, h3, ref_eq.2 h4, ref_eq.2 h5, h⟩, fun h => by rw [h]⟩
  (repeat (first | refine vgo ?_ | refine ⟨_, rfl, rfl, ?_⟩ | refine ⟨_, rfl, ?_⟩ | refine ⟨rfl, ?_⟩ | intro hb | refine go2 ?_ | refine WC.seq (fun K hK => ?_) | ((first | refine hK _ _ _ ?_ | refine hK _ _ _ _ rfl ?_ | refine WX.thenExit (K := K) ?_); clear hK K) | (refine WX.thenExit (K := KL) ?_; clear hL KL)))
  refine WC.loop (I := Nat) (fun k => [(2, .pointer (some ⟨b1, 0, none⟩)), (3, .pointer (some ⟨b2, 0, none⟩)), (5, .int .i64 (k : Nat))]) (fun _ => rd (Ty.sl nodeT) a.ar u :: rd (Ty.sl nodeT) b.ar v :: Gf) (fun _ => box b2 73 (ndC b.k b.n b.s b.f b.t v) :: box b1 73 (ndC a.k a.n a.s a.f a.t u) :: Sf) (fun k => k ≤ a.ar.length ∧ (a.ar = b.ar ↔ a.ar.drop k = b.ar.drop k)) (fun k => a.ar.length - k) 0 ⟨Nat.zero_le _, Iff.rfl⟩ (.cons rfl (.cons rfl (.cons rfl .nil))) (fun w h => h.to) ?_
  rintro k ⟨hk, he⟩ KL hL
  by_cases g : k < a.ar.length
  · obtain ⟨x, hx⟩ : ∃ x, a.ar[k]? = some x := ⟨_, List.getElem?_eq_getElem g⟩
    obtain ⟨y, hy⟩ : ∃ y, b.ar[k]? = some y := ⟨_, List.getElem?_eq_getElem (by omega)⟩
    rw [drop_eq hx hy] at he
    have hpx := Fun.nodes2 (ih x (List.mem_of_getElem? hx) y)
    (repeat (first | refine vgo ?_ | refine ⟨_, rfl, rfl, ?_⟩ | refine ⟨_, rfl, ?_⟩ | refine ⟨rfl, ?_⟩ | intro hb | refine go2 ?_ | refine WC.seq (fun K hK => ?_) | ((first | refine hK _ _ _ ?_ | refine hK _ _ _ _ rfl ?_ | refine WX.thenExit (K := K) ?_); clear hK K) | (refine WX.thenExit (K := KL) ?_; clear hL KL)))
    (apply WC.drawE; exact rfl; focus (repeat (first | exact Wo.nil | (apply Wo.keep; exact rfl) | (apply Wo.drop; exact rfl)))); (repeat refine ObP3.c0A ?_); try (refine ObP3.nil ?_; (repeat (intro _)); (conv => whnf); (try dsimp only [envO, List.cons_append, List.nil_append]))
    refine ObP3.cons1 [] [] (.is (.bool (decide (x = y)))) ?_ rfl ?_
    · (repeat (intro _)); (conv => whnf); (try dsimp only [envO, List.cons_append, List.nil_append])
      (repeat (first | refine vgo ?_ | refine ⟨_, rfl, rfl, ?_⟩ | refine ⟨_, rfl, ?_⟩ | refine ⟨rfl, ?_⟩ | intro hb | refine go2 ?_ | refine WC.seq (fun K hK => ?_) | ((first | refine hK _ _ _ ?_ | refine hK _ _ _ _ rfl ?_ | refine WX.thenExit (K := K) ?_); clear hK K) | (refine WX.thenExit (K := KL) ?_; clear hL KL)))
      refine CallV.by' (hpx _ _) ?_; rintro _ _ _ ⟨rfl, rfl, rfl⟩; (try simp only [List.cons_append]); (try simp only [List.nil_append])
      (repeat (first | refine vgo ?_ | refine ⟨_, rfl, rfl, ?_⟩ | refine ⟨_, rfl, ?_⟩ | refine ⟨rfl, ?_⟩ | intro hb | refine go2 ?_ | refine WC.seq (fun K hK => ?_) | ((first | refine hK _ _ _ ?_ | refine hK _ _ _ _ rfl ?_ | refine WX.thenExit (K := K) ?_); clear hK K) | (refine WX.thenExit (K := KL) ?_; clear hL KL)))
      exact WX.pgIs rfl
    (repeat refine ObP3.c0B ?_); try (refine ObP3.nil ?_; (repeat (intro _)); (conv => whnf); (try dsimp only [envO, List.cons_append, List.nil_append]))
    by_cases hxy : x = y
    · rw [decide_eq_true hxy]
      (repeat (first | refine vgo ?_ | refine ⟨_, rfl, rfl, ?_⟩ | refine ⟨_, rfl, ?_⟩ | refine ⟨rfl, ?_⟩ | intro hb | refine go2 ?_ | refine WC.seq (fun K hK => ?_) | ((first | refine hK _ _ _ ?_ | refine hK _ _ _ _ rfl ?_ | refine WX.thenExit (K := K) ?_); clear hK K) | (refine WX.thenExit (K := KL) ?_; clear hL KL)))
      exact (hL (k + 1) ⟨g, he.trans ⟨fun h => h.2, fun h => ⟨hxy, h⟩⟩⟩ (by omega)).conv (.cons rfl (.cons rfl (.cons rfl .nil))) (fun w h => h.to)
    · rw [decide_eq_false hxy]
      (repeat (first | refine vgo ?_ | refine ⟨_, rfl, rfl, ?_⟩ | refine ⟨_, rfl, ?_⟩ | refine ⟨rfl, ?_⟩ | intro hb | refine go2 ?_ | refine WC.seq (fun K hK => ?_) | ((first | refine hK _ _ _ ?_ | refine hK _ _ _ _ rfl ?_ | refine WX.thenExit (K := K) ?_); clear hK K) | (refine WX.thenExit (K := KL) ?_; clear hL KL)))
      exact WX.ret1 rfl rfl (fun w sw => ⟨[], [], ⟨by rw [← e, decide_eq_false (fun h => hxy (he.1 h).1)], rfl, rfl⟩, sw.to⟩)
  · rw [List.drop_of_length_le (by omega), List.drop_of_length_le (by omega)] at he
    (repeat (first | refine vgo ?_ | refine ⟨_, rfl, rfl, ?_⟩ | refine ⟨_, rfl, ?_⟩ | refine ⟨rfl, ?_⟩ | intro hb | refine go2 ?_ | refine WC.seq (fun K hK => ?_) | ((first | refine hK _ _ _ ?_ | refine hK _ _ _ _ rfl ?_ | refine WX.thenExit (K := K) ?_); clear hK K) | (refine WX.thenExit (K := KL) ?_; clear hL KL)))
    exact WX.ret1 rfl rfl (fun w sw => ⟨[], [], ⟨by rw [← e, decide_eq_true (he.2 rfl)], rfl, rfl⟩, sw.to⟩)
termination_by SizeOf.sizeOf a
decreasing_by
  obtain ⟨k, n, s, f, t, ar⟩ := a
  have := List.sizeOf_lt_of_mem hx
  simp only [Nd.ar, Nd.mk.sizeOf_spec] at this ⊢
  omega
end
end
end Go.Qd
