/-
  Formulas taken from bytes: the parsers on bytes, and the program's takeRef.
-/
import Derived.Test.YthkeakecckiokaaGreatPTk6
import Derived.Test.YthkeakecckiokaaGreatPSB
import Derived.Test.YthkeakecckiokaaGreatQBit
namespace Go.Qd
/-! ### Formulas taken from bytes: the parsers on bytes, and the program's takeRef. -/
section
open Go Go.Proofs
def numP (l : List UInt8) : Option (Nat × List UInt8) := if (takeR l).2 = 0 then none else some ((takeR l).1, l.drop (takeR l).2)
def intP (m : Nat) (l : List UInt8) : Option (Nat × List UInt8) := (numP l).bind fun p => if p.1 ≤ m then some p else none
def bytP (l : List UInt8) : Option (List UInt8 × List UInt8) := if (runR l).2 = 0 then none else some ((runR l).1, l.drop (runR l).2)
theorem numR_some {l r : List UInt8} {n : Nat} (h : numP l = some (n, r)) : numR l false = (n, r, false) := by
  have hn := takeR_numR l false
  unfold numP at h
  split at h
  · cases h
  · rename_i h0
    rw [if_neg h0] at hn
    cases h
    exact hn
theorem numR_none {l : List UInt8} (h : numP l = none) : numR l false = (0, [], true) := by
  have hn := takeR_numR l false
  unfold numP at h
  split at h
  · rename_i h0
    rw [if_pos h0] at hn
    exact hn
  · cases h
theorem numR_nil : numR [] true = (0, [], true) := rfl
theorem intR_nil {m : Int} (hm : 0 ≤ m) : intR m [] true = (0, [], true) := by
  unfold intR
  rw [numR_nil]
  rw [if_neg (by dsimp only; omega)]
theorem intR_some {l r : List UInt8} {m n : Nat} (h : intP m l = some (n, r)) : intR (m : Int) l false = (n, r, false) ∧ n ≤ m := by
  unfold intP at h
  cases hn : numP l with
  | none => rw [hn] at h; cases h
  | some p =>
    rw [hn] at h
    obtain ⟨x, y⟩ := p
    simp only [Option.bind_some] at h
    split at h
    · rename_i hle
      cases h
      refine ⟨?_, hle⟩
      unfold intR
      rw [numR_some hn, if_neg (by dsimp only; omega)]
    · cases h
theorem intR_none {l : List UInt8} {m : Nat} (h : intP m l = none) : intR (m : Int) l false = (0, [], true) := by
  unfold intP at h
  cases hn : numP l with
  | none =>
    unfold intR
    rw [numR_none hn]
    rw [if_neg (by dsimp only; omega)]
  | some p =>
    rw [hn] at h
    obtain ⟨x, y⟩ := p
    simp only [Option.bind_some] at h
    split at h
    · cases h
    · rename_i hle
      unfold intR
      rw [numR_some hn, if_pos (.inr (by dsimp only at hle ⊢; omega))]
theorem bytR_some {l s r : List UInt8} (h : bytP l = some (s, r)) : bytR l false = (s, r, false) := by
  have hn := runR_bytR l false
  unfold bytP at h
  split at h
  · cases h
  · rename_i h0
    rw [if_neg h0] at hn
    cases h
    exact hn
theorem bytR_none {l : List UInt8} (h : bytP l = none) : bytR l false = ([], [], true) := by
  have hn := runR_bytR l false
  unfold bytP at h
  split at h
  · rename_i h0
    rw [if_pos h0] at hn
    exact hn
  · cases h
/-! ### Stamps and references -/
def stP (l : List UInt8) : Option ((Nat × Int) × List UInt8) := (numP l).bind fun p => (intP 64 p.2).bind fun q => some ((p.1, (q.1 : Int)), q.2)
def rfP (l : List UInt8) : Option (Ref2 × List UInt8) := (stP l).bind fun p => (stP p.2).bind fun q => some ((p.1, q.1), q.2)
abbrev stS (l : List UInt8) (bad : Bool) : (Nat × Nat) × List UInt8 × Bool := (((numR l bad).1, (intR 64 (numR l bad).2.1 (numR l bad).2.2).1), (intR 64 (numR l bad).2.1 (numR l bad).2.2).2.1, (intR 64 (numR l bad).2.1 (numR l bad).2.2).2.2)
theorem stS_some {l r : List UInt8} {x : Nat × Int} (h : stP l = some (x, r)) : ∃ n : Nat, x.2 = (n : Int) ∧ n ≤ 64 ∧ stS l false = ((x.1, n), r, false) := by
  unfold stP at h
  cases hn : numP l with
  | none => rw [hn] at h; cases h
  | some p =>
    rw [hn] at h
    obtain ⟨n, r1⟩ := p
    simp only [Option.bind_some] at h
    cases hi : intP 64 r1 with
    | none => rw [hi] at h; cases h
    | some q =>
      rw [hi] at h
      obtain ⟨m, r2⟩ := q
      simp only [Option.bind_some] at h
      cases h
      obtain ⟨h1, h2⟩ := intR_some hi
      refine ⟨m, rfl, h2, ?_⟩
      have h1 : intR 64 r1 false = (m, r, false) := h1
      unfold stS
      rw [numR_some hn]
      dsimp only
      rw [h1]
theorem stS_none {l : List UInt8} (h : stP l = none) : (stS l false).2 = ([], true) := by
  unfold stP at h
  unfold stS
  cases hn : numP l with
  | none =>
    rw [numR_none hn]
    dsimp only
    rw [intR_nil (by omega)]
  | some p =>
    rw [hn] at h
    obtain ⟨n, r1⟩ := p
    simp only [Option.bind_some] at h
    cases hi : intP 64 r1 with
    | none =>
      have h1 : intR 64 r1 false = (0, [], true) := intR_none hi
      rw [numR_some hn]
      dsimp only
      rw [h1]
    | some q => rw [hi] at h; cases h
abbrev rfV (t1 : Nat) (r1 : Int) (t2 : Nat) (r2 : Int) : Value := .agg #[.int .u64 (t1 : Int), .int .i64 r1, .int .u64 (t2 : Int), .int .i64 r2]
section
variable {P : Program} {n : Nat} {B : Base} {env : Env} {G : List Pers} {S S' : List Res} {fn : Func} {F : Value → World → Prop} {T E : TypeId} {v : Value} {cs : List Value}
theorem WX.retC2K {t u b s : Nat} [hClean : Clean B] (hr : fn.results = #[.cell t T, .tmp u]) (hv : env.get t = some (.pointer (some ⟨b, 0, none⟩))) (hu : env.get u = some v) [hm : SelBox b S E cs S'] [hT : TA P T true] [hs : TS P T s] (hl : cs.length = s) (h : ∀ w, Sat B G S w → F (.tuple #[.agg cs.toArray, v]) w) :
    WX n (FPost P fn F) .ret B env G S :=
  ⟨fun a w sa sw => by
    have h1 := sa.get t _ hv
    have h2 := sa.get u _ hu
    have h3 := run_loadVar_agg (P := P) (T := T) w (a := ⟨b, 0, none⟩) (cs := cs) hT.h (by rw [hs.h, ← hl]) (fun j c hj => by rw [Addr.add_none, sw.box_cell hm.h, Nat.zero_add]; exact hj)
    have h4 : (results fn a.tmps).run P w = .ok (.tuple #[.agg cs.toArray, v]) w := by
      simp [results, hr, h1, h2, asAddr, h3]
    exact FEnd.clean (sa.defers.trans hClean.h) ⟨_, h4, _, rfl, h w sw⟩⟩
end
theorem takeRef_fun (b : Nat) (v : Value) (l l1 l2 l3 l4 : List UInt8) (bad f1 f2 f3 f4 : Bool) (t1 r1 t2 r2 : Nat) (h1 : numR l bad = (t1, l1, f1)) (h2 : intR 64 l1 f1 = (r1, l2, f2)) (h3 : numR l2 f2 = (t2, l3, f3)) (h4 : intR 64 l3 f3 = (r2, l4, f4)) : Fun Tryz.prog 85 [.pointer (some ⟨b, 0, none⟩)] [rd (Ty.sl Ty.u8) l v] [rdrBox b v bad]
    (fun z G S => z = .tuple #[rfV t1 r1 t2 r2, .bool (decide (R2 ((t1, (r1 : Int)), (t2, (r2 : Int)))))] ∧ ∃ v', G = [rd (Ty.sl Ty.u8) l4 v'] ∧ S = [rdrBox b v' f4]) := by
  refine Fun.enter Tryz.func85 (by kernel_rfl) rfl Tryz.ntmps85 rfl (fun B Gf Sf => ?_); (try simp only [List.cons_append]); (try simp only [List.nil_append]); simp only [argEnv]
  (repeat (first | refine vgo ?_ | refine ⟨_, rfl, rfl, ?_⟩ | refine ⟨_, rfl, ?_⟩ | refine ⟨rfl, ?_⟩ | intro hb | refine go2 ?_ | refine WC.seq (fun K hK => ?_) | ((first | refine hK _ _ _ ?_ | refine hK _ _ _ _ rfl ?_ | refine WX.thenExit (K := K) ?_); clear hK K) | (refine WX.thenExit (K := KL) ?_; clear hL KL)))
  refine WL.alloc rfl ?_; intro b2
  (repeat (first | refine vgo ?_ | refine ⟨_, rfl, rfl, ?_⟩ | refine ⟨_, rfl, ?_⟩ | refine ⟨rfl, ?_⟩ | intro hb | refine go2 ?_ | refine WC.seq (fun K hK => ?_) | ((first | refine hK _ _ _ ?_ | refine hK _ _ _ _ rfl ?_ | refine WX.thenExit (K := K) ?_); clear hK K) | (refine WX.thenExit (K := KL) ?_; clear hL KL)))
  rw [h1]
  dsimp only
  rw [h2]
  dsimp only
  rw [h3]
  dsimp only
  rw [h4]
  dsimp only
  refine WL.alloc rfl ?_; intro b4
  by_cases q1 : idRight (t1, (r1 : Int))
  · have e : decide (idRight (t2, (r2 : Int))) = decide (R2 ((t1, (r1 : Int)), (t2, (r2 : Int)))) := decide_eq_decide.2 ⟨fun h => ⟨q1, h⟩, fun h => h.2⟩
    (repeat (first | refine vgo ?_ | refine ⟨_, rfl, rfl, ?_⟩ | refine ⟨_, rfl, ?_⟩ | refine ⟨rfl, ?_⟩ | intro hb | refine go2 ?_ | refine WC.seq (fun K hK => ?_) | ((first | refine hK _ _ _ ?_ | refine hK _ _ _ _ rfl ?_ | refine WX.thenExit (K := K) ?_); clear hK K) | (refine WX.thenExit (K := KL) ?_; clear hL KL)))
    refine WC.drawV (S := (box b4 55 [.int .u64 (t1 : Nat), .int .i64 (r1 : Nat), .int .u64 (t2 : Nat), .int .i64 (r2 : Nat)] :: rdrBox b hb f4 :: Sf)) ([[box b2 55 [.int .u64 0, .int .i64 0, .int .u64 0, .int .i64 0]]]) rfl (by repeat (first | exact Wo.nil | (apply Wo.keep; exact rfl) | (apply Wo.drop; exact rfl))) (fun w sw => by (try simp only [List.flatten_cons, List.flatten_nil, List.append_nil, List.cons_append, List.nil_append]); exact sw.to) ?_; (try dsimp only [chunks])
    (repeat refine ObP3.c0A ?_); try (refine ObP3.nil ?_; (repeat (intro _)); (conv => whnf); (try dsimp only [envO, List.cons_append, List.nil_append]))
    (apply ObP3.cons1 [] [1000]; (focus ((repeat (intro _)); (conv => whnf); (try dsimp only [envO, List.cons_append, List.nil_append]); (repeat (first | refine vgo ?_ | refine ⟨_, rfl, rfl, ?_⟩ | refine ⟨_, rfl, ?_⟩ | refine ⟨rfl, ?_⟩ | intro hb | refine go2 ?_ | refine WC.seq (fun K hK => ?_) | ((first | refine hK _ _ _ ?_ | refine hK _ _ _ _ rfl ?_ | refine WX.thenExit (K := K) ?_); clear hK K) | (refine WX.thenExit (K := KL) ?_; clear hL KL))); first | exact WX.pgHeadV rfl | exact WX.pgHead | exact WX.pgOwn rfl)); exact rfl)
    (repeat refine ObP3.c0B ?_); try (refine ObP3.nil ?_; (repeat (intro _)); (conv => whnf); (try dsimp only [envO, List.cons_append, List.nil_append]))
    (repeat (first | refine vgo ?_ | refine ⟨_, rfl, rfl, ?_⟩ | refine ⟨_, rfl, ?_⟩ | refine ⟨rfl, ?_⟩ | intro hb | refine go2 ?_ | refine WC.seq (fun K hK => ?_) | ((first | refine hK _ _ _ ?_ | refine hK _ _ _ _ rfl ?_ | refine WX.thenExit (K := K) ?_); clear hK K) | (refine WX.thenExit (K := KL) ?_; clear hL KL)))
    exact WX.retC2K (b := b2) rfl rfl rfl rfl (fun w sw => ⟨[_], [_], ⟨by rw [← e], hb, rfl, rfl⟩, sw.to⟩)
  · have e : decide (R2 ((t1, (r1 : Int)), (t2, (r2 : Int)))) = false := decide_eq_false fun h => q1 h.1
    (repeat (first | refine vgo ?_ | refine ⟨_, rfl, rfl, ?_⟩ | refine ⟨_, rfl, ?_⟩ | refine ⟨rfl, ?_⟩ | intro hb | refine go2 ?_ | refine WC.seq (fun K hK => ?_) | ((first | refine hK _ _ _ ?_ | refine hK _ _ _ _ rfl ?_ | refine WX.thenExit (K := K) ?_); clear hK K) | (refine WX.thenExit (K := KL) ?_; clear hL KL)))
    refine WC.drawV (S := (box b4 55 [.int .u64 (t1 : Nat), .int .i64 (r1 : Nat), .int .u64 (t2 : Nat), .int .i64 (r2 : Nat)] :: rdrBox b hb f4 :: Sf)) ([[box b2 55 [.int .u64 0, .int .i64 0, .int .u64 0, .int .i64 0]]]) rfl (by repeat (first | exact Wo.nil | (apply Wo.keep; exact rfl) | (apply Wo.drop; exact rfl))) (fun w sw => by (try simp only [List.flatten_cons, List.flatten_nil, List.append_nil, List.cons_append, List.nil_append]); exact sw.to) ?_; (try dsimp only [chunks])
    (repeat refine ObP3.c0A ?_); try (refine ObP3.nil ?_; (repeat (intro _)); (conv => whnf); (try dsimp only [envO, List.cons_append, List.nil_append]))
    (apply ObP3.cons1 [] [1000]; (focus ((repeat (intro _)); (conv => whnf); (try dsimp only [envO, List.cons_append, List.nil_append]); (repeat (first | refine vgo ?_ | refine ⟨_, rfl, rfl, ?_⟩ | refine ⟨_, rfl, ?_⟩ | refine ⟨rfl, ?_⟩ | intro hb | refine go2 ?_ | refine WC.seq (fun K hK => ?_) | ((first | refine hK _ _ _ ?_ | refine hK _ _ _ _ rfl ?_ | refine WX.thenExit (K := K) ?_); clear hK K) | (refine WX.thenExit (K := KL) ?_; clear hL KL))); first | exact WX.pgHeadV rfl | exact WX.pgHead | exact WX.pgOwn rfl)); exact rfl)
    (repeat refine ObP3.c0B ?_); try (refine ObP3.nil ?_; (repeat (intro _)); (conv => whnf); (try dsimp only [envO, List.cons_append, List.nil_append]))
    (repeat (first | refine vgo ?_ | refine ⟨_, rfl, rfl, ?_⟩ | refine ⟨_, rfl, ?_⟩ | refine ⟨rfl, ?_⟩ | intro hb | refine go2 ?_ | refine WC.seq (fun K hK => ?_) | ((first | refine hK _ _ _ ?_ | refine hK _ _ _ _ rfl ?_ | refine WX.thenExit (K := K) ?_); clear hK K) | (refine WX.thenExit (K := KL) ?_; clear hL KL)))
    exact WX.retC2K (b := b2) rfl rfl rfl rfl (fun w sw => ⟨[_], [_], ⟨by rw [e], hb, rfl, rfl⟩, sw.to⟩)
theorem takeRef2_fun (b : Nat) (v : Value) (l : List UInt8) (bad0 : Bool) (h0 : bad0 = true → l = []) : Fun Tryz.prog 85 [.pointer (some ⟨b, 0, none⟩)] [rd (Ty.sl Ty.u8) l v] [rdrBox b v bad0]
    (fun z G S => ∃ (x : Ref2) (l' : List UInt8) (v' : Value) (bad : Bool), z = .tuple #[rfV x.1.1 x.1.2 x.2.1 x.2.2, .bool (decide (R2 x))] ∧ G = [rd (Ty.sl Ty.u8) l' v'] ∧ S = [rdrBox b v' bad] ∧ (okId x.1 ∧ okId x.2) ∧ (bad = true → l' = [] ∧ (bad0 = true ∨ rfP l = none)) ∧ (bad = false → bad0 = false ∧ rfP l = some (x, l'))) := by
  have ho : ∀ (t r : Nat), t < 18446744073709551616 → (r : Int) ≤ 64 → okId (t, (r : Int)) := fun t r h1 h2 => ⟨h1, by dsimp only; omega, by dsimp only; omega⟩
  cases bad0 with
  | true =>
    obtain rfl := h0 rfl
    refine (takeRef_fun b v [] [] [] [] [] true true true true true 0 0 0 0 numR_nil (intR_nil (by omega)) numR_nil (intR_nil (by omega))).imp ?_
    rintro z G S ⟨rfl, v', rfl, rfl⟩
    exact ⟨((0, 0), (0, 0)), [], v', true, rfl, rfl, rfl, ⟨ho 0 0 (by omega) (by omega), ho 0 0 (by omega) (by omega)⟩, fun _ => ⟨rfl, .inl rfl⟩, fun h => (by cases h)⟩
  | false =>
    cases hs : stP l with
    | none =>
      have e2 := stS_none hs
      refine (takeRef_fun b v l (numR l false).2.1 [] [] [] false (numR l false).2.2 true true true (numR l false).1 (intR 64 (numR l false).2.1 (numR l false).2.2).1 0 0 rfl (Prod.ext rfl e2) numR_nil (intR_nil (by omega))).imp ?_
      rintro z G S ⟨rfl, v', rfl, rfl⟩
      exact ⟨(((numR l false).1, ((intR 64 (numR l false).2.1 (numR l false).2.2).1 : Int)), (0, 0)), [], v', true, rfl, rfl, rfl, ⟨ho _ _ (numR_lt _ _) (intR_le _ _ _ (by omega)), ho 0 0 (by omega) (by omega)⟩, fun _ => ⟨rfl, .inr (by rw [rfP, hs]; rfl)⟩, fun h => (by cases h)⟩
    | some p =>
      obtain ⟨⟨t1, i1⟩, l2⟩ := p
      obtain ⟨r1, rfl, hr1, e2⟩ := stS_some hs
      have e2a : (numR l false).1 = t1 := congrArg (fun x => x.1.1) e2
      have e2b : intR 64 (numR l false).2.1 (numR l false).2.2 = (r1, l2, false) := Prod.ext (congrArg (fun x => x.1.2) e2) (congrArg (fun x => x.2) e2)
      have ht1 : t1 < 18446744073709551616 := e2a ▸ numR_lt l false
      cases hs2 : stP l2 with
      | none =>
        have e3 := stS_none hs2
        refine (takeRef_fun b v l (numR l false).2.1 l2 (numR l2 false).2.1 [] false (numR l false).2.2 false (numR l2 false).2.2 true t1 r1 (numR l2 false).1 (intR 64 (numR l2 false).2.1 (numR l2 false).2.2).1 (Prod.ext e2a rfl) e2b rfl (Prod.ext rfl e3)).imp ?_
        rintro z G S ⟨rfl, v', rfl, rfl⟩
        exact ⟨((t1, (r1 : Int)), ((numR l2 false).1, ((intR 64 (numR l2 false).2.1 (numR l2 false).2.2).1 : Int))), [], v', true, rfl, rfl, rfl, ⟨ho _ _ ht1 (by omega), ho _ _ (numR_lt _ _) (intR_le _ _ _ (by omega))⟩, fun _ => ⟨rfl, .inr (by rw [rfP, hs, Option.bind_some]; dsimp only; rw [hs2]; rfl)⟩, fun h => (by cases h)⟩
      | some q =>
        obtain ⟨⟨t2, i2⟩, l4⟩ := q
        obtain ⟨r2, rfl, hr2, e3⟩ := stS_some hs2
        have e3a : (numR l2 false).1 = t2 := congrArg (fun x => x.1.1) e3
        have e3b : intR 64 (numR l2 false).2.1 (numR l2 false).2.2 = (r2, l4, false) := Prod.ext (congrArg (fun x => x.1.2) e3) (congrArg (fun x => x.2) e3)
        have ht2 : t2 < 18446744073709551616 := e3a ▸ numR_lt l2 false
        refine (takeRef_fun b v l (numR l false).2.1 l2 (numR l2 false).2.1 l4 false (numR l false).2.2 false (numR l2 false).2.2 false t1 r1 t2 r2 (Prod.ext e2a rfl) e2b (Prod.ext e3a rfl) e3b).imp ?_
        rintro z G S ⟨rfl, v', rfl, rfl⟩
        exact ⟨((t1, (r1 : Int)), (t2, (r2 : Int))), l4, v', false, rfl, rfl, rfl, ⟨ho _ _ ht1 (by omega), ho _ _ ht2 (by omega)⟩, fun h => (by cases h), fun _ => ⟨rfl, by rw [rfP, hs, Option.bind_some]; dsimp only; rw [hs2]; rfl⟩⟩
end
/-! ### Formulas taken from bytes: the parser of trees, and the program's take. -/
section
open Go Go.Proofs
def toI (n : Nat) : Int := IntKind.i64.wrap (n : Int)
abbrev z2 : Ref2 := ((0, 0), (0, 0))
abbrev Bdy := Int × List UInt8 × Ref2 × Ref2
def pB (k : Nat) (l : List UInt8) : Option (Bdy × List UInt8) :=
  if k = 0 then none
  else if k = 1 then (numP l).bind fun p => some ((toI p.1, [], z2, z2), p.2)
  else if k = 2 ∨ k = 6 ∨ k = 7 then (bytP l).bind fun p => some ((0, p.1, z2, z2), p.2)
  else if k = 3 then (rfP l).bind fun p => some ((0, [], p.1, z2), p.2)
  else if k = 4 then (rfP l).bind fun p => (rfP p.2).bind fun q => some ((0, [], p.1, q.1), q.2)
  else some ((0, [], z2, z2), l)
def cntK (k : Nat) : Nat := if k = 5 then 1 else if k = 6 then 2 else 0
def pC (k : Nat) (l : List UInt8) : Option (Nat × List UInt8) := if k = 7 then intP 16 l else some (cntK k, l)
def pL (f : List UInt8 → Option (Nd × List UInt8)) : Nat → List UInt8 → Option (List Nd × List UInt8)
  | 0, l => some ([], l)
  | n + 1, l => (f l).bind fun p => (pL f n p.2).bind fun q => some (p.1 :: q.1, q.2)
def pN : Nat → List UInt8 → Option (Nd × List UInt8)
  | 0, _ => none
  | d + 1, l => (intP 8 l).bind fun k => (pB k.1 k.2).bind fun q => (pC k.1 q.2).bind fun c => (pL (pN d) c.1 c.2).bind fun ns => some (.mk (k.1 : Int) q.1.1 q.1.2.1 q.1.2.2.1 q.1.2.2.2 ns.1, ns.2)
theorem bind_some2 {α β : Type} {o : Option α} {f : α → Option β} {b : β} (h : o.bind f = some b) : ∃ a, o = some a ∧ f a = some b := by
  cases o with
  | none => cases h
  | some a => exact ⟨a, rfl, h⟩
section
variable {f : List UInt8 → Option (Nd × List UInt8)}
theorem pL_split : ∀ (i m : Nat) (l : List UInt8), pL f (i + m) l = (pL f i l).bind fun p => (pL f m p.2).bind fun q => some (p.1 ++ q.1, q.2)
  | 0, m, l => by
    rw [Nat.zero_add, pL]
    simp only [Option.bind_some, List.nil_append]
    cases pL f m l <;> rfl
  | i + 1, m, l => by
    rw [show i + 1 + m = (i + m) + 1 from by omega, pL, pL]
    cases f l with
    | none => rfl
    | some p =>
      simp only [Option.bind_some]
      rw [pL_split i m p.2]
      cases pL f i p.2 with
      | none => rfl
      | some q =>
        simp only [Option.bind_some]
        cases pL f m q.2 <;> rfl
theorem pL_snoc {i : Nat} {l l' r : List UInt8} {ns : List Nd} {a : Nd} (h : pL f i l = some (ns, l')) (ha : f l' = some (a, r)) : pL f (i + 1) l = some (ns ++ [a], r) := by
  rw [pL_split, h, Option.bind_some, pL, ha]; rfl
theorem pL_fail {i c : Nat} {l l' : List UInt8} {ns : List Nd} (h : pL f i l = some (ns, l')) (hi : i < c) (ha : f l' = none) : pL f c l = none := by
  obtain ⟨m, rfl⟩ : ∃ m, c = i + (m + 1) := ⟨c - i - 1, by omega⟩
  rw [pL_split, h, Option.bind_some, pL, ha]; rfl
theorem pL_mem {i c : Nat} {l l' r r' : List UInt8} {ns bs : List Nd} {a : Nd} (h : pL f i l = some (ns, l')) (hi : i < c) (ha : f l' = some (a, r)) (hb : pL f c l = some (bs, r')) : a ∈ bs := by
  obtain ⟨m, rfl⟩ : ∃ m, c = i + (m + 1) := ⟨c - i - 1, by omega⟩
  rw [pL_split, h, Option.bind_some, pL, ha, Option.bind_some] at hb
  cases hq : pL f m r with
  | none => rw [hq] at hb; cases hb
  | some q =>
    rw [hq] at hb
    simp only [Option.bind_some] at hb
    cases hb
    simp
theorem pL_len : ∀ {n : Nat} {l r : List UInt8} {ns : List Nd}, pL f n l = some (ns, r) → ns.length = n
  | 0, _, _, _, h => by cases h; rfl
  | n + 1, l, r, ns, h => by
    obtain ⟨p, _, h2⟩ := bind_some2 h
    obtain ⟨q, h3, h4⟩ := bind_some2 h2
    cases h4
    rw [List.length_cons, pL_len h3]
end
theorem pN_eq {d k : Nat} {l r : List UInt8} (h : intP 8 l = some (k, r)) : pN (d + 1) l = (pB k r).bind fun q => (pC k q.2).bind fun c => (pL (pN d) c.1 c.2).bind fun ns => some (.mk (k : Int) q.1.1 q.1.2.1 q.1.2.2.1 q.1.2.2.2 ns.1, ns.2) := by
  rw [pN, h]; rfl
/-! What is taken is of bounded size. -/
theorem numP_lt {l r : List UInt8} {n : Nat} (h : numP l = some (n, r)) : n < 18446744073709551616 := by
  unfold numP at h
  split at h
  · cases h
  · cases h; exact takeR_lt l
theorem intP_le {l r : List UInt8} {m n : Nat} (h : intP m l = some (n, r)) : n ≤ m := (intR_some h).2
theorem bytP_len {l r s : List UInt8} (h : bytP l = some (s, r)) : s.length ≤ 65536 := by
  unfold bytP at h
  split at h
  · cases h
  · rename_i h0
    cases h
    unfold runR at h0 ⊢
    split at h0
    · exact absurd rfl h0
    · rename_i h1
      rw [if_neg h1]
      dsimp only
      rw [List.length_take]
      omega
theorem stP_ok {l r : List UInt8} {x : Nat × Int} (h : stP l = some (x, r)) : okId x := by
  obtain ⟨p, h1, h2⟩ := bind_some2 h
  obtain ⟨q, h3, h4⟩ := bind_some2 h2
  cases h4
  have := intP_le h3
  exact ⟨numP_lt h1, by dsimp only; omega, by dsimp only; omega⟩
theorem rfP_ok {l r : List UInt8} {x : Ref2} (h : rfP l = some (x, r)) : okId x.1 ∧ okId x.2 := by
  obtain ⟨p, h1, h2⟩ := bind_some2 h
  obtain ⟨q, h3, h4⟩ := bind_some2 h2
  cases h4
  exact ⟨stP_ok h1, stP_ok h3⟩
theorem wrap_rngT (a : Int) : -9223372036854775808 ≤ IntKind.i64.wrap a ∧ IntKind.i64.wrap a ≤ 9223372036854775807 := by
  simp only [IntKind.wrap, IntKind.bits, IntKind.signed]; simp; split <;> omega
theorem okI_toI (n : Nat) : okI (toI n) := wrap_rngT _
def okBd (b : Bdy) : Prop := okI b.1 ∧ b.2.1.length ≤ 65536 ∧ (okId b.2.2.1.1 ∧ okId b.2.2.1.2) ∧ (okId b.2.2.2.1 ∧ okId b.2.2.2.2)
theorem okz2 : okId z2.1 ∧ okId z2.2 := ⟨⟨by decide, by decide, by decide⟩, ⟨by decide, by decide, by decide⟩⟩
theorem okI0 : okI 0 := ⟨by decide, by decide⟩
theorem pB_ok {k : Nat} {l r : List UInt8} {b : Bdy} (h : pB k l = some (b, r)) : okBd b := by
  unfold pB at h
  split at h
  · cases h
  split at h
  · obtain ⟨p, h1, h2⟩ := bind_some2 h
    cases h2
    exact ⟨okI_toI _, Nat.zero_le _, okz2, okz2⟩
  split at h
  · obtain ⟨p, h1, h2⟩ := bind_some2 h
    cases h2
    exact ⟨okI0, bytP_len h1, okz2, okz2⟩
  split at h
  · obtain ⟨p, h1, h2⟩ := bind_some2 h
    cases h2
    exact ⟨okI0, Nat.zero_le _, rfP_ok h1, okz2⟩
  split at h
  · obtain ⟨p, h1, h2⟩ := bind_some2 h
    obtain ⟨q, h3, h4⟩ := bind_some2 h2
    cases h4
    exact ⟨okI0, Nat.zero_le _, rfP_ok h1, rfP_ok h3⟩
  · cases h
    exact ⟨okI0, Nat.zero_le _, okz2, okz2⟩
theorem pC_le {k c : Nat} {l r : List UInt8} (h : pC k l = some (c, r)) : c ≤ 16 := by
  unfold pC at h
  split at h
  · exact intP_le h
  · cases h
    unfold cntK
    split
    · decide
    · split <;> decide
theorem okBd_nd {k : Nat} {b : Bdy} {ns : List Nd} (hk : k ≤ 8) (h : okBd b) : okNd (.mk (k : Int) b.1 b.2.1 b.2.2.1 b.2.2.2 ns) := by
  obtain ⟨h1, h2, h3, h4⟩ := h
  exact ⟨⟨by show _ ≤ (k : Int); omega, by show (k : Int) ≤ _; omega⟩, h1, Nat.le_trans h2 (by decide), h3.1, h3.2, h4.1, h4.2⟩
theorem pL_all {f : List UInt8 → Option (Nd × List UInt8)} {p : Nd → Prop} (hf : ∀ l a r, f l = some (a, r) → p a) : ∀ {n : Nat} {l r : List UInt8} {ns : List Nd}, pL f n l = some (ns, r) → ∀ x ∈ ns, p x
  | 0, _, _, _, h => by cases h; intro x hx; cases hx
  | n + 1, l, r, ns, h => by
    obtain ⟨q, h1, h2⟩ := bind_some2 h
    obtain ⟨q2, h3, h4⟩ := bind_some2 h2
    cases h4
    intro x hx
    rcases List.mem_cons.1 hx with rfl | hx
    · exact hf _ _ _ h1
    · exact pL_all hf h3 x hx
theorem pN_sm : ∀ {d : Nat} {l r : List UInt8} {a : Nd}, pN d l = some (a, r) → smN 16 d a
  | 0, _, _, _, h => by cases h
  | d + 1, l, r, a, h => by
    obtain ⟨k, h1, h2⟩ := bind_some2 h
    obtain ⟨q, h3, h4⟩ := bind_some2 h2
    obtain ⟨c, h5, h6⟩ := bind_some2 h4
    obtain ⟨ns, h7, h8⟩ := bind_some2 h6
    cases h8
    refine ⟨okBd_nd (intP_le h1) (pB_ok h3), ?_, fun x hx => pL_all (fun _ _ _ => pN_sm) h7 x hx⟩
    show ns.1.length ≤ 16
    rw [pL_len h7]
    exact pC_le h5
theorem count_fun (k : Nat) : Fun Tryz.prog 84 [.int .i64 (k : Nat)] [] [] (fun z G S => z = .int .i64 (cntK k : Nat) ∧ G = [] ∧ S = []) := by
  refine Fun.enter Tryz.func84 (by kernel_rfl) rfl Tryz.ntmps84 rfl (fun B Gf Sf => ?_); (try simp only [List.cons_append]); (try simp only [List.nil_append]); simp only [argEnv]
  by_cases h5 : k = 5
  · subst h5
    (repeat (first | refine vgo ?_ | refine ⟨_, rfl, rfl, ?_⟩ | refine ⟨_, rfl, ?_⟩ | refine ⟨rfl, ?_⟩ | intro hb | refine go2 ?_ | refine WC.seq (fun K hK => ?_) | ((first | refine hK _ _ _ ?_ | refine hK _ _ _ _ rfl ?_ | refine WX.thenExit (K := K) ?_); clear hK K) | (refine WX.thenExit (K := KL) ?_; clear hL KL)))
    exact WX.ret1 rfl rfl (fun w sw => ⟨[], [], ⟨rfl, rfl, rfl⟩, sw.to⟩)
  by_cases h6 : k = 6
  · subst h6
    (repeat (first | refine vgo ?_ | refine ⟨_, rfl, rfl, ?_⟩ | refine ⟨_, rfl, ?_⟩ | refine ⟨rfl, ?_⟩ | intro hb | refine go2 ?_ | refine WC.seq (fun K hK => ?_) | ((first | refine hK _ _ _ ?_ | refine hK _ _ _ _ rfl ?_ | refine WX.thenExit (K := K) ?_); clear hK K) | (refine WX.thenExit (K := KL) ?_; clear hL KL)))
    exact WX.ret1 rfl rfl (fun w sw => ⟨[], [], ⟨rfl, rfl, rfl⟩, sw.to⟩)
  (repeat (first | refine vgo ?_ | refine ⟨_, rfl, rfl, ?_⟩ | refine ⟨_, rfl, ?_⟩ | refine ⟨rfl, ?_⟩ | intro hb | refine go2 ?_ | refine WC.seq (fun K hK => ?_) | ((first | refine hK _ _ _ ?_ | refine hK _ _ _ _ rfl ?_ | refine WX.thenExit (K := K) ?_); clear hK K) | (refine WX.thenExit (K := KL) ?_; clear hL KL)))
  exact WX.ret1 rfl rfl (fun w sw => ⟨[], [], ⟨by unfold cntK; rw [if_neg h5, if_neg h6]; rfl, rfl, rfl⟩, sw.to⟩)
instance count_pure {G : List Pers} {k : Nat} : PureF Tryz.prog 84 [.int .i64 (k : Int)] G True (.int .i64 ((cntK k : Nat) : Int)) := ⟨fun _ => PureF.of0 (count_fun k)⟩
/-- What the program's take answers of the bytes l. -/
def TkR (d : Nat) (l : List UInt8) (b : Nat) (z : Value) (G : List Pers) (S : List Res) : Prop := ∃ (a : Nd) (u : Value) (ok bad : Bool) (l' : List UInt8) (v' : Value), z = .tuple #[ndV a.k a.n a.s a.f a.t u, .bool ok] ∧ G = [rd (Ty.sl nodeT) a.ar u, rd (Ty.sl Ty.u8) l' v'] ∧ S = [rdrBox b v' bad] ∧ okNd a ∧
  (ok = true → bad = false ∧ pN d l = some (a, l') ∧ stD d a) ∧ (ok = false → ∀ a' r, pN d l = some (a', r) → ¬ stD d a') ∧ (bad = true → l' = [])
theorem TkR.no {d : Nat} {l l' : List UInt8} {b : Nat} {v' : Value} {bad : Bool} (h : ∀ a' r, pN d l = some (a', r) → ¬ stD d a') (hb : bad = true → l' = []) : TkR d l b (.tuple #[ndV 0 0 [] z2 z2 nlS, .bool false]) [rd (Ty.sl nodeT) [] nlS, rd (Ty.sl Ty.u8) l' v'] [rdrBox b v' bad] :=
  ⟨zNt, nlS, false, bad, l', v', rfl, rfl, rfl, ⟨okI0, okI0, Nat.zero_le _, okz2.1, okz2.1, okz2.1, okz2.1⟩, fun h => (by cases h), fun _ => h, hb⟩
/-- How far the parts of a node are taken. -/
structure BT where
  i : Nat
  ok : Bool
  ns : List Nd
  vs : List Value
  sv : Value
  l : List UInt8
  v : Value
  bad : Bool
set_option maxRecDepth 100000 in
set_option maxHeartbeats 6400000 in
theorem btake_fun (d : Nat) (hd : d ≤ 64) (b : Nat) (l : List UInt8) (v : Value) : Fun Tryz.prog 72 [.pointer (some ⟨b, 0, none⟩), .int .i64 (d : Nat)] [rd (Ty.sl Ty.u8) l v] [rdrBox b v false] (TkR d l b) := by
  refine Fun.enter Tryz.func72 (by kernel_rfl) rfl Tryz.ntmps72 rfl (fun B Gf Sf => ?_); (try simp only [List.cons_append]); (try simp only [List.nil_append]); simp only [argEnv]
  refine WC.sat (fun w sw => sw.rdNil (nodeT)) ?_
  (repeat (first | refine vgo ?_ | refine ⟨_, rfl, rfl, ?_⟩ | refine ⟨_, rfl, ?_⟩ | refine ⟨rfl, ?_⟩ | intro hb | refine go2 ?_ | refine WC.seq (fun K hK => ?_) | ((first | refine hK _ _ _ ?_ | refine hK _ _ _ _ rfl ?_ | refine WX.thenExit (K := K) ?_); clear hK K) | (refine WX.thenExit (K := KL) ?_; clear hL KL)))
  refine WL.alloc rfl ?_; intro b4
  cases d with
  | zero =>
    (repeat (first | refine vgo ?_ | refine ⟨_, rfl, rfl, ?_⟩ | refine ⟨_, rfl, ?_⟩ | refine ⟨rfl, ?_⟩ | intro hb | refine go2 ?_ | refine WC.seq (fun K hK => ?_) | ((first | refine hK _ _ _ ?_ | refine hK _ _ _ _ rfl ?_ | refine WX.thenExit (K := K) ?_); clear hK K) | (refine WX.thenExit (K := KL) ?_; clear hL KL)))
    exact WX.retC2K (b := b4) rfl rfl rfl rfl (fun w sw => ⟨[rd (Ty.sl nodeT) [] nlS, rd (Ty.sl Ty.u8) l v], [rdrBox b v false], TkR.no (fun _ _ h => by cases h) (fun h => by cases h), sw.to⟩)
  | succ d =>
    have ih := fun (lx : List UInt8) (vx : Value) => btake_fun d (by omega) b lx vx
    (repeat (first | refine vgo ?_ | refine ⟨_, rfl, rfl, ?_⟩ | refine ⟨_, rfl, ?_⟩ | refine ⟨rfl, ?_⟩ | intro hb | refine go2 ?_ | refine WC.seq (fun K hK => ?_) | ((first | refine hK _ _ _ ?_ | refine hK _ _ _ _ rfl ?_ | refine WX.thenExit (K := K) ?_); clear hK K) | (refine WX.thenExit (K := KL) ?_; clear hL KL)))
    cases hk : intP 8 l with
    | none =>
      have e1 : intR 8 l false = (0, [], true) := intR_none hk
      have hno : ∀ a' r', pN (d + 1) l = some (a', r') → ¬ stD (d + 1) a' := fun a' r' h => by rw [pN, hk] at h; cases h
      rw [e1]
      dsimp only
      refine WL.alloc rfl ?_; intro b6
      (repeat (first | refine vgo ?_ | refine ⟨_, rfl, rfl, ?_⟩ | refine ⟨_, rfl, ?_⟩ | refine ⟨rfl, ?_⟩ | intro hb | refine go2 ?_ | refine WC.seq (fun K hK => ?_) | ((first | refine hK _ _ _ ?_ | refine hK _ _ _ _ rfl ?_ | refine WX.thenExit (K := K) ?_); clear hK K) | (refine WX.thenExit (K := KL) ?_; clear hL KL)))
      exact WX.retC2K (b := b4) rfl rfl rfl rfl (fun w sw => ⟨[rd (Ty.sl nodeT) [] nlS, rd (Ty.sl Ty.u8) [] hb], [rdrBox b hb true], TkR.no hno (fun _ => rfl), sw.to⟩)
    | some p =>
      obtain ⟨k, r⟩ := p
      obtain ⟨e0, hk8⟩ := intR_some hk
      have e1 : intR 8 l false = (k, r, false) := e0
      have hpn := pN_eq (d := d) hk
      rw [e1]
      dsimp only
      refine WL.alloc rfl ?_; intro b6
      revert hb
      intro vr
      by_cases k0 : k = 0
      · have hno : ∀ a' r', pN (d + 1) l = some (a', r') → ¬ stD (d + 1) a' := fun a' r' h => by rw [hpn, pB, if_pos k0] at h; cases h
        (repeat (first | refine vgo ?_ | refine ⟨_, rfl, rfl, ?_⟩ | refine ⟨_, rfl, ?_⟩ | refine ⟨rfl, ?_⟩ | intro hb | refine go2 ?_ | refine WC.seq (fun K hK => ?_) | ((first | refine hK _ _ _ ?_ | refine hK _ _ _ _ rfl ?_ | refine WX.thenExit (K := K) ?_); clear hK K) | (refine WX.thenExit (K := KL) ?_; clear hL KL)))
        exact WX.retC2K (b := b4) rfl rfl rfl rfl (fun w sw => ⟨[rd (Ty.sl nodeT) [] nlS, rd (Ty.sl Ty.u8) r vr], [rdrBox b vr false], TkR.no hno (fun h => by cases h), sw.to⟩)
      (repeat (first | refine vgo ?_ | refine ⟨_, rfl, rfl, ?_⟩ | refine ⟨_, rfl, ?_⟩ | refine ⟨rfl, ?_⟩ | intro hb | refine go2 ?_ | refine WC.seq (fun K hK => ?_) | ((first | refine hK _ _ _ ?_ | refine hK _ _ _ _ rfl ?_ | refine WX.thenExit (K := K) ?_); clear hK K) | (refine WX.thenExit (K := KL) ?_; clear hL KL)))
      have hR : ∀ (n : Int) (s : List UInt8) (f t : Ref2) (ok bad : Bool) (l1 : List UInt8) (v1 : Value), okNd (.mk (k : Int) n s f t []) → (bad = true → l1 = []) → (ok = true → bad = false → pB k r = some ((n, s, f, t), l1) ∧ okF9 (.mk (k : Int) n s f t [])) → (ok = false ∨ bad = true → ∀ a' r', pN (d + 1) l = some (a', r') → ¬ stD (d + 1) a') → WK 98 K { w := B, r := none, ds := [] } [(0, .pointer (some ⟨b, 0, none⟩)), (1, .int .i64 ((d + 1 : Nat) : Int)), (4, .pointer (some ⟨b4, 0, none⟩)), (6, .pointer (some ⟨b6, 0, none⟩)), (7, .int .i64 (cntK k : Nat)), (8, .bool ok)] (rd (Ty.sl Ty.u8) l1 v1 :: rd (Ty.sl nodeT) [] nlS :: rd (Ty.sl Ty.u8) l v :: Gf) (rdrBox b v1 bad :: box b6 58 (ndC (k : Int) n s f t nlS) :: box b4 58 ndZ :: Sf) := fun n s f t ok bad l1 v1 hok f1 f2 f3 => hK _ _ _ (by
        clear hK
        (repeat (first | refine vgo ?_ | refine ⟨_, rfl, rfl, ?_⟩ | refine ⟨_, rfl, ?_⟩ | refine ⟨rfl, ?_⟩ | intro hb | refine go2 ?_ | refine WC.seq (fun K hK => ?_) | ((first | refine hK _ _ _ ?_ | refine hK _ _ _ _ rfl ?_ | refine WX.thenExit (K := K) ?_); clear hK K) | (refine WX.thenExit (K := KL) ?_; clear hL KL)))
        have hR2 : ∀ (cnt : Nat) (bad2 : Bool) (l2 : List UInt8) (v2 : Value), cnt ≤ 16 → (bad2 = true → l2 = []) → (ok = true → bad2 = false → pB k r = some ((n, s, f, t), l1) ∧ pC k l1 = some (cnt, l2) ∧ okF9 (.mk (k : Int) n s f t [])) → (ok = false ∨ bad2 = true → ∀ a' r', pN (d + 1) l = some (a', r') → ¬ stD (d + 1) a') → WK 98 K { w := B, r := none, ds := [] } [(0, .pointer (some ⟨b, 0, none⟩)), (1, .int .i64 ((d + 1 : Nat) : Int)), (4, .pointer (some ⟨b4, 0, none⟩)), (6, .pointer (some ⟨b6, 0, none⟩)), (7, .int .i64 (cnt : Nat)), (8, .bool ok)] (rd (Ty.sl Ty.u8) l2 v2 :: rd (Ty.sl nodeT) [] nlS :: rd (Ty.sl Ty.u8) l v :: Gf) (rdrBox b v2 bad2 :: box b6 58 (ndC (k : Int) n s f t nlS) :: box b4 58 ndZ :: Sf) := fun cnt bad2 l2 v2 hc16 g1 g2 g3 => hK _ _ _ (by
          clear hK
          (repeat (first | refine vgo ?_ | refine ⟨_, rfl, rfl, ?_⟩ | refine ⟨_, rfl, ?_⟩ | refine ⟨rfl, ?_⟩ | intro hb | refine go2 ?_ | refine WC.seq (fun K hK => ?_) | ((first | refine hK _ _ _ ?_ | refine hK _ _ _ _ rfl ?_ | refine WX.thenExit (K := K) ?_); clear hK K) | (refine WX.thenExit (K := KL) ?_; clear hL KL)))
          refine WC.loop (I := BT) (fun x => [(0, .pointer (some ⟨b, 0, none⟩)), (1, .int .i64 ((d + 1 : Nat) : Int)), (4, .pointer (some ⟨b4, 0, none⟩)), (6, .pointer (some ⟨b6, 0, none⟩)), (8, .bool x.ok), (66, .int .i64 (cnt : Nat)), (67, .int .i64 (x.i : Nat))]) (fun x => rdAll nodeT x.ns x.vs :: rd (Ty.sl Ty.u8) x.l x.v :: rd (Ty.sl nodeT) [] nlS :: rd (Ty.sl Ty.u8) l v :: Gf) (fun x => own 58 12 x.sv x.i (flat x.vs) :: box b6 58 (ndC (k : Int) n s f t x.sv) :: rdrBox b x.v x.bad :: box b4 58 ndZ :: Sf) (fun x => x.i ≤ cnt ∧ x.ns.length = x.i ∧ (x.bad = true → x.l = []) ∧ (x.ok = true → x.bad = false → pL (pN d) x.i l2 = some (x.ns, x.l) ∧ (∀ y ∈ x.ns, stD d y) ∧ pB k r = some ((n, s, f, t), l1) ∧ pC k l1 = some (cnt, l2) ∧ okF9 (.mk (k : Int) n s f t [])) ∧ (x.ok = false ∨ x.bad = true → ∀ a' r', pN (d + 1) l = some (a', r') → ¬ stD (d + 1) a')) (fun x => cnt - x.i) ⟨0, ok, [], [], nlS, l2, v2, bad2⟩ ⟨Nat.zero_le _, rfl, g1, fun q1 q2 => ⟨rfl, fun y hy => (by cases hy), g2 q1 q2⟩, g3⟩ (.cons rfl (.cons rfl (.cons rfl (.cons rfl (.cons rfl (.cons rfl (.cons rfl .nil))))))) (fun w h => by
            have h2 := Sat.rdAllNil nodeT (h.ownNil 58 12)
            dsimp only [flat_nil]
            exact h2.to) ?_
          rintro ⟨i, ok3, ns, vs, sv, l3, v3, bad3⟩ ⟨hi, hns, q1, q2, q3⟩ KL hL
          dsimp only at hi hns q1 q2 q3 ⊢
          by_cases g : i < cnt
          · cases ok3 with
            | false =>
              have hno := q3 (.inl rfl)
              (repeat (first | refine vgo ?_ | refine ⟨_, rfl, rfl, ?_⟩ | refine ⟨_, rfl, ?_⟩ | refine ⟨rfl, ?_⟩ | intro hb | refine go2 ?_ | refine WC.seq (fun K hK => ?_) | ((first | refine hK _ _ _ ?_ | refine hK _ _ _ _ rfl ?_ | refine WX.thenExit (K := K) ?_); clear hK K) | (refine WX.thenExit (K := KL) ?_; clear hL KL)))
              exact WX.retC2K (b := b4) rfl rfl rfl rfl (fun w sw => ⟨[rd (Ty.sl nodeT) [] nlS, rd (Ty.sl Ty.u8) l3 v3], [rdrBox b v3 bad3], TkR.no hno q1, sw.to⟩)
            | true =>
              cases bad3 with
              | true =>
                have hno := q3 (.inr rfl)
                have nn : (!!true) = true := rfl
                (repeat (first | refine vgo ?_ | refine ⟨_, rfl, rfl, ?_⟩ | refine ⟨_, rfl, ?_⟩ | refine ⟨rfl, ?_⟩ | intro hb | refine go2 ?_ | refine WC.seq (fun K hK => ?_) | ((first | refine hK _ _ _ ?_ | refine hK _ _ _ _ rfl ?_ | refine WX.thenExit (K := K) ?_); clear hK K) | (refine WX.thenExit (K := KL) ?_; clear hL KL)))
                exact WX.retC2K (b := b4) rfl rfl rfl rfl (fun w sw => ⟨[rd (Ty.sl nodeT) [] nlS, rd (Ty.sl Ty.u8) l3 v3], [rdrBox b v3 true], TkR.no hno q1, sw.to⟩)
              | false =>
                obtain ⟨p1, p2, p3, p4, p5⟩ := q2 rfl rfl
                have hd1 : ((d + 1 : Nat) : Int) - 1 = ((d : Nat) : Int) := by omega
                have nn : (!!false) = false := rfl
                (repeat (first | refine vgo ?_ | refine ⟨_, rfl, rfl, ?_⟩ | refine ⟨_, rfl, ?_⟩ | refine ⟨rfl, ?_⟩ | intro hb | refine go2 ?_ | refine WC.seq (fun K hK => ?_) | ((first | refine hK _ _ _ ?_ | refine hK _ _ _ _ rfl ?_ | refine WX.thenExit (K := K) ?_); clear hK K) | (refine WX.thenExit (K := KL) ?_; clear hL KL)))
                rw [hd1]
                refine CallV.by' (ih l3 v3) ?_; rintro _ _ _ ⟨a, u, ok4, bad4, l4, v4, rfl, rfl, rfl, hoa, t1, t2, t3⟩; (try simp only [List.cons_append]); (try simp only [List.nil_append])
                (repeat (first | refine vgo ?_ | refine ⟨_, rfl, rfl, ?_⟩ | refine ⟨_, rfl, ?_⟩ | refine ⟨rfl, ?_⟩ | intro hb | refine go2 ?_ | refine WC.seq (fun K hK => ?_) | ((first | refine hK _ _ _ ?_ | refine hK _ _ _ _ rfl ?_ | refine WX.thenExit (K := K) ?_); clear hK K) | (refine WX.thenExit (K := KL) ?_; clear hL KL)))
                refine WL.alloc rfl ?_; intro b9
                (repeat (first | refine vgo ?_ | refine ⟨_, rfl, rfl, ?_⟩ | refine ⟨_, rfl, ?_⟩ | refine ⟨rfl, ?_⟩ | intro hb | refine go2 ?_ | refine WC.seq (fun K hK => ?_) | ((first | refine hK _ _ _ ?_ | refine hK _ _ _ _ rfl ?_ | refine WX.thenExit (K := K) ?_); clear hK K) | (refine WX.thenExit (K := KL) ?_; clear hL KL)))
                have hst : ∀ a' r', pN (d + 1) l = some (a', r') → stD (d + 1) a' → ∃ y ry, pN d l3 = some (y, ry) ∧ stD d y := fun a' r' h hs => by
                  rw [hpn, p3, Option.bind_some] at h
                  dsimp only at h
                  rw [p4, Option.bind_some] at h
                  dsimp only at h
                  obtain ⟨q, hq, h2⟩ := bind_some2 h
                  cases h2
                  obtain ⟨qs, qr⟩ := q
                  cases hy : pN d l3 with
                  | none => rw [pL_fail p1 g hy] at hq; cases hq
                  | some y => exact ⟨y.1, y.2, rfl, hs.2 y.1 (pL_mem p1 g hy hq)⟩
                simp only [List.append_nil]
                refine (hL ⟨i + 1, ok4, ns ++ [a], vs ++ [ndV a.k a.n a.s a.f a.t u], hb, l4, v4, bad4⟩ ⟨g, by dsimp only; rw [List.length_append, hns]; rfl, t3, fun o1 _ => ?_, fun o a' r' h hs => ?_⟩ (by dsimp only; omega)).conv (.cons rfl (.cons rfl (.cons rfl (.cons rfl (.cons rfl (.cons rfl (.cons rfl .nil))))))) (fun w h => ?_)
                · obtain ⟨_, y1, y2⟩ := t1 o1
                  refine ⟨pL_snoc p1 y1, fun y hy => ?_, p3, p4, p5⟩
                  rcases List.mem_append.1 hy with hy | hy
                  · exact p2 y hy
                  · cases List.mem_singleton.1 hy; exact y2
                · obtain ⟨y, ry, y1, y2⟩ := hst a' r' h hs
                  refine t2 ?_ y ry y1 y2
                  dsimp only at o
                  rcases o with o | o
                  · exact o
                  · cases ok4 with
                    | false => rfl
                    | true => rw [(t1 rfl).1] at o; cases o
                · dsimp only
                  rw [flat_snoc, show (ndV a.k a.n a.s a.f a.t u).cells.toList = ndC a.k a.n a.s a.f a.t u from rfl]
                  have h2 := h.more (p := rdAll nodeT (ns ++ [a]) (vs ++ [ndV a.k a.n a.s a.f a.t u])) (fun m hm => AllR.snoc (hm (rdAll nodeT ns vs) InG.h) (node_mk hoa (hm (rd (Ty.sl nodeT) a.ar u) InG.h)))
                  exact h2.to
          · obtain rfl : i = cnt := by omega
            (repeat (first | refine vgo ?_ | refine ⟨_, rfl, rfl, ?_⟩ | refine ⟨_, rfl, ?_⟩ | refine ⟨rfl, ?_⟩ | intro hb | refine go2 ?_ | refine WC.seq (fun K hK => ?_) | ((first | refine hK _ _ _ ?_ | refine hK _ _ _ _ rfl ?_ | refine WX.thenExit (K := K) ?_); clear hK K) | (refine WX.thenExit (K := KL) ?_; clear hL KL)))
            subst hns
            cases ok3 with
            | false =>
              have hno := q3 (.inl rfl)
              refine WC.drawV (S := (own 58 12 sv ns.length (flat vs) :: box b6 58 (ndC (k : Int) n s f t sv) :: rdrBox b v3 bad3 :: Sf)) ([[box b4 58 ndZ]]) rfl (by repeat (first | exact Wo.nil | (apply Wo.keep; exact rfl) | (apply Wo.drop; exact rfl))) (fun w sw => by (try simp only [List.flatten_cons, List.flatten_nil, List.append_nil, List.cons_append, List.nil_append]); exact sw.to) ?_; (try dsimp only [chunks])
              (repeat refine ObP3.c0A ?_); try (refine ObP3.nil ?_; (repeat (intro _)); (conv => whnf); (try dsimp only [envO, List.cons_append, List.nil_append]))
              (apply ObP3.cons1 [] [1000]; (focus ((repeat (intro _)); (conv => whnf); (try dsimp only [envO, List.cons_append, List.nil_append]); (repeat (first | refine vgo ?_ | refine ⟨_, rfl, rfl, ?_⟩ | refine ⟨_, rfl, ?_⟩ | refine ⟨rfl, ?_⟩ | intro hb | refine go2 ?_ | refine WC.seq (fun K hK => ?_) | ((first | refine hK _ _ _ ?_ | refine hK _ _ _ _ rfl ?_ | refine WX.thenExit (K := K) ?_); clear hK K) | (refine WX.thenExit (K := KL) ?_; clear hL KL))); first | exact WX.pgHeadV rfl | exact WX.pgHead | exact WX.pgOwn rfl)); exact rfl)
              (repeat refine ObP3.c0B ?_); try (refine ObP3.nil ?_; (repeat (intro _)); (conv => whnf); (try dsimp only [envO, List.cons_append, List.nil_append]))
              (repeat (first | refine vgo ?_ | refine ⟨_, rfl, rfl, ?_⟩ | refine ⟨_, rfl, ?_⟩ | refine ⟨rfl, ?_⟩ | intro hb | refine go2 ?_ | refine WC.seq (fun K hK => ?_) | ((first | refine hK _ _ _ ?_ | refine hK _ _ _ _ rfl ?_ | refine WX.thenExit (K := K) ?_); clear hK K) | (refine WX.thenExit (K := KL) ?_; clear hL KL)))
              exact WX.retC2K (b := b4) rfl rfl rfl rfl (fun w sw => ⟨[rd (Ty.sl nodeT) ns sv, rd (Ty.sl Ty.u8) l3 v3], [rdrBox b v3 bad3], ⟨.mk (k : Int) n s f t ns, sv, false, bad3, l3, v3, rfl, rfl, rfl, hok, fun h => (by cases h), fun _ => hno, q1⟩, (sw.pubR (R := nodeT) (l := ns) (v := sv) (vs := vs) SelOwn.h rfl rfl rfl (fun mm hm => hm (rdAll nodeT ns vs) InG.h)).to⟩)
            | true =>
              cases bad3 with
              | true =>
                have hno := q3 (.inr rfl)
                refine WC.drawV (S := (own 58 12 sv ns.length (flat vs) :: box b6 58 (ndC (k : Int) n s f t sv) :: rdrBox b v3 true :: Sf)) ([[box b4 58 ndZ]]) rfl (by repeat (first | exact Wo.nil | (apply Wo.keep; exact rfl) | (apply Wo.drop; exact rfl))) (fun w sw => by (try simp only [List.flatten_cons, List.flatten_nil, List.append_nil, List.cons_append, List.nil_append]); exact sw.to) ?_; (try dsimp only [chunks])
                (repeat refine ObP3.c0A ?_); try (refine ObP3.nil ?_; (repeat (intro _)); (conv => whnf); (try dsimp only [envO, List.cons_append, List.nil_append]))
                (apply ObP3.cons1 [] [1000]; (focus ((repeat (intro _)); (conv => whnf); (try dsimp only [envO, List.cons_append, List.nil_append]); (repeat (first | refine vgo ?_ | refine ⟨_, rfl, rfl, ?_⟩ | refine ⟨_, rfl, ?_⟩ | refine ⟨rfl, ?_⟩ | intro hb | refine go2 ?_ | refine WC.seq (fun K hK => ?_) | ((first | refine hK _ _ _ ?_ | refine hK _ _ _ _ rfl ?_ | refine WX.thenExit (K := K) ?_); clear hK K) | (refine WX.thenExit (K := KL) ?_; clear hL KL))); first | exact WX.pgHeadV rfl | exact WX.pgHead | exact WX.pgOwn rfl)); exact rfl)
                (repeat refine ObP3.c0B ?_); try (refine ObP3.nil ?_; (repeat (intro _)); (conv => whnf); (try dsimp only [envO, List.cons_append, List.nil_append]))
                (repeat (first | refine vgo ?_ | refine ⟨_, rfl, rfl, ?_⟩ | refine ⟨_, rfl, ?_⟩ | refine ⟨rfl, ?_⟩ | intro hb | refine go2 ?_ | refine WC.seq (fun K hK => ?_) | ((first | refine hK _ _ _ ?_ | refine hK _ _ _ _ rfl ?_ | refine WX.thenExit (K := K) ?_); clear hK K) | (refine WX.thenExit (K := KL) ?_; clear hL KL)))
                exact WX.retC2K (b := b4) rfl rfl rfl rfl (fun w sw => ⟨[rd (Ty.sl nodeT) ns sv, rd (Ty.sl Ty.u8) l3 v3], [rdrBox b v3 true], ⟨.mk (k : Int) n s f t ns, sv, (!true), true, l3, v3, rfl, rfl, rfl, hok, fun h => (by cases h), fun _ => hno, q1⟩, (sw.pubR (R := nodeT) (l := ns) (v := sv) (vs := vs) SelOwn.h rfl rfl rfl (fun mm hm => hm (rdAll nodeT ns vs) InG.h)).to⟩)
              | false =>
                obtain ⟨p1, p2, p3, p4, p5⟩ := q2 rfl rfl
                have hy : pN (d + 1) l = some (.mk (k : Int) n s f t ns, l3) := by
                  rw [hpn, p3, Option.bind_some]
                  dsimp only
                  rw [p4, Option.bind_some]
                  dsimp only
                  rw [p1]
                  rfl
                refine WC.drawV (S := (own 58 12 sv ns.length (flat vs) :: box b6 58 (ndC (k : Int) n s f t sv) :: rdrBox b v3 false :: Sf)) ([[box b4 58 ndZ]]) rfl (by repeat (first | exact Wo.nil | (apply Wo.keep; exact rfl) | (apply Wo.drop; exact rfl))) (fun w sw => by (try simp only [List.flatten_cons, List.flatten_nil, List.append_nil, List.cons_append, List.nil_append]); exact sw.to) ?_; (try dsimp only [chunks])
                (repeat refine ObP3.c0A ?_); try (refine ObP3.nil ?_; (repeat (intro _)); (conv => whnf); (try dsimp only [envO, List.cons_append, List.nil_append]))
                (apply ObP3.cons1 [] [1000]; (focus ((repeat (intro _)); (conv => whnf); (try dsimp only [envO, List.cons_append, List.nil_append]); (repeat (first | refine vgo ?_ | refine ⟨_, rfl, rfl, ?_⟩ | refine ⟨_, rfl, ?_⟩ | refine ⟨rfl, ?_⟩ | intro hb | refine go2 ?_ | refine WC.seq (fun K hK => ?_) | ((first | refine hK _ _ _ ?_ | refine hK _ _ _ _ rfl ?_ | refine WX.thenExit (K := K) ?_); clear hK K) | (refine WX.thenExit (K := KL) ?_; clear hL KL))); first | exact WX.pgHeadV rfl | exact WX.pgHead | exact WX.pgOwn rfl)); exact rfl)
                (repeat refine ObP3.c0B ?_); try (refine ObP3.nil ?_; (repeat (intro _)); (conv => whnf); (try dsimp only [envO, List.cons_append, List.nil_append]))
                (repeat (first | refine vgo ?_ | refine ⟨_, rfl, rfl, ?_⟩ | refine ⟨_, rfl, ?_⟩ | refine ⟨rfl, ?_⟩ | intro hb | refine go2 ?_ | refine WC.seq (fun K hK => ?_) | ((first | refine hK _ _ _ ?_ | refine hK _ _ _ _ rfl ?_ | refine WX.thenExit (K := K) ?_); clear hK K) | (refine WX.thenExit (K := KL) ?_; clear hL KL)))
                exact WX.retC2K (b := b4) rfl rfl rfl rfl (fun w sw => ⟨[rd (Ty.sl nodeT) ns sv, rd (Ty.sl Ty.u8) l3 v3], [rdrBox b v3 false], ⟨.mk (k : Int) n s f t ns, sv, (!false), false, l3, v3, rfl, rfl, rfl, hok, fun _ => ⟨rfl, hy, p5, p2⟩, fun h => (by cases h), q1⟩, (sw.pubR (R := nodeT) (l := ns) (v := sv) (vs := vs) SelOwn.h rfl rfl rfl (fun mm hm => hm (rdAll nodeT ns vs) InG.h)).to⟩))
        clear hK
        by_cases k7 : (k : Int) = 7
        · have k7n : k = 7 := by omega
          (repeat (first | refine vgo ?_ | refine ⟨_, rfl, rfl, ?_⟩ | refine ⟨_, rfl, ?_⟩ | refine ⟨rfl, ?_⟩ | intro hb | refine go2 ?_ | refine WC.seq (fun K hK => ?_) | ((first | refine hK _ _ _ ?_ | refine hK _ _ _ _ rfl ?_ | refine WX.thenExit (K := K) ?_); clear hK K) | (refine WX.thenExit (K := KL) ?_; clear hL KL)))
          cases bad with
          | true =>
            obtain rfl := f1 rfl
            rw [intR_nil (m := 16) (by omega)]
            exact (hR2 0 true [] hb (by omega) (fun _ => rfl) (fun _ h => (by cases h)) (fun _ => f3 (.inr rfl))).conv (.cons rfl (.cons rfl (.cons rfl (.cons rfl (.cons rfl (.cons rfl .nil)))))) (fun w h => h.to)
          | false =>
            cases hc : intP 16 l1 with
            | none =>
              have e2 : intR 16 l1 false = (0, [], true) := intR_none hc
              rw [e2]
              refine (hR2 0 true [] hb (by omega) (fun _ => rfl) (fun _ h => (by cases h)) (fun o a' r' h hs => ?_)).conv (.cons rfl (.cons rfl (.cons rfl (.cons rfl (.cons rfl (.cons rfl .nil)))))) (fun w h => h.to)
              cases ok with
              | false => exact f3 (.inl rfl) a' r' h hs
              | true =>
                rw [hpn, (f2 rfl rfl).1, Option.bind_some] at h
                dsimp only at h
                rw [pC, if_pos k7n, hc] at h
                cases h
            | some q =>
              obtain ⟨c, l2⟩ := q
              obtain ⟨e2, hc16⟩ := intR_some hc
              have e2 : intR 16 l1 false = (c, l2, false) := e2
              rw [e2]
              refine (hR2 c false l2 hb hc16 (fun h => (by cases h)) (fun q1 q2 => ⟨(f2 q1 rfl).1, by rw [pC, if_pos k7n, hc], (f2 q1 rfl).2⟩) (fun o => f3 (o.elim .inl (fun h => (by cases h))))).conv (.cons rfl (.cons rfl (.cons rfl (.cons rfl (.cons rfl (.cons rfl .nil)))))) (fun w h => h.to)
        · have k7n : ¬ k = 7 := by omega
          (repeat (first | refine vgo ?_ | refine ⟨_, rfl, rfl, ?_⟩ | refine ⟨_, rfl, ?_⟩ | refine ⟨rfl, ?_⟩ | intro hb | refine go2 ?_ | refine WC.seq (fun K hK => ?_) | ((first | refine hK _ _ _ ?_ | refine hK _ _ _ _ rfl ?_ | refine WX.thenExit (K := K) ?_); clear hK K) | (refine WX.thenExit (K := KL) ?_; clear hL KL)))
          exact (hR2 (cntK k) bad l1 v1 (by unfold cntK; split; · omega
                                            split <;> omega) f1 (fun q1 q2 => ⟨(f2 q1 q2).1, by rw [pC, if_neg k7n], (f2 q1 q2).2⟩) f3).conv (.cons rfl (.cons rfl (.cons rfl (.cons rfl (.cons rfl (.cons rfl .nil)))))) (fun w h => h.to))
      clear hK
      have hnone : pB k r = none → ∀ a' r', pN (d + 1) l = some (a', r') → ¬ stD (d + 1) a' := fun e a' r' h => by rw [hpn, e] at h; cases h
      have hbad : ∀ (n : Int) (s : List UInt8) (f t : Ref2) (l1 : List UInt8), pB k r = some ((n, s, f, t), l1) → ¬ okF9 (.mk (k : Int) n s f t []) → ∀ a' r', pN (d + 1) l = some (a', r') → ¬ stD (d + 1) a' := fun n s f t l1 e hq a' r' h hs => by
        rw [hpn, e, Option.bind_some] at h
        obtain ⟨c, _, h2⟩ := bind_some2 h
        obtain ⟨q, _, h4⟩ := bind_some2 h2
        cases h4
        exact hq hs.1
      by_cases c1 : k = 1
      · have k1 : (k : Int) = 1 := by omega
        have hf9 : ∀ n s f t, okF9 (.mk (k : Int) n s f t []) := fun n s f t => ⟨fun h => (by have h : (k : Int) = 3 ∨ (k : Int) = 4 := h; omega), fun h => (by have h : (k : Int) = 4 := h; omega)⟩
        have hpk : pB k r = (numP r).bind fun p => some ((toI p.1, [], z2, z2), p.2) := by rw [pB, if_neg k0, if_pos c1]
        (repeat (first | refine vgo ?_ | refine ⟨_, rfl, rfl, ?_⟩ | refine ⟨_, rfl, ?_⟩ | refine ⟨rfl, ?_⟩ | intro hb | refine go2 ?_ | refine WC.seq (fun K hK => ?_) | ((first | refine hK _ _ _ ?_ | refine hK _ _ _ _ rfl ?_ | refine WX.thenExit (K := K) ?_); clear hK K) | (refine WX.thenExit (K := KL) ?_; clear hL KL)))
        cases hn : numP r with
        | none =>
          have hno := hnone (by rw [hpk, hn]; rfl)
          rw [numR_none hn]
          refine (hR (toI 0) [] z2 z2 true true [] hb (okBd_nd (b := (toI 0, [], z2, z2)) hk8 ⟨okI_toI 0, Nat.zero_le _, okz2, okz2⟩) (fun _ => rfl) (fun _ h => (by cases h)) (fun _ => hno)).conv (.cons rfl (.cons rfl (.cons rfl (.cons rfl (.cons rfl (.cons rfl .nil)))))) (fun w h => ?_)
          have h2 : Sat B (rd (Ty.sl Ty.u8) [] hb :: rd (Ty.sl nodeT) [] nlS :: rd (Ty.sl Ty.u8) l v :: Gf) (rdrBox b hb true :: box b6 58 (ndC (k : Int) (toI 0) [] z2 z2 nlS) :: box b4 58 ndZ :: Sf) w := by first | exact h.to | (have h3 : Sat B (rd (Ty.sl Ty.u8) [] hb :: _) (box b6 58 (ndC (k : Int) (toI 0) [] z2 z2 nlS) :: rdrBox b hb true :: box b4 58 ndZ :: Sf) w := h; exact h3.to)
          exact h2
        | some q =>
          obtain ⟨m, l1⟩ := q
          have hB : pB k r = some ((toI m, [], z2, z2), l1) := by rw [hpk, hn]; rfl
          rw [numR_some hn]
          refine (hR (toI m) [] z2 z2 true false l1 hb (okBd_nd (b := (toI m, [], z2, z2)) hk8 (pB_ok hB)) (fun h => (by cases h)) (fun _ _ => ⟨hB, hf9 _ _ _ _⟩) (fun h => absurd h (by decide))).conv (.cons rfl (.cons rfl (.cons rfl (.cons rfl (.cons rfl (.cons rfl .nil)))))) (fun w h => ?_)
          have h2 : Sat B (rd (Ty.sl Ty.u8) l1 hb :: rd (Ty.sl nodeT) [] nlS :: rd (Ty.sl Ty.u8) l v :: Gf) (rdrBox b hb false :: box b6 58 (ndC (k : Int) (toI m) [] z2 z2 nlS) :: box b4 58 ndZ :: Sf) w := by first | exact h.to | (have h3 : Sat B (rd (Ty.sl Ty.u8) l1 hb :: _) (box b6 58 (ndC (k : Int) (toI m) [] z2 z2 nlS) :: rdrBox b hb false :: box b4 58 ndZ :: Sf) w := h; exact h3.to)
          exact h2
      have k1 : ¬ (k : Int) = 1 := by omega
      by_cases c2 : k = 2 ∨ k = 6 ∨ k = 7
      · have hf9 : ∀ n s f t, okF9 (.mk (k : Int) n s f t []) := fun n s f t => ⟨fun h => (by have h : (k : Int) = 3 ∨ (k : Int) = 4 := h; omega), fun h => (by have h : (k : Int) = 4 := h; omega)⟩
        have hpk : pB k r = (bytP r).bind fun p => some ((0, p.1, z2, z2), p.2) := by rw [pB, if_neg k0, if_neg c1, if_pos c2]
        rcases c2 with c2 | c2 | c2
        · have k2 : (k : Int) = 2 := by omega
          (repeat (first | refine vgo ?_ | refine ⟨_, rfl, rfl, ?_⟩ | refine ⟨_, rfl, ?_⟩ | refine ⟨rfl, ?_⟩ | intro hb | refine go2 ?_ | refine WC.seq (fun K hK => ?_) | ((first | refine hK _ _ _ ?_ | refine hK _ _ _ _ rfl ?_ | refine WX.thenExit (K := K) ?_); clear hK K) | (refine WX.thenExit (K := KL) ?_; clear hL KL)))
          refine CallV.by' (text_fun b vr r false) ?_; rintro _ _ _ ⟨rfl, v2, rfl, rfl⟩; (try simp only [List.cons_append]); (try simp only [List.nil_append])
          (repeat (first | refine vgo ?_ | refine ⟨_, rfl, rfl, ?_⟩ | refine ⟨_, rfl, ?_⟩ | refine ⟨rfl, ?_⟩ | intro hb | refine go2 ?_ | refine WC.seq (fun K hK => ?_) | ((first | refine hK _ _ _ ?_ | refine hK _ _ _ _ rfl ?_ | refine WX.thenExit (K := K) ?_); clear hK K) | (refine WX.thenExit (K := KL) ?_; clear hL KL)))
          cases hn : bytP r with
          | none =>
            have hno := hnone (by rw [hpk, hn]; rfl)
            rw [bytR_none hn]
            refine (hR 0 [] z2 z2 true true [] v2 (okBd_nd (b := (0, [], z2, z2)) hk8 ⟨okI0, Nat.zero_le _, okz2, okz2⟩) (fun _ => rfl) (fun _ h => (by cases h)) (fun _ => hno)).conv (.cons rfl (.cons rfl (.cons rfl (.cons rfl (.cons rfl (.cons rfl .nil)))))) (fun w h => ?_)
            have h2 : Sat B (rd (Ty.sl Ty.u8) [] v2 :: rd (Ty.sl nodeT) [] nlS :: rd (Ty.sl Ty.u8) l v :: Gf) (rdrBox b v2 true :: box b6 58 (ndC (k : Int) 0 [] z2 z2 nlS) :: box b4 58 ndZ :: Sf) w := by first | exact h.to | (have h3 : Sat B (rd (Ty.sl Ty.u8) [] v2 :: _) (box b6 58 (ndC (k : Int) 0 [] z2 z2 nlS) :: rdrBox b v2 true :: box b4 58 ndZ :: Sf) w := h; exact h3.to)
            exact h2
          | some q =>
            obtain ⟨s1, l1⟩ := q
            have hB : pB k r = some ((0, s1, z2, z2), l1) := by rw [hpk, hn]; rfl
            rw [bytR_some hn]
            refine (hR 0 s1 z2 z2 true false l1 v2 (okBd_nd (b := (0, s1, z2, z2)) hk8 (pB_ok hB)) (fun h => (by cases h)) (fun _ _ => ⟨hB, hf9 _ _ _ _⟩) (fun h => absurd h (by decide))).conv (.cons rfl (.cons rfl (.cons rfl (.cons rfl (.cons rfl (.cons rfl .nil)))))) (fun w h => ?_)
            have h2 : Sat B (rd (Ty.sl Ty.u8) l1 v2 :: rd (Ty.sl nodeT) [] nlS :: rd (Ty.sl Ty.u8) l v :: Gf) (rdrBox b v2 false :: box b6 58 (ndC (k : Int) 0 s1 z2 z2 nlS) :: box b4 58 ndZ :: Sf) w := by first | exact h.to | (have h3 : Sat B (rd (Ty.sl Ty.u8) l1 v2 :: _) (box b6 58 (ndC (k : Int) 0 s1 z2 z2 nlS) :: rdrBox b v2 false :: box b4 58 ndZ :: Sf) w := h; exact h3.to)
            exact h2
        · have k2 : (k : Int) = 6 := by omega
          (repeat (first | refine vgo ?_ | refine ⟨_, rfl, rfl, ?_⟩ | refine ⟨_, rfl, ?_⟩ | refine ⟨rfl, ?_⟩ | intro hb | refine go2 ?_ | refine WC.seq (fun K hK => ?_) | ((first | refine hK _ _ _ ?_ | refine hK _ _ _ _ rfl ?_ | refine WX.thenExit (K := K) ?_); clear hK K) | (refine WX.thenExit (K := KL) ?_; clear hL KL)))
          refine CallV.by' (text_fun b vr r false) ?_; rintro _ _ _ ⟨rfl, v2, rfl, rfl⟩; (try simp only [List.cons_append]); (try simp only [List.nil_append])
          (repeat (first | refine vgo ?_ | refine ⟨_, rfl, rfl, ?_⟩ | refine ⟨_, rfl, ?_⟩ | refine ⟨rfl, ?_⟩ | intro hb | refine go2 ?_ | refine WC.seq (fun K hK => ?_) | ((first | refine hK _ _ _ ?_ | refine hK _ _ _ _ rfl ?_ | refine WX.thenExit (K := K) ?_); clear hK K) | (refine WX.thenExit (K := KL) ?_; clear hL KL)))
          cases hn : bytP r with
          | none =>
            have hno := hnone (by rw [hpk, hn]; rfl)
            rw [bytR_none hn]
            refine (hR 0 [] z2 z2 true true [] v2 (okBd_nd (b := (0, [], z2, z2)) hk8 ⟨okI0, Nat.zero_le _, okz2, okz2⟩) (fun _ => rfl) (fun _ h => (by cases h)) (fun _ => hno)).conv (.cons rfl (.cons rfl (.cons rfl (.cons rfl (.cons rfl (.cons rfl .nil)))))) (fun w h => ?_)
            have h2 : Sat B (rd (Ty.sl Ty.u8) [] v2 :: rd (Ty.sl nodeT) [] nlS :: rd (Ty.sl Ty.u8) l v :: Gf) (rdrBox b v2 true :: box b6 58 (ndC (k : Int) 0 [] z2 z2 nlS) :: box b4 58 ndZ :: Sf) w := by first | exact h.to | (have h3 : Sat B (rd (Ty.sl Ty.u8) [] v2 :: _) (box b6 58 (ndC (k : Int) 0 [] z2 z2 nlS) :: rdrBox b v2 true :: box b4 58 ndZ :: Sf) w := h; exact h3.to)
            exact h2
          | some q =>
            obtain ⟨s1, l1⟩ := q
            have hB : pB k r = some ((0, s1, z2, z2), l1) := by rw [hpk, hn]; rfl
            rw [bytR_some hn]
            refine (hR 0 s1 z2 z2 true false l1 v2 (okBd_nd (b := (0, s1, z2, z2)) hk8 (pB_ok hB)) (fun h => (by cases h)) (fun _ _ => ⟨hB, hf9 _ _ _ _⟩) (fun h => absurd h (by decide))).conv (.cons rfl (.cons rfl (.cons rfl (.cons rfl (.cons rfl (.cons rfl .nil)))))) (fun w h => ?_)
            have h2 : Sat B (rd (Ty.sl Ty.u8) l1 v2 :: rd (Ty.sl nodeT) [] nlS :: rd (Ty.sl Ty.u8) l v :: Gf) (rdrBox b v2 false :: box b6 58 (ndC (k : Int) 0 s1 z2 z2 nlS) :: box b4 58 ndZ :: Sf) w := by first | exact h.to | (have h3 : Sat B (rd (Ty.sl Ty.u8) l1 v2 :: _) (box b6 58 (ndC (k : Int) 0 s1 z2 z2 nlS) :: rdrBox b v2 false :: box b4 58 ndZ :: Sf) w := h; exact h3.to)
            exact h2
        · have k2 : (k : Int) = 7 := by omega
          (repeat (first | refine vgo ?_ | refine ⟨_, rfl, rfl, ?_⟩ | refine ⟨_, rfl, ?_⟩ | refine ⟨rfl, ?_⟩ | intro hb | refine go2 ?_ | refine WC.seq (fun K hK => ?_) | ((first | refine hK _ _ _ ?_ | refine hK _ _ _ _ rfl ?_ | refine WX.thenExit (K := K) ?_); clear hK K) | (refine WX.thenExit (K := KL) ?_; clear hL KL)))
          refine CallV.by' (text_fun b vr r false) ?_; rintro _ _ _ ⟨rfl, v2, rfl, rfl⟩; (try simp only [List.cons_append]); (try simp only [List.nil_append])
          (repeat (first | refine vgo ?_ | refine ⟨_, rfl, rfl, ?_⟩ | refine ⟨_, rfl, ?_⟩ | refine ⟨rfl, ?_⟩ | intro hb | refine go2 ?_ | refine WC.seq (fun K hK => ?_) | ((first | refine hK _ _ _ ?_ | refine hK _ _ _ _ rfl ?_ | refine WX.thenExit (K := K) ?_); clear hK K) | (refine WX.thenExit (K := KL) ?_; clear hL KL)))
          cases hn : bytP r with
          | none =>
            have hno := hnone (by rw [hpk, hn]; rfl)
            rw [bytR_none hn]
            refine (hR 0 [] z2 z2 true true [] v2 (okBd_nd (b := (0, [], z2, z2)) hk8 ⟨okI0, Nat.zero_le _, okz2, okz2⟩) (fun _ => rfl) (fun _ h => (by cases h)) (fun _ => hno)).conv (.cons rfl (.cons rfl (.cons rfl (.cons rfl (.cons rfl (.cons rfl .nil)))))) (fun w h => ?_)
            have h2 : Sat B (rd (Ty.sl Ty.u8) [] v2 :: rd (Ty.sl nodeT) [] nlS :: rd (Ty.sl Ty.u8) l v :: Gf) (rdrBox b v2 true :: box b6 58 (ndC (k : Int) 0 [] z2 z2 nlS) :: box b4 58 ndZ :: Sf) w := by first | exact h.to | (have h3 : Sat B (rd (Ty.sl Ty.u8) [] v2 :: _) (box b6 58 (ndC (k : Int) 0 [] z2 z2 nlS) :: rdrBox b v2 true :: box b4 58 ndZ :: Sf) w := h; exact h3.to)
            exact h2
          | some q =>
            obtain ⟨s1, l1⟩ := q
            have hB : pB k r = some ((0, s1, z2, z2), l1) := by rw [hpk, hn]; rfl
            rw [bytR_some hn]
            refine (hR 0 s1 z2 z2 true false l1 v2 (okBd_nd (b := (0, s1, z2, z2)) hk8 (pB_ok hB)) (fun h => (by cases h)) (fun _ _ => ⟨hB, hf9 _ _ _ _⟩) (fun h => absurd h (by decide))).conv (.cons rfl (.cons rfl (.cons rfl (.cons rfl (.cons rfl (.cons rfl .nil)))))) (fun w h => ?_)
            have h2 : Sat B (rd (Ty.sl Ty.u8) l1 v2 :: rd (Ty.sl nodeT) [] nlS :: rd (Ty.sl Ty.u8) l v :: Gf) (rdrBox b v2 false :: box b6 58 (ndC (k : Int) 0 s1 z2 z2 nlS) :: box b4 58 ndZ :: Sf) w := by first | exact h.to | (have h3 : Sat B (rd (Ty.sl Ty.u8) l1 v2 :: _) (box b6 58 (ndC (k : Int) 0 s1 z2 z2 nlS) :: rdrBox b v2 false :: box b4 58 ndZ :: Sf) w := h; exact h3.to)
            exact h2
      have k2 : ¬ (k : Int) = 2 := by omega
      have k6 : ¬ (k : Int) = 6 := by omega
      have k7 : ¬ (k : Int) = 7 := by omega
      by_cases c3 : k = 3
      · have k3 : (k : Int) = 3 := by omega
        have k4 : ¬ (k : Int) = 4 := by omega
        have hpk : pB k r = (rfP r).bind fun p => some ((0, [], p.1, z2), p.2) := by rw [pB, if_neg k0, if_neg c1, if_neg c2, if_pos c3]
        (repeat (first | refine vgo ?_ | refine ⟨_, rfl, rfl, ?_⟩ | refine ⟨_, rfl, ?_⟩ | refine ⟨rfl, ?_⟩ | intro hb | refine go2 ?_ | refine WC.seq (fun K hK => ?_) | ((first | refine hK _ _ _ ?_ | refine hK _ _ _ _ rfl ?_ | refine WX.thenExit (K := K) ?_); clear hK K) | (refine WX.thenExit (K := KL) ?_; clear hL KL)))
        refine CallV.by' (takeRef2_fun b vr r false (fun h => (by cases h))) ?_; rintro _ _ _ ⟨x, l1, v1, bad1, rfl, rfl, rfl, hox, x1, x2⟩; (try simp only [List.cons_append]); (try simp only [List.nil_append])
        (repeat (first | refine vgo ?_ | refine ⟨_, rfl, rfl, ?_⟩ | refine ⟨_, rfl, ?_⟩ | refine ⟨rfl, ?_⟩ | intro hb | refine go2 ?_ | refine WC.seq (fun K hK => ?_) | ((first | refine hK _ _ _ ?_ | refine hK _ _ _ _ rfl ?_ | refine WX.thenExit (K := K) ?_); clear hK K) | (refine WX.thenExit (K := KL) ?_; clear hL KL)))
        have hno1 : bad1 = true → ∀ a' r', pN (d + 1) l = some (a', r') → ¬ stD (d + 1) a' := fun hb1 => hnone (by
          rcases (x1 hb1).2 with h | h
          · cases h
          · rw [hpk, h]; rfl)
        have hB : bad1 = false → pB k r = some ((0, [], x, z2), l1) := fun hb1 => by rw [hpk, (x2 hb1).2]; rfl
        have hno2 : decide (R2 x) = false → ∀ a' r', pN (d + 1) l = some (a', r') → ¬ stD (d + 1) a' := fun hx => by
          cases hb1 : bad1 with
          | true => exact hno1 hb1
          | false => exact hbad _ _ _ _ _ (hB hb1) (fun h => of_decide_eq_false hx (h.1 (.inl k3)))
        refine (hR 0 [] x z2 (decide (R2 x)) bad1 l1 v1 (okBd_nd (b := (0, [], x, z2)) hk8 ⟨okI0, Nat.zero_le _, hox, okz2⟩) (fun h => (x1 h).1) (fun o hb1 => ⟨hB hb1, fun _ => of_decide_eq_true o, fun h => absurd h k4⟩) (fun o => o.elim hno2 hno1)).conv (.cons rfl (.cons rfl (.cons rfl (.cons rfl (.cons rfl (.cons rfl .nil)))))) (fun w h => ?_)
        have h3 : Sat B (rd (Ty.sl Ty.u8) l1 v1 :: _) (box b6 58 (ndC (k : Int) 0 [] x z2 nlS) :: rdrBox b v1 bad1 :: box b4 58 ndZ :: Sf) w := h
        exact h3.to
      have k3 : ¬ (k : Int) = 3 := by omega
      by_cases c4 : k = 4
      · have k4 : (k : Int) = 4 := by omega
        have hpk : pB k r = (rfP r).bind fun p => (rfP p.2).bind fun q => some ((0, [], p.1, q.1), q.2) := by rw [pB, if_neg k0, if_neg c1, if_neg c2, if_neg c3, if_pos c4]
        (repeat (first | refine vgo ?_ | refine ⟨_, rfl, rfl, ?_⟩ | refine ⟨_, rfl, ?_⟩ | refine ⟨rfl, ?_⟩ | intro hb | refine go2 ?_ | refine WC.seq (fun K hK => ?_) | ((first | refine hK _ _ _ ?_ | refine hK _ _ _ _ rfl ?_ | refine WX.thenExit (K := K) ?_); clear hK K) | (refine WX.thenExit (K := KL) ?_; clear hL KL)))
        refine CallV.by' (takeRef2_fun b vr r false (fun h => (by cases h))) ?_; rintro _ _ _ ⟨x, l1, v1, bad1, rfl, rfl, rfl, hox, x1, x2⟩; (try simp only [List.cons_append]); (try simp only [List.nil_append])
        have hn1 : bad1 = true → rfP r = none := fun hb1 => (x1 hb1).2.elim (fun h => by cases h) id
        by_cases q : R2 x
        · have hd : decide (R2 x) = true := decide_eq_true q
          (repeat (first | refine vgo ?_ | refine ⟨_, rfl, rfl, ?_⟩ | refine ⟨_, rfl, ?_⟩ | refine ⟨rfl, ?_⟩ | intro hb | refine go2 ?_ | refine WC.seq (fun K hK => ?_) | ((first | refine hK _ _ _ ?_ | refine hK _ _ _ _ rfl ?_ | refine WX.thenExit (K := K) ?_); clear hK K) | (refine WX.thenExit (K := KL) ?_; clear hL KL)))
          refine CallV.by' (takeRef2_fun b v1 l1 bad1 (fun h => (x1 h).1)) ?_; rintro _ _ _ ⟨y, l2, v2, bad2, rfl, rfl, rfl, hoy, y1, y2⟩; (try simp only [List.cons_append]); (try simp only [List.nil_append])
          (repeat (first | refine vgo ?_ | refine ⟨_, rfl, rfl, ?_⟩ | refine ⟨_, rfl, ?_⟩ | refine ⟨rfl, ?_⟩ | intro hb | refine go2 ?_ | refine WC.seq (fun K hK => ?_) | ((first | refine hK _ _ _ ?_ | refine hK _ _ _ _ rfl ?_ | refine WX.thenExit (K := K) ?_); clear hK K) | (refine WX.thenExit (K := KL) ?_; clear hL KL)))
          have hno1 : bad2 = true → ∀ a' r', pN (d + 1) l = some (a', r') → ¬ stD (d + 1) a' := fun hb1 => hnone (by
            cases hb2 : bad1 with
            | true => rw [hpk, hn1 hb2]; rfl
            | false =>
              rw [hpk, (x2 hb2).2, Option.bind_some]
              rcases (y1 hb1).2 with h | h
              · rw [hb2] at h; cases h
              · dsimp only; rw [h]; rfl)
          have hB : bad2 = false → pB k r = some ((0, [], x, y), l2) := fun hb1 => by
            rw [hpk, (x2 (y2 hb1).1).2, Option.bind_some]
            dsimp only
            rw [(y2 hb1).2]
            rfl
          have hno2 : decide (R2 y) = false → ∀ a' r', pN (d + 1) l = some (a', r') → ¬ stD (d + 1) a' := fun hx => by
            cases hb1 : bad2 with
            | true => exact hno1 hb1
            | false => exact hbad _ _ _ _ _ (hB hb1) (fun h => of_decide_eq_false hx (h.2 k4))
          refine (hR 0 [] x y (decide (R2 y)) bad2 l2 v2 (okBd_nd (b := (0, [], x, y)) hk8 ⟨okI0, Nat.zero_le _, hox, hoy⟩) (fun h => (y1 h).1) (fun o hb1 => ⟨hB hb1, fun _ => q, fun _ => of_decide_eq_true o⟩) (fun o => o.elim hno2 hno1)).conv (.cons rfl (.cons rfl (.cons rfl (.cons rfl (.cons rfl (.cons rfl .nil)))))) (fun w h => ?_)
          have h3 : Sat B (rd (Ty.sl Ty.u8) l2 v2 :: _) (box b6 58 (ndC (k : Int) 0 [] x y nlS) :: rdrBox b v2 bad2 :: box b4 58 ndZ :: Sf) w := h
          exact h3.to
        · have hd : decide (R2 x) = false := decide_eq_false q
          (repeat (first | refine vgo ?_ | refine ⟨_, rfl, rfl, ?_⟩ | refine ⟨_, rfl, ?_⟩ | refine ⟨rfl, ?_⟩ | intro hb | refine go2 ?_ | refine WC.seq (fun K hK => ?_) | ((first | refine hK _ _ _ ?_ | refine hK _ _ _ _ rfl ?_ | refine WX.thenExit (K := K) ?_); clear hK K) | (refine WX.thenExit (K := KL) ?_; clear hL KL)))
          rw [hd]
          have hno : ∀ a' r', pN (d + 1) l = some (a', r') → ¬ stD (d + 1) a' := by
            cases hb2 : bad1 with
            | true => exact hnone (by rw [hpk, hn1 hb2]; rfl)
            | false =>
              cases hq : rfP l1 with
              | none => exact hnone (by rw [hpk, (x2 hb2).2, Option.bind_some]; dsimp only; rw [hq]; rfl)
              | some y => exact hbad 0 [] x y.1 y.2 (by rw [hpk, (x2 hb2).2, Option.bind_some]; dsimp only; rw [hq]; rfl) (fun h => q (h.1 (.inr k4)))
          refine (hR 0 [] x z2 false bad1 l1 v1 (okBd_nd (b := (0, [], x, z2)) hk8 ⟨okI0, Nat.zero_le _, hox, okz2⟩) (fun h => (x1 h).1) (fun o _ => (by cases o)) (fun _ => hno)).conv (.cons rfl (.cons rfl (.cons rfl (.cons rfl (.cons rfl (.cons rfl .nil)))))) (fun w h => ?_)
          have h3 : Sat B (rd (Ty.sl Ty.u8) l1 v1 :: _) (box b6 58 (ndC (k : Int) 0 [] x z2 nlS) :: rdrBox b v1 bad1 :: box b4 58 ndZ :: Sf) w := h
          exact h3.to
      have k4 : ¬ (k : Int) = 4 := by omega
      have hf9 : ∀ n s f t, okF9 (.mk (k : Int) n s f t []) := fun n s f t => ⟨fun h => (by have h : (k : Int) = 3 ∨ (k : Int) = 4 := h; omega), fun h => (by have h : (k : Int) = 4 := h; omega)⟩
      have hB : pB k r = some ((0, [], z2, z2), r) := by rw [pB, if_neg k0, if_neg c1, if_neg c2, if_neg c3, if_neg c4]
      (repeat (first | refine vgo ?_ | refine ⟨_, rfl, rfl, ?_⟩ | refine ⟨_, rfl, ?_⟩ | refine ⟨rfl, ?_⟩ | intro hb | refine go2 ?_ | refine WC.seq (fun K hK => ?_) | ((first | refine hK _ _ _ ?_ | refine hK _ _ _ _ rfl ?_ | refine WX.thenExit (K := K) ?_); clear hK K) | (refine WX.thenExit (K := KL) ?_; clear hL KL)))
      refine (hR 0 [] z2 z2 true false r vr (okBd_nd (b := (0, [], z2, z2)) hk8 (pB_ok hB)) (fun h => (by cases h)) (fun _ _ => ⟨hB, hf9 _ _ _ _⟩) (fun h => absurd h (by decide))).conv (.cons rfl (.cons rfl (.cons rfl (.cons rfl (.cons rfl (.cons rfl .nil)))))) (fun w h => ?_)
      have h2 : Sat B (rd (Ty.sl Ty.u8) r vr :: rd (Ty.sl nodeT) [] nlS :: rd (Ty.sl Ty.u8) l v :: Gf) (rdrBox b vr false :: box b6 58 (ndC (k : Int) 0 [] z2 z2 nlS) :: box b4 58 ndZ :: Sf) w := by first | exact h.to | (have h3 : Sat B (rd (Ty.sl Ty.u8) r vr :: _) (box b6 58 (ndC (k : Int) 0 [] z2 z2 nlS) :: rdrBox b vr false :: box b4 58 ndZ :: Sf) w := h; exact h3.to)
      exact h2
end
/-! ### Numbers whose sign lies in their last bit. -/
section
open Go
def zzI (m : Nat) : Int := if m % 2 = 1 then 0 - ((m / 2 : Nat) : Int) - 1 else ((m / 2 : Nat) : Int)
theorem xor_ones {a : Nat} (ha : a < 18446744073709551616) : a ^^^ 18446744073709551615 = 18446744073709551615 - a := by
  have h := congrArg BitVec.toNat (BitVec.xor_allOnes (x := BitVec.ofNat 64 a))
  rw [BitVec.toNat_xor, BitVec.toNat_not, BitVec.toNat_ofNat, BitVec.toNat_allOnes, Nat.mod_eq_of_lt ha] at h
  exact h
theorem zz_eq {m : Nat} (hm : m < 18446744073709551616) : IntKind.i64.wrap (bits .xor .u64 ((m : Int) / 2 ^ Int.toNat 1) (IntKind.u64.wrap (-bits .and .u64 (m : Int) 1))) = zzI m := by
  have e1 : bits .and .u64 (m : Int) 1 = ((m % 2 : Nat) : Int) := by
    have h := bits_and_n .u64 m 1 hm (by decide)
    rw [Nat.and_one_is_mod, wrap_u64' (by omega)] at h
    exact h
  have e2 : (m : Int) / 2 ^ Int.toNat 1 = ((m / 2 : Nat) : Int) := by
    rw [show (2 : Int) ^ Int.toNat 1 = 2 from rfl]
    omega
  rw [e1, e2, zzI]
  rcases Nat.mod_two_eq_zero_or_one m with h | h
  · rw [h, if_neg (by decide), show IntKind.u64.wrap (-((0 : Nat) : Int)) = ((0 : Nat) : Int) from by decide, bits_xor_n .u64 (m / 2) 0 (Nat.lt_of_le_of_lt (Nat.div_le_self m 2) hm) (by decide), Nat.xor_zero, wrap_u64' (by omega)]
    simp only [IntKind.wrap, IntKind.bits, IntKind.signed]
    simp
    omega
  · rw [h, if_pos rfl, show IntKind.u64.wrap (-((1 : Nat) : Int)) = ((18446744073709551615 : Nat) : Int) from by decide, bits_xor_n .u64 (m / 2) 18446744073709551615 (Nat.lt_of_le_of_lt (Nat.div_le_self m 2) hm) (by decide), xor_ones (by omega), wrap_u64' (by omega)]
    simp only [IntKind.wrap, IntKind.bits, IntKind.signed]
    simp
    omega
end
/-! ### Formulas and contents taken from bytes: the program's own. -/
section
open Go Go.Proofs
noncomputable def bkP (l : List UInt8) : Option (Nd × List UInt8) := (pN 64 l).bind fun p => if tRd 64 p.1 ∧ stD 64 p.1 then some p else none
def TbR (l : List UInt8) (b : Nat) (z : Value) (G : List Pers) (S : List Res) : Prop := ∃ (a : Nd) (u : Value) (bad : Bool) (l' : List UInt8) (v' : Value), z = .tuple #[ndV a.k a.n a.s a.f a.t u, .bool (bkP l).isSome] ∧ G = [rd (Ty.sl nodeT) a.ar u, rd (Ty.sl Ty.u8) l' v'] ∧ S = [rdrBox b v' bad] ∧ (bkP l = none → a = zNt) ∧ (∀ a0 r0, bkP l = some (a0, r0) → a = a0 ∧ l' = r0 ∧ bad = false)
set_option maxRecDepth 100000 in
set_option maxHeartbeats 1600000 in
theorem bTake_fun (b : Nat) (l : List UInt8) (v : Value) : Fun Tryz.prog 55 [.pointer (some ⟨b, 0, none⟩)] [rd (Ty.sl Ty.u8) l v] [rdrBox b v false] (TbR l b) := by
  refine Fun.enter Tryz.func55 (by kernel_rfl) rfl Tryz.ntmps55 rfl (fun B Gf Sf => ?_); (try simp only [List.cons_append]); (try simp only [List.nil_append]); simp only [argEnv]
  refine WC.sat (fun w sw => sw.rdNil (nodeT)) ?_
  (repeat (first | refine vgo ?_ | refine ⟨_, rfl, rfl, ?_⟩ | refine ⟨_, rfl, ?_⟩ | refine ⟨rfl, ?_⟩ | intro hb | refine go2 ?_ | refine WC.seq (fun K hK => ?_) | ((first | refine hK _ _ _ ?_ | refine hK _ _ _ _ rfl ?_ | refine WX.thenExit (K := K) ?_); clear hK K) | (refine WX.thenExit (K := KL) ?_; clear hL KL)))
  refine WL.alloc rfl ?_; intro b4
  (repeat (first | refine vgo ?_ | refine ⟨_, rfl, rfl, ?_⟩ | refine ⟨_, rfl, ?_⟩ | refine ⟨rfl, ?_⟩ | intro hb | refine go2 ?_ | refine WC.seq (fun K hK => ?_) | ((first | refine hK _ _ _ ?_ | refine hK _ _ _ _ rfl ?_ | refine WX.thenExit (K := K) ?_); clear hK K) | (refine WX.thenExit (K := KL) ?_; clear hL KL)))
  refine CallV.by' (btake_fun 64 (by omega) b l v) ?_; rintro _ _ _ ⟨a, u, ok, bad, l', v', rfl, rfl, rfl, hoa, x1, x2, x3⟩; (try simp only [List.cons_append]); (try simp only [List.nil_append])
  (repeat (first | refine vgo ?_ | refine ⟨_, rfl, rfl, ?_⟩ | refine ⟨_, rfl, ?_⟩ | refine ⟨rfl, ?_⟩ | intro hb | refine go2 ?_ | refine WC.seq (fun K hK => ?_) | ((first | refine hK _ _ _ ?_ | refine hK _ _ _ _ rfl ?_ | refine WX.thenExit (K := K) ?_); clear hK K) | (refine WX.thenExit (K := KL) ?_; clear hL KL)))
  refine WL.alloc rfl ?_; intro b5
  have hl : a.s.length ≤ maxLen := hoa.2.2.1
  have nt : (!true) = false := rfl
  have nf : (!false) = true := rfl
  cases ok with
  | false =>
    have hno : bkP l = none := by
      cases hp : pN 64 l with
      | none => rw [bkP, hp]; rfl
      | some p => rw [bkP, hp, Option.bind_some, if_neg (fun h => x2 rfl p.1 p.2 hp h.2)]
    (repeat (first | refine vgo ?_ | refine ⟨_, rfl, rfl, ?_⟩ | refine ⟨_, rfl, ?_⟩ | refine ⟨rfl, ?_⟩ | intro hb | refine go2 ?_ | refine WC.seq (fun K hK => ?_) | ((first | refine hK _ _ _ ?_ | refine hK _ _ _ _ rfl ?_ | refine WX.thenExit (K := K) ?_); clear hK K) | (refine WX.thenExit (K := KL) ?_; clear hL KL)))
    exact WX.retC2K (b := b4) rfl rfl rfl rfl (fun w sw => ⟨[rd (Ty.sl nodeT) [] nlS, rd (Ty.sl Ty.u8) l' v'], [rdrBox b v' bad], ⟨zNt, nlS, bad, l', v', by rw [hno]; rfl, rfl, rfl, fun _ => rfl, fun a0 r0 h => by rw [hno] at h; cases h⟩, sw.to⟩)
  | true =>
    obtain ⟨rfl, y1, y2⟩ := x1 rfl
    by_cases g : tRd 64 a
    · have hyes : bkP l = some (a, l') := by rw [bkP, y1, Option.bind_some, if_pos ⟨g, y2⟩]
      (repeat (first | refine vgo ?_ | refine ⟨_, rfl, rfl, ?_⟩ | refine ⟨_, rfl, ?_⟩ | refine ⟨rfl, ?_⟩ | intro hb | refine go2 ?_ | refine WC.seq (fun K hK => ?_) | ((first | refine hK _ _ _ ?_ | refine hK _ _ _ _ rfl ?_ | refine WX.thenExit (K := K) ?_); clear hK K) | (refine WX.thenExit (K := KL) ?_; clear hL KL)))
      exact WX.retC2K (b := b4) rfl rfl rfl rfl (fun w sw => ⟨[rd (Ty.sl nodeT) a.ar u, rd (Ty.sl Ty.u8) l' v'], [rdrBox b v' false], ⟨a, u, false, l', v', by rw [hyes]; rfl, rfl, rfl, fun h => (by rw [hyes] at h; cases h), fun a0 r0 h => by rw [hyes] at h; cases h; exact ⟨rfl, rfl, rfl⟩⟩, sw.to⟩)
    · have hno : bkP l = none := by rw [bkP, y1, Option.bind_some, if_neg (fun h => g h.1)]
      (repeat (first | refine vgo ?_ | refine ⟨_, rfl, rfl, ?_⟩ | refine ⟨_, rfl, ?_⟩ | refine ⟨rfl, ?_⟩ | intro hb | refine go2 ?_ | refine WC.seq (fun K hK => ?_) | ((first | refine hK _ _ _ ?_ | refine hK _ _ _ _ rfl ?_ | refine WX.thenExit (K := K) ?_); clear hK K) | (refine WX.thenExit (K := KL) ?_; clear hL KL)))
      exact WX.retC2K (b := b4) rfl rfl rfl rfl (fun w sw => ⟨[rd (Ty.sl nodeT) [] nlS, rd (Ty.sl Ty.u8) l' v'], [rdrBox b v' false], ⟨zNt, nlS, false, l', v', by rw [hno]; rfl, rfl, rfl, fun _ => rfl, fun a0 r0 h => by rw [hno] at h; cases h⟩, sw.to⟩)
theorem bkP_sm {l r : List UInt8} {a : Nd} (h : bkP l = some (a, r)) : smN 16 64 a ∧ tRd 64 a ∧ stD 64 a := by
  obtain ⟨p, h1, h2⟩ := bind_some2 h
  split at h2
  · rename_i g
    cases h2
    exact ⟨pN_sm h1, g⟩
  · cases h2
theorem sm_zNt : smN 16 64 zNt := ⟨⟨okI0, okI0, Nat.zero_le _, okz2.1, okz2.1, okz2.1, okz2.1⟩, Nat.zero_le _, fun x hx => by cases hx⟩
abbrev Ctt := Int × Int × List UInt8 × Nd
abbrev cD (c : Ctt) : OpD := ⟨0, 0, 0, [], 0, (0, 0), (0, 0), c.1, c.2.1, c.2.2.1, c.2.2.2⟩
abbrev zCt : Ctt := (0, 0, [], zNt)
noncomputable def pCt (l : List UInt8) : Option (Ctt × List UInt8) := (intP 3 l).bind fun k => if k.1 = 0 then some (zCt, k.2) else if k.1 = 1 then (numP k.2).bind fun p => some ((1, zzI p.1, [], zNt), p.2)
  else if k.1 = 2 then (bytP k.2).bind fun p => if p.1.length ≤ 256 then some ((2, 0, p.1, zNt), p.2) else none
  else (bkP k.2).bind fun p => some ((3, 0, [], p.1), p.2)
theorem numP_nil : numP [] = none := rfl
theorem pCt_nil : pCt [] = none := by rw [pCt, intP, numP_nil]; rfl
def TcR (l : List UInt8) (b : Nat) (z : Value) (G : List Pers) (S : List Res) : Prop := ∃ (c : Ctt) (u : Value) (bad : Bool) (l' : List UInt8) (v' : Value), z = .tuple #[contV (cD c) u, .bool (pCt l).isSome] ∧ G = [rd (Ty.sl nodeT) c.2.2.2.ar u, rd (Ty.sl Ty.u8) l' v'] ∧ S = [rdrBox b v' bad] ∧ (pCt l = none → c = zCt) ∧ (∀ c0 r0, pCt l = some (c0, r0) → c = c0 ∧ l' = r0 ∧ bad = false)
theorem TcR.no {l l' : List UInt8} {b : Nat} {v' : Value} {bad : Bool} (h : pCt l = none) : TcR l b (.tuple #[contV (cD zCt) nlS, .bool false]) [rd (Ty.sl nodeT) [] nlS, rd (Ty.sl Ty.u8) l' v'] [rdrBox b v' bad] :=
  ⟨zCt, nlS, bad, l', v', by rw [h]; rfl, rfl, rfl, fun _ => rfl, fun c0 r0 q => by rw [h] at q; cases q⟩
theorem TcR.yes {l l' : List UInt8} {b : Nat} {u v' : Value} {c : Ctt} (h : pCt l = some (c, l')) : TcR l b (.tuple #[contV (cD c) u, .bool true]) [rd (Ty.sl nodeT) c.2.2.2.ar u, rd (Ty.sl Ty.u8) l' v'] [rdrBox b v' false] :=
  ⟨c, u, false, l', v', by rw [h]; rfl, rfl, rfl, fun q => (by rw [h] at q; cases q), fun c0 r0 q => by rw [h] at q; cases q; exact ⟨rfl, rfl, rfl⟩⟩
set_option maxRecDepth 100000 in
set_option maxHeartbeats 3200000 in
theorem cTake_fun (b : Nat) (l : List UInt8) (v : Value) (bad0 : Bool) (h0 : bad0 = true → l = []) : Fun Tryz.prog 36 [.pointer (some ⟨b, 0, none⟩)] [rd (Ty.sl Ty.u8) l v] [rdrBox b v bad0] (TcR l b) := by
  refine Fun.enter Tryz.func36 (by kernel_rfl) rfl Tryz.ntmps36 rfl (fun B Gf Sf => ?_); (try simp only [List.cons_append]); (try simp only [List.nil_append]); simp only [argEnv]
  refine WC.sat (fun w sw => sw.rdNil (nodeT)) ?_
  (repeat (first | refine vgo ?_ | refine ⟨_, rfl, rfl, ?_⟩ | refine ⟨_, rfl, ?_⟩ | refine ⟨rfl, ?_⟩ | intro hb | refine go2 ?_ | refine WC.seq (fun K hK => ?_) | ((first | refine hK _ _ _ ?_ | refine hK _ _ _ _ rfl ?_ | refine WX.thenExit (K := K) ?_); clear hK K) | (refine WX.thenExit (K := KL) ?_; clear hL KL)))
  refine WL.alloc rfl ?_; intro b4
  (repeat (first | refine vgo ?_ | refine ⟨_, rfl, rfl, ?_⟩ | refine ⟨_, rfl, ?_⟩ | refine ⟨rfl, ?_⟩ | intro hb | refine go2 ?_ | refine WC.seq (fun K hK => ?_) | ((first | refine hK _ _ _ ?_ | refine hK _ _ _ _ rfl ?_ | refine WX.thenExit (K := K) ?_); clear hK K) | (refine WX.thenExit (K := KL) ?_; clear hL KL)))
  have nt : (!true) = false := rfl
  have nf : (!false) = true := rfl
  have hcase : (intR 3 l bad0 = (0, [], true) ∧ pCt l = none) ∨ ∃ k r, intR 3 l bad0 = (k, r, false) ∧ intP 3 l = some (k, r) ∧ k ≤ 3 := by
    cases bad0 with
    | true => obtain rfl := h0 rfl; exact .inl ⟨intR_nil (by omega), pCt_nil⟩
    | false =>
      cases hk : intP 3 l with
      | none => exact .inl ⟨intR_none hk, by rw [pCt, hk]; rfl⟩
      | some p =>
        obtain ⟨e, h⟩ := intR_some hk
        exact .inr ⟨p.1, p.2, e, rfl, h⟩
  rcases hcase with ⟨e, hno⟩ | ⟨k, r, e, hk, hk3⟩
  · rw [e]
    dsimp only
    refine WL.alloc rfl ?_; intro b6
    have nnt : (!!true) = true := rfl
    (repeat (first | refine vgo ?_ | refine ⟨_, rfl, rfl, ?_⟩ | refine ⟨_, rfl, ?_⟩ | refine ⟨rfl, ?_⟩ | intro hb | refine go2 ?_ | refine WC.seq (fun K hK => ?_) | ((first | refine hK _ _ _ ?_ | refine hK _ _ _ _ rfl ?_ | refine WX.thenExit (K := K) ?_); clear hK K) | (refine WX.thenExit (K := KL) ?_; clear hL KL)))
    exact WX.retC2K (b := b4) rfl rfl rfl rfl (fun w sw => ⟨[rd (Ty.sl nodeT) [] nlS, rd (Ty.sl Ty.u8) [] hb], [rdrBox b hb true], TcR.no hno, sw.to⟩)
  rw [e]
  dsimp only
  refine WL.alloc rfl ?_; intro b6
  revert hb
  intro vr
  (repeat (first | refine vgo ?_ | refine ⟨_, rfl, rfl, ?_⟩ | refine ⟨_, rfl, ?_⟩ | refine ⟨rfl, ?_⟩ | intro hb | refine go2 ?_ | refine WC.seq (fun K hK => ?_) | ((first | refine hK _ _ _ ?_ | refine hK _ _ _ _ rfl ?_ | refine WX.thenExit (K := K) ?_); clear hK K) | (refine WX.thenExit (K := KL) ?_; clear hL KL)))
  have hR : ∀ (c : Ctt) (u : Value) (ok bad : Bool) (l1 : List UInt8) (v1 : Value), smN 16 64 c.2.2.2 → (ok = true → bad = false → cRd (cD c) → pCt l = some (c, l1)) → (¬ (ok = true ∧ bad = false ∧ cRd (cD c)) → pCt l = none) → WK 51 K { w := B, r := none, ds := [] } [(0, .pointer (some ⟨b, 0, none⟩)), (2, .pointer (some ⟨b4, 0, none⟩)), (4, .pointer (some ⟨b6, 0, none⟩)), (5, .bool ok)] (rd (Ty.sl nodeT) c.2.2.2.ar u :: rd (Ty.sl Ty.u8) l1 v1 :: rd (Ty.sl nodeT) [] nlS :: rd (Ty.sl Ty.u8) l v :: Gf) (rdrBox b v1 bad :: box b6 60 (contC (cD c) u) :: box b4 60 (contC (cD zCt) nlS) :: Sf) := fun c u ok bad l1 v1 hsm g1 g2 => hK _ _ _ (by
    clear hK
    have nnt : (!!true) = true := rfl
    have nnf : (!!false) = false := rfl
    cases ok with
    | false =>
      have hno := g2 (fun h => by cases h.1)
      (repeat (first | refine vgo ?_ | refine ⟨_, rfl, rfl, ?_⟩ | refine ⟨_, rfl, ?_⟩ | refine ⟨rfl, ?_⟩ | intro hb | refine go2 ?_ | refine WC.seq (fun K hK => ?_) | ((first | refine hK _ _ _ ?_ | refine hK _ _ _ _ rfl ?_ | refine WX.thenExit (K := K) ?_); clear hK K) | (refine WX.thenExit (K := KL) ?_; clear hL KL)))
      exact WX.retC2K (b := b4) rfl rfl rfl rfl (fun w sw => ⟨[rd (Ty.sl nodeT) [] nlS, rd (Ty.sl Ty.u8) l1 v1], [rdrBox b v1 bad], TcR.no hno, sw.to⟩)
    | true =>
      cases bad with
      | true =>
        have hno := g2 (fun h => by cases h.2.1)
        (repeat (first | refine vgo ?_ | refine ⟨_, rfl, rfl, ?_⟩ | refine ⟨_, rfl, ?_⟩ | refine ⟨rfl, ?_⟩ | intro hb | refine go2 ?_ | refine WC.seq (fun K hK => ?_) | ((first | refine hK _ _ _ ?_ | refine hK _ _ _ _ rfl ?_ | refine WX.thenExit (K := K) ?_); clear hK K) | (refine WX.thenExit (K := KL) ?_; clear hL KL)))
        exact WX.retC2K (b := b4) rfl rfl rfl rfl (fun w sw => ⟨[rd (Ty.sl nodeT) [] nlS, rd (Ty.sl Ty.u8) l1 v1], [rdrBox b v1 true], TcR.no hno, sw.to⟩)
      | false =>
        (repeat (first | refine vgo ?_ | refine ⟨_, rfl, rfl, ?_⟩ | refine ⟨_, rfl, ?_⟩ | refine ⟨rfl, ?_⟩ | intro hb | refine go2 ?_ | refine WC.seq (fun K hK => ?_) | ((first | refine hK _ _ _ ?_ | refine hK _ _ _ _ rfl ?_ | refine WX.thenExit (K := K) ?_); clear hK K) | (refine WX.thenExit (K := KL) ?_; clear hL KL)))
        refine CallV.by' (cright_fun (M := 16) (cD c) u hsm) ?_; rintro _ _ _ ⟨rfl, rfl, rfl⟩; (try simp only [List.cons_append]); (try simp only [List.nil_append])
        by_cases g : cRd (cD c)
        · have hyes := g1 rfl rfl g
          have hd : decide (cRd (cD c)) = true := decide_eq_true g
          have hd2 : (!decide (cRd (cD c))) = false := by rw [hd]; rfl
          (repeat (first | refine vgo ?_ | refine ⟨_, rfl, rfl, ?_⟩ | refine ⟨_, rfl, ?_⟩ | refine ⟨rfl, ?_⟩ | intro hb | refine go2 ?_ | refine WC.seq (fun K hK => ?_) | ((first | refine hK _ _ _ ?_ | refine hK _ _ _ _ rfl ?_ | refine WX.thenExit (K := K) ?_); clear hK K) | (refine WX.thenExit (K := KL) ?_; clear hL KL)))
          exact WX.retC2K (b := b4) rfl rfl rfl rfl (fun w sw => ⟨[rd (Ty.sl nodeT) c.2.2.2.ar u, rd (Ty.sl Ty.u8) l1 v1], [rdrBox b v1 false], TcR.yes hyes, sw.to⟩)
        · have hno := g2 (fun h => g h.2.2)
          have hd : decide (cRd (cD c)) = false := decide_eq_false g
          have hd2 : (!decide (cRd (cD c))) = true := by rw [hd]; rfl
          (repeat (first | refine vgo ?_ | refine ⟨_, rfl, rfl, ?_⟩ | refine ⟨_, rfl, ?_⟩ | refine ⟨rfl, ?_⟩ | intro hb | refine go2 ?_ | refine WC.seq (fun K hK => ?_) | ((first | refine hK _ _ _ ?_ | refine hK _ _ _ _ rfl ?_ | refine WX.thenExit (K := K) ?_); clear hK K) | (refine WX.thenExit (K := KL) ?_; clear hL KL)))
          exact WX.retC2K (b := b4) rfl rfl rfl rfl (fun w sw => ⟨[rd (Ty.sl nodeT) [] nlS, rd (Ty.sl Ty.u8) l1 v1], [rdrBox b v1 false], TcR.no hno, sw.to⟩))
  clear hK
  by_cases k0 : k = 0
  · have hyes : pCt l = some (zCt, r) := by rw [pCt, hk, Option.bind_some, if_pos k0]
    have ki : (k : Int) = 0 := by omega
    (repeat (first | refine vgo ?_ | refine ⟨_, rfl, rfl, ?_⟩ | refine ⟨_, rfl, ?_⟩ | refine ⟨rfl, ?_⟩ | intro hb | refine go2 ?_ | refine WC.seq (fun K hK => ?_) | ((first | refine hK _ _ _ ?_ | refine hK _ _ _ _ rfl ?_ | refine WX.thenExit (K := K) ?_); clear hK K) | (refine WX.thenExit (K := KL) ?_; clear hL KL)))
    rw [ki]
    refine (hR zCt nlS true false r vr sm_zNt (fun _ _ _ => hyes) (fun h => absurd ⟨rfl, rfl, .inl rfl⟩ h)).conv (.cons rfl (.cons rfl (.cons rfl (.cons rfl .nil)))) (fun w h => ?_)
    have h4 : Sat B (rd (Ty.sl Ty.u8) r vr :: rd (Ty.sl nodeT) [] nlS :: rd (Ty.sl Ty.u8) l v :: Gf) (box b6 60 (contC (cD zCt) nlS) :: rdrBox b vr false :: box b4 60 (contC (cD zCt) nlS) :: Sf) w := h
    show Sat B (rd (Ty.sl nodeT) [] nlS :: rd (Ty.sl Ty.u8) r vr :: rd (Ty.sl nodeT) [] nlS :: rd (Ty.sl Ty.u8) l v :: Gf) (rdrBox b vr false :: box b6 60 (contC (cD zCt) nlS) :: box b4 60 (contC (cD zCt) nlS) :: Sf) w
    exact h4.to
  by_cases k1 : k = 1
  · have ki : (k : Int) = 1 := by omega
    have hpk : pCt l = (numP r).bind fun p => some ((1, zzI p.1, [], zNt), p.2) := by rw [pCt, hk, Option.bind_some, if_neg k0, if_pos k1]
    (repeat (first | refine vgo ?_ | refine ⟨_, rfl, rfl, ?_⟩ | refine ⟨_, rfl, ?_⟩ | refine ⟨rfl, ?_⟩ | intro hb | refine go2 ?_ | refine WC.seq (fun K hK => ?_) | ((first | refine hK _ _ _ ?_ | refine hK _ _ _ _ rfl ?_ | refine WX.thenExit (K := K) ?_); clear hK K) | (refine WX.thenExit (K := KL) ?_; clear hL KL)))
    rw [ki, zz_eq (numR_lt _ _)]
    cases hn : numP r with
    | none =>
      have hno : pCt l = none := by rw [hpk, hn]; rfl
      rw [numR_none hn]
      dsimp only
      refine (hR (1, zzI 0, [], zNt) nlS true true [] hb sm_zNt (fun _ h => (by cases h)) (fun _ => hno)).conv (.cons rfl (.cons rfl (.cons rfl (.cons rfl .nil)))) (fun w h => ?_)
      have h4 : Sat B (rd (Ty.sl Ty.u8) [] hb :: rd (Ty.sl Ty.u8) r vr :: rd (Ty.sl nodeT) [] nlS :: rd (Ty.sl Ty.u8) l v :: Gf) (box b6 60 (contC (cD (1, zzI 0, [], zNt)) nlS) :: rdrBox b hb true :: box b4 60 (contC (cD zCt) nlS) :: Sf) w := h
      show Sat B (rd (Ty.sl nodeT) [] nlS :: rd (Ty.sl Ty.u8) [] hb :: rd (Ty.sl nodeT) [] nlS :: rd (Ty.sl Ty.u8) l v :: Gf) (rdrBox b hb true :: box b6 60 (contC (cD (1, zzI 0, [], zNt)) nlS) :: box b4 60 (contC (cD zCt) nlS) :: Sf) w
      exact h4.to
    | some q =>
      obtain ⟨m, l1⟩ := q
      have hyes : pCt l = some ((1, zzI m, [], zNt), l1) := by rw [hpk, hn]; rfl
      rw [numR_some hn]
      dsimp only
      refine (hR (1, zzI m, [], zNt) nlS true false l1 hb sm_zNt (fun _ _ _ => hyes) (fun h => absurd ⟨rfl, rfl, .inr (.inl rfl)⟩ h)).conv (.cons rfl (.cons rfl (.cons rfl (.cons rfl .nil)))) (fun w h => ?_)
      have h4 : Sat B (rd (Ty.sl Ty.u8) l1 hb :: rd (Ty.sl Ty.u8) r vr :: rd (Ty.sl nodeT) [] nlS :: rd (Ty.sl Ty.u8) l v :: Gf) (box b6 60 (contC (cD (1, zzI m, [], zNt)) nlS) :: rdrBox b hb false :: box b4 60 (contC (cD zCt) nlS) :: Sf) w := h
      show Sat B (rd (Ty.sl nodeT) [] nlS :: rd (Ty.sl Ty.u8) l1 hb :: rd (Ty.sl nodeT) [] nlS :: rd (Ty.sl Ty.u8) l v :: Gf) (rdrBox b hb false :: box b6 60 (contC (cD (1, zzI m, [], zNt)) nlS) :: box b4 60 (contC (cD zCt) nlS) :: Sf) w
      exact h4.to
  by_cases k2 : k = 2
  · have ki : (k : Int) = 2 := by omega
    have hpk : pCt l = (bytP r).bind fun p => if p.1.length ≤ 256 then some ((2, 0, p.1, zNt), p.2) else none := by rw [pCt, hk, Option.bind_some, if_neg k0, if_neg k1, if_pos k2]
    (repeat (first | refine vgo ?_ | refine ⟨_, rfl, rfl, ?_⟩ | refine ⟨_, rfl, ?_⟩ | refine ⟨rfl, ?_⟩ | intro hb | refine go2 ?_ | refine WC.seq (fun K hK => ?_) | ((first | refine hK _ _ _ ?_ | refine hK _ _ _ _ rfl ?_ | refine WX.thenExit (K := K) ?_); clear hK K) | (refine WX.thenExit (K := KL) ?_; clear hL KL)))
    refine CallV.by' (text_fun b vr r false) ?_; rintro _ _ _ ⟨rfl, v2, rfl, rfl⟩; (try simp only [List.cons_append]); (try simp only [List.nil_append])
    (repeat (first | refine vgo ?_ | refine ⟨_, rfl, rfl, ?_⟩ | refine ⟨_, rfl, ?_⟩ | refine ⟨rfl, ?_⟩ | intro hb | refine go2 ?_ | refine WC.seq (fun K hK => ?_) | ((first | refine hK _ _ _ ?_ | refine hK _ _ _ _ rfl ?_ | refine WX.thenExit (K := K) ?_); clear hK K) | (refine WX.thenExit (K := KL) ?_; clear hL KL)))
    rw [ki]
    cases hn : bytP r with
    | none =>
      have hno : pCt l = none := by rw [hpk, hn]; rfl
      rw [bytR_none hn]
      dsimp only
      refine (hR (2, 0, [], zNt) nlS true true [] v2 sm_zNt (fun _ h => (by cases h)) (fun _ => hno)).conv (.cons rfl (.cons rfl (.cons rfl (.cons rfl .nil)))) (fun w h => ?_)
      have h4 : Sat B (rd (Ty.sl Ty.u8) [] v2 :: rd (Ty.sl Ty.u8) r vr :: rd (Ty.sl nodeT) [] nlS :: rd (Ty.sl Ty.u8) l v :: Gf) (box b6 60 (contC (cD (2, 0, [], zNt)) nlS) :: rdrBox b v2 true :: box b4 60 (contC (cD zCt) nlS) :: Sf) w := h
      show Sat B (rd (Ty.sl nodeT) [] nlS :: rd (Ty.sl Ty.u8) [] v2 :: rd (Ty.sl nodeT) [] nlS :: rd (Ty.sl Ty.u8) l v :: Gf) (rdrBox b v2 true :: box b6 60 (contC (cD (2, 0, [], zNt)) nlS) :: box b4 60 (contC (cD zCt) nlS) :: Sf) w
      exact h4.to
    | some q =>
      obtain ⟨s1, l1⟩ := q
      rw [bytR_some hn]
      dsimp only
      have hg : cRd (cD (2, 0, s1, zNt)) → s1.length ≤ 256 := fun h => by
        rcases h with h | h | h | h
        · cases h
        · cases h
        · exact h.2
        · cases h.1
      refine (hR (2, 0, s1, zNt) nlS true false l1 v2 sm_zNt (fun _ _ g => by rw [hpk, hn, Option.bind_some, if_pos (hg g)]) (fun h => by rw [hpk, hn, Option.bind_some, if_neg (fun g => h ⟨rfl, rfl, .inr (.inr (.inl ⟨rfl, g⟩))⟩)])).conv (.cons rfl (.cons rfl (.cons rfl (.cons rfl .nil)))) (fun w h => ?_)
      have h4 : Sat B (rd (Ty.sl Ty.u8) l1 v2 :: rd (Ty.sl Ty.u8) r vr :: rd (Ty.sl nodeT) [] nlS :: rd (Ty.sl Ty.u8) l v :: Gf) (box b6 60 (contC (cD (2, 0, s1, zNt)) nlS) :: rdrBox b v2 false :: box b4 60 (contC (cD zCt) nlS) :: Sf) w := h
      show Sat B (rd (Ty.sl nodeT) [] nlS :: rd (Ty.sl Ty.u8) l1 v2 :: rd (Ty.sl nodeT) [] nlS :: rd (Ty.sl Ty.u8) l v :: Gf) (rdrBox b v2 false :: box b6 60 (contC (cD (2, 0, s1, zNt)) nlS) :: box b4 60 (contC (cD zCt) nlS) :: Sf) w
      exact h4.to
  have ki : (k : Int) = 3 := by omega
  have hpk : pCt l = (bkP r).bind fun p => some ((3, 0, [], p.1), p.2) := by rw [pCt, hk, Option.bind_some, if_neg k0, if_neg k1, if_neg k2]
  (repeat (first | refine vgo ?_ | refine ⟨_, rfl, rfl, ?_⟩ | refine ⟨_, rfl, ?_⟩ | refine ⟨rfl, ?_⟩ | intro hb | refine go2 ?_ | refine WC.seq (fun K hK => ?_) | ((first | refine hK _ _ _ ?_ | refine hK _ _ _ _ rfl ?_ | refine WX.thenExit (K := K) ?_); clear hK K) | (refine WX.thenExit (K := KL) ?_; clear hL KL)))
  refine CallV.by' (bTake_fun b r vr) ?_; rintro _ _ _ ⟨a, u, bad1, l1, v1, rfl, rfl, rfl, x1, x2⟩; (try simp only [List.cons_append]); (try simp only [List.nil_append])
  (repeat (first | refine vgo ?_ | refine ⟨_, rfl, rfl, ?_⟩ | refine ⟨_, rfl, ?_⟩ | refine ⟨rfl, ?_⟩ | intro hb | refine go2 ?_ | refine WC.seq (fun K hK => ?_) | ((first | refine hK _ _ _ ?_ | refine hK _ _ _ _ rfl ?_ | refine WX.thenExit (K := K) ?_); clear hK K) | (refine WX.thenExit (K := KL) ?_; clear hL KL)))
  rw [ki]
  cases hb : bkP r with
  | none =>
    obtain rfl := x1 hb
    have hno : pCt l = none := by rw [hpk, hb]; rfl
    refine (hR (3, 0, [], zNt) u false bad1 l1 v1 sm_zNt (fun h => (by cases h)) (fun _ => hno)).conv (.cons rfl (.cons rfl (.cons rfl (.cons rfl .nil)))) (fun w h => ?_)
    have h4 : Sat B (rd (Ty.sl nodeT) [] u :: rd (Ty.sl Ty.u8) l1 v1 :: rd (Ty.sl Ty.u8) r vr :: rd (Ty.sl nodeT) [] nlS :: rd (Ty.sl Ty.u8) l v :: Gf) (box b6 60 (contC (cD (3, 0, [], zNt)) u) :: rdrBox b v1 bad1 :: box b4 60 (contC (cD zCt) nlS) :: Sf) w := h
    show Sat B (rd (Ty.sl nodeT) [] u :: rd (Ty.sl Ty.u8) l1 v1 :: rd (Ty.sl nodeT) [] nlS :: rd (Ty.sl Ty.u8) l v :: Gf) (rdrBox b v1 bad1 :: box b6 60 (contC (cD (3, 0, [], zNt)) u) :: box b4 60 (contC (cD zCt) nlS) :: Sf) w
    exact h4.to
  | some q =>
    obtain ⟨a0, r0⟩ := q
    obtain ⟨rfl, rfl, rfl⟩ := x2 a0 r0 hb
    have hyes : pCt l = some ((3, 0, [], a), l1) := by rw [hpk, hb]; rfl
    have hsm := bkP_sm hb
    refine (hR (3, 0, [], a) u true false l1 v1 hsm.1 (fun _ _ _ => hyes) (fun h => absurd ⟨rfl, rfl, .inr (.inr (.inr ⟨rfl, hsm.2⟩))⟩ h)).conv (.cons rfl (.cons rfl (.cons rfl (.cons rfl .nil)))) (fun w h => ?_)
    have h4 : Sat B (rd (Ty.sl nodeT) a.ar u :: rd (Ty.sl Ty.u8) l1 v1 :: rd (Ty.sl Ty.u8) r vr :: rd (Ty.sl nodeT) [] nlS :: rd (Ty.sl Ty.u8) l v :: Gf) (box b6 60 (contC (cD (3, 0, [], a)) u) :: rdrBox b v1 false :: box b4 60 (contC (cD zCt) nlS) :: Sf) w := h
    show Sat B (rd (Ty.sl nodeT) a.ar u :: rd (Ty.sl Ty.u8) l1 v1 :: rd (Ty.sl nodeT) [] nlS :: rd (Ty.sl Ty.u8) l v :: Gf) (rdrBox b v1 false :: box b6 60 (contC (cD (3, 0, [], a)) u) :: box b4 60 (contC (cD zCt) nlS) :: Sf) w
    exact h4.to
end
end Go.Qd
