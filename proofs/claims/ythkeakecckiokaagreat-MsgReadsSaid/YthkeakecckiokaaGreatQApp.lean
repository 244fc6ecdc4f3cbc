import Derived.Test.YthkeakecckiokaaGreatQOwn
namespace Go.Qd
open Go
theorem Fun.imp {P : Program} {f : FuncId} {args : List Value} {G : List Pers} {S : List Res} {R R' : Value → List Pers → List Res → Prop} (h : Fun P f args G S R) (hi : ∀ v G' S', R v G' S' → R' v G' S') : Fun P f args G S R' :=
  ⟨h.callable, fun B Gf Sf w sw => (h.calls B Gf Sf w sw).mono (by
    rintro e w' ⟨v, G', S', h1, h2, h3⟩
    exact ⟨v, G', S', h1, hi _ _ _ h2, h3⟩)⟩
/-! ### Slices made of parts, and appended to, by the walk itself -/
section
variable {P : Program} {n : Nat} {Q : Exit → Act → World → Prop} {B : Base} {env : Env} {G : List Pers} {S S' : List Res} {L rest : List Oper} {K : Act → World → Prop}
variable {d sz m : Nat} {ty : TypeId} {pos : String} {af : Array Edge} {x y z : Operand} {T T' E E' : TypeId} {u v v' : Value} {xs : List Value} {α : Type} {R : Ty α} {l : List α}
instance {xs ys : List Value} [hx : OnesC G S xs] [hy : OnesC G S ys] : OnesC G S (xs ++ ys) := ⟨fun B w sw u hu => (List.mem_append.1 hu).elim (hx.h B w sw u) (hy.h B w sw u)⟩
/-- A type whose parts are one cell each. -/
class FlG {α : Type} (g : α → Value) : Prop where
  h : ∀ a, ∀ c ∈ (g a).cells.toList, c.oneCell' = true
instance {α : Type} {g : α → Value} {l : List α} [hg : FlG g] : OnesC G S (flat (l.map g)) := ⟨fun _ _ _ u hu => by
  unfold flat at hu
  obtain ⟨v, hv, hu⟩ := List.mem_flatMap.1 hu
  obtain ⟨a, _, rfl⟩ := List.mem_map.1 hv
  exact hg.h a u hu⟩
instance : V (WL P n L Q (⟨some d, .call ⟨.builtin .append, #[x, y], #[T, T]⟩, ty, pos, af, none⟩ :: rest) B env G S) (∃ v, env.ev x = some v ∧ ∃ u, env.ev y = some u ∧ Nat.blt d n = true ∧ AppV P n L Q rest B env G S d T v u) := ⟨fun ⟨_, h1, _, h2, k, m⟩ => .append h1 h2 k m⟩
instance {sz m k by_ : Nat} {xs news zs : List Value} {S1 S2 : List Res} {E2 sz2 : Nat} [h1 : SelOwn u S E2 sz2 k news S1] [h2 : SelOwn v S1 E sz m xs S2] [hT : TU P T (.slice E)] [hsz : TS P E sz] [hz : TZ P E zs] [hby : TB P E by_] [ho : OnesC G S news] :
    V (AppV P n L Q rest B env G S d T v u) ((Nat.beq zs.length sz && Nat.beq sz2 sz && Nat.ble 1 by_) = true ∧ Side ((m + k) * by_ ≤ 140737488355328) (∀ v', WL P n L Q rest B ((d, v') :: env) G (Qd.own E sz v' (m + k) (xs ++ news) :: S2))) := ⟨fun h => .o h.1 h.2.c h.2.p⟩
instance {sz m by_ : Nat} {xs zs : List Value} {f : α → Value} {ok : α → Prop} [hR : R.Is f ok] [hm : RdSl u G R l] [hS : SelOwn v S E sz m xs S'] [hT : TU P T (.slice E)] [hsz : TS P E sz] [hz : TZ P E zs] [hby : TB P E by_] :
    V (AppV P n L Q rest B env G S d T v u) ((Nat.beq zs.length sz && Nat.beq R.sz sz && Nat.ble 1 by_) = true ∧ Side ((m + l.length) * by_ ≤ 140737488355328) ((∀ a ∈ l, ok a) → ∀ v', WL P n L Q rest B ((d, v') :: env) G (Qd.own E sz v' (m + l.length) (xs ++ flat (l.map f)) :: S'))) := ⟨fun h => .s h.1 h.2.c h.2.p⟩
theorem AppV.n0 {sz k by_ : Nat} {news zs : List Value} {S1 : List Res} {E2 sz2 : Nat} [h1 : SelOwn u S E2 sz2 k news S1] [hT : TU P T (.slice E)] [hsz : TS P E sz] [hz : TZ P E zs] [hby : TB P E by_] [ho : OnesC G S news]
    (hzl : (Nat.beq zs.length sz && Nat.beq sz2 sz && Nat.ble 1 by_) = true) (hfit : k * by_ ≤ 140737488355328) (h : ∀ v', WL P n L Q rest B ((d, v') :: env) G (Qd.own E sz v' k news :: S1)) : AppV P n L Q rest B env G S d T (.slice none 0 0) u := by
  refine .nil E sz ?_
  have i2 : OnesC G (Qd.own E sz (.slice none 0 0) 0 [] :: S) news := ⟨fun B w sw => ho.h B w sw.drop⟩
  have i1 : SelOwn u (Qd.own E sz (.slice none 0 0) 0 [] :: S) E2 sz2 k news (Qd.own E sz (.slice none 0 0) 0 [] :: S1) := ⟨.there h1.h⟩
  have i3 : SelOwn (.slice none 0 0) (Qd.own E sz (.slice none 0 0) 0 [] :: S1) E sz 0 [] S1 := ⟨.here⟩
  refine AppV.o (h1 := i1) (h2 := i3) (ho := i2) hzl (by rw [Nat.zero_add]; exact hfit) (fun v' => ?_)
  rw [Nat.zero_add, List.nil_append]
  exact h v'
instance (priority := 2000) {sz k by_ : Nat} {news zs : List Value} {S1 : List Res} {E2 sz2 : Nat} [h1 : SelOwn u S E2 sz2 k news S1] [hT : TU P T (.slice E)] [hsz : TS P E sz] [hz : TZ P E zs] [hby : TB P E by_] [ho : OnesC G S news] :
    V (AppV P n L Q rest B env G S d T (.slice none 0 0) u) ((Nat.beq zs.length sz && Nat.beq sz2 sz && Nat.ble 1 by_) = true ∧ Side (k * by_ ≤ 140737488355328) (∀ v', WL P n L Q rest B ((d, v') :: env) G (Qd.own E sz v' k news :: S1))) := ⟨fun h => .n0 h.1 h.2.c h.2.p⟩
structure BsV (P : Program) (n : Nat) (L : List Oper) (Q : Exit → Act → World → Prop) (rest : List Oper) (B : Base) (env : Env) (G : List Pers) (S : List Res) (d : Nat) (T : TypeId) (k : Nat) (ops : List (Nat × Operand)) (vs : List Value) : Prop where
  go : ∀ ty pos af, env.evs (ops.map (·.2)) = some vs → Nat.blt d n = true → WL P n L Q (⟨some d, .buildSlice T k ops.toArray, ty, pos, af, none⟩ :: rest) B env G S
instance {k : Nat} {ops : List (Nat × Operand)} : V (WL P n L Q (⟨some d, .buildSlice T k ops.toArray, ty, pos, af, none⟩ :: rest) B env G S) (∃ vs, env.evs (ops.map (·.2)) = some vs ∧ Nat.blt d n = true ∧ BsV P n L Q rest B env G S d T k ops vs) := ⟨fun ⟨_, h1, h2, h3⟩ => h3.go _ _ _ h1 h2⟩
instance {k sz : Nat} {ops : List (Nat × Operand)} {vs zs cs : List Value} [hT : TU P T (.slice E)] [hsz : TS P E sz] [hz : TZ P E zs] [hc : LensC G S vs sz cs] : V (BsV P n L Q rest B env G S d T k ops vs) (upto 0 (ops.map (·.2)) = ops ∧ (Nat.beq vs.length k && (Nat.beq zs.length sz && Nat.ble 1 sz && Nat.ble (k * sz) 16777216)) = true ∧ ∀ v, WL P n L Q rest B ((d, v) :: env) G (own E sz v k cs :: S)) :=
  ⟨fun ⟨h1, h2, h3⟩ => ⟨fun _ _ _ e1 e2 => by
    rw [Bool.and_eq_true] at h2
    exact .build h1 e1 h2.1 h2.2 e2 h3⟩⟩
theorem WL.min3 {k k1 k2 : IntKind} {a b c : Int} {z : Operand} (hx : env.ev x = some (.int k a)) (hy : env.ev y = some (.int k1 b)) (hz : env.ev z = some (.int k2 c)) {ats : Array TypeId} (hd : Nat.blt d n = true) (h : WL P n L Q rest B ((d, .int k (min (min a b) c)) :: env) G S) : WL P n L Q (⟨some d, .call ⟨.builtin .min, #[x, y, z], ats⟩, ty, pos, af, none⟩ :: rest) B env G S :=
  .val rfl rfl hd (fun ac w sa sw => by
    have e1 : ∀ p q : Int, (if q < p then q else p) = min p q := fun p q => by rw [Int.min_def]; split <;> split <;> omega
    simp [execOp, resolve, invoke, builtin, sa.ev hx, sa.ev hy, sa.ev hz, Builtin.min_, Builtin.min2]
    by_cases h1 : b < a
    · rw [if_pos h1]; simp [Builtin.min2, e1]; omega
    · rw [if_neg h1]; simp [Builtin.min2, e1]; omega) h
structure MxV3 (P : Program) (n : Nat) (L : List Oper) (Q : Exit → Act → World → Prop) (rest : List Oper) (B : Base) (env : Env) (G : List Pers) (S : List Res) (d : Nat) (u v v' : Value) : Prop where
  go : ∀ x y z ats ty pos af, env.ev x = some u → env.ev y = some v → env.ev z = some v' → Nat.blt d n = true → WL P n L Q (⟨some d, .call ⟨.builtin .min, #[x, y, z], ats⟩, ty, pos, af, none⟩ :: rest) B env G S
instance {ats : Array TypeId} : V (WL P n L Q (⟨some d, .call ⟨.builtin .min, #[x, y, z], ats⟩, ty, pos, af, none⟩ :: rest) B env G S) (∃ u, env.ev x = some u ∧ ∃ v, env.ev y = some v ∧ ∃ v', env.ev z = some v' ∧ Nat.blt d n = true ∧ MxV3 P n L Q rest B env G S d u v v') := ⟨fun ⟨_, h, _, h', _, h'', k, m⟩ => m.go _ _ _ _ _ _ _ h h' h'' k⟩
instance {k k1 k2 : IntKind} {a b c : Int} : V (MxV3 P n L Q rest B env G S d (.int k a) (.int k1 b) (.int k2 c)) (WL P n L Q rest B ((d, .int k (min (min a b) c)) :: env) G S) := ⟨fun h => ⟨fun _ _ _ _ _ _ _ h1 h2 h3 h4 => .min3 h1 h2 h3 h4 h⟩⟩
/-! Calls of function values -/
class CatL (xs ys : List Value) (zs : outParam (List Value)) : Prop where
  h : xs ++ ys = zs
instance CatL.nil {ys : List Value} : CatL [] ys ys := ⟨rfl⟩
instance CatL.cons {c : Value} {xs ys zs : List Value} [i : CatL xs ys zs] : CatL (c :: xs) ys (c :: zs) := ⟨by rw [List.cons_append, i.h]⟩
structure CallFV (P : Program) (n : Nat) (L : List Oper) (Q : Exit → Act → World → Prop) (rest : List Oper) (B : Base) (env : Env) (G : List Pers) (S : List Res) (d : Nat) (fv : Value) (vs : List Value) : Prop where
  go : ∀ t as ats ty pos af, env.evs as = some vs → env.get t = some fv → Nat.blt d n = true → WL P n L Q (⟨some d, .call ⟨.value (.tmp t), List.toArray as, ats⟩, ty, pos, af, none⟩ :: rest) B env G S
instance (priority := 2000) {as : List Operand} {t : Nat} {ats : Array TypeId} : V (WL P n L Q (⟨some d, .call ⟨.value (.tmp t), as.toArray, ats⟩, ty, pos, af, none⟩ :: rest) B env G S) (∃ vs, env.evs as = some vs ∧ ∃ fv, env.get t = some fv ∧ Nat.blt d n = true ∧ CallFV P n L Q rest B env G S d fv vs) := ⟨fun ⟨_, h1, _, h2, h3, h4⟩ => h4.go _ _ _ _ _ _ h1 h2 h3⟩
instance {g : FuncId} {us caps vs a1 a2 : List Value} [i1 : CatL vs caps a1] [i2 : CatL us a1 a2] : V (CallFV P n L Q rest B env G S d (.func (.func g) us.toArray caps.toArray) vs) (CallV P n L Q rest B env G S (some d) g a2) := ⟨fun h => ⟨fun t as ats ty pos af h1 h2 h3 => h.go _ _ _ _ (fun a sa w => by
  have h4 := sa.evs h1
  have h5 := sa.ev (x := .tmp t) h2
  have h6 : us.toArray ++ vs.toArray ++ caps.toArray = a2.toArray := by rw [← i2.h, ← i1.h]; simp
  simp [execOp, resolve, Deferred.ofValue, invoke, h4, h5] at h6 ⊢
  rw [h6]) (fun d' e => by cases e; exact h3)⟩⟩
/-- Two results: a variable of its own (an array), and a slot. -/
theorem WX.retA2 {fn : Func} {F : Value → World → Prop} {g : α → Value} {t u : Nat} {b s : Nat} [hClean : Clean B] (hr : fn.results = #[.cell t T, .tmp u]) (hv : env.get t = some (.pointer (some ⟨b, 0, none⟩))) (hu : env.get u = some v) [hm : SelBox b S E (l.map g) S'] [hT : TA P T true] [hs : TS P T s] (hl : l.length = s) (h : ∀ w, Sat B G S w → F (.tuple #[.agg (l.map g).toArray, v]) w) :
    WX n (FPost P fn F) .ret B env G S :=
  ⟨fun a w sa sw => by
    have h1 := sa.get t _ hv
    have h2 := sa.get u _ hu
    have h3 := run_loadVar_agg (P := P) (T := T) w (a := ⟨b, 0, none⟩) (cs := l.map g) hT.h (by rw [hs.h, ← hl, List.length_map]) (fun j c hj => by rw [Addr.add_none, sw.box_cell hm.h, Nat.zero_add]; exact hj)
    have h4 : (results fn a.tmps).run P w = .ok (.tuple #[.agg (l.map g).toArray, v]) w := by
      simp [results, hr, h1, h2, asAddr, h3]
    exact FEnd.clean (sa.defers.trans Clean.h) ⟨_, h4, _, rfl, h w sw⟩⟩
end
end Go.Qd
