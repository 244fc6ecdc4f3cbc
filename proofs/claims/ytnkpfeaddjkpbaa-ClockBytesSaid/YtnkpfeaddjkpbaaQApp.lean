import Derived.Test.YtnkpfeaddjkpbaaQOwn
namespace Go.Qd
open Go
theorem Fun.imp {P : Program} {f : FuncId} {args : List Value} {G : List Pers} {S : List Res} {R R' : Value → List Pers → List Res → Prop} (h : Fun P f args G S R) (hi : ∀ v G' S', R v G' S' → R' v G' S') : Fun P f args G S R' :=
  ⟨h.callable, fun B Gf Sf w sw => (h.calls B Gf Sf w sw).mono (by
    rintro e w' ⟨v, G', S', h1, h2, h3⟩
    exact ⟨v, G', S', h1, hi _ _ _ h2, h3⟩)⟩
/-! ### Slices made of parts, and appended to, by the walk itself -/
section
variable {P : Program} {n : Nat} {Q : Exit → Act → World → Prop} {B : World} {env : Env} {G : List Pers} {S S' : List Res} {L rest : List Oper} {K : Act → World → Prop}
variable {d sz m : Nat} {ty : TypeId} {pos : String} {af : Array Edge} {x y z : Operand} {T T' E E' : TypeId} {u v v' : Value} {xs : List Value} {α : Type} {R : Ty α} {l : List α}
instance : V (WL P n L Q (⟨some d, .call ⟨.builtin .append, #[x, y], #[T, T]⟩, ty, pos, af, none⟩ :: rest) B env G S) (∃ v, env.ev x = some v ∧ ∃ u, env.ev y = some u ∧ Nat.blt d n = true ∧ AppV P n L Q rest B env G S d T v u) := ⟨fun ⟨_, h1, _, h2, k, m⟩ => .append h1 h2 k m⟩
instance {sz m k by_ : Nat} {xs news zs : List Value} {S1 S2 : List Res} {E2 sz2 : Nat} [h1 : SelOwn u S E2 sz2 k news S1] [h2 : SelOwn v S1 E sz m xs S2] [hT : TU P T (.slice E)] [hsz : TS P E sz] [hz : TZ P E zs] [hby : TB P E by_] [ho : OnesC G S news] :
    V (AppV P n L Q rest B env G S d T v u) ((Nat.beq zs.length sz && Nat.beq sz2 sz && Nat.ble 1 by_) = true ∧ Side ((m + k) * by_ ≤ 140737488355328) (∀ v', WL P n L Q rest B ((d, v') :: env) G (Qd.own E sz v' (m + k) (xs ++ news) :: S2))) := ⟨fun h => .o h.1 h.2.c h.2.p⟩
instance {sz m by_ : Nat} {xs zs : List Value} {f : α → Value} {ok : α → Prop} [hR : R.Is f ok] [hm : RdSl u G R l] [hS : SelOwn v S E sz m xs S'] [hT : TU P T (.slice E)] [hsz : TS P E sz] [hz : TZ P E zs] [hby : TB P E by_] :
    V (AppV P n L Q rest B env G S d T v u) ((Nat.beq zs.length sz && Nat.beq R.sz sz && Nat.ble 1 by_) = true ∧ Side ((m + l.length) * by_ ≤ 140737488355328) ((∀ a ∈ l, ok a) → ∀ v', WL P n L Q rest B ((d, v') :: env) G (Qd.own E sz v' (m + l.length) (xs ++ flat (l.map f)) :: S'))) := ⟨fun h => .s h.1 h.2.c h.2.p⟩
theorem AppV.n0 {sz k by_ : Nat} {news zs : List Value} {S1 : List Res} {E2 sz2 : Nat} [h1 : SelOwn u S E2 sz2 k news S1] [hT : TU P T (.slice E)] [hsz : TS P E sz] [hz : TZ P E zs] [hby : TB P E by_] [ho : OnesC G S news]
    (hzl : (Nat.beq zs.length sz && Nat.beq sz2 sz && Nat.ble 1 by_) = true) (hfit : k * by_ ≤ 140737488355328) (h : ∀ v', WL P n L Q rest B ((d, v') :: env) G (Qd.own E sz v' k news :: S1)) : AppV P n L Q rest B env G S d T (.slice none 0 0) u := by
  refine .nil E sz ?_
  have i2 : OnesC G (Qd.own E sz (.slice none 0 0) 0 [] :: S) news := ⟨fun B w sw => ho.h B w sw.drop⟩
  have i1 : SelOwn u (Qd.own E sz (.slice none 0 0) 0 [] :: S) E2 sz2 k news (Qd.own E sz (.slice none 0 0) 0 [] :: S1) := ⟨.there h1.h⟩
  have i3 : SelOwn (.slice none 0 0) (Qd.own E sz (.slice none 0 0) 0 [] :: S1) E sz 0 [] S1 := ⟨.here⟩
  refine AppV.o (h1 := i1) (h2 := i3) (ho := i2) hzl (by rw [Nat.zero_add]; exact hfit) (fun v' => ?_)
  rw [Nat.zero_add, List.nil_append]
  exact h v'
instance (priority := 2000) {sz k by_ : Nat} {news zs : List Value} {S1 : List Res} {E2 sz2 : Nat} [h1 : SelOwn u S E2 sz2 k news S1] [hT : TU P T (.slice E)] [hsz : TS P E sz] [hz : TZ P E zs] [hby : TB P E by_] [ho : OnesC G S news] :
    V (AppV P n L Q rest B env G S d T (.slice none 0 0) u) ((Nat.beq zs.length sz && Nat.beq sz2 sz && Nat.ble 1 by_) = true ∧ Side (k * by_ ≤ 140737488355328) (∀ v', WL P n L Q rest B ((d, v') :: env) G (Qd.own E sz v' k news :: S1))) := ⟨fun h => .n0 h.1 h.2.c h.2.p⟩
structure BsV (P : Program) (n : Nat) (L : List Oper) (Q : Exit → Act → World → Prop) (rest : List Oper) (B : World) (env : Env) (G : List Pers) (S : List Res) (d : Nat) (T : TypeId) (k : Nat) (ops : List (Nat × Operand)) (vs : List Value) : Prop where
  go : ∀ ty pos af, env.evs (ops.map (·.2)) = some vs → Nat.blt d n = true → WL P n L Q (⟨some d, .buildSlice T k ops.toArray, ty, pos, af, none⟩ :: rest) B env G S
instance {k : Nat} {ops : List (Nat × Operand)} : V (WL P n L Q (⟨some d, .buildSlice T k ops.toArray, ty, pos, af, none⟩ :: rest) B env G S) (∃ vs, env.evs (ops.map (·.2)) = some vs ∧ Nat.blt d n = true ∧ BsV P n L Q rest B env G S d T k ops vs) := ⟨fun ⟨_, h1, h2, h3⟩ => h3.go _ _ _ h1 h2⟩
instance {k sz : Nat} {ops : List (Nat × Operand)} {vs zs cs : List Value} [hT : TU P T (.slice E)] [hsz : TS P E sz] [hz : TZ P E zs] [hc : LensC G S vs sz cs] : V (BsV P n L Q rest B env G S d T k ops vs) (upto 0 (ops.map (·.2)) = ops ∧ (Nat.beq vs.length k && (Nat.beq zs.length sz && Nat.ble 1 sz && Nat.ble (k * sz) 16777216)) = true ∧ ∀ v, WL P n L Q rest B ((d, v) :: env) G (own E sz v k cs :: S)) :=
  ⟨fun ⟨h1, h2, h3⟩ => ⟨fun _ _ _ e1 e2 => by
    rw [Bool.and_eq_true] at h2
    exact .build h1 e1 h2.1 h2.2 e2 h3⟩⟩
/-- Two results: a variable of its own (an array), and a slot. -/
theorem WX.retA2 {fn : Func} {F : Value → World → Prop} {g : α → Value} {t u : Nat} {b s : Nat} (hr : fn.results = #[.cell t T, .tmp u]) (hv : env.get t = some (.pointer (some ⟨b, 0, none⟩))) (hu : env.get u = some v) [hm : SelBox b S E (l.map g) S'] [hT : TA P T true] [hs : TS P T s] (hl : l.length = s) (h : ∀ w, Sat B G S w → F (.tuple #[.agg (l.map g).toArray, v]) w) :
    WX n (FPost P fn F) .ret B env G S :=
  ⟨fun a w sa sw => by
    have h1 := sa.get t _ hv
    have h2 := sa.get u _ hu
    have h3 := run_loadVar_agg (P := P) (T := T) w (a := ⟨b, 0, none⟩) (cs := l.map g) hT.h (by rw [hs.h, ← hl, List.length_map]) (fun j c hj => by rw [Addr.add_none, sw.box_cell hm.h, Nat.zero_add]; exact hj)
    have h4 : (results fn a.tmps).run P w = .ok (.tuple #[.agg (l.map g).toArray, v]) w := by
      simp [results, hr, h1, h2, asAddr, h3]
    exact ⟨sa.defers, _, h4, _, rfl, h w sw⟩⟩
end
end Go.Qd
