import Derived.Test.YthkeakecckiokaaGreatQRows
namespace Go.Qd
open Go
/-! ### Loops over functions: 'for .. := range f', the walk of the loop, of the rounds, and of what calls yield -/
theorem Star.append {S T : List Res} {h1 h2 : Hp} (d : Hp.disj h1 h2) (hs : Star S h1) (ht : Star T h2) : Star (S ++ T) (Hp.union h1 h2) := by
  induction S generalizing h1 with
  | nil =>
    have : h1 = Hp.none := funext hs
    subst this
    rw [Hp.union_none_left]; exact ht
  | cons r S ih =>
    obtain ⟨k1, k2, d2, rfl, hr, hs⟩ := hs
    have d' := Hp.disj_comm d
    rw [Hp.disj_union] at d'
    refine ⟨k1, Hp.union k2 h2, ?_, Hp.union_assoc _ _ _, hr, ih (Hp.disj_comm d'.2) hs⟩
    rw [Hp.disj_union]; exact ⟨d2, Hp.disj_comm d'.1⟩
theorem Star.split {S T : List Res} {h : Hp} (H : Star (S ++ T) h) : ∃ h1 h2, Hp.disj h1 h2 ∧ h = Hp.union h1 h2 ∧ Star S h1 ∧ Star T h2 := by
  induction S generalizing h with
  | nil => exact ⟨Hp.none, h, fun b => .inl rfl, (Hp.union_none_left h).symm, fun _ => rfl, H⟩
  | cons r S ih =>
    obtain ⟨k1, k2, d, rfl, hr, H⟩ := H
    obtain ⟨h1, h2, d2, rfl, hs, ht⟩ := ih H
    rw [Hp.disj_union] at d
    refine ⟨Hp.union k1 h1, h2, ?_, (Hp.union_assoc _ _ _).symm, ⟨k1, h1, d.1, rfl, hr, hs⟩, ht⟩
    exact Hp.disj_comm (Hp.disj_union.2 ⟨Hp.disj_comm d.2, Hp.disj_comm d2⟩)
/-- Many owned pieces as one. -/
def pack (S : List Res) : Res := fun h => Star S h
theorem Sat.unpack {B : World} {G : List Pers} {S T : List Res} {w : World} (h : Sat B G (pack S :: T) w) : Sat B G (S ++ T) w := by
  obtain ⟨m, k, d, hm, hk, hg, h1, h2, d2, rfl, hr, hs⟩ := h.heap
  exact ⟨h.os, h.tape, h.output, h.size, m, _, d, hm, hk, hg, Star.append d2 hr hs⟩
theorem Sat.pack {B : World} {G : List Pers} {S T : List Res} {w : World} (h : Sat B G (S ++ T) w) : Sat B G (pack S :: T) w := by
  obtain ⟨m, k, d, hm, hk, hg, hs⟩ := h.heap
  obtain ⟨h1, h2, d2, rfl, hr, hs⟩ := Star.split hs
  exact ⟨h.os, h.tape, h.output, h.size, m, _, d, hm, hk, hg, h1, h2, d2, rfl, hr, hs⟩
theorem Sat.exRes {B : World} {G : List Pers} {α : Type} {r : α → Res} {T : List Res} {w : World} (h : Sat B G ((fun k => ∃ x, r x k) :: T) w) : ∃ x, Sat B G (r x :: T) w := by
  obtain ⟨m, k, d, hm, hk, hg, h1, h2, d2, rfl, ⟨x, hr⟩, hs⟩ := h.heap
  exact ⟨x, h.os, h.tape, h.output, h.size, m, _, d, hm, hk, hg, h1, h2, d2, rfl, hr, hs⟩

abbrev yieldV (l : Nat) : Value := .func (.yield l) #[] #[]
/-- What a call of yield does. -/
def RoundAt (P : Program) (l : Nat) (args : List Value) (w : World) (R : Ending → World → Prop) : Prop :=
  ∃ f tmps assign body, (Instr.yield l args.toArray).run P w = .ok (.round l f tmps assign body) w ∧ RoundIn Fence.wide 0 P l f tmps assign body w R
/-- The rounds of a loop, as the function that is ranged over sees them: N rounds at most; ahead of the round k J k is owned, behind the last one J N; where a round wants no further one: Jx k. -/
def YieldOk (P : Program) (Gy : List Pers) (l N : Nat) (encs : Nat → List Value) (J Jx : Nat → Res) : Prop :=
  ∀ k, k < N → ∀ (B : World) (G : List Pers) (S : List Res) (w : World), (∀ g ∈ Gy, g ∈ G) → Sat B G (J k :: S) w →
    RoundAt P l (encs k) w fun e w' => (e = .returned (.bool true) ∧ Sat B G (J (k + 1) :: S) w') ∨ (e = .returned (.bool false) ∧ Sat B G (Jx k :: S) w')
/-- What a function that is ranged over promises. -/
abbrev IterR (N : Nat) (J Jx : Nat → Res) (Sc : List Res) : Value → List Pers → List Res → Prop := fun _ G' S' => G' = [] ∧ (S' = J N :: Sc ∨ ∃ k, k < N ∧ S' = Jx k :: Sc)

section
variable {P : Program} {n : Nat} {Q : Exit → Act → World → Prop} {B : Base} {env : Env} {G Gy : List Pers} {S S0 : List Res} {L rest : List Oper}
variable {d : Nat} {ty : TypeId} {pos : String} {af : Array Edge}
/-- yield is called. -/
theorem WL.yield {l N k : Nat} {encs : Nat → List Value} {J Jx : Nat → Res} {x : Operand} {as : List Operand} {ats : Array TypeId} {vs : List Value} (hy : YieldOk P Gy l N encs J Jx) (hk : k < N) (hv : env.ev x = some (yieldV l)) (hx : env.evs as = some vs) (he : vs = encs k) (hG : ∀ g ∈ Gy, g ∈ G) (hS : Sel S (J k) S0) (hd : Nat.blt d n = true)
    (ht : WL P n L Q rest B ((d, .bool true) :: env) G (J (k + 1) :: S0)) (hf : WL P n L Q rest B ((d, .bool false) :: env) G (Jx k :: S0)) :
    WL P n L Q (⟨some d, .call ⟨.value x, as.toArray, ats⟩, ty, pos, af, none⟩ :: rest) B env G S := by
  subst he
  refine ⟨fun a w sa sw => ?_⟩
  refine wpList_plain rfl fun K hK => ?_
  unfold Oper.wp
  obtain ⟨f, tmps, assign, body, h1, h2⟩ := hy k hk B G S0 w hG (sw.perm hS.perm)
  have hr : (execOp a.eval ⟨some d, .call ⟨.value x, as.toArray, ats⟩, ty, pos, af, none⟩).run P w = .ok (.round l f tmps assign body) w := by
    have h3 := sa.ev hv
    have h4 := sa.evs hx
    simp [execOp, resolve, Deferred.ofValue, invoke, h3, h4, h1, Sem.run_bind, Result.andThen]
  rw [hr, Oper.upon_round]
  refine h2.mono ?_
  rintro e w' (⟨rfl, hs⟩ | ⟨rfl, hs⟩)
  · exact hK _ _ (ht.go _ _ (sa.put hd _) hs)
  · exact hK _ _ (hf.go _ _ (sa.put hd _) hs)
/-- As WC.seq, but what comes behind may be walked under other marks. -/
theorem WC.seqM {x y : Code} (h : ∀ K : Act → World → Prop, (∀ (B' : Base) env G S, B'.r = B.r → WC P n y Q B' env G S → WK n K B' env G S) → WC P n x (Exit.then K Q) B env G S) : WC P n (.seq x y) Q B env G S :=
  ⟨fun a w sa sw => wpIn_seq ((h (fun a w => y.wpIn (Fr B.r) 0 P Q a w) (fun B' _ _ _ e hy => ⟨fun a w sa sw => e ▸ hy.go a w sa sw⟩)).go a w sa sw)⟩
/-- The mark of a loop over a function is come to. -/
theorem WX.shut {fn : Func} {F : Value → World → Prop} {w0 : World} {r : Option Nat} {ds : List Deferred} {D : Nat} {e : Exit} (he : e = .ret ∨ e = .normal) (hS : Sel S (blk D (.deferred (some []))) S0) (h : WX n (FPost P fn F) e ⟨w0, r, ds⟩ env G S0) : WX n (FPost P fn F) e ⟨w0, r, mark D :: ds⟩ env G S := by
  have key : ∀ a w, St n (mark D :: ds) env a → Sat w0 G S w → (∀ a w, St n ds env a → Sat w0 G S0 w → FEnd P fn F a w) → FEnd P fn F a w := by
    intro a w sa sw h
    have s1 := sw.perm hS.perm
    have hD : w.heap[D]? = some (.deferred (some [])) := s1.at
    have s2 : Sat w0 G S0 (w.putObj D (.deferred none)) := (Sat.set (w' := w.putObj D (.deferred none)) (o' := .deferred none) s1 rfl rfl rfl (by simp) (World.putObj_heap_same (Array.getElem?_eq_some_iff.1 hD).1) (fun c _ hc => World.putObj_heap_other hc)).drop
    obtain ⟨w', hs, hv⟩ := h { a with defers := ds } _ ⟨sa.size, rfl, sa.get⟩ s2
    refine ⟨w', ?_, hv⟩
    rw [sa.defers]
    exact ⟨D, rfl, hD, hs⟩
  rcases he with rfl | rfl
  · exact ⟨fun a w sa sw => key a w sa sw fun a w sa sw => h.go a w sa sw⟩
  · exact ⟨fun a w sa sw => key a w sa sw fun a w sa sw => h.go a w sa sw⟩
/-- How a round's body may be left. -/
def RQ (Rn : World → Prop) (Rx : Code → World → Prop) : Exit → Act → World → Prop
  | .normal, _, w => Rn w
  | .ret, _, w => Rx .ret w
  | .exit id, _, w => Rx (.exit id) w
  | _, _, _ => False
theorem WX.rNormal {Rn : World → Prop} {Rx : Code → World → Prop} (h : ∀ w, Sat B G S w → Rn w) : WX n (RQ Rn Rx) .normal B env G S := ⟨fun _ w _ sw => h w sw⟩
theorem WX.rRet {Rn : World → Prop} {Rx : Code → World → Prop} (h : ∀ w, Sat B G S w → Rx .ret w) : WX n (RQ Rn Rx) .ret B env G S := ⟨fun _ w _ sw => h w sw⟩
def pEnv : List (Nat × Value) → Env → Env
  | [], env => env
  | (p, v) :: l, env => pEnv l ((p, v) :: env)
theorem St.pEnv {ds : List Deferred} : ∀ {l : List (Nat × Value)} {env : Env} {a : Act}, (l.all fun q => Nat.blt q.1 n) = true → St n ds env a → St n ds (Go.Qd.pEnv l env) { a with tmps := l.foldl (fun t q => t.setIfInBounds q.1 q.2) a.tmps }
  | [], _, _, _, h => h
  | (p, v) :: l, env, a, hl, h => by
    simp only [List.all_cons, Bool.and_eq_true] at hl
    exact St.pEnv (a := a.put (some p) v) hl.2 (h.put hl.1 v)
end
end Go.Qd
