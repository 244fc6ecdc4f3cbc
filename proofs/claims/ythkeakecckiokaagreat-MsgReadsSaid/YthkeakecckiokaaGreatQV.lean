import Derived.Test.YthkeakecckiokaaGreatQY
namespace Go.Qd
open Go
/-! ### The walk by instances: a goal, and what it comes down to -/
class V (p : Prop) (K : outParam Prop) : Prop where
  go : K → p
theorem vgo {p K : Prop} [i : V p K] (h : K) : p := i.go h
/-- A side condition, then the rest. -/
structure Side (c p : Prop) : Prop where
  c : c
  p : p
theorem side {c p : Prop} (h : c) (k : p) : Side c p := ⟨h, k⟩
/-- Two ways; the first one where its condition holds. -/
structure Alt (c p q : Prop) : Prop where
  h : (c ∧ p) ∨ q
theorem altL {c p q : Prop} (h : c) (k : p) : Alt c p q := ⟨.inl ⟨h, k⟩⟩
theorem altR {c p q : Prop} (k : q) : Alt c p q := ⟨.inr k⟩
/-- A test. -/
structure Dec (c p q : Prop) : Prop where
  h : (c ∧ p) ∨ (¬ c ∧ q)
theorem decT {c p q : Prop} (h : c) (k : p) : Dec c p q := ⟨.inl ⟨h, k⟩⟩
theorem decF {c p q : Prop} (h : ¬ c) (k : q) : Dec c p q := ⟨.inr ⟨h, k⟩⟩
theorem dcB {c p q : Prop} (h : c → p) (k : ¬ c → q) : Dec c p q := by
  by_cases e : c
  · exact decT e (h e)
  · exact decF e (k e)
structure DecB (b : Bool) (p q : Prop) : Prop where
  h : (b = true ∧ p) ∨ (b = false ∧ q)
theorem dcBB {b : Bool} {p q : Prop} (h : b = true → p) (k : b = false → q) : DecB b p q := by
  cases b
  · exact ⟨.inr ⟨rfl, k rfl⟩⟩
  · exact ⟨.inl ⟨rfl, h rfl⟩⟩
theorem decBT {b : Bool} {p q : Prop} (h : b = true) (k : p) : DecB b p q := ⟨.inl ⟨h, k⟩⟩
theorem decBF {b : Bool} {p q : Prop} (h : b = false) (k : q) : DecB b p q := ⟨.inr ⟨h, k⟩⟩
/-! The same, with the side condition met by itself. -/
theorem altA {c p q : Prop} (k : p) (h : c := by omega) : Alt c p q := altL h k
theorem sideA {c p : Prop} (k : p) (h : c := by first | omega | exact True.intro | ((try simp only [List.length_append, List.length_cons, List.length_nil, List.length_map, List.length_replicate, List.length_set, and_true, true_and]); omega) | assumption | (and_intros <;> first | omega | assumption) | decide) : Side c p := side h k
theorem decTA {c p q : Prop} (k : p) (h : c := by first | omega | with_reducible assumption | with_reducible rfl | decide) : Dec c p q := decT h k
theorem decFA {c p q : Prop} (k : q) (h : ¬ c := by first | omega | with_reducible assumption | with_reducible rfl | decide) : Dec c p q := decF h k
theorem decNA {c p q : Prop} (k : q) (h : c := by with_reducible first | assumption | rfl) : Dec (¬ c) p q := decF (not_not_intro h) k
theorem decBTA {b : Bool} {p q : Prop} (k : p) (h : b = true := by with_reducible first | assumption | rfl | exact Bool.not_false) : DecB b p q := decBT h k
theorem decBFA {b : Bool} {p q : Prop} (k : q) (h : b = false := by with_reducible first | assumption | rfl | exact Bool.not_true) : DecB b p q := decBF h k
/-! Steps whose next goal is found by the step itself. -/
theorem go2 {p q : Prop} (k : q) (h : q → p := by first | exact fun k => altA k | exact fun k => altR k | exact fun k => sideA k | exact fun k => decTA k | exact fun k => decFA k | exact fun k => decNA k | exact fun k => decBTA k | exact fun k => decBFA k | exact fun k => ⟨_, by assumption, k⟩ | exact fun k => ⟨_, _, _, rfl, k⟩) : p := h k

section
variable {P : Program} {n : Nat} {Q : Exit → Act → World → Prop} {B : Base} {env : Env} {G : List Pers} {S S' : List Res} {L rest : List Oper} {K : Act → World → Prop}
variable {d d2 f i j : Nat} {dst : Option Nat} {ty ty2 : TypeId} {pos pos2 : String} {af af2 : Array Edge} {x y z : Operand} {T T' E E' : TypeId} {op : Op} {u v v' : Value} {want : Bool} {α β : Type} {R : Ty α} {R' : Ty β} {l : List α} {a : α} {b' : β}

/-! ### Codes and ends -/
instance {id : Nat} {l : List Oper} : V (WC P n (.region id l.toArray false) Q B env G S) (WL P n l Q l B env G S) := ⟨.region⟩
instance {id : Nat} {c : Code} : V (WC P n (.block id c) Q B env G S) (WC P n c (Exit.inBlock id Q) B env G S) := ⟨.block⟩
instance : V (WC P n .skip Q B env G S) (WX n Q .normal B env G S) := ⟨.skip⟩
instance {id : Nat} : V (WC P n (.exit id) Q B env G S) (WX n Q (.exit id) B env G S) := ⟨.exit⟩
instance : V (WC P n .ret Q B env G S) (WX n Q .ret B env G S) := ⟨.ret⟩
instance {c : Operand} {a b : Code} : V (WC P n (.cond c a b) Q B env G S) (∃ v, env.ev c = some v ∧ CondV P n a b Q B env G S v) := ⟨fun ⟨_, h, k⟩ => .cond h k⟩
instance {a b : Code} : V (CondV P n a b Q B env G S (.bool true)) (WC P n a Q B env G S) := ⟨.t⟩
instance {a b : Code} : V (CondV P n a b Q B env G S (.bool false)) (WC P n b Q B env G S) := ⟨.f⟩
instance {a b : Code} {p : Prop} [Decidable p] : V (CondV P n a b Q B env G S (.bool (decide p))) (Dec p (WC P n a Q B env G S) (WC P n b Q B env G S)) := ⟨fun h => h.h.elim (fun h => .dt h.1 h.2) (fun h => .df h.1 h.2)⟩
instance (priority := 500) {a b : Code} {c : Bool} : V (CondV P n a b Q B env G S (.bool c)) (DecB c (WC P n a Q B env G S) (WC P n b Q B env G S)) := ⟨fun h => h.h.elim (fun h => by rw [h.1]; exact .t h.2) (fun h => by rw [h.1]; exact .f h.2)⟩
instance : V (WL P n L Q [] B env G S) (WX n Q .normal B env G S) := ⟨.nil⟩
instance : V (WX n (Exit.then K Q) .normal B env G S) (WK n K B env G S) := ⟨.toK⟩
instance : V (WX n (Exit.then K Q) .ret B env G S) (WX n Q .ret B env G S) := ⟨.thenRet⟩
instance {id : Nat} : V (WX n (Exit.inBlock id Q) .normal B env G S) (WX n Q .normal B env G S) := ⟨.blockNormal⟩
instance {id : Nat} : V (WX n (Exit.inBlock id Q) .ret B env G S) (WX n Q .ret B env G S) := ⟨.blockRet⟩
instance {id : Nat} : V (WX n (Exit.inBlock id Q) (.exit id) B env G S) (WX n Q .normal B env G S) := ⟨.blockHit⟩
instance (priority := 500) {id i : Nat} : V (WX n (Exit.inBlock id Q) (.exit i) B env G S) (Nat.beq i id = false ∧ WX n Q (.exit i) B env G S) := ⟨fun h => .blockMiss h.1 h.2⟩

/-! ### Operations -/
instance : V (WL P n L Q (⟨some d, .move x, ty, pos, af, none⟩ :: rest) B env G S) (∃ v, env.ev x = some v ∧ Nat.blt d n = true ∧ WL P n L Q rest B ((d, v) :: env) G S) := ⟨fun ⟨_, h, k, m⟩ => .move h k m⟩
instance : V (WL P n L Q (⟨some d, .assign x, ty, pos, af, none⟩ :: rest) B env G S) (∃ v, env.ev x = some v ∧ Nat.blt d n = true ∧ WL P n L Q rest B ((d, v) :: env) G S) := ⟨fun ⟨_, h, k, m⟩ => .assign h k m⟩
/-- An operation under a guard, the guard's value known. -/
structure GdV (P : Program) (n : Nat) (L : List Oper) (Q : Exit → Act → World → Prop) (dst : Option Nat) (op : Op) (ty : TypeId) (pos : String) (af : Array Edge) (rest : List Oper) (B : Base) (env : Env) (G : List Pers) (S : List Res) (want : Bool) (v : Value) : Prop where
  go : ∀ (j : Nat) (o : Oper) (t : Nat), L[j]? = some o → o.dst = some t → env.get t = some v → WL P n L Q (⟨dst, op, ty, pos, af, some (j, want)⟩ :: rest) B env G S
instance : V (WL P n L Q (⟨dst, op, ty, pos, af, some (j, want)⟩ :: rest) B env G S) (∃ o, L[j]? = some o ∧ ∃ t, o.dst = some t ∧ ∃ v, env.get t = some v ∧ GdV P n L Q dst op ty pos af rest B env G S want v) :=
  ⟨fun ⟨o, h1, t, h2, _, h3, k⟩ => k.go j o t h1 h2 h3⟩
instance : V (GdV P n L Q dst op ty pos af rest B env G S true (.bool true)) (WL P n L Q (⟨dst, op, ty, pos, af, none⟩ :: rest) B env G S) := ⟨fun h => ⟨fun _ _ _ h1 h2 h3 => .guard h1 h2 h3 (.tt h)⟩⟩
instance : V (GdV P n L Q dst op ty pos af rest B env G S false (.bool false)) (WL P n L Q (⟨dst, op, ty, pos, af, none⟩ :: rest) B env G S) := ⟨fun h => ⟨fun _ _ _ h1 h2 h3 => .guard h1 h2 h3 (.ff h)⟩⟩
instance : V (GdV P n L Q (some d) op ty pos af rest B env G S true (.bool false)) (Nat.blt d n = true ∧ WL P n L Q rest B ((d, undef) :: env) G S) := ⟨fun h => ⟨fun _ _ _ h1 h2 h3 => .guard h1 h2 h3 (.tf h.1 h.2)⟩⟩
instance : V (GdV P n L Q (some d) op ty pos af rest B env G S false (.bool true)) (Nat.blt d n = true ∧ WL P n L Q rest B ((d, undef) :: env) G S) := ⟨fun h => ⟨fun _ _ _ h1 h2 h3 => .guard h1 h2 h3 (.ft h.1 h.2)⟩⟩
instance : V (GdV P n L Q none op ty pos af rest B env G S true (.bool false)) (WL P n L Q rest B env G S) := ⟨fun h => ⟨fun _ _ _ h1 h2 h3 => .guard h1 h2 h3 (.tf0 h)⟩⟩
instance : V (GdV P n L Q none op ty pos af rest B env G S false (.bool true)) (WL P n L Q rest B env G S) := ⟨fun h => ⟨fun _ _ _ h1 h2 h3 => .guard h1 h2 h3 (.ft0 h)⟩⟩
instance : V (GdV P n L Q (some d) op ty pos af rest B env G S want undef) (Nat.blt d n = true ∧ WL P n L Q rest B ((d, undef) :: env) G S) := ⟨fun h => ⟨fun _ _ _ h1 h2 h3 => .guardU h1 h2 h3 h.1 h.2⟩⟩
instance : V (GdV P n L Q none op ty pos af rest B env G S want undef) (WL P n L Q rest B env G S) := ⟨fun h => ⟨fun _ _ _ h1 h2 h3 => .guardU0 h1 h2 h3 h⟩⟩
instance {p : Prop} [Decidable p] : V (GdV P n L Q dst op ty pos af rest B env G S want (.bool (decide p))) (Dec p (GdV P n L Q dst op ty pos af rest B env G S want (.bool true)) (GdV P n L Q dst op ty pos af rest B env G S want (.bool false))) :=
  ⟨fun h => h.h.elim (fun h => by rw [decide_eq_true h.1]; exact h.2) (fun h => by rw [decide_eq_false h.1]; exact h.2)⟩
instance (priority := 500) {c : Bool} : V (GdV P n L Q dst op ty pos af rest B env G S want (.bool c)) (DecB c (GdV P n L Q dst op ty pos af rest B env G S want (.bool true)) (GdV P n L Q dst op ty pos af rest B env G S want (.bool false))) :=
  ⟨fun h => h.h.elim (fun h => by rw [h.1]; exact h.2) (fun h => by rw [h.1]; exact h.2)⟩
instance : V (WL P n L Q (⟨some d, .pick x y z, ty, pos, af, none⟩ :: rest) B env G S) (∃ u, env.ev x = some u ∧ ∃ v, env.ev y = some v ∧ ∃ v', env.ev z = some v' ∧ Nat.blt d n = true ∧ PickV P n L Q rest B env G S d u v v') := ⟨fun ⟨_, h1, _, h2, _, h3, k, m⟩ => .pick h1 h2 h3 k m⟩
instance : V (PickV P n L Q rest B env G S d (.bool true) v v') (WL P n L Q rest B ((d, v) :: env) G S) := ⟨.t⟩
instance : V (PickV P n L Q rest B env G S d (.bool false) v v') (WL P n L Q rest B ((d, v') :: env) G S) := ⟨.f⟩
instance {p : Prop} [Decidable p] : V (PickV P n L Q rest B env G S d (.bool (decide p)) v v') (Dec p (WL P n L Q rest B ((d, v) :: env) G S) (WL P n L Q rest B ((d, v') :: env) G S)) := ⟨fun h => h.h.elim (fun h => .dt h.1 h.2) (fun h => .df h.1 h.2)⟩
instance (priority := 500) {c : Bool} : V (PickV P n L Q rest B env G S d (.bool c) v v') (DecB c (WL P n L Q rest B ((d, v) :: env) G S) (WL P n L Q rest B ((d, v') :: env) G S)) := ⟨fun h => h.h.elim (fun h => by rw [h.1]; exact .t h.2) (fun h => by rw [h.1]; exact .f h.2)⟩

/-! Loads, stores, places -/
theorem LodV.of (h : LoadV P n L Q rest B env G S d T u) : LodV P n L Q rest B env G S d T u := ⟨fun w sw => by
  obtain ⟨r, h1, h2⟩ := h.go
  exact ⟨r, h1 w sw, G, sw, h2⟩⟩
instance : V (WL P n L Q (⟨some d, .load T x, ty, pos, af, none⟩ :: rest) B env G S) (∃ u, env.ev x = some u ∧ Nat.blt d n = true ∧ LodV P n L Q rest B env G S d T u) := ⟨fun ⟨_, h, k, m⟩ => .lod h k m⟩
instance {b o : Nat} {cs : List Value} [hm : SelBox b S E cs S'] [hT : TA P T false] : V (LodV P n L Q rest B env G S d T (.pointer (some ⟨b, o, none⟩))) (∃ v, cs[o]? = some v ∧ WL P n L Q rest B ((d, v) :: env) G S) := ⟨fun ⟨_, h, k⟩ => .of (.b1 h k)⟩
instance (priority := 1500) {b o : Nat} {l : List α} {g : α → Value} [hm : SelBox b S E (l.map g) S'] [hT : TA P T false] : V (LodV P n L Q rest B env G S d T (.pointer (some ⟨b, o, none⟩))) (∃ a, l[o]? = some a ∧ WL P n L Q rest B ((d, g a) :: env) G S) := ⟨fun ⟨a, h, k⟩ => .of (.b1 (by rw [List.getElem?_map, h]; rfl) k)⟩
instance {b o s : Nat} {cs vs : List Value} [hm : SelBox b S E cs S'] [hT : TA P T true] [hs : TS P T s] [hv : SegC cs o s vs] : V (LodV P n L Q rest B env G S d T (.pointer (some ⟨b, o, none⟩))) (WL P n L Q rest B ((d, .agg vs.toArray) :: env) G S) := ⟨fun h => .of (.bS h)⟩
instance (priority := 500) {b o s : Nat} {cs : List Value} [hm : SelBox b S E cs S'] [hT : TA P T true] [hs : TS P T s] : V (LodV P n L Q rest B env G S d T (.pointer (some ⟨b, o, none⟩))) (∃ vs, (cs.drop o).take s = vs ∧ Nat.beq vs.length s = true ∧ WL P n L Q rest B ((d, .agg vs.toArray) :: env) G S) := ⟨fun ⟨_, h1, h2, k⟩ => .of (.bA h1 h2 k)⟩
instance {g : α → Value} {ok : α → Prop} {sb : Nat} {ag : Bool} [hm : PC v G R a] [hR : R.Is g ok] [hs : TS P T sb] [hE : TA P T ag] : V (LodV P n L Q rest B env G S d T v) ((Nat.beq sb R.sz && ag == R.agg) = true ∧ (ok a → WL P n L Q rest B ((d, g a) :: env) G S)) := ⟨fun h => .i h.1 h.2⟩
instance (priority := 900) {sb : Nat} {ag : Bool} [hm : PC v G R a] [hs : TS P T sb] [hE : TA P T ag] : V (LodV P n L Q rest B env G S d T v) ((Nat.beq sb R.sz && ag == R.agg) = true ∧ (∀ u, WL P n L Q rest B ((d, u) :: env) (rd R a u :: G) S)) := ⟨fun h => .r h.1 h.2⟩
class SetC (cs : List Value) (o : Nat) (v : Value) (cs' : outParam (List Value)) : Prop where
  h : cs.set o v = cs' ∧ o < cs.length
instance SetC.zero {c v : Value} {cs : List Value} : SetC (c :: cs) 0 v (v :: cs) := ⟨rfl, by simp⟩
instance SetC.succ {c v : Value} {cs cs' : List Value} {o : Nat} [h : SetC cs o v cs'] : SetC (c :: cs) (o + 1) v (c :: cs') := ⟨by simp [h.h.1], by simpa using h.h.2⟩
class LsetC (cs : List Value) (o : Nat) (vs : List Value) (cs' : outParam (List Value)) : Prop where
  h : lset cs o vs = cs' ∧ o + vs.length ≤ cs.length
instance LsetC.nil {cs : List Value} : LsetC cs 0 [] cs := ⟨lset_nil _ _, by simp⟩
instance LsetC.cons {c v : Value} {cs vs cs' : List Value} [h : LsetC cs 0 vs cs'] : LsetC (c :: cs) 0 (v :: vs) (v :: cs') := ⟨by simp [lset, h.h.1], by have := h.h.2; simp at this ⊢; omega⟩
instance (priority := 900) LsetC.succ {c : Value} {cs vs cs' : List Value} {o : Nat} [h : LsetC cs o vs cs'] : LsetC (c :: cs) (o + 1) vs (c :: cs') := ⟨by
  cases vs with
  | nil => have := h.h.1; rw [lset_nil] at this ⊢; rw [this]
  | cons v vs => simp [lset, h.h.1], by have := h.h.2; simp at this ⊢; omega⟩
instance : V (WL P n L Q (⟨none, .store T x y, ty, pos, af, none⟩ :: rest) B env G S) (∃ u, env.ev x = some u ∧ ∃ v, env.ev y = some v ∧ StV P n L Q rest B env G S T u v) := ⟨fun ⟨_, h1, _, h2, m⟩ => .store h1 h2 m⟩
instance {b o : Nat} {cs cs' : List Value} [hm : SelBox b S E cs S'] [hs : TS P T 1] [hT : TA P T false] [i : OneC G S v] [hc : SetC cs o v cs'] : V (StV P n L Q rest B env G S T (.pointer (some ⟨b, o, none⟩)) v) (WL P n L Q rest B env G (box b E cs' :: S')) := ⟨fun h => .b1 (by simpa [Nat.blt_eq] using hc.h.2) (by rw [hc.h.1]; exact h)⟩
instance (priority := 500) {b o : Nat} {cs : List Value} [hm : SelBox b S E cs S'] [hs : TS P T 1] [hT : TA P T false] [i : OneC G S v] : V (StV P n L Q rest B env G S T (.pointer (some ⟨b, o, none⟩)) v) (Side (o < cs.length) (WL P n L Q rest B env G (box b E (cs.set o v) :: S'))) := ⟨fun h => .b1 (by simpa [Nat.blt_eq] using h.c) h.p⟩
instance {b o sz : Nat} {cs vs cs' : List Value} [hm : SelBox b S E cs S'] [hs : TS P T sz] [i : OnesC G S vs] [hc : LsetC cs o vs cs'] : V (StV P n L Q rest B env G S T (.pointer (some ⟨b, o, none⟩)) (.agg vs.toArray)) (Nat.beq vs.length sz = true ∧ WL P n L Q rest B env G (box b E cs' :: S')) := ⟨fun h => .bA rfl h.1 (by simpa [Nat.ble_eq] using hc.h.2) (by rw [hc.h.1]; exact h.2)⟩
instance (priority := 500) {b o sz : Nat} {cs vs : List Value} [hm : SelBox b S E cs S'] [hs : TS P T sz] [i : OnesC G S vs] : V (StV P n L Q rest B env G S T (.pointer (some ⟨b, o, none⟩)) (.agg vs.toArray)) (Side (vs.length = sz ∧ o + vs.length ≤ cs.length) (WL P n L Q rest B env G (box b E (lset cs o vs) :: S'))) := ⟨fun h => .bA rfl (by simpa using h.c.1) (by simpa [Nat.ble_eq] using h.c.2) h.p⟩
structure FadV (P : Program) (n : Nat) (L : List Oper) (Q : Exit → Act → World → Prop) (rest : List Oper) (B : Base) (env : Env) (G : List Pers) (S : List Res) (d : Nat) (T : TypeId) (f : Nat) (u : Value) : Prop where
  go : ∀ x ty pos af, env.ev x = some u → Nat.blt d n = true → WL P n L Q (⟨some d, .fieldAddr T x f, ty, pos, af, none⟩ :: rest) B env G S
instance : V (WL P n L Q (⟨some d, .fieldAddr T x f, ty, pos, af, none⟩ :: rest) B env G S) (∃ u, env.ev x = some u ∧ Nat.blt d n = true ∧ FadV P n L Q rest B env G S d T f u) := ⟨fun ⟨_, h, k, m⟩ => m.go _ _ _ _ h k⟩
instance {b o k r : Nat} [hf : FO P T f k] [hr : Plus o k r] : V (FadV P n L Q rest B env G S d T f (.pointer (some ⟨b, o, none⟩))) (WL P n L Q rest B ((d, .pointer (some ⟨b, r, none⟩)) :: env) G S) := ⟨fun h => ⟨fun _ _ _ _ h1 h2 => .fadr h1 h2 h⟩⟩
instance {k : Nat} [hp : PC v G R a] [hf : FO P T f k] [fl : Fld R k a R' b'] : V (FadV P n L Q rest B env G S d T f v) (∀ p, WL P n L Q rest B ((d, p) :: env) (pcell R' b' p :: G) S) := ⟨fun h => ⟨fun _ _ _ _ h1 h2 => .fad h1 h2 h⟩⟩
structure NilV (P : Program) (n : Nat) (L : List Oper) (Q : Exit → Act → World → Prop) (rest : List Oper) (B : Base) (env : Env) (G : List Pers) (S : List Res) (d : Nat) (u : Value) : Prop where
  go : ∀ x ty pos af, env.ev x = some u → Nat.blt d n = true → WL P n L Q (⟨some d, .nilCheck x, ty, pos, af, none⟩ :: rest) B env G S
instance : V (WL P n L Q (⟨some d, .nilCheck x, ty, pos, af, none⟩ :: rest) B env G S) (∃ u, env.ev x = some u ∧ Nat.blt d n = true ∧ NilV P n L Q rest B env G S d u) := ⟨fun ⟨_, h, k, m⟩ => m.go _ _ _ _ h k⟩
instance {p : Addr} : V (NilV P n L Q rest B env G S d (.pointer (some p))) (WL P n L Q rest B ((d, .pointer (some p)) :: env) G S) := ⟨fun h => ⟨fun _ _ _ _ h1 h2 => .nilCheck h1 h2 h⟩⟩
instance [hp : PC v G R a] : V (NilV P n L Q rest B env G S d v) (WL P n L Q rest B ((d, v) :: env) G S) := ⟨fun h => ⟨fun _ _ _ _ h1 h2 => .nilC h1 h2 h⟩⟩
structure AdrV (P : Program) (n : Nat) (L : List Oper) (Q : Exit → Act → World → Prop) (rest : List Oper) (B : Base) (env : Env) (G : List Pers) (S : List Res) (d : Nat) (T : TypeId) (u v : Value) : Prop where
  go : ∀ x y ty pos af, env.ev x = some u → env.ev y = some v → Nat.blt d n = true → WL P n L Q (⟨some d, .indexAddr T x y, ty, pos, af, none⟩ :: rest) B env G S
instance : V (WL P n L Q (⟨some d, .indexAddr T x y, ty, pos, af, none⟩ :: rest) B env G S) (∃ u, env.ev x = some u ∧ ∃ v, env.ev y = some v ∧ Nat.blt d n = true ∧ AdrV P n L Q rest B env G S d T u v) := ⟨fun ⟨_, h, _, h', k, m⟩ => m.go _ _ _ _ _ h h' k⟩
theorem toNat_cast {kd : IntKind} {i : Int} (h : 0 ≤ i) : (.int kd i : Value) = .int kd ((i.toNat : Nat) : Int) := by rw [Int.toNat_of_nonneg h]
instance (priority := 1500) {g : α → Value} {ok : α → Prop} {kd : IntKind} {i : Int} [hm : RdSl v G R l] [hR : R.Is g ok] {sa sb : Nat} {ag : Bool} [hT : TU P T (.slice E')] [hs' : TS P E' sa] [hs : TS P E sb] [hE : TA P E ag] :
    V (AdrV P n L Q (⟨some d2, .load E (.tmp d), ty2, pos2, af2, none⟩ :: rest) B env G S d T v (.int kd i)) (Side (0 ≤ i) (∃ a, l[i.toNat]? = some a ∧ (Nat.beq sa R.sz && Nat.beq sb R.sz && ag == R.agg && Nat.blt d2 n) = true ∧ (∀ p, ok a → WL P n L Q rest B ((d2, g a) :: (d, p) :: env) G S))) :=
  ⟨fun ⟨h0, a, h1, h2, h3⟩ => ⟨fun _ _ _ _ _ e1 e2 e3 => by
    rw [Bool.and_eq_true] at h2
    refine WL.ixl e1 e2 e3 h2.2 ?_
    rw [toNat_cast h0]
    exact .i h1 h2.1 (fun ha p => h3 p ha)⟩⟩
instance (priority := 1400) {kd : IntKind} {i : Int} [hm : RdSl v G R l] {sa sb : Nat} {ag : Bool} [hT : TU P T (.slice E')] [hs' : TS P E' sa] [hs : TS P E sb] [hE : TA P E ag] :
    V (AdrV P n L Q (⟨some d2, .load E (.tmp d), ty2, pos2, af2, none⟩ :: rest) B env G S d T v (.int kd i)) (Side (0 ≤ i) (∃ a, l[i.toNat]? = some a ∧ (Nat.beq sa R.sz && Nat.beq sb R.sz && ag == R.agg && Nat.blt d2 n) = true ∧ (∀ p u, WL P n L Q rest B ((d2, u) :: (d, p) :: env) (rd R a u :: G) S))) :=
  ⟨fun ⟨h0, a, h1, h2, h3⟩ => ⟨fun _ _ _ _ _ e1 e2 e3 => by
    rw [Bool.and_eq_true] at h2
    refine WL.ixl e1 e2 e3 h2.2 ?_
    rw [toNat_cast h0]
    exact .r h1 h2.1 h3⟩⟩
instance {kd : IntKind} {i : Int} [hm : RdSl v G R l] {sa : Nat} [hT : TU P T (.slice E')] [hs' : TS P E' sa] :
    V (AdrV P n L Q rest B env G S d T v (.int kd i)) (Side (0 ≤ i) (∃ a, l[i.toNat]? = some a ∧ Nat.beq sa R.sz = true ∧ (∀ p, WL P n L Q rest B ((d, p) :: env) (pcell R a p :: G) S))) :=
  ⟨fun ⟨h0, a, h1, h2, h3⟩ => ⟨fun _ _ _ _ _ e1 e2 e3 => by
    refine WL.idx e1 e2 e3 ?_
    rw [toNat_cast h0]
    exact .s h1 h2 h3⟩⟩
instance {b o m s : Nat} {i : Int} {kd : IntKind} [hT : TU P T (.array m E)] [hs : TS P E s] : V (AdrV P n L Q rest B env G S d T (.pointer (some ⟨b, o, none⟩)) (.int kd i)) (Side (0 ≤ i ∧ i < m) (WL P n L Q rest B ((d, .pointer (some ⟨b, o + i.toNat * s, none⟩)) :: env) G S)) := ⟨fun h => ⟨fun _ _ _ _ _ e1 e2 e3 => .idxArr e1 e2 h.c e3 h.p⟩⟩
instance (priority := 1500) {b m k : Nat} {kd : IntKind} [hT : TU P T (.array m E)] [hs : TS P E 1] : V (AdrV P n L Q rest B env G S d T (.pointer (some ⟨b, 0, none⟩)) (.int kd ((k : Nat) : Int))) (Side (k < m) (WL P n L Q rest B ((d, .pointer (some ⟨b, k, none⟩)) :: env) G S)) := ⟨fun h => ⟨fun _ _ _ _ _ e1 e2 e3 => .idxArr (s := 1) e1 e2 ⟨by omega, by have := h.c; omega⟩ e3 (by simpa using h.p)⟩⟩
instance (priority := 1400) {b m : Nat} {kd : IntKind} {i : Int} [hT : TU P T (.array m E)] [hs : TS P E 1] : V (AdrV P n L Q rest B env G S d T (.pointer (some ⟨b, 0, none⟩)) (.int kd i)) (Side (0 ≤ i ∧ i < m) (WL P n L Q rest B ((d, .pointer (some ⟨b, i.toNat, none⟩)) :: env) G S)) := ⟨fun h => ⟨fun _ _ _ _ _ e1 e2 e3 => .idxArr (s := 1) e1 e2 h.c e3 (by simpa using h.p)⟩⟩
theorem WL.idxBox {b m c : Nat} {i : Int} {kd : IntKind} (hx : env.ev x = some (.slice (some ⟨b, 0, none⟩) m c)) (hy : env.ev y = some (.int kd i)) [hT : TU P T (.slice E)] [hs : TS P E 1] (hi : 0 ≤ i ∧ i < m) (hd : Nat.blt d n = true)
    (h : WL P n L Q rest B ((d, .pointer (some ⟨b, i.toNat, none⟩)) :: env) G S) : WL P n L Q (⟨some d, .indexAddr T x y, ty, pos, af, none⟩ :: rest) B env G S := by
  refine .val rfl rfl hd (fun a w sa _ => ?_) h
  have hT' : P.underlying T = some (.slice (P.elem T)) := by simp [Program.elem, hT.h]
  have hel : P.elem T = E := by simp [Program.elem, hT.h]
  have := run_indexAt_slice w T ⟨b, 0, none⟩ m c kd i hT'
  rw [if_pos (by omega), hel, run_sizeOf_of w hs.h] at this
  simp [execOp, sa.ev hx, sa.ev hy, this, Addr.add_none]
instance {b m c : Nat} {i : Int} {kd : IntKind} [hT : TU P T (.slice E)] [hs : TS P E 1] : V (AdrV P n L Q rest B env G S d T (.slice (some ⟨b, 0, none⟩) m c) (.int kd i)) (Side (0 ≤ i ∧ i < m) (WL P n L Q rest B ((d, .pointer (some ⟨b, i.toNat, none⟩)) :: env) G S)) := ⟨fun h => ⟨fun _ _ _ _ _ e1 e2 e3 => .idxBox e1 e2 h.c e3 h.p⟩⟩
instance (priority := 1500) {b m c k : Nat} {kd : IntKind} [hT : TU P T (.slice E)] [hs : TS P E 1] : V (AdrV P n L Q rest B env G S d T (.slice (some ⟨b, 0, none⟩) m c) (.int kd ((k : Nat) : Int))) (Side (k < m) (WL P n L Q rest B ((d, .pointer (some ⟨b, k, none⟩)) :: env) G S)) := ⟨fun h => ⟨fun _ _ _ _ _ e1 e2 e3 => .idxBox e1 e2 ⟨by omega, by have := h.c; omega⟩ e3 (by simpa using h.p)⟩⟩

/-! Sums and tests -/
instance {o : BinOp} : V (WL P n L Q (⟨some d, .binOp o T x y T', ty, pos, af, none⟩ :: rest) B env G S) (∃ u, env.ev x = some u ∧ ∃ v, env.ev y = some v ∧ Nat.blt d n = true ∧ BinV P n L Q rest B env G S d o T u v) := ⟨fun ⟨_, h1, _, h2, k, m⟩ => .bin h1 h2 k m⟩
instance {o : BinOp} {r : Value} [h : BinC P o T u v r] : V (BinV P n L Q rest B env G S d o T u v) (WL P n L Q rest B ((d, r) :: env) G S) := ⟨.c⟩
instance (priority := 1500) {o : BinOp} {k : IntKind} {a b r lo hi : Int} {r' : Value} [h : Ari o k a b r lo hi] [h' : BinC P o T (.int k a) (.int k b) r'] : V (BinV P n L Q rest B env G S d o T (.int k a) (.int k b)) (Alt (lo ≤ r ∧ r ≤ hi) (WL P n L Q rest B ((d, .int k r) :: env) G S) (WL P n L Q rest B ((d, r') :: env) G S)) := ⟨fun h => h.h.elim (fun h => .ar h.1 h.2) .c⟩
instance {l k : List UInt8} : V (BinV P n L Q rest B env G S d .add T (.string (bs l)) (.string (bs k))) (Side (l.length + k.length ≤ 9223372036854775807) (WL P n L Q rest B ((d, .string (bs (l ++ k))) :: env) G S)) := ⟨fun h => .cat h.c h.p⟩
instance {k : IntKind} {a b hi : Int} [i : QHi k hi] : V (BinV P n L Q rest B env G S d .quo T (.int k a) (.int k b)) (Alt (0 ≤ a ∧ a ≤ hi ∧ 0 < b) (WL P n L Q rest B ((d, .int k (a / b)) :: env) G S) (Side (b ≠ 0) (WL P n L Q rest B ((d, .int k (k.wrap (a.tdiv b))) :: env) G S))) := ⟨fun h => h.h.elim (fun h => .q h.1 h.2) (fun h => .quoT h.c h.p)⟩
instance {k : IntKind} {a b : Int} : V (BinV P n L Q rest B env G S d .rem T (.int k a) (.int k b)) (Alt (0 ≤ a ∧ 0 < b) (WL P n L Q rest B ((d, .int k (a % b)) :: env) G S) (Side (b ≠ 0) (WL P n L Q rest B ((d, .int k (a.tmod b)) :: env) G S))) := ⟨fun h => h.h.elim (fun h => .rem h.1 h.2) (fun h => .remT h.c h.p)⟩
class BitsC (k : IntKind) (m : outParam Int) : Prop where
  h : (k.bits : Int) = m
instance : BitsC .u64 64 := ⟨rfl⟩
instance : BitsC .i64 64 := ⟨rfl⟩
instance : BitsC .u32 32 := ⟨rfl⟩
instance : BitsC .i32 32 := ⟨rfl⟩
instance : BitsC .u8 8 := ⟨rfl⟩
instance {k yk : IntKind} {a b m : Int} [hb : BitsC k m] : V (BinV P n L Q rest B env G S d .shr T (.int k a) (.int yk b)) (Side (0 ≤ b ∧ b ≤ m) (WL P n L Q rest B ((d, .int k (a / 2 ^ b.toNat)) :: env) G S)) := ⟨fun h => .sr (by rw [hb.h]; exact h.c) h.p⟩
instance {k yk : IntKind} {a b m : Int} [hb : BitsC k m] : V (BinV P n L Q rest B env G S d .shl T (.int k a) (.int yk b)) (Side (0 ≤ b ∧ b ≤ m) (WL P n L Q rest B ((d, .int k (k.wrap (a * 2 ^ b.toNat))) :: env) G S)) := ⟨fun h => .sl (by rw [hb.h]; exact h.c) h.p⟩
instance {xs ys : List Value} {p : Prop} [h : EqV P T (.agg xs.toArray) (.agg ys.toArray) 10 p] [hE : EQT P T] [Decidable p] : V (BinV P n L Q rest B env G S d .eql T (.agg xs.toArray) (.agg ys.toArray)) (WL P n L Q rest B ((d, .bool (decide p)) :: env) G S) := ⟨.eqa⟩
instance {xs ys : List Value} {p : Prop} [h : EqV P T (.agg xs.toArray) (.agg ys.toArray) 10 p] [hE : EQT P T] [Decidable p] : V (BinV P n L Q rest B env G S d .neq T (.agg xs.toArray) (.agg ys.toArray)) (WL P n L Q rest B ((d, .bool (decide (¬ p))) :: env) G S) := ⟨.nea⟩
instance [hm : RdSl u G R l] [hT : TU P T (.slice E)] : V (BinV P n L Q rest B env G S d .eql T u (.slice none 0 0)) ((isNilSl u = true → l = []) → WL P n L Q rest B ((d, .bool (isNilSl u)) :: env) G S) := ⟨.rn⟩
instance [hm : RdSl u G R l] [hT : TU P T (.slice E)] : V (BinV P n L Q rest B env G S d .neq T u (.slice none 0 0)) ((isNilSl u = true → l = []) → WL P n L Q rest B ((d, .bool (!isNilSl u)) :: env) G S) := ⟨.rnn⟩
instance {o : UnOp} : V (WL P n L Q (⟨some d, .unOp o T x, ty, pos, af, none⟩ :: rest) B env G S) (∃ u, env.ev x = some u ∧ Nat.blt d n = true ∧ UnV P n L Q rest B env G S d o u) := ⟨fun ⟨_, h, k, m⟩ => .un h k m⟩
instance {o : UnOp} {r : Value} [h : UnC o u r] : V (UnV P n L Q rest B env G S d o u) (WL P n L Q rest B ((d, r) :: env) G S) := ⟨.c⟩
structure CvV (P : Program) (n : Nat) (L : List Oper) (Q : Exit → Act → World → Prop) (rest : List Oper) (B : Base) (env : Env) (G : List Pers) (S : List Res) (d : Nat) (T T' : TypeId) (u : Value) : Prop where
  go : ∀ x ty pos af, env.ev x = some u → Nat.blt d n = true → WL P n L Q (⟨some d, .convert T T' x, ty, pos, af, none⟩ :: rest) B env G S
instance : V (WL P n L Q (⟨some d, .convert T T' x, ty, pos, af, none⟩ :: rest) B env G S) (∃ u, env.ev x = some u ∧ Nat.blt d n = true ∧ CvV P n L Q rest B env G S d T T' u) := ⟨fun ⟨_, h, k, m⟩ => m.go _ _ _ _ h k⟩
instance {k k' : IntKind} {a lo hi : Int} {ds : TypeDesc} [hD : TU P T' (.int k')] [hs : TU P T ds] [i : CvHi k' lo hi] : V (CvV P n L Q rest B env G S d T T' (.int k a)) (Alt (lo ≤ a ∧ a ≤ hi) (WL P n L Q rest B ((d, .int k' a) :: env) G S) (WL P n L Q rest B ((d, .int k' (k'.wrap a)) :: env) G S)) := ⟨fun h => ⟨fun _ _ _ _ h1 h2 => .cv h1 h2 (h.h.elim (fun h => .w h.1 h.2) .int)⟩⟩
instance (priority := 500) {k k' : IntKind} {a : Int} {ds : TypeDesc} [hD : TU P T' (.int k')] [hs : TU P T ds] : V (CvV P n L Q rest B env G S d T T' (.int k a)) (WL P n L Q rest B ((d, .int k' (k'.wrap a)) :: env) G S) := ⟨fun h => ⟨fun _ _ _ _ h1 h2 => .cv h1 h2 (.int h)⟩⟩
instance {l : List UInt8} [hD : TU P T' .string] [i : ByteSl u G l] [hs : TU P T (.slice E)] [he : TU P E (.int .u8)] : V (CvV P n L Q rest B env G S d T T' u) (l.length ≤ maxLen → WL P n L Q rest B ((d, .string (bs l)) :: env) G S) := ⟨fun h => ⟨fun _ _ _ _ h1 h2 => .cv h1 h2 (.bs h)⟩⟩
instance {l : List UInt8} {D : TypeDesc} [hs : TU P T D] [hT : TU P T' (.slice E)] [hE : TU P E (.int .u8)] : V (CvV P n L Q rest B env G S d T T' (.string (bs l))) (Side (l.length ≤ 9223372036854775807) (∀ u, WL P n L Q rest B ((d, u) :: env) (rd (Ty.sl Ty.u8) l u :: G) S)) := ⟨fun h => ⟨fun _ _ _ _ h1 h2 => .sb h1 h.c h2 h.p⟩⟩
instance {ats : TypeId} : V (WL P n L Q (⟨some d, .call ⟨.builtin .len, #[x], #[ats]⟩, ty, pos, af, none⟩ :: rest) B env G S) (∃ u, env.ev x = some u ∧ Nat.blt d n = true ∧ LenV P n L Q rest B env G S d ats u) := ⟨fun ⟨_, h, k, m⟩ => .len h k m⟩
instance {m : Nat} [h : LnC P G S T u m] : V (LenV P n L Q rest B env G S d T u) (WL P n L Q rest B ((d, .int .i64 m) :: env) G S) := ⟨.c⟩
instance {i : Nat} : V (WL P n L Q (⟨some d, .extract x i, ty, pos, af, none⟩ :: rest) B env G S) (∃ vs, env.ev x = some (.tuple vs.toArray) ∧ ∃ v, nth vs i = some v ∧ Nat.blt d n = true ∧ WL P n L Q rest B ((d, v) :: env) G S) := ⟨fun ⟨_, h1, _, h2, k, m⟩ => .extract h1 h2 k m⟩
structure FlV (P : Program) (n : Nat) (L : List Oper) (Q : Exit → Act → World → Prop) (rest : List Oper) (B : Base) (env : Env) (G : List Pers) (S : List Res) (d : Nat) (T : TypeId) (f : Nat) (u : Value) : Prop where
  go : ∀ x ty pos af, env.ev x = some u → Nat.blt d n = true → WL P n L Q (⟨some d, .field T x f, ty, pos, af, none⟩ :: rest) B env G S
instance : V (WL P n L Q (⟨some d, .field T x f, ty, pos, af, none⟩ :: rest) B env G S) (∃ u, env.ev x = some u ∧ Nat.blt d n = true ∧ FlV P n L Q rest B env G S d T f u) := ⟨fun ⟨_, h, k, m⟩ => m.go _ _ _ _ h k⟩
instance {k t s : Nat} {ag : Bool} {g : β → Value} {ok : β → Prop} [hp : Rd v G R a] [ht : FT P T f t k] [hs : TS P t s] [hA : TA P t ag] [fl : Fld R k a R' b'] [hI : R'.Is g ok] : V (FlV P n L Q rest B env G S d T f v) ((Nat.beq s R'.sz && (ag == R'.agg) && R.agg) = true ∧ (ok b' → WL P n L Q rest B ((d, g b') :: env) G S)) := ⟨fun h => ⟨fun _ _ _ _ h1 h2 => .fldI h1 h.1 h2 h.2⟩⟩
instance (priority := 900) {k t s : Nat} {ag : Bool} [hp : Rd v G R a] [ht : FT P T f t k] [hs : TS P t s] [hA : TA P t ag] [fl : Fld R k a R' b'] : V (FlV P n L Q rest B env G S d T f v) ((Nat.beq s R'.sz && (ag == R'.agg) && R.agg) = true ∧ (∀ u, WL P n L Q rest B ((d, u) :: env) (rd R' b' u :: G) S)) := ⟨fun h => ⟨fun _ _ _ _ h1 h2 => .fld h1 h.1 h2 h.2⟩⟩
theorem WL.fieldAgg {xs : List Value} {t k s : Nat} {r : Value} (hx : env.ev x = some (.agg xs.toArray)) [ht : FT P T f t k] [hs : TS P t s] [hp : PartC P t xs k s r] (hd : Nat.blt d n = true) (h : WL P n L Q rest B ((d, r) :: env) G S) : WL P n L Q (⟨some d, .field T x f, ty, pos, af, none⟩ :: rest) B env G S := by
  refine .val rfl rfl hd (fun a w sa _ => ?_) h
  have htt := ht.h
  unfold fieldTy at htt
  cases hu : P.underlying T with
  | none => rw [hu] at htt; cases htt
  | some dd =>
    rw [hu] at htt
    cases dd <;> try (cases htt; done)
    rename_i fs
    dsimp only at htt
    cases hfs : fs[f]? with
    | none => rw [hfs] at htt; cases htt
    | some ff =>
      rw [hfs] at htt
      simp only [Option.map_some, Option.some.injEq, Prod.mk.injEq] at htt
      obtain ⟨rfl, rfl⟩ := htt
      simp [execOp, sa.ev hx, Instr.field, run_underlying hu, hfs, asAgg, hp.h]
instance {xs : List Value} {t k s : Nat} {r : Value} [ht : FT P T f t k] [hs : TS P t s] [hp : PartC P t xs k s r] : V (FlV P n L Q rest B env G S d T f (.agg xs.toArray)) (WL P n L Q rest B ((d, r) :: env) G S) := ⟨fun h => ⟨fun _ _ _ _ h1 h2 => .fieldAgg h1 h2 h⟩⟩
/-- A struct is built. -/
structure BldV (P : Program) (n : Nat) (L : List Oper) (Q : Exit → Act → World → Prop) (rest : List Oper) (B : Base) (env : Env) (G : List Pers) (S : List Res) (d : Nat) (T : TypeId) (ops : List (Nat × Operand)) (vs : List Value) : Prop where
  go : ∀ ty pos af, env.evs (ops.map (·.2)) = some vs → Nat.blt d n = true → WL P n L Q (⟨some d, .build T ops.toArray, ty, pos, af, none⟩ :: rest) B env G S
instance {ops : List (Nat × Operand)} : V (WL P n L Q (⟨some d, .build T ops.toArray, ty, pos, af, none⟩ :: rest) B env G S) (∃ vs, env.evs (ops.map (·.2)) = some vs ∧ Nat.blt d n = true ∧ BldV P n L Q rest B env G S d T ops vs) := ⟨fun ⟨_, h, k, m⟩ => m.go _ _ _ h k⟩
class LenL (xs : List Value) (s : Nat) : Prop where
  h : xs.length = s
instance : LenL [] 0 := ⟨rfl⟩
instance {c : Value} {xs : List Value} {s : Nat} [h : LenL xs s] : LenL (c :: xs) (s + 1) := ⟨by simp [h.h]⟩
instance {xs : List Value} {s : Nat} [h : LenL xs s] : LenC G S (.agg xs.toArray) s xs := ⟨fun _ _ _ => ⟨rfl, h.h⟩⟩
class PutD (G : List Pers) (S : List Res) (fs : List (TypeId × Nat × Nat)) (zs : List Value) (ops : List (Nat × Operand)) (vs : List Value) (cs : outParam (List Value)) : Prop where
  h : PutC G S fs zs ops vs cs
instance PutD.nil {fs : List (TypeId × Nat × Nat)} {zs vs : List Value} : PutD G S fs zs [] vs zs := ⟨inferInstance⟩
instance PutD.cons {fs : List (TypeId × Nat × Nat)} {zs zs' vs c cs : List Value} {i o s : Nat} {x : Operand} {ops : List (Nat × Operand)} {v : Value} [f : FN fs i o s] [l : LenC G S v s c] [q : LsetC zs o c zs'] [p : PutD G S fs zs' ops vs cs] : PutD G S fs zs ((i, x) :: ops) (v :: vs) cs := ⟨by
  have e : putAt zs o c = zs' := by rw [← lset_putAt q.h.2, q.h.1]
  have := p.h
  rw [← e] at this
  exact PutC.cons⟩
instance {ops : List (Nat × Operand)} {fs : List (TypeId × Nat × Nat)} {vs zs cs : List Value} [hF : SF P T fs] [hz : TZ P T zs] [hp : PutD G S fs zs ops vs cs] : V (BldV P n L Q rest B env G S d T ops vs) (fitsB fs zs.length ops = true ∧ WL P n L Q rest B ((d, .agg cs.toArray) :: env) G S) := ⟨fun ⟨h, k⟩ => ⟨fun _ _ _ h1 h2 => have := hp.h; .bld h1 h h2 k⟩⟩
class PutA (G : List Pers) (S : List Res) (zs : List Value) (ops : List (Nat × Operand)) (vs : List Value) (cs : outParam (List Value)) : Prop where
  h : ∀ B w, Sat B G S w → Instr.fill (fun i => some (i * 1, 1)) zs.toArray ((ops.map (·.1)).zip vs) = some cs.toArray
instance PutA.nil {zs vs : List Value} : PutA G S zs [] vs zs := ⟨fun _ _ _ => by simp [Instr.fill]⟩
instance PutA.cons {zs zs' vs cs : List Value} {i : Nat} {x : Operand} {ops : List (Nat × Operand)} {v : Value} [l : OneC G S v] [q : SetC zs i v zs'] [p : PutA G S zs' ops vs cs] : PutA G S zs ((i, x) :: ops) (v :: vs) cs := ⟨fun B w sw => by
  have h1 := one_cells (l.h B w sw)
  have h2 : v.cells = #[v] := by rw [← Array.toList_inj, h1]
  have h3 := q.h.2
  simp only [List.map_cons, List.zip_cons_cons, Instr.fill, Nat.mul_one]
  rw [h2]
  rw [if_neg (by simp; omega)]
  have e : (#[v].zipIdx).foldl (fun cs (p : Value × Nat) => cs.setIfInBounds (i + p.2) p.1) zs.toArray = zs'.toArray := by
    rw [← q.h.1]; simp
  have := p.h B w sw
  simp only [Nat.mul_one] at this
  rw [← this, ← e]⟩
instance {ops : List (Nat × Operand)} {vs zs cs : List Value} {m : Nat} [hT : TU P T (.array m E)] [hs : TS P E 1] [hz : TZ P T zs] [hp : PutA G S zs ops vs cs] : V (BldV P n L Q rest B env G S d T ops vs) (WL P n L Q rest B ((d, .agg cs.toArray) :: env) G S) := ⟨fun h => ⟨fun ty pos af h1 h2 => .val rfl rfl h2 (fun ac w sa sw => by
  obtain ⟨i, z, hi, hzz, hzc⟩ := info_of_tz hz.h
  have hev := sa.evs h1
  have hzip : ∀ (l : List (Nat × Operand)), (l.map fun p => (p.1, ac.eval p.2)) = (l.map (·.1)).zip ((l.map (·.2)).map ac.eval) := by
    intro l
    induction l with
    | nil => rfl
    | cons a l ih => simp [ih]
  have hfill := hp.h B w sw
  have hzz' : z.cells = zs.toArray := by rw [← Array.toList_inj, hzc]
  have := hzip ops
  rw [hev] at this
  simp only [Nat.mul_one] at hfill
  simp [execOp, Instr.build, zeroValue, typeInfo, hi, hzz, run_underlying hT.h, run_sizeOf_of w hs.h, this, hzz', hfill]) h⟩⟩
def putAll : List Value → List Nat → List Value → Option (List Value)
  | zs, [], _ => some zs
  | zs, _ :: _, [] => some zs
  | zs, i :: is, v :: vs => bif Nat.blt i zs.length then putAll (zs.set i v) is vs else none
theorem putAll_fill : ∀ (is : List Nat) (vs zs cs : List Value), (∀ v ∈ vs, v.oneCell' = true) → putAll zs is vs = some cs → Instr.fill (fun i => some (i * 1, 1)) zs.toArray (is.zip vs) = some cs.toArray
  | [], vs, zs, cs, _, h => by simp [putAll] at h; subst h; simp [Instr.fill]
  | i :: is, [], zs, cs, _, h => by simp [putAll] at h; subst h; simp [Instr.fill]
  | i :: is, v :: vs, zs, cs, h1, h => by
    simp only [putAll] at h
    cases hb : Nat.blt i zs.length with
    | false => rw [hb] at h; cases h
    | true =>
      rw [hb] at h
      have hi : i < zs.length := by simpa [Nat.blt_eq] using hb
      have h2 : v.cells = #[v] := by rw [← Array.toList_inj, one_cells (h1 v (.head _))]
      have ih := putAll_fill is vs _ cs (fun u hu => h1 u (.tail _ hu)) h
      simp only [List.zip_cons_cons, Instr.fill, Nat.mul_one]
      rw [h2, if_neg (by simp; omega)]
      have e : (#[v].zipIdx).foldl (fun cs (p : Value × Nat) => cs.setIfInBounds (i + p.2) p.1) zs.toArray = (zs.set i v).toArray := by simp
      simp only [Nat.mul_one] at ih
      rw [← ih, ← e]
instance (priority := 500) {ops : List (Nat × Operand)} {vs zs : List Value} {m : Nat} [hT : TU P T (.array m E)] [hs : TS P E 1] [hz : TZ P T zs] [ho : OnesC G S vs] : V (BldV P n L Q rest B env G S d T ops vs) (∃ cs, putAll zs (ops.map (·.1)) vs = some cs ∧ WL P n L Q rest B ((d, .agg cs.toArray) :: env) G S) := ⟨fun ⟨cs, hp, h⟩ => ⟨fun ty pos af h1 h2 => .val rfl rfl h2 (fun ac w sa sw => by
  obtain ⟨i, z, hi, hzz, hzc⟩ := info_of_tz hz.h
  have hev := sa.evs h1
  have hzip : ∀ (l : List (Nat × Operand)), (l.map fun p => (p.1, ac.eval p.2)) = (l.map (·.1)).zip ((l.map (·.2)).map ac.eval) := by
    intro l
    induction l with
    | nil => rfl
    | cons a l ih => simp [ih]
  have hfill := putAll_fill _ _ _ _ (ho.h B w sw) hp
  have hzz' : z.cells = zs.toArray := by rw [← Array.toList_inj, hzc]
  have := hzip ops
  rw [hev] at this
  simp only [Nat.mul_one] at hfill
  simp [execOp, Instr.build, zeroValue, typeInfo, hi, hzz, run_underlying hT.h, run_sizeOf_of w hs.h, this, hzz', hfill]) h⟩⟩
structure IxsV (P : Program) (n : Nat) (L : List Oper) (Q : Exit → Act → World → Prop) (rest : List Oper) (B : Base) (env : Env) (G : List Pers) (S : List Res) (d : Nat) (T : TypeId) (u v : Value) : Prop where
  go : ∀ x y ty pos af, env.ev x = some u → env.ev y = some v → Nat.blt d n = true → WL P n L Q (⟨some d, .index T x y, ty, pos, af, none⟩ :: rest) B env G S
instance : V (WL P n L Q (⟨some d, .index T x y, ty, pos, af, none⟩ :: rest) B env G S) (∃ u, env.ev x = some u ∧ ∃ v, env.ev y = some v ∧ Nat.blt d n = true ∧ IxsV P n L Q rest B env G S d T u v) := ⟨fun ⟨_, h, _, h', k, m⟩ => m.go _ _ _ _ _ h h' k⟩
instance {l : List UInt8} {i : Int} {k : IntKind} [hT : TU P T .string] : V (IxsV P n L Q rest B env G S d T (.string (bs l)) (.int k i)) (Side (0 ≤ i) (∃ c, l[i.toNat]? = some c ∧ WL P n L Q rest B ((d, .int .u8 (c.toNat : Int)) :: env) G S)) := ⟨fun ⟨h0, _, h1, h2⟩ => ⟨fun _ _ _ _ _ e1 e2 e3 => .ixs e1 e2 h1 h0 e3 h2⟩⟩
structure MxV (P : Program) (n : Nat) (L : List Oper) (Q : Exit → Act → World → Prop) (rest : List Oper) (B : Base) (env : Env) (G : List Pers) (S : List Res) (d : Nat) (c : Go.Builtin) (u v : Value) : Prop where
  go : ∀ x y ats ty pos af, env.ev x = some u → env.ev y = some v → Nat.blt d n = true → WL P n L Q (⟨some d, .call ⟨.builtin c, #[x, y], ats⟩, ty, pos, af, none⟩ :: rest) B env G S
instance {ats : Array TypeId} : V (WL P n L Q (⟨some d, .call ⟨.builtin .max, #[x, y], ats⟩, ty, pos, af, none⟩ :: rest) B env G S) (∃ u, env.ev x = some u ∧ ∃ v, env.ev y = some v ∧ Nat.blt d n = true ∧ MxV P n L Q rest B env G S d .max u v) := ⟨fun ⟨_, h, _, h', k, m⟩ => m.go _ _ _ _ _ _ h h' k⟩
instance {ats : Array TypeId} : V (WL P n L Q (⟨some d, .call ⟨.builtin .min, #[x, y], ats⟩, ty, pos, af, none⟩ :: rest) B env G S) (∃ u, env.ev x = some u ∧ ∃ v, env.ev y = some v ∧ Nat.blt d n = true ∧ MxV P n L Q rest B env G S d .min u v) := ⟨fun ⟨_, h, _, h', k, m⟩ => m.go _ _ _ _ _ _ h h' k⟩
instance {k k' : IntKind} {a b : Int} : V (MxV P n L Q rest B env G S d .max (.int k a) (.int k' b)) (WL P n L Q rest B ((d, .int k (max a b)) :: env) G S) := ⟨fun h => ⟨fun _ _ _ _ _ _ h1 h2 h3 => .max2 h1 h2 h3 h⟩⟩
instance {k k' : IntKind} {a b : Int} : V (MxV P n L Q rest B env G S d .min (.int k a) (.int k' b)) (WL P n L Q rest B ((d, .int k (min a b)) :: env) G S) := ⟨fun h => ⟨fun _ _ _ _ _ _ h1 h2 h3 => .min2 h1 h2 h3 h⟩⟩
instance {fn : Fn} {as cs : List Operand} : V (WL P n L Q (⟨some d, .makeFunc fn as.toArray cs.toArray, ty, pos, af, none⟩ :: rest) B env G S) (∃ us, env.evs as = some us ∧ ∃ vs, env.evs cs = some vs ∧ Nat.blt d n = true ∧ WL P n L Q rest B ((d, .func fn us.toArray vs.toArray) :: env) G S) := ⟨fun ⟨_, h1, _, h2, k, m⟩ => .mkf h1 h2 k m⟩

/-! Calls -/
structure CallV (P : Program) (n : Nat) (L : List Oper) (Q : Exit → Act → World → Prop) (rest : List Oper) (B : Base) (env : Env) (G : List Pers) (S : List Res) (dst : Option Nat) (f : FuncId) (vs : List Value) : Prop where
  go : ∀ ty pos af op, (∀ a : Act, St n B.ds env a → ∀ w, (execOp a.eval ⟨dst, op, ty, pos, af, none⟩).run P w = (callFunc f vs.toArray).run P w) → (∀ d, dst = some d → Nat.blt d n = true) → WL P n L Q (⟨dst, op, ty, pos, af, none⟩ :: rest) B env G S
def putO (dst : Option Nat) (v : Value) (env : Env) : Env :=
  match dst with
  | some d => (d, v) :: env
  | none => env
theorem CallV.by {f : FuncId} {vs : List Value} {Gc : List Pers} {Sc Sr : List Res} {F : Value → List Pers → List Res → Prop} (hF : Fun P f vs Gc Sc F) (hG : ∀ g ∈ Gc, g ∈ G) (hS : Sels S Sc Sr)
    (h : ∀ v G' S', F v G' S' → WL P n L Q rest B (putO dst v env) (G' ++ G) (S' ++ Sr)) : CallV P n L Q rest B env G S dst f vs := by
  refine ⟨fun ty pos af op hop hd => ⟨fun a w sa sw => ?_⟩⟩
  refine wpList_plain rfl fun K hK => ?_
  unfold Oper.wp
  rw [hop a sa w, hF.callable _ _, Oper.upon_enter]
  have hsat : Sat B (Gc ++ G) (Sc ++ Sr) w := (sw.perm hS.perm).sub fun g hg => by
    rcases List.mem_append.1 hg with hg | hg
    · exact hG g hg
    · exact hg
  refine (hF.calls B G Sr w hsat).mono ?_
  rintro e w' ⟨v, G', S', rfl, hR, hs⟩
  have hs' := hs.sub (G' := G' ++ G) fun g hg => by
    rcases List.mem_append.1 hg with hg | hg
    · exact List.mem_append.2 (.inl hg)
    · exact List.mem_append.2 (.inr (List.mem_append.2 (.inr hg)))
  cases dst with
  | none => exact hK _ _ ((h v G' S' hR).go _ _ sa hs')
  | some d => exact hK _ _ ((h v G' S' hR).go _ _ (sa.put (hd d rfl) v) hs')
theorem CallV.by' {f : FuncId} {vs : List Value} {Gc : List Pers} {Sc Sr : List Res} {F : Value → List Pers → List Res → Prop} (hF : Fun P f vs Gc Sc F) [hG : GS Gc G] [hS : SelsC S Sc Sr]
    (h : ∀ v G' S', F v G' S' → WL P n L Q rest B ((d, v) :: env) (G' ++ G) (S' ++ Sr)) : CallV P n L Q rest B env G S (some d) f vs := .by hF hG.h hS.h h
theorem evs_ok {as : List Operand} {vs : List Value} {f : FuncId} {ats : Array TypeId} (h : env.evs as = some vs) : ∀ a : Act, St n B.ds env a → ∀ w, (execOp a.eval ⟨dst, .call ⟨.value (.func f), as.toArray, ats⟩, ty, pos, af, none⟩).run P w = (callFunc f vs.toArray).run P w := fun a sa w => by
  have := sa.evs h
  simp [execOp, resolve, Act.eval, Deferred.ofValue, invoke, this]
instance {as : List Operand} {f : FuncId} {ats : Array TypeId} : V (WL P n L Q (⟨some d, .call ⟨.value (.func f), as.toArray, ats⟩, ty, pos, af, none⟩ :: rest) B env G S) (∃ vs, env.evs as = some vs ∧ Nat.blt d n = true ∧ CallV P n L Q rest B env G S (some d) f vs) :=
  ⟨fun ⟨_, h, k, m⟩ => m.go _ _ _ _ (evs_ok h) (fun d' e => by cases e; exact k)⟩
instance {as : List Operand} {f : FuncId} {ats : Array TypeId} : V (WL P n L Q (⟨none, .call ⟨.value (.func f), as.toArray, ats⟩, ty, pos, af, none⟩ :: rest) B env G S) (∃ vs, env.evs as = some vs ∧ CallV P n L Q rest B env G S none f vs) :=
  ⟨fun ⟨_, h, m⟩ => m.go _ _ _ _ (evs_ok h) (fun d' e => by cases e)⟩
instance {as : List Operand} {t : Nat} {ats : Array TypeId} : V (WL P n L Q (⟨some d, .call ⟨.value (.tmp t), as.toArray, ats⟩, ty, pos, af, none⟩ :: rest) B env G S) (∃ vs, env.evs as = some vs ∧ ∃ g us caps, env.get t = some (.func (.func g) us caps) ∧ ∃ all, us.toList ++ (vs ++ caps.toList) = all ∧ Nat.blt d n = true ∧ CallV P n L Q rest B env G S (some d) g all) :=
  ⟨fun ⟨vs, h, g, us, caps, h2, all, h3, k, m⟩ => m.go _ _ _ _ (fun a sa w => by
    have h4 := sa.evs h
    have h5 := sa.ev (x := .tmp t) h2
    have h6 : us ++ vs.toArray ++ caps = all.toArray := by rw [← h3]; simp
    simp [execOp, resolve, Deferred.ofValue, invoke, h4, h5, h6]) (fun d' e => by cases e; exact k)⟩
theorem CallV.sat {f : FuncId} {vs : List Value} {G' : List Pers} (hs : ∀ w, Sat B G S w → Sat B G' S' w) (h : CallV P n L Q rest B env G' S' dst f vs) : CallV P n L Q rest B env G S dst f vs := ⟨fun ty pos af op h1 h2 => (h.go ty pos af op h1 h2).sat hs⟩
class ExtF (P : Program) (f : FuncId) (vs : List Value) (v : outParam Value) : Prop where
  h : Ext P f vs v
instance {vs : List Value} [hF : ExtF P f vs v] : V (CallV P n L Q rest B env G S (some d) f vs) (WL P n L Q rest B ((d, v) :: env) G S) := ⟨fun h => ⟨fun ty pos af op hop hd => .val rfl rfl (hd d rfl) (fun a w sa _ => by rw [hop a sa w, hF.h.h]) h⟩⟩
instance {vs : List Value} {pre : Prop} [hF : PureF P f vs G pre v] : V (CallV P n L Q rest B env G S (some d) f vs) (Side pre (WL P n L Q rest B ((d, v) :: env) G S)) := ⟨fun h => by
  obtain ⟨Gc, hG, hf⟩ := hF.h h.c
  refine .by hf hG .nil ?_
  rintro _ _ _ ⟨rfl, rfl, rfl⟩
  exact h.p⟩
instance {vs : List Value} {pre : Prop} [hF : RetF P f vs G pre R a] : V (CallV P n L Q rest B env G S (some d) f vs) (Side pre (∀ u, WL P n L Q rest B ((d, u) :: env) (rd R a u :: G) S)) := ⟨fun h => by
  obtain ⟨Gc, hG, hf⟩ := hF.h h.c
  refine .by hf hG .nil ?_
  rintro _ _ _ ⟨rfl, rfl⟩
  exact h.p _⟩

/-! A slice is made, and lies open as a box -/
theorem WL.makeB {kl kc : IntKind} (m : Nat) {i : Int} {z : Value} {by_ : Nat} (hx : env.ev x = some (.int kl i)) (hy : env.ev y = some (.int kc i)) [hT : TU P T (.slice E)] [hs : TS P E 1] [hz : TZ P E [z]] [hb : TB P E by_] (him : i = (m : Int)) (hm : m * by_ ≤ 140737488355328) (h63 : m ≤ maxLen) (hd : Nat.blt d n = true)
    (h : ∀ b, WL P n L Q rest B ((d, .slice (some ⟨b, 0, none⟩) m m) :: env) G (Qd.box b E (List.replicate m z) :: S)) : WL P n L Q (⟨some d, .makeSlice T x y, ty, pos, af, none⟩ :: rest) B env G S := by
  subst him
  obtain ⟨inf, zz, hi, hzz, hc⟩ := info_of_tz hz.h
  have his : inf.size = 1 := by obtain ⟨i', hi', e⟩ := info_of_tsz hs.h; rw [hi] at hi'; cases hi'; exact e
  have hib : inf.bytes = by_ := by have := hb.h; simpa [tby, hi] using this
  have hmax : m ≤ 9223372036854775807 := by simpa [maxLen] using h63
  have hcells : (madeCells zz.cells (m * inf.size)).toList = List.replicate m z := by
    have hzc : zz.cells = #[z] := by rw [← Array.toList_inj, hc]
    rw [hzc, his, Nat.mul_one]
    unfold madeCells
    apply List.ext_getElem?
    intro j
    by_cases hj : j < m
    · simp [hj, Nat.mod_one]
    · simp [hj]
  refine .valW (I := Nat) (v := fun b => .slice (some ⟨b, 0, none⟩) m m) (G' := fun _ => G) (S' := fun b => Qd.box b E (List.replicate m z) :: S) rfl rfl hd (fun a w sa sw => ⟨w.heap.size, w.alloc (.cells (madeCells zz.cells (m * inf.size)) E), ?_, ?_⟩) (fun b => h _)
  · have hbm : (inf.bytes : Int) * (m : Int) ≤ 281474976710656 := by
      rw [hib, Int.mul_comm, ← Int.natCast_mul]; omega
    have r := run_make (P := P) w T E inf zz hT.h hi hzz kl kc m m (by omega) (by omega) hbm (by omega)
    simp only [Int.toNat_natCast] at r
    simp [execOp, sa.ev hx, sa.ev hy, r]
  · have h1 := sw.alloc (.cells (madeCells zz.cells (m * inf.size)) E)
    unfold Qd.box
    rw [← hcells]
    simpa using h1
end
end Go.Qd
