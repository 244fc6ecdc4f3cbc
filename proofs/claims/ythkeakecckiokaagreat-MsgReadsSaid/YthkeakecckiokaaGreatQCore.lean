import Derived.Test.YthkeakecckiokaaGreatQWp
namespace Go.Qd
open Go

/-! ### Environments: what some slots hold -/
abbrev Env := List (Nat × Value)
def Env.get : Env → Nat → Option Value
  | [], _ => none
  | (j, v) :: r, i => bif Nat.beq j i then some v else Env.get r i
def Env.ev (env : Env) : Operand → Option Value
  | .tmp t => env.get t
  | .const v => some v
  | .global g => some (.pointer (some ⟨g, 0, none⟩))
  | .func f => some (.func (.func f) #[] #[])

structure St (n : Nat) (ds : List Deferred) (env : Env) (a : Act) : Prop where
  size : a.tmps.size = n
  defers : a.defers = ds
  get : ∀ i v, env.get i = some v → a.tmps[i]? = some v

theorem St.ev {n : Nat} {ds : List Deferred} {env : Env} {a : Act} (h : St n ds env a) {x : Operand} {v : Value} (hx : env.ev x = some v) : a.eval x = v := by
  cases x with
  | tmp t => have := h.get t v hx; simp [Act.eval, this]
  | const c => simpa [Env.ev, Act.eval] using hx
  | global g => simpa [Env.ev, Act.eval] using hx
  | func f => simpa [Env.ev, Act.eval] using hx

theorem St.put {n : Nat} {ds : List Deferred} {env : Env} {a : Act} (h : St n ds env a) {d : Nat} (hd : Nat.blt d n = true) (v : Value) : St n ds ((d, v) :: env) (a.put (some d) v) := by
  have hd' : d < n := by simpa [Nat.blt_eq] using hd
  refine ⟨by simp [Act.put, h.size], h.defers, fun i u hi => ?_⟩
  simp only [Env.get] at hi
  by_cases e : d = i
  · subst e
    simp at hi; subst hi
    have : d < a.tmps.size := by rw [h.size]; exact hd'
    simp [Act.put, this]
  · have hb : Nat.beq d i = false := by
      cases hq : Nat.beq d i with
      | false => rfl
      | true => exact absurd (Nat.eq_of_beq_eq_true hq) e
    rw [hb] at hi
    have := h.get i u hi
    simp [Act.put, Array.getElem?_setIfInBounds_ne e, this]

def EnvLe (e1 e2 : Env) : Prop := ∀ i v, e1.get i = some v → e2.get i = some v
theorem EnvLe.nil {e : Env} : EnvLe [] e := fun _ _ h => by simp [Env.get] at h
theorem EnvLe.cons {e e2 : Env} {i : Nat} {v : Value} (h : e2.get i = some v) (t : EnvLe e e2) : EnvLe ((i, v) :: e) e2 := by
  intro j u hj
  simp only [Env.get] at hj
  cases hb : Nat.beq i j with
  | true => rw [hb] at hj; simp at hj; subst hj; rw [← Nat.eq_of_beq_eq_true hb]; exact h
  | false => rw [hb] at hj; exact t j u hj
theorem EnvLe.refl {e : Env} : EnvLe e e := fun _ _ h => h
theorem St.mono {n : Nat} {ds : List Deferred} {e1 e2 : Env} {a : Act} (h : St n ds e2 a) (l : EnvLe e1 e2) : St n ds e1 a := ⟨h.size, h.defers, fun i v hi => h.get i v (l i v hi)⟩

/-! ### Heap fragments -/
abbrev Hp := Nat → Option Obj
def Hp.le (h k : Hp) : Prop := ∀ b o, h b = some o → k b = some o
def Hp.disj (h k : Hp) : Prop := ∀ b, h b = none ∨ k b = none
def Hp.union (h k : Hp) : Hp := fun b => match h b with | some o => some o | none => k b
def Hp.none : Hp := fun _ => Option.none
def Hp.one (b : Nat) (o : Obj) : Hp := fun c => if c = b then some o else Option.none

structure Pers where
  holds : Hp → Prop
  mono : ∀ h k, Hp.le h k → holds h → holds k
abbrev Res := Hp → Prop

def Star : List Res → Hp → Prop
  | [], h => ∀ b, h b = Option.none
  | r :: s, h => ∃ h1 h2, Hp.disj h1 h2 ∧ h = Hp.union h1 h2 ∧ r h1 ∧ Star s h2

/-- No draw is undone. -/
def Dr (B w : World) : Prop := B.drawn ≤ w.drawn
theorem Dr.refl (w : World) : Dr w w := Nat.le_refl w.drawn
theorem Dr.on {B w w' : World} (h : Dr B w) (e : w.drawn ≤ w'.drawn) : Dr B w' := Nat.le_trans (m := w.drawn) h e
structure Sat (B : World) (G : List Pers) (S : List Res) (w : World) : Prop where
  os : w.os = B.os
  tape : w.tape = B.tape
  output : w.output = B.output
  size : B.heap.size ≤ w.heap.size ∧ Dr B w
  heap : ∃ m h : Hp, Hp.disj m h ∧ (∀ b o, m b = some o → w.heap[b]? = some o) ∧ (∀ b o, h b = some o → w.heap[b]? = some o) ∧ (∀ g ∈ G, g.holds m) ∧ Star S h

theorem Hp.union_none_left (h : Hp) : Hp.union Hp.none h = h := by funext b; simp [Hp.union, Hp.none]
theorem Hp.union_left {h k : Hp} {b : Nat} {o : Obj} (e : h b = some o) : Hp.union h k b = some o := by simp [Hp.union, e]
theorem Hp.union_right {h k : Hp} (d : Hp.disj h k) {b : Nat} {o : Obj} (e : k b = some o) : Hp.union h k b = some o := by
  rcases d b with hn | hn
  · simp [Hp.union, hn, e]
  · rw [hn] at e; cases e
theorem Hp.union_some {h k : Hp} {b : Nat} {o : Obj} (e : Hp.union h k b = some o) : h b = some o ∨ k b = some o := by
  unfold Hp.union at e
  cases hb : h b with
  | none => rw [hb] at e; exact .inr e
  | some x => rw [hb] at e; exact .inl e
theorem Hp.union_eq_none {h k : Hp} {b : Nat} : Hp.union h k b = Option.none ↔ h b = Option.none ∧ k b = Option.none := by
  unfold Hp.union
  cases hb : h b <;> simp
theorem Hp.disj_comm {h k : Hp} (d : Hp.disj h k) : Hp.disj k h := fun b => (d b).symm
theorem Hp.disj_union {m h k : Hp} : Hp.disj m (Hp.union h k) ↔ Hp.disj m h ∧ Hp.disj m k := by
  constructor
  · intro d
    exact ⟨fun b => (d b).imp id fun e => (Hp.union_eq_none.1 e).1, fun b => (d b).imp id fun e => (Hp.union_eq_none.1 e).2⟩
  · rintro ⟨d1, d2⟩ b
    rcases d1 b with e | e
    · exact .inl e
    · rcases d2 b with f | f
      · exact .inl f
      · exact .inr (Hp.union_eq_none.2 ⟨e, f⟩)
theorem Hp.union_comm {h k : Hp} (d : Hp.disj h k) : Hp.union h k = Hp.union k h := by
  funext b
  rcases d b with e | e <;> (unfold Hp.union; rw [e]) <;> (first | (cases h b <;> rfl) | (cases k b <;> rfl))
theorem Hp.union_assoc (h k l : Hp) : Hp.union (Hp.union h k) l = Hp.union h (Hp.union k l) := by
  funext b; unfold Hp.union; cases h b <;> rfl
theorem Hp.le_union_left (h k : Hp) : Hp.le h (Hp.union h k) := fun _ _ e => Hp.union_left e

theorem Star.swap {r s : Res} {t : List Res} {h : Hp} (H : Star (r :: s :: t) h) : Star (s :: r :: t) h := by
  obtain ⟨h1, k, d, rfl, hr, h2, h3, d2, rfl, hs, ht⟩ := H
  rw [Hp.disj_union] at d
  refine ⟨h2, Hp.union h1 h3, ?_, ?_, hs, h1, h3, d.2, rfl, hr, ht⟩
  · rw [Hp.disj_union]; exact ⟨Hp.disj_comm d.1, d2⟩
  · rw [← Hp.union_assoc, Hp.union_comm d.1, Hp.union_assoc]
theorem Star.perm {s t : List Res} (p : s.Perm t) : ∀ {h : Hp}, Star s h → Star t h := by
  induction p with
  | nil => exact fun h => h
  | cons r _ ih => rintro h ⟨h1, h2, d, e, hr, hs⟩; exact ⟨h1, h2, d, e, hr, ih hs⟩
  | swap r s t => exact fun h => Star.swap h
  | trans _ _ ih1 ih2 => exact fun h => ih2 (ih1 h)

theorem Sat.perm {B : World} {G : List Pers} {S T : List Res} {w : World} (h : Sat B G S w) (p : S.Perm T) : Sat B G T w := by
  obtain ⟨m, k, d, hm, hk, hg, hs⟩ := h.heap
  exact ⟨h.os, h.tape, h.output, h.size, m, k, d, hm, hk, hg, hs.perm p⟩
/-- One owned piece is let go. -/
theorem Sat.drop {B : World} {G : List Pers} {r : Res} {S : List Res} {w : World} (h : Sat B G (r :: S) w) : Sat B G S w := by
  obtain ⟨m, k, d, hm, hk, hg, h1, h2, d2, rfl, hr, hs⟩ := h.heap
  rw [Hp.disj_union] at d
  exact ⟨h.os, h.tape, h.output, h.size, m, h2, d.2, hm, fun b o e => hk b o (Hp.union_right d2 e), hg, hs⟩
/-- What is known for good, said otherwise. -/
theorem Sat.pers {B : World} {G G' : List Pers} {S : List Res} {w : World} (h : Sat B G S w) (f : ∀ m, (∀ g ∈ G, g.holds m) → ∀ g ∈ G', g.holds m) : Sat B G' S w := by
  obtain ⟨m, k, d, hm, hk, hg, hs⟩ := h.heap
  exact ⟨h.os, h.tape, h.output, h.size, m, k, d, hm, hk, f m hg, hs⟩
theorem Sat.sub {B : World} {G G' : List Pers} {S : List Res} {w : World} (h : Sat B G S w) (f : ∀ g ∈ G', g ∈ G) : Sat B G' S w :=
  h.pers fun _ hm g hg => hm g (f g hg)
/-- One owned piece, said otherwise. -/
theorem Sat.conv {B : World} {G : List Pers} {r r' : Res} {S : List Res} {w : World} (h : Sat B G (r :: S) w) (f : ∀ k, r k → r' k) : Sat B G (r' :: S) w := by
  obtain ⟨m, k, d, hm, hk, hg, h1, h2, d2, rfl, hr, hs⟩ := h.heap
  exact ⟨h.os, h.tape, h.output, h.size, m, _, d, hm, hk, hg, h1, h2, d2, rfl, f _ hr, hs⟩
/-- One owned piece becomes known for good. -/
theorem Sat.publish {B : World} {G : List Pers} {r : Res} {g : Pers} {S : List Res} {w : World} (h : Sat B G (r :: S) w) (f : ∀ k, r k → g.holds k) : Sat B (g :: G) S w := by
  obtain ⟨m, k, d, hm, hk, hg, h1, h2, d2, rfl, hr, hs⟩ := h.heap
  rw [Hp.disj_union] at d
  refine ⟨h.os, h.tape, h.output, h.size, Hp.union m h1, h2, ?_, ?_, ?_, ?_, hs⟩
  · exact Hp.disj_comm (Hp.disj_union.2 ⟨Hp.disj_comm d.2, Hp.disj_comm d2⟩)
  · intro b o e
    rcases Hp.union_some e with e | e
    · exact hm b o e
    · exact hk b o (Hp.union_left e)
  · exact fun b o e => hk b o (Hp.union_right d2 e)
  · intro x hx
    cases hx with
    | head => exact g.mono _ _ (fun b o e => Hp.union_right d.1 e) (f _ hr)
    | tail _ hx => exact x.mono _ _ (Hp.le_union_left _ _) (hg x hx)
theorem Sat.pure {B : World} {G : List Pers} {S : List Res} {w : World} {p : Prop} (h : Sat B G S w) (f : ∀ m, (∀ g ∈ G, g.holds m) → p) : p := by
  obtain ⟨m, k, d, hm, hk, hg, hs⟩ := h.heap
  exact f m hg
theorem Sat.pureRes {B : World} {G : List Pers} {r : Res} {S : List Res} {w : World} {p : Prop} (h : Sat B G (r :: S) w) (f : ∀ k, r k → p) : p := by
  obtain ⟨m, k, d, hm, hk, hg, h1, h2, d2, rfl, hr, hs⟩ := h.heap
  exact f _ hr
theorem Sat.drew {B : World} {G : List Pers} {S : List Res} {w : World} (h : Sat B G S w) : Sat B G S w.drew := ⟨h.os, h.tape, h.output, ⟨h.size.1, h.size.2.on (Nat.le_succ _)⟩, h.heap⟩

/-- A block, owned. -/
def blk (b : Nat) (o : Obj) : Res := fun h => h = Hp.one b o
theorem Sat.alloc {B : World} {G : List Pers} {S : List Res} {w : World} (h : Sat B G S w) (o : Obj) : Sat B G (blk w.heap.size o :: S) (w.alloc o) := by
  obtain ⟨m, k, d, hm, hk, hg, hs⟩ := h.heap
  have lt : ∀ (f : Hp), (∀ (b : Nat) (x : Obj), f b = some x → w.heap[b]? = some x) → f w.heap.size = Option.none := by
    intro f hf
    cases e : f w.heap.size with
    | none => rfl
    | some x => have := hf _ _ e; simp at this
  have old : ∀ (b : Nat) (x : Obj), w.heap[b]? = some x → (w.alloc o).heap[b]? = some x := by
    intro b x e
    have hb : b < w.heap.size := (Array.getElem?_eq_some_iff.1 e).1
    show (w.heap.push o)[b]? = some x
    rw [Array.getElem?_push, if_neg (by omega)]; exact e
  refine ⟨h.os, h.tape, h.output, ⟨by simp; have := h.size.1; omega, h.size.2.on (Nat.le_refl _)⟩, m, Hp.union (Hp.one w.heap.size o) k, ?_, fun b x e => old b x (hm b x e), ?_, hg, _, k, ?_, rfl, rfl, hs⟩
  · rw [Hp.disj_union]
    refine ⟨fun b => ?_, d⟩
    by_cases e : b = w.heap.size
    · subst e; exact .inl (lt m hm)
    · exact .inr (by simp [Hp.one, e])
  · intro b x e
    rcases Hp.union_some e with e | e
    · simp only [Hp.one] at e
      by_cases hb : b = w.heap.size
      · subst hb; simp at e; subst e; show (w.heap.push _)[w.heap.size]? = _; simp
      · simp [hb] at e
    · exact old b x (hk b x e)
  · intro b
    by_cases e : b = w.heap.size
    · subst e; exact .inr (lt k hk)
    · exact .inl (by simp [Hp.one, e])
theorem Sat.at {B : World} {G : List Pers} {S : List Res} {w : World} {b : Nat} {o : Obj} (h : Sat B G (blk b o :: S) w) : w.heap[b]? = some o := by
  obtain ⟨m, k, d, hm, hk, hg, h1, h2, d2, rfl, hr, hs⟩ := h.heap
  exact hk b o (Hp.union_left (by rw [hr]; simp [Hp.one]))
/-- The owned block is set anew. -/
theorem Sat.set {B : World} {G : List Pers} {S : List Res} {w w' : World} {b : Nat} {o o' : Obj} (h : Sat B G (blk b o :: S) w)
    (hos : w'.os = w.os) (ht : w'.tape = w.tape) (ho : w'.output = w.output) (hsz : w.heap.size ≤ w'.heap.size) (hb : w'.heap[b]? = some o') (hne : ∀ c, c < w.heap.size → c ≠ b → w'.heap[c]? = w.heap[c]?) (hdr : w.drawn ≤ w'.drawn := by exact Nat.le_refl _) :
    Sat B G (blk b o' :: S) w' := by
  obtain ⟨m, k, d, hm, hk, hg, h1, h2, d2, rfl, hr, hs⟩ := h.heap
  rw [Hp.disj_union] at d
  have hr' : h1 = Hp.one b o := hr
  subst hr'
  have off : ∀ (f : Hp), Hp.disj f (Hp.one b o) → ∀ c x, f c = some x → c ≠ b := by
    intro f hf c x e hc
    subst hc
    rcases hf c with e' | e'
    · rw [e'] at e; cases e
    · simp [Hp.one] at e'
  have keep : ∀ (f : Hp), Hp.disj f (Hp.one b o) → (∀ (c : Nat) (x : Obj), f c = some x → w.heap[c]? = some x) → ∀ (c : Nat) (x : Obj), f c = some x → w'.heap[c]? = some x := by
    intro f hf hw c x e
    have hx := hw c x e
    rw [hne c (Array.getElem?_eq_some_iff.1 hx).1 (off f hf c x e)]; exact hx
  refine ⟨hos.trans h.os, ht.trans h.tape, ho.trans h.output, ⟨Nat.le_trans h.size.1 hsz, h.size.2.on hdr⟩, m, Hp.union (Hp.one b o') h2, ?_, keep m d.1 hm, ?_, hg, _, h2, ?_, rfl, rfl, hs⟩
  · rw [Hp.disj_union]
    refine ⟨fun c => ?_, d.2⟩
    rcases d.1 c with e | e
    · exact .inl e
    · right; simp only [Hp.one] at e ⊢; split at e <;> simp_all
  · intro c x e
    rcases Hp.union_some e with e | e
    · simp only [Hp.one] at e
      by_cases hc : c = b
      · subst hc; simp at e; subst e; exact hb
      · simp [hc] at e
    · exact keep h2 (Hp.disj_comm d2) (fun c x e => hk c x (Hp.union_right d2 e)) c x e
  · intro c
    rcases d2 c with e | e
    · left; simp only [Hp.one] at e ⊢; split at e <;> simp_all
    · exact .inr e

/-! ### The judgements -/
structure WC (P : Program) (n : Nat) (c : Code) (Q : Exit → Act → World → Prop) (B : Base) (env : Env) (G : List Pers) (S : List Res) : Prop where
  go : ∀ a w, St n B.ds env a → Sat B G S w → c.wpIn (Fr B.r) 0 P Q a w
structure WL (P : Program) (n : Nat) (L : List Oper) (Q : Exit → Act → World → Prop) (l : List Oper) (B : Base) (env : Env) (G : List Pers) (S : List Res) : Prop where
  go : ∀ a w, St n B.ds env a → Sat B G S w → wpList P L.toArray Q l a w
structure WK (n : Nat) (K : Act → World → Prop) (B : Base) (env : Env) (G : List Pers) (S : List Res) : Prop where
  go : ∀ a w, St n B.ds env a → Sat B G S w → K a w
structure WX (n : Nat) (Q : Exit → Act → World → Prop) (e : Exit) (B : Base) (env : Env) (G : List Pers) (S : List Res) : Prop where
  go : ∀ a w, St n B.ds env a → Sat B G S w → Q e a w

section
variable {P : Program} {n : Nat} {Q : Exit → Act → World → Prop} {B : Base} {env : Env} {G : List Pers} {S : List Res}

theorem WC.seq {x y : Code} (h : ∀ K : Act → World → Prop, (∀ env G S, WC P n y Q B env G S → WK n K B env G S) → WC P n x (Exit.then K Q) B env G S) : WC P n (.seq x y) Q B env G S :=
  ⟨fun a w sa sw => wpIn_seq ((h (fun a w => y.wpIn (Fr B.r) 0 P Q a w) (fun _ _ _ hy => ⟨hy.go⟩)).go a w sa sw)⟩
theorem WC.block {id : Nat} {c : Code} (h : WC P n c (Exit.inBlock id Q) B env G S) : WC P n (.block id c) Q B env G S :=
  ⟨fun a w sa sw => wpIn_block (h.go a w sa sw)⟩
theorem WC.skip (h : WX n Q .normal B env G S) : WC P n .skip Q B env G S := ⟨fun a w sa sw => wpIn_skip (h.go a w sa sw)⟩
theorem WC.exit {id : Nat} (h : WX n Q (.exit id) B env G S) : WC P n (.exit id) Q B env G S := ⟨fun a w sa sw => wpIn_exit (h.go a w sa sw)⟩
theorem WC.ret (h : WX n Q .ret B env G S) : WC P n .ret Q B env G S := ⟨fun a w sa sw => wpIn_ret (h.go a w sa sw)⟩
theorem WC.region {id : Nat} {l : List Oper} (h : WL P n l Q l B env G S) : WC P n (.region id l.toArray false) Q B env G S :=
  ⟨fun a w sa sw => wp_region_lit (h.go a w sa sw)⟩
/-- A test, its value known. -/
structure CondV (P : Program) (n : Nat) (x y : Code) (Q : Exit → Act → World → Prop) (B : Base) (env : Env) (G : List Pers) (S : List Res) (v : Value) : Prop where
  go : ∃ b, v = .bool b ∧ WC P n (if b then x else y) Q B env G S
theorem WC.cond {c : Operand} {x y : Code} {v : Value} (hc : env.ev c = some v) (h : CondV P n x y Q B env G S v) : WC P n (.cond c x y) Q B env G S := by
  obtain ⟨b, hv, hb⟩ := h.go
  subst hv
  exact ⟨fun a w sa sw => wpIn_cond (sa.ev hc) (hb.go a w sa sw)⟩
theorem CondV.t {x y : Code} (h : WC P n x Q B env G S) : CondV P n x y Q B env G S (.bool true) := ⟨true, rfl, h⟩
theorem CondV.f {x y : Code} (h : WC P n y Q B env G S) : CondV P n x y Q B env G S (.bool false) := ⟨false, rfl, h⟩
theorem CondV.bb {x y : Code} {b : Bool} (ht : b = true → WC P n x Q B env G S) (hf : b = false → WC P n y Q B env G S) : CondV P n x y Q B env G S (.bool b) := by
  cases b
  · exact .f (hf rfl)
  · exact .t (ht rfl)
theorem CondV.dd {x y : Code} {p : Prop} [Decidable p] (ht : p → WC P n x Q B env G S) (hf : ¬ p → WC P n y Q B env G S) : CondV P n x y Q B env G S (.bool (decide p)) :=
  .bb (fun h => ht (of_decide_eq_true h)) (fun h => hf (of_decide_eq_false h))
theorem WC.conv {c : Code} {env' : Env} {G' : List Pers} {S' : List Res} (h : WC P n c Q B env' G' S') (he : EnvLe env' env) (hs : ∀ w, Sat B G S w → Sat B G' S' w) : WC P n c Q B env G S :=
  ⟨fun a w sa sw => h.go a w (sa.mono he) (hs w sw)⟩
theorem WK.conv {K : Act → World → Prop} {env' : Env} {G' : List Pers} {S' : List Res} (h : WK n K B env' G' S') (he : EnvLe env' env) (hs : ∀ w, Sat B G S w → Sat B G' S' w) : WK n K B env G S :=
  ⟨fun a w sa sw => h.go a w (sa.mono he) (hs w sw)⟩
theorem WL.conv {L l : List Oper} {env' : Env} {G' : List Pers} {S' : List Res} (h : WL P n L Q l B env' G' S') (he : EnvLe env' env) (hs : ∀ w, Sat B G S w → Sat B G' S' w) : WL P n L Q l B env G S :=
  ⟨fun a w sa sw => h.go a w (sa.mono he) (hs w sw)⟩
theorem WX.conv {e : Exit} {env' : Env} {G' : List Pers} {S' : List Res} (h : WX n Q e B env' G' S') (he : EnvLe env' env) (hs : ∀ w, Sat B G S w → Sat B G' S' w) : WX n Q e B env G S :=
  ⟨fun a w sa sw => h.go a w (sa.mono he) (hs w sw)⟩
theorem WC.ex {c : Code} {p : Prop} (hp : ∀ w, Sat B G S w → p) (h : p → WC P n c Q B env G S) : WC P n c Q B env G S :=
  ⟨fun a w sa sw => (h (hp w sw)).go a w sa sw⟩
theorem WL.ex {L l : List Oper} {p : Prop} (hp : ∀ w, Sat B G S w → p) (h : p → WL P n L Q l B env G S) : WL P n L Q l B env G S :=
  ⟨fun a w sa sw => (h (hp w sw)).go a w sa sw⟩
theorem WL.nil {L : List Oper} (h : WX n Q .normal B env G S) : WL P n L Q [] B env G S := ⟨fun a w sa sw => wpList_nil (h.go a w sa sw)⟩
theorem WX.toK {K : Act → World → Prop} (h : WK n K B env G S) : WX n (Exit.then K Q) .normal B env G S := ⟨fun a w sa sw => h.go a w sa sw⟩
theorem WX.thenExit {K : Act → World → Prop} {i : Nat} (h : WX n Q (.exit i) B env G S) : WX n (Exit.then K Q) (.exit i) B env G S := ⟨fun a w sa sw => h.go a w sa sw⟩
theorem WX.thenRet {K : Act → World → Prop} (h : WX n Q .ret B env G S) : WX n (Exit.then K Q) .ret B env G S := ⟨fun a w sa sw => h.go a w sa sw⟩
theorem WX.blockNormal {id : Nat} (h : WX n Q .normal B env G S) : WX n (Exit.inBlock id Q) .normal B env G S := ⟨fun a w sa sw => h.go a w sa sw⟩
theorem WX.blockRet {id : Nat} (h : WX n Q .ret B env G S) : WX n (Exit.inBlock id Q) .ret B env G S := ⟨fun a w sa sw => h.go a w sa sw⟩
theorem WX.blockHit {id : Nat} (h : WX n Q .normal B env G S) : WX n (Exit.inBlock id Q) (.exit id) B env G S := ⟨fun a w sa sw => by
  simp only [Exit.inBlock, if_true]; exact h.go a w sa sw⟩
theorem WX.blockMiss {id i : Nat} (hne : Nat.beq i id = false) (h : WX n Q (.exit i) B env G S) : WX n (Exit.inBlock id Q) (.exit i) B env G S := ⟨fun a w sa sw => by
  have : i ≠ id := fun e => by subst e; simp at hne
  simp only [Exit.inBlock, if_neg this]; exact h.go a w sa sw⟩

theorem WC.loop {c : Code} {I : Type} (E : I → Env) (GG : I → List Pers) (SS : I → List Res) (inv : I → Prop) (m : I → Nat) (i0 : I) (h0 : inv i0) (he : EnvLe (E i0) env) (hs : ∀ w, Sat B G S w → Sat B (GG i0) (SS i0) w)
    (round : ∀ i, inv i → ∀ K : Act → World → Prop, (∀ j, inv j → m j < m i → WK n K B (E j) (GG j) (SS j)) → WC P n c (Exit.then K Q) B (E i) (GG i) (SS i)) : WC P n (.loop c) Q B env G S := by
  refine ⟨?_⟩
  intro a w sa sw b k cs hro hb hr
  have key : ∀ (q : Nat) (i : I) (a : Act) (w : World), inv i → m i = q → St n B.ds (E i) a → Sat B (GG i) (SS i) w →
      ∃ e a' w', Q e a' w' ∧ ArrivesIn (Machine.fenced P (Fr B.r)) P (lone (b.atR a (.code c :: .inLoop c :: k)) cs w) b k cs e a' w' := by
    intro q
    induction q using Nat.strongRecOn with
    | _ q ih =>
      intro i a w hi hq sa sw
      obtain ⟨e, a₁, w₁, hx, harr⟩ := (round i hi (fun a w => ∃ j, inv j ∧ m j < m i ∧ St n B.ds (E j) a ∧ Sat B (GG j) (SS j) w) (fun j hj hlt => ⟨fun a w sa sw => ⟨j, hj, hlt, sa, sw⟩⟩)).go a w sa sw b (.inLoop c :: k) cs hro hb hr
      cases e with
      | normal =>
        obtain ⟨j, hj, hlt, sa₁, sw₁⟩ := hx
        obtain ⟨e₂, a₂, w₂, hq₂, harr₂⟩ := ih (m j) (hq ▸ hlt) j a₁ w₁ hj rfl sa₁ sw₁
        exact ⟨e₂, a₂, w₂, hq₂, .of_steps (StepsIn.trans harr (.one (fenced_calm hb hr rfl) stepR_inLoop)) harr₂⟩
      | exit id => exact ⟨_, a₁, w₁, hx, .pass (x := .inLoop c) rfl (fun _ _ => .inl (by simp)) harr⟩
      | goto l => exact ⟨_, a₁, w₁, hx, .pass (x := .inLoop c) rfl (fun _ _ => .inl (by simp)) harr⟩
      | ret => exact ⟨_, a₁, w₁, hx, .pass (x := .inLoop c) rfl (fun _ _ => .inl (by simp)) harr⟩
      | panic ch => exact ⟨_, a₁, w₁, hx, .pass (x := .inLoop c) rfl (fun _ _ => .inl (by simp)) harr⟩
      | outgrown => exact ⟨_, a₁, w₁, hx, .pass (x := .inLoop c) rfl (fun _ _ => .inl (by simp)) harr⟩
  obtain ⟨e, a', w', hx, harr⟩ := key _ i0 a w h0 rfl (sa.mono he) (hs w sw)
  exact ⟨e, a', w', hx, .of_steps (.one (fenced_calm hb hr rfl) stepR_loop) harr⟩
end
end Go.Qd
