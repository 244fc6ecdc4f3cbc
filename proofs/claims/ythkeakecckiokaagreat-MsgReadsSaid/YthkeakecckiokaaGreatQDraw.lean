import Derived.Test.YthkeakecckiokaaGreatQAuto
namespace Go.Qd
open Go

/-! ### A region that draws its order: each operation by itself, in the order of the text; what an operation leaves is said of its slot alone -/
inductive Post where
  | is (x : Value)
  | kn (f : Value → Pers)
def Post.pers : Post → Value → Pers
  | .is x, v => ⟨fun _ => v = x, fun _ _ _ h => h⟩
  | .kn f, v => f v
/-- An operation's number, its slot, what it leaves. -/
abbrev Acc := List (Nat × Option Nat × Post × List Nat)
def withDeps : List Nat → Acc → Env → List Pers → (Env → List Pers → Prop) → Prop
  | _, [], env, G, k => k env G
  | deps, (i, d, p, ds) :: r, env, G, k =>
    bif deps.any (Nat.beq i) then
      match d, p with
      | some d, .is x => withDeps (ds ++ deps) r ((d, x) :: env) G k
      | some d, .kn f => ∀ v, withDeps (ds ++ deps) r ((d, v) :: env) (f v :: G) k
      | none, _ => withDeps (ds ++ deps) r env G k
    else withDeps deps r env G k
def depsOf (o : Oper) : List Nat := (o.after.toList.filter (Region.binds .any)).map (·.on)
def dstsOf (L : List Oper) : List Nat := L.filterMap (·.dst)
/-- What an operation must come to: nothing but its slot, and what is known of it. -/
def PQ (n : Nat) (B : Base) (G : List Pers) (S : List Res) (d : Option Nat) (p : Post) : Exit → Act → World → Prop := fun e a w =>
  e = .normal ∧ a.tmps.size = n ∧ a.defers = B.ds ∧ ∃ v, (∀ t, d = some t → a.tmps[t]? = some v) ∧ Sat B (p.pers v :: G) S w
structure Ob (P : Program) (n : Nat) (L : List Oper) (B : Base) (env : Env) (G : List Pers) (S : List Res) (acc : Acc) (o : Oper) (p : Post) : Prop where
  go : ∀ Gx, withDeps (depsOf o) acc env (G ++ Gx) fun env' G' => WL P n L (PQ n B (G ++ Gx) S o.dst p) [o] B env' G' S
def Obls (P : Program) (n : Nat) (L : List Oper) (B : Base) (env : Env) (G : List Pers) (S : List Res) (fin : Acc → Prop) : Nat → List Oper → Acc → Prop
  | _, [], acc => fin acc
  | i, o :: r, acc => ∃ p, Ob P n L B env G S acc o p ∧ Obls P n L B env G S fin (i + 1) r ((i, o.dst, p, depsOf o) :: acc)
def allOf (acc : Acc) : List Nat := acc.map (·.1)

section
variable {P : Program} {n : Nat} {Q : Exit → Act → World → Prop} {B : Base} {env : Env} {G : List Pers} {S : List Res} {L : List Oper}
/-- The state in the middle of such a region: what has run, its slots and what is known of them. -/
structure Mid (n : Nat) (B : Base) (env : Env) (G : List Pers) (S : List Res) (accs : Acc) (vals : Nat → Value) (listed : Nat → Bool) (a : Act) (w : World) : Prop where
  st : St n B.ds env a
  slot : ∀ i d p ds, (i, some d, p, ds) ∈ accs → listed i = true → a.tmps[d]? = some (vals i)
  clos : ∀ x ∈ accs, listed x.1 = true → ∀ j ∈ x.2.2.2, listed j = true
  sat : Sat B (((accs.filter fun x => listed x.1).map fun x => x.2.2.1.pers (vals x.1)) ++ G) S w

theorem withDeps_go {accs : Acc} {vals : Nat → Value} {listed : Nat → Bool} {a : Act} {w : World} {k : Env → List Pers → Prop} (hc : ∀ x ∈ accs, listed x.1 = true → ∀ j ∈ x.2.2.2, listed j = true) :
    ∀ (acc : Acc) (deps : List Nat) (e : Env) (H : List Pers), (∀ x ∈ acc, x ∈ accs) → (∀ i ∈ deps, i ∈ acc.map (·.1) → listed i = true) → (∀ i d p ds, (i, some d, p, ds) ∈ accs → listed i = true → a.tmps[d]? = some (vals i)) → St n B.ds e a → Sat B H S w →
      (∀ x ∈ accs, listed x.1 = true → x.2.2.1.pers (vals x.1) ∈ H) → withDeps deps acc e H k → ∃ e' H', St n B.ds e' a ∧ Sat B H' S w ∧ k e' H'
  | [], deps, e, H, _, _, _, se, sw, _, h => ⟨e, H, se, sw, by simpa only [withDeps] using h⟩
  | (i, d, p, ds) :: r, deps, e, H, hsub, hl, hslot, se, sw, hmem, h => by
    simp only [withDeps] at h
    have hr : ∀ x ∈ r, x ∈ accs := fun x hx => hsub x (.tail _ hx)
    have hlr : ∀ i ∈ deps, i ∈ r.map (·.1) → listed i = true := fun j hj hjr => hl j hj (by simp at hjr ⊢; exact .inr hjr)
    cases hb : deps.any (Nat.beq i) with
    | false => rw [hb] at h; exact withDeps_go hc r deps e H hr hlr hslot se sw hmem h
    | true =>
      rw [hb] at h
      obtain ⟨x, hx, he⟩ := List.any_eq_true.1 hb
      have hi : listed i = true := hl i (by rw [Nat.eq_of_beq_eq_true he]; exact hx) (by simp)
      have hlr' : ∀ j ∈ ds ++ deps, j ∈ r.map (·.1) → listed j = true := fun j hj hjr => by
        rcases List.mem_append.1 hj with hj | hj
        · exact hc _ (hsub _ (.head _)) hi j hj
        · exact hlr j hj hjr
      cases d with
      | none => simp only [cond_true] at h; exact withDeps_go hc r _ e H hr hlr' hslot se sw hmem (by cases p <;> exact h)
      | some d =>
        have hs := hslot i d p ds (hsub _ (.head _)) hi
        have hm := hmem (i, some d, p, ds) (hsub _ (.head _)) hi
        cases p with
        | is x =>
          simp only [cond_true] at h
          have hv : vals i = x := sw.pure fun m hm' => hm' _ hm
          refine withDeps_go hc r _ ((d, x) :: e) H hr hlr' hslot ⟨se.size, se.defers, fun j v hj => ?_⟩ sw hmem h
          simp only [Env.get] at hj
          cases hq : Nat.beq d j with
          | true => rw [hq] at hj; cases hj; rw [← Nat.eq_of_beq_eq_true hq, hs, hv]
          | false => rw [hq] at hj; exact se.get j v hj
        | kn f =>
          simp only [cond_true] at h
          refine withDeps_go hc r _ ((d, vals i) :: e) (f (vals i) :: H) hr hlr' hslot ⟨se.size, se.defers, fun j v hj => ?_⟩ (sw.sub fun g hg => ?_) (fun x hx hlx => .tail _ (hmem x hx hlx)) (h (vals i))
          · simp only [Env.get] at hj
            cases hq : Nat.beq d j with
            | true => rw [hq] at hj; cases hj; rw [← Nat.eq_of_beq_eq_true hq, hs]
            | false => rw [hq] at hj; exact se.get j v hj
          · cases hg with
            | head => exact hm
            | tail _ hg => exact hg

/-- One operation, wherever it comes. -/
theorem one_op {Q' : Exit → Act → World → Prop} {K : Act → World → Prop} {p : Post} {G' : List Pers} {i : Nat} {o : Oper} {a : Act} {w : World} (ho : L[i]? = some o) (h : wpList P L.toArray (PQ n B G' S o.dst p) [o] a w)
    (hK : ∀ v w', PQ n B G' S o.dst p .normal (a.put o.dst v) w' → K (a.put o.dst v) w') : wpOp P L.toArray Q' i K a w := by
  unfold wpOp
  have ho' : L.toArray[i]? = some o := by simpa using ho
  rw [ho']
  unfold wpList at h
  show if Region.wanted o (yielded L.toArray a.tmps) = true then _ else _
  split at h
  · rename_i hw
    rw [if_pos hw]
    · skip
      unfold Oper.wp at h ⊢
      generalize (execOp a.eval o).run P w = r at *
      cases r with
      | ok x w' =>
        cases x <;> simp only [Oper.upon] at h ⊢ <;> first
          | exact hK _ _ h
          | (refine Calls.mono h ?_
             intro e w'' he
             cases e <;> simp only at he ⊢
             · exact hK _ _ he
             · exact absurd he.1 (by simp)
             · obtain ⟨_, _, hq⟩ := he; exact absurd hq.1 (by simp))
          | exact Rows.mono h (fun v w'' he => hK _ _ he)
          | (refine RoundIn.mono h ?_
             intro e w'' he
             cases e <;> simp only at he ⊢
             · exact hK _ _ he
             · exact absurd he.1 (by simp)
             · obtain ⟨_, _, hq⟩ := he; exact absurd hq.1 (by simp))
          | (have := h.2.2.1; simp [Act.put] at this; cases hd : o.dst <;> simp [hd] at this)
      | halt x w' => simp only [Oper.upon] at h
  · rename_i hw
    rw [if_neg hw]
    exact hK _ _ h

def depsOK : Nat → List Oper → Bool
  | _, [] => true
  | i, o :: r => (depsOf o).all (fun j => Nat.blt j i) && depsOK (i + 1) r
def distinct : List Nat → Bool
  | [] => true
  | d :: r => !(r.any (Nat.beq d)) && distinct r
theorem depsOK_get : ∀ (l : List Oper) (k i : Nat) (o : Oper), depsOK k l = true → l[i]? = some o → ∀ j ∈ depsOf o, j < k + i
  | [], _, _, _, _, h => by simp at h
  | x :: r, k, 0, o, hk, h => by
    simp at h; subst h
    simp only [depsOK, Bool.and_eq_true, List.all_eq_true] at hk
    intro j hj
    have := hk.1 j hj
    simpa [Nat.blt_eq] using this
  | x :: r, k, i + 1, o, hk, h => by
    simp only [depsOK, Bool.and_eq_true] at hk
    intro j hj
    have := depsOK_get r (k + 1) i o hk.2 (by simpa using h) j hj
    omega
theorem distinct_get : ∀ (l : List Nat), distinct l = true → l.Nodup
  | [], _ => by simp
  | d :: r, h => by
    simp only [distinct, Bool.and_eq_true, Bool.not_eq_true'] at h
    refine List.nodup_cons.2 ⟨fun hm => ?_, distinct_get r h.2⟩
    have : r.any (Nat.beq d) = true := List.any_eq_true.2 ⟨d, hm, by simp⟩
    rw [this] at h; cases h.1

/-- The posts, one for each operation. -/
theorem Obls.all {fin : Acc → Prop} : ∀ (l : List Oper) (i : Nat) (acc : Acc), Obls P n L B env G S fin i l acc →
    ∃ ps : List Post, ps.length = l.length ∧ ∃ accs : Acc, fin accs ∧ (∀ x, x ∈ accs ↔ x ∈ acc ∨ ∃ (j : Nat) (o : Oper) (p : Post), l[j]? = some o ∧ ps[j]? = some p ∧ x = (i + j, o.dst, p, depsOf o)) ∧
      ∀ (j : Nat) (o : Oper), l[j]? = some o → ∃ p acc', ps[j]? = some p ∧ Ob P n L B env G S acc' o p ∧ (∀ x ∈ acc', x ∈ accs) ∧ ∀ x ∈ acc', x ∈ acc ∨ x.1 < i + j
  | [], i, acc, h => ⟨[], rfl, acc, h, fun x => ⟨.inl, fun hx => by rcases hx with hx | ⟨j, o, p, hj, _⟩; exact hx; simp at hj⟩, fun j o hj => by simp at hj⟩
  | o :: r, i, acc, h => by
    obtain ⟨p, hob, hr⟩ := h
    obtain ⟨ps, hl, accs, hf, hmem, hall⟩ := Obls.all r (i + 1) _ hr
    refine ⟨p :: ps, by simp [hl], accs, hf, fun x => ?_, fun j q hj => ?_⟩
    · rw [hmem]
      constructor
      · rintro (hx | ⟨j, q, p', h1, h2, rfl⟩)
        · cases hx with
          | head => exact .inr ⟨0, o, p, rfl, rfl, rfl⟩
          | tail _ hx => exact .inl hx
        · exact .inr ⟨j + 1, q, p', by simpa using h1, by simpa using h2, by rw [Nat.add_assoc, Nat.add_comm 1 j]⟩
      · rintro (hx | ⟨j, q, p', h1, h2, rfl⟩)
        · exact .inl (.tail _ hx)
        · cases j with
          | zero => simp at h1 h2; subst h1; subst h2; exact .inl (.head _)
          | succ j => exact .inr ⟨j, q, p', by simpa using h1, by simpa using h2, by rw [Nat.add_assoc, Nat.add_comm 1 j]⟩
    · cases j with
      | zero =>
        simp at hj; subst hj
        exact ⟨p, acc, rfl, hob, fun x hx => (hmem x).2 (.inl (.tail _ hx)), fun x hx => .inl hx⟩
      | succ j =>
        obtain ⟨p', acc', h1, h2, h3, h4⟩ := hall j q (by simpa using hj)
        refine ⟨p', acc', by simpa using h1, h2, h3, fun x hx => ?_⟩
        rcases h4 x hx with h5 | h5
        · cases h5 with
          | head => right; show i < i + (j + 1); omega
          | tail _ h5 => exact .inl h5
        · right; omega

theorem dst_inj (hd : (dstsOf L).Nodup) : ∀ {i j : Nat} {o q : Oper} {d : Nat}, L[i]? = some o → L[j]? = some q → o.dst = some d → q.dst = some d → i = j := by
  unfold dstsOf at hd
  induction L with
  | nil => intro i j o q d h; simp at h
  | cons x r ih =>
    intro i j o q d h1 h2 h3 h4
    have hr : (r.filterMap (·.dst)).Nodup := by
      rw [List.filterMap_cons] at hd
      split at hd
      · exact hd
      · exact (List.nodup_cons.1 hd).2
    have key : ∀ (k : Nat) (y : Oper), r[k]? = some y → x.dst = some d → y.dst = some d → False := by
      intro k y hk hx hy
      rw [List.filterMap_cons, hx] at hd
      exact (List.nodup_cons.1 hd).1 (List.mem_filterMap.2 ⟨y, List.mem_of_getElem? hk, hy⟩)
    cases i with
    | zero =>
      cases j with
      | zero => rfl
      | succ j => simp at h1 h2; subst h1; exact (key j q h2 h3 h4).elim
    | succ i =>
      cases j with
      | zero => simp at h1 h2; subst h2; exact (key i o h1 h4 h3).elim
      | succ j => simp at h1 h2; rw [ih hr h1 h2 h3 h4]

theorem WC.regionD {id : Nat} (hm : P.follows .mixedOrders = true) (hok : (depsOK 0 L && distinct (dstsOf L)) = true) {env₀ : Env} (hwo : ∀ i v, env₀.get i = some v → env.get i = some v ∧ i ∉ dstsOf L)
    (h : Obls P n L B env₀ G S (fun acc => withDeps (allOf acc) acc env₀ G fun env' G' => WX n Q .normal B env' G' S) 0 L []) : WC P n (.region id L.toArray true) Q B env G S := by
  simp only [Bool.and_eq_true] at hok
  have hnd := distinct_get _ hok.2
  obtain ⟨ps, hl, accs, hfin, hmem, hall⟩ := Obls.all L 0 [] h
  have hmem' : ∀ x, x ∈ accs ↔ ∃ (j : Nat) (o : Oper) (p : Post), L[j]? = some o ∧ ps[j]? = some p ∧ x = (j, o.dst, p, depsOf o) := fun x => by
    rw [hmem]; simp
  clear hmem
  have uniq : ∀ x ∈ accs, ∀ y ∈ accs, x.1 = y.1 → x = y := by
    intro x hx y hy e
    obtain ⟨j, o, p, h1, h2, rfl⟩ := (hmem' x).1 hx
    obtain ⟨j', o', p', h1', h2', rfl⟩ := (hmem' y).1 hy
    simp at e; subst e
    rw [h1] at h1'; rw [h2] at h2'; cases h1'; cases h2'; rfl
  have key : ∀ (fuel : Nat) (arr : Array Bool) (vals : Nat → Value) (a : Act) (w : World), arr.size = L.length → ((List.range L.length).filter fun i => !arr.getD i false).length ≤ fuel →
      Mid n B env₀ G S accs vals (fun i => arr.getD i false) a w → wpAny P .any L.toArray Q fuel arr a w := by
    have done : ∀ (arr : Array Bool) (vals : Nat → Value) (a : Act) (w : World), arr.size = L.length → Region.ready .any L.toArray arr = [] → Mid n B env₀ G S accs vals (fun i => arr.getD i false) a w → Q .normal a w := by
      intro arr vals a w hsz hr hmid
      have hlisted : ∀ i, i < L.length → arr.getD i false = true := by
        intro i
        induction i using Nat.strongRecOn with
        | _ i ih =>
          intro hi
          cases hb : arr.getD i false with
          | true => rfl
          | false =>
            exfalso
            have : i ∈ Region.ready .any L.toArray arr := by
              unfold Region.ready
              rw [List.mem_filter]
              refine ⟨by simpa using hi, ?_⟩
              have hi' : i < arr.size := by omega
              have h1 : arr.getD i true = false := by simp [Array.getD, hi'] at hb ⊢; exact hb
              rw [h1]
              have ho : L.toArray[i]? = some L[i] := by simp [hi]
              rw [ho]
              simp only [Bool.not_false, Bool.true_and, Option.map_some, Option.getD_some]
              rw [Array.all_eq_true_iff_forall_mem]
              intro e he
              cases hbd : Region.binds .any e with
              | false => rfl
              | true =>
                have hj : e.on ∈ depsOf L[i] := by
                  unfold depsOf
                  exact List.mem_map.2 ⟨e, List.mem_filter.2 ⟨Array.mem_toList_iff.2 he, hbd⟩, rfl⟩
                have hlt := depsOK_get L 0 i L[i] hok.1 (by simp [hi]) e.on hj
                simp only [Bool.not_true, Bool.false_or]
                exact ih e.on (by omega) (by omega)
            rw [hr] at this; cases this
      have mono : ∀ (acc : Acc) (deps : List Nat) (e : Env) (G1 : List Pers), withDeps deps acc e G1 (fun env' G' => WX n Q .normal B env' G' S) → ∀ G2, (∀ g ∈ G1, g ∈ G2) → withDeps deps acc e G2 (fun env' G' => WX n Q .normal B env' G' S) := by
        intro acc
        induction acc with
        | nil => intro deps e G1 h1 G2 hs; simp only [withDeps] at h1 ⊢; exact ⟨fun a w sa sw => h1.go a w sa (sw.sub hs)⟩
        | cons x r ih =>
          obtain ⟨i, d, p, ds⟩ := x
          intro deps e G1 h1 G2 hs
          simp only [withDeps] at h1 ⊢
          cases hb : deps.any (Nat.beq i) with
          | false => rw [hb] at h1; exact ih _ _ _ h1 _ hs
          | true =>
            rw [hb] at h1
            cases d with
            | none => simp only [cond_true] at h1 ⊢; exact ih _ _ _ (by cases p <;> exact h1) _ hs
            | some d =>
              cases p with
              | is x => exact ih _ _ _ h1 _ hs
              | kn f => exact fun v => ih _ _ _ (h1 v) _ (fun g hg => by
                  cases hg with
                  | head => exact .head _
                  | tail _ hg => exact .tail _ (hs g hg))
      have hm2 := mono _ _ _ _ hfin (((accs.filter fun x => arr.getD x.1 false).map fun x => x.2.2.1.pers (vals x.1)) ++ G) (fun g hg => List.mem_append.2 (.inr hg))
      obtain ⟨e', H', se, sw', hx⟩ := withDeps_go (accs := accs) (vals := vals) (listed := fun i => arr.getD i false) hmid.clos accs _ _ _ (fun _ hx => hx) (fun i _ hi => by
          obtain ⟨x, hx, rfl⟩ := List.mem_map.1 hi
          obtain ⟨j, o, p, h1, _, rfl⟩ := (hmem' x).1 hx
          exact hlisted j (List.getElem?_eq_some_iff.1 h1).1) (fun i d p ds hx hli => hmid.slot i d p ds hx hli) hmid.st hmid.sat (fun x hx hlx => List.mem_append.2 (.inl (List.mem_map.2 ⟨x, List.mem_filter.2 ⟨hx, hlx⟩, rfl⟩))) (k := fun env' G' => WX n Q .normal B env' G' S) hm2
      exact hx.go a w se sw'
    intro fuel
    induction fuel with
    | zero =>
      intro arr vals a w hsz hc hmid
      have hr : Region.ready .any L.toArray arr = [] := by
        unfold Region.ready
        rw [List.filter_eq_nil_iff]
        intro i hi hx
        have hi' : i < L.length := by simpa using hi
        have : i ∈ (List.range L.length).filter fun i => !arr.getD i false := by
          rw [List.mem_filter]
          refine ⟨by simpa using hi', ?_⟩
          simp only [Bool.and_eq_true] at hx
          have h1 := hx.1
          have hi2 : i < arr.size := by omega
          simp [Array.getD, hi2] at h1 ⊢; exact h1
        have e := List.eq_nil_of_length_eq_zero (Nat.le_zero.1 hc)
        rw [e] at this
        cases this
      exact ⟨hr, done arr vals a w hsz hr hmid⟩
    | succ fuel ih =>
      intro arr vals a w hsz hc hmid
      refine ⟨fun hr => done arr vals a w hsz hr hmid, fun i hi => ?_⟩
      unfold Region.ready at hi
      rw [List.mem_filter] at hi
      obtain ⟨hi1, hi2⟩ := hi
      have hil : i < L.length := by simpa using hi1
      have ho : L[i]? = some L[i] := by simp [hil]
      have hoa : L.toArray[i]? = some L[i] := by simp [hil]
      rw [hoa] at hi2
      simp only [Bool.and_eq_true, Option.map_some, Option.getD_some, Array.all_eq_true_iff_forall_mem] at hi2
      have hnot : arr.getD i false = false := by
        have hi3 : i < arr.size := by omega
        have := hi2.1
        simp [Array.getD, hi3] at this ⊢; exact this
      obtain ⟨p, acc', hp, hob, hsub, hlt⟩ := hall i L[i] ho
      have hdeps : ∀ j ∈ depsOf L[i], arr.getD j false = true := by
        intro j hj
        obtain ⟨e, he, rfl⟩ := List.mem_map.1 hj
        rw [List.mem_filter] at he
        have := hi2.2 e (Array.mem_toList_iff.1 he.1)
        rw [he.2] at this
        simpa using this
      obtain ⟨Gx, hGx⟩ : ∃ Gx, Gx = (accs.filter fun x => arr.getD x.1 false).map fun x => x.2.2.1.pers (vals x.1) := ⟨_, rfl⟩
      have hsat := hmid.sat
      rw [← hGx] at hsat
      obtain ⟨e', H', se, sw', hwl⟩ := withDeps_go (accs := accs) (vals := vals) (listed := fun i => arr.getD i false) hmid.clos acc' _ _ (G ++ Gx) hsub (fun j hj _ => hdeps j hj) (fun i d p ds hx hli => hmid.slot i d p ds hx hli) hmid.st (hsat.sub fun g hg => by
          rcases List.mem_append.1 hg with hg | hg
          · exact List.mem_append.2 (.inr hg)
          · exact List.mem_append.2 (.inl hg)) (fun x hx hlx => List.mem_append.2 (.inr (by rw [hGx]; exact List.mem_map.2 ⟨x, List.mem_filter.2 ⟨hx, hlx⟩, rfl⟩))) (hob.go Gx)
      refine one_op ho (hwl.go a w se sw') fun v w' hpq => ?_
      obtain ⟨_, hsize, hdef, u, hu, hsat'⟩ := hpq
      have hset : ∀ j, (arr.setIfInBounds i true).getD j false = (decide (j = i) || arr.getD j false) := by
        intro j
        by_cases hj : j = i
        · subst hj; simp [Array.getD, hsz, hil]
        · rw [decide_eq_false hj, Bool.false_or, Array.getD_eq_getD_getElem?, Array.getD_eq_getD_getElem?, Array.getElem?_setIfInBounds_ne (fun e => hj e.symm)]
      refine ih (arr.setIfInBounds i true) (fun j => if j = i then u else vals j) _ w' (by simp [hsz]) ?_ ?_
      · -- one fewer
        have hlen : ((List.range L.length).filter fun j => !(arr.setIfInBounds i true).getD j false).length < ((List.range L.length).filter fun j => !arr.getD j false).length := by
          have e : ((List.range L.length).filter fun j => !(arr.setIfInBounds i true).getD j false) = (((List.range L.length).filter fun j => !arr.getD j false).filter fun j => !decide (j = i)) := by
            rw [List.filter_filter]
            congr 1; funext j; rw [hset]; cases decide (j = i) <;> cases arr.getD j false <;> rfl
          rw [e]
          refine List.length_filter_lt_length_iff_exists.2 ⟨i, ?_, by simp⟩
          rw [List.mem_filter]
          exact ⟨by simpa using hil, by simp [hnot]⟩
        omega
      · refine ⟨⟨hsize, hdef, fun t x ht => ?_⟩, fun j d q ds hx hlj => ?_, fun x hx hlx j hj => ?_, ?_⟩
        · obtain ⟨_, hni⟩ := hwo _ _ ht
          have h1 := hmid.st.get t x ht
          cases hd : L[i].dst with
          | none => simpa [Act.put] using h1
          | some d =>
            have hne : d ≠ t := fun e => hni (by rw [← e]; exact List.mem_filterMap.2 ⟨L[i], by simp, hd⟩)
            simp [Act.put, Array.getElem?_setIfInBounds_ne hne, h1]
        · rw [hset] at hlj
          obtain ⟨j', o, q', h1, h2, e⟩ := (hmem' _).1 hx
          simp only [Prod.mk.injEq] at e
          obtain ⟨rfl, hd', rfl, rfl⟩ := e
          have hd' := hd'.symm
          by_cases hj : j = i
          · subst hj
            rw [ho] at h1; cases h1
            rw [if_pos rfl]; exact hu d hd'
          · rw [if_neg hj]
            simp only [decide_eq_false hj, Bool.false_or] at hlj
            have h3 := hmid.slot j d q _ hx hlj
            cases hd : L[i].dst with
            | none => simpa [Act.put] using h3
            | some t =>
              have hne : t ≠ d := fun e => hj (by
                subst e
                exact dst_inj hnd h1 ho hd' hd)
              simp [Act.put, Array.getElem?_setIfInBounds_ne hne, h3]
        · rw [hset] at hlx ⊢
          simp only [Bool.or_eq_true, decide_eq_true_eq] at hlx ⊢
          right
          rcases hlx with hlx | hlx
          · obtain ⟨j', o, q', h1, h2, rfl⟩ := (hmem' _).1 hx
            simp only at hlx hj; subst hlx
            rw [ho] at h1; cases h1
            exact hdeps j hj
          · exact hmid.clos x hx hlx j hj
        · refine hsat'.sub fun g hg => ?_
          rcases List.mem_append.1 hg with hg | hg
          · obtain ⟨x, hx, rfl⟩ := List.mem_map.1 hg
            rw [List.mem_filter] at hx
            obtain ⟨hxa, hxl⟩ := hx
            have hxl' := hset x.1
            by_cases hj : x.1 = i
            · have : x = (i, L[i].dst, p, depsOf L[i]) := uniq x hxa _ ((hmem' _).2 ⟨i, L[i], p, ho, hp, rfl⟩) hj
              subst this
              rw [if_pos rfl]; exact .head _
            · rw [if_neg hj]
              refine .tail _ (List.mem_append.2 (.inr ?_))
              rw [hGx]
              rw [hxl'] at hxl
              simp only [decide_eq_false hj, Bool.false_or] at hxl
              exact List.mem_map.2 ⟨x, List.mem_filter.2 ⟨hxa, hxl⟩, rfl⟩
          · exact .tail _ (List.mem_append.2 (.inl hg))
  refine ⟨fun a w sa sw => wp_region_any hm ?_⟩
  have := key L.length (Array.replicate L.length false) (fun _ => undef) a w.drew (by simp) (by
    refine Nat.le_trans (List.length_filter_le _ _) (by simp)) ⟨⟨sa.size, sa.defers, fun i v hi => sa.get i v (hwo _ _ hi).1⟩, fun i d p ds hx hli => by simp [Array.getD] at hli, fun x hx hlx => by simp [Array.getD] at hlx, (sw.drew).sub fun g hg => by
      rcases List.mem_append.1 hg with hg | hg
      · obtain ⟨x, hx, _⟩ := List.mem_map.1 hg
        rw [List.mem_filter] at hx
        have := hx.2
        simp [Array.getD] at this
      · exact hg⟩
  simpa using this
end
end Go.Qd
