import Derived.Test.YthkeakecckiokaaQStr
namespace Go.Qd
open Go

theorem Sel.app {S Sx T : List Res} {r : Res} (h : Sel S r T) : Sel (S ++ Sx) r (T ++ Sx) := by
  induction h with
  | here => exact .here
  | there _ ih => exact .there ih

/-! ### A region that draws its order, and some operations of which change what the call owns, one after the other -/
section
variable {Ξ : Type}
/-- What an operation must come to. -/
def PM (n : Nat) (B : Base) (GG1 : Ξ → List Pers) (SS1 : Ξ → List Res) (G : List Pers) (S : List Res) (d : Option Nat) (p : Post) : Exit → Act → World → Prop := fun e a w =>
  e = .normal ∧ a.tmps.size = n ∧ a.defers = B.ds ∧ ∃ v, (∀ t, d = some t → a.tmps[t]? = some v) ∧ ∃ ξ, Sat B (p.pers v :: (GG1 ξ ++ G)) (SS1 ξ ++ S) w
structure ObA (P : Program) (n : Nat) (L : List Oper) (B : Base) (env : Env) (G : List Pers) (S : List Res) (acc : Acc) (o : Oper) (p : Post) : Prop where
  go : ∀ Gx Sx, withDeps (depsOf o) acc env (G ++ Gx) fun env' G' => WL P n L (PQ n B (G ++ Gx) (S ++ Sx) o.dst p) [o] B env' G' (S ++ Sx)
structure ObM (P : Program) (n : Nat) (L : List Oper) (B : Base) (env : Env) (G : List Pers) (S : List Res) (GG : Nat → Ξ → List Pers) (SS : Nat → Ξ → List Res) (k : Nat) (acc : Acc) (o : Oper) (p : Post) : Prop where
  go : ∀ ξ Gx, withDeps (depsOf o) acc env (GG k ξ ++ (G ++ Gx)) fun env' G' => WL P n L (PM n B (GG (k + 1)) (SS (k + 1)) (G ++ Gx) S o.dst p) [o] B env' G' (SS k ξ ++ S)
def reach : List Nat → Acc → Nat → Bool
  | _, [], _ => false
  | deps, (i, _, _, ds) :: r, j => bif deps.any (Nat.beq i) then (Nat.beq i j || reach (ds ++ deps) r j) else reach deps r j
def okLast (deps : List Nat) (acc : Acc) : Option Nat → Bool
  | none => true
  | some j => reach deps acc j
def ObP (P : Program) (n : Nat) (L : List Oper) (B : Base) (env : Env) (G : List Pers) (S : List Res) (GG : Nat → Ξ → List Pers) (SS : Nat → Ξ → List Res) (fin : Nat → Acc → Prop) : Nat → Nat → Option Nat → List Oper → Acc → Prop
  | _, k, _, [], acc => fin k acc
  | i, k, last, o :: r, acc => ∃ p, (ObA P n L B env G S acc o p ∧ ObP P n L B env G S GG SS fin (i + 1) k last r ((i, o.dst, p, depsOf o) :: acc)) ∨
      (ObM P n L B env G S GG SS k acc o p ∧ okLast (depsOf o) acc last = true ∧ ObP P n L B env G S GG SS fin (i + 1) (k + 1) (some i) r ((i, o.dst, p, depsOf o) :: acc))

variable {P : Program} {n : Nat} {Q : Exit → Act → World → Prop} {B : Base} {env : Env} {G : List Pers} {S : List Res} {L : List Oper} {GG : Nat → Ξ → List Pers} {SS : Nat → Ξ → List Res}
theorem reach_listed {accs : Acc} {listed : Nat → Bool} (hc : ∀ x ∈ accs, listed x.1 = true → ∀ j ∈ x.2.2.2, listed j = true) {j : Nat} : ∀ (acc : Acc) (deps : List Nat), (∀ x ∈ acc, x ∈ accs) → (∀ i ∈ deps, listed i = true) → reach deps acc j = true → listed j = true
  | [], _, _, _, h => by simp [reach] at h
  | (i, d, p, ds) :: r, deps, hs, hl, h => by
    simp only [reach] at h
    cases hb : deps.any (Nat.beq i) with
    | false => rw [hb] at h; exact reach_listed hc r deps (fun x hx => hs x (.tail _ hx)) hl h
    | true =>
      rw [hb] at h
      obtain ⟨x, hx, he⟩ := List.any_eq_true.1 hb
      have hi : listed i = true := by rw [Nat.eq_of_beq_eq_true he]; exact hl x hx
      simp only [cond_true, Bool.or_eq_true] at h
      rcases h with h | h
      · rw [← Nat.eq_of_beq_eq_true h]; exact hi
      · refine reach_listed hc r (ds ++ deps) (fun x hx => hs x (.tail _ hx)) (fun q hq => ?_) h
        rcases List.mem_append.1 hq with hq | hq
        · exact hc _ (hs _ (.head _)) hi q hq
        · exact hl q hq

structure Mid2 (n : Nat) (B : Base) (env : Env) (G : List Pers) (S : List Res) (GG : Nat → Ξ → List Pers) (SS : Nat → Ξ → List Res) (ms : List Nat) (accs : Acc) (vals : Nat → Value) (listed : Nat → Bool) (a : Act) (w : World) : Prop where
  st : St n B.ds env a
  slot : ∀ i d p ds, (i, some d, p, ds) ∈ accs → listed i = true → a.tmps[d]? = some (vals i)
  clos : ∀ x ∈ accs, listed x.1 = true → ∀ j ∈ x.2.2.2, listed j = true
  sat : ∃ t, t ≤ ms.length ∧ (∀ s j, s < t → ms[s]? = some j → listed j = true) ∧ (∀ s j, t ≤ s → ms[s]? = some j → listed j = false) ∧
    ∃ ξ, Sat B (((accs.filter fun x => listed x.1).map fun x => x.2.2.1.pers (vals x.1)) ++ (GG t ξ ++ G)) (SS t ξ ++ S) w

theorem ObP.all {fin : Nat → Acc → Prop} : ∀ (l : List Oper) (i k : Nat) (last : Option Nat) (acc : Acc), ObP P n L B env G S GG SS fin i k last l acc →
    ∃ (ps : List Post) (ms : List Nat), ps.length = l.length ∧ ms.Nodup ∧ (∀ x ∈ ms, i ≤ x ∧ x < i + l.length) ∧ ∃ accs : Acc, fin (k + ms.length) accs ∧ (∀ x, x ∈ accs ↔ x ∈ acc ∨ ∃ (j : Nat) (o : Oper) (p : Post), l[j]? = some o ∧ ps[j]? = some p ∧ x = (i + j, o.dst, p, depsOf o)) ∧
      ∀ (j : Nat) (o : Oper), l[j]? = some o → ∃ p acc', ps[j]? = some p ∧ (∀ x ∈ acc', x ∈ accs) ∧
        ((ObA P n L B env G S acc' o p ∧ (i + j) ∉ ms) ∨ ∃ t, ms[t]? = some (i + j) ∧ ObM P n L B env G S GG SS (k + t) acc' o p ∧ okLast (depsOf o) acc' (match t with | 0 => last | s + 1 => ms[s]?) = true)
  | [], i, k, last, acc, h => ⟨[], [], rfl, by simp, by simp, acc, h, fun x => ⟨.inl, fun hx => by rcases hx with hx | ⟨j, o, p, hj, _⟩; exact hx; simp at hj⟩, fun j o hj => by simp at hj⟩
  | o :: r, i, k, last, acc, h => by
    obtain ⟨p, h⟩ := h
    have mems : ∀ (ps : List Post) (accs : Acc), (∀ x, x ∈ accs ↔ x ∈ (i, o.dst, p, depsOf o) :: acc ∨ ∃ (j : Nat) (q : Oper) (p : Post), r[j]? = some q ∧ ps[j]? = some p ∧ x = (i + 1 + j, q.dst, p, depsOf q)) →
        ∀ x, x ∈ accs ↔ x ∈ acc ∨ ∃ (j : Nat) (q : Oper) (p' : Post), (o :: r)[j]? = some q ∧ (p :: ps)[j]? = some p' ∧ x = (i + j, q.dst, p', depsOf q) := by
      intro ps accs hmem x
      rw [hmem]
      constructor
      · rintro (hx | ⟨j, q, p', h1, h2, rfl⟩)
        · cases hx with
          | head => exact .inr ⟨0, o, p, rfl, rfl, rfl⟩
          | tail _ hx => exact .inl hx
        · exact .inr ⟨j + 1, q, p', by simpa using h1, by simpa using h2, by rw [Nat.add_assoc, Nat.add_comm 1 j]⟩
      · rintro (hx | ⟨j, q, p', h1, h2, rfl⟩)
        · exact .inl (.tail _ hx)
        · cases j with
          | zero => simp at h1 h2; subst h1; subst h2; exact .inl (.head _)
          | succ j => exact .inr ⟨j, q, p', by simpa using h1, by simpa using h2, by rw [Nat.add_assoc, Nat.add_comm 1 j]⟩
    rcases h with ⟨hob, hr⟩ | ⟨hob, hok, hr⟩
    · obtain ⟨ps, ms, hl, hnd, hms, accs, hf, hmem, hall⟩ := ObP.all r (i + 1) k last _ hr
      refine ⟨p :: ps, ms, by simp [hl], hnd, fun x hx => by have := hms x hx; simp; omega, accs, hf, mems ps accs hmem, fun j q hj => ?_⟩
      cases j with
      | zero =>
        simp at hj; subst hj
        exact ⟨p, acc, rfl, fun x hx => (hmem x).2 (.inl (.tail _ hx)), .inl ⟨hob, fun hx => by have := hms _ hx; omega⟩⟩
      | succ j =>
        obtain ⟨p', acc', h1, h2, h3⟩ := hall j q (by simpa using hj)
        refine ⟨p', acc', by simpa using h1, h2, ?_⟩
        rw [show i + (j + 1) = i + 1 + j from by omega]
        exact h3
    · obtain ⟨ps, ms, hl, hnd, hms, accs, hf, hmem, hall⟩ := ObP.all r (i + 1) (k + 1) (some i) _ hr
      refine ⟨p :: ps, i :: ms, by simp [hl], List.nodup_cons.2 ⟨fun hx => by have := hms _ hx; omega, hnd⟩, fun x hx => ?_, accs, by rw [List.length_cons, show k + (ms.length + 1) = k + 1 + ms.length from by omega]; exact hf, mems ps accs hmem, fun j q hj => ?_⟩
      · cases hx with
        | head => simp
        | tail _ hx => have := hms x hx; simp; omega
      · cases j with
        | zero =>
          simp at hj; subst hj
          exact ⟨p, acc, rfl, fun x hx => (hmem x).2 (.inl (.tail _ hx)), .inr ⟨0, rfl, hob, hok⟩⟩
        | succ j =>
          obtain ⟨p', acc', h1, h2, h3⟩ := hall j q (by simpa using hj)
          refine ⟨p', acc', by simpa using h1, h2, ?_⟩
          rw [show i + (j + 1) = i + 1 + j from by omega]
          rcases h3 with ⟨h3, h4⟩ | ⟨t, h3, h4, h5⟩
          · refine .inl ⟨h3, fun hx => ?_⟩
            rcases List.mem_cons.1 hx with hx | hx
            · omega
            · exact h4 hx
          · refine .inr ⟨t + 1, by simpa using h3, by rw [show k + (t + 1) = k + 1 + t from by omega]; exact h4, ?_⟩
            cases t with
            | zero => exact h5
            | succ t => simpa using h5
theorem one_opM {Q' : Exit → Act → World → Prop} {K : Act → World → Prop} {p : Post} {GG1 : Ξ → List Pers} {SS1 : Ξ → List Res} {G' : List Pers} {i : Nat} {o : Oper} {a : Act} {w : World} (ho : L[i]? = some o) (h : wpList P L.toArray (PM n B GG1 SS1 G' S o.dst p) [o] a w)
    (hK : ∀ v w', PM n B GG1 SS1 G' S o.dst p .normal (a.put o.dst v) w' → K (a.put o.dst v) w') : wpOp P L.toArray Q' i K a w := by
  unfold wpOp
  have ho' : L.toArray[i]? = some o := by simpa using ho
  rw [ho']
  unfold wpList at h
  show if Region.wanted o (yielded L.toArray a.tmps) = true then _ else _
  split at h
  · rename_i hw
    rw [if_pos hw]
    · skip
      unfold Oper.wp at h ⊢
      generalize (execOp a.eval o).run P w = r at *
      cases r with
      | ok x w' =>
        cases x <;> simp only [Oper.upon] at h ⊢ <;> first
          | exact hK _ _ h
          | (refine Calls.mono h ?_
             intro e w'' he
             cases e <;> simp only at he ⊢
             · exact hK _ _ he
             · exact absurd he.1 (by simp)
             · obtain ⟨_, _, hq⟩ := he; exact absurd hq.1 (by simp))
          | exact Rows.mono h (fun v w'' he => hK _ _ he)
          | (refine RoundIn.mono h ?_
             intro e w'' he
             cases e <;> simp only at he ⊢
             · exact hK _ _ he
             · exact absurd he.1 (by simp)
             · obtain ⟨_, _, hq⟩ := he; exact absurd hq.1 (by simp))
          | (have := h.2.2.1; simp [Act.put] at this; cases hd : o.dst <;> simp [hd] at this)
      | halt x w' => simp only [Oper.upon] at h
  · rename_i hw
    rw [if_neg hw]
    exact hK _ _ h

theorem WC.phases {id : Nat} {G₀ : List Pers} {S₀ : List Res} (hm : P.follows .mixedOrders = true) (hok : (depsOK 0 L && distinct (dstsOf L)) = true) {env₀ : Env} (hwo : ∀ i v, env₀.get i = some v → env.get i = some v ∧ i ∉ dstsOf L)
    (ξ₀ : Ξ) (hst : ∀ w, Sat B G₀ S₀ w → Sat B (GG 0 ξ₀ ++ G) (SS 0 ξ₀ ++ S) w)
    (h : ObP P n L B env₀ G S GG SS (fun k acc => ∀ ξ, withDeps (allOf acc) acc env₀ (GG k ξ ++ G) fun env' G' => WX n Q .normal B env' G' (SS k ξ ++ S)) 0 0 none L []) : WC P n (.region id L.toArray true) Q B env G₀ S₀ := by
  simp only [Bool.and_eq_true] at hok
  have hnd := distinct_get _ hok.2
  obtain ⟨ps, ms, hl, hmnd, hms, accs, hfin, hmem, hall⟩ := ObP.all L 0 0 none [] h
  simp only [Nat.zero_add] at hfin hms hall
  have hmem' : ∀ x, x ∈ accs ↔ ∃ (j : Nat) (o : Oper) (p : Post), L[j]? = some o ∧ ps[j]? = some p ∧ x = (j, o.dst, p, depsOf o) := fun x => by
    rw [hmem]; simp
  clear hmem
  have uniq : ∀ x ∈ accs, ∀ y ∈ accs, x.1 = y.1 → x = y := by
    intro x hx y hy e
    obtain ⟨j, o, p, h1, h2, rfl⟩ := (hmem' x).1 hx
    obtain ⟨j', o', p', h1', h2', rfl⟩ := (hmem' y).1 hy
    simp at e; subst e
    rw [h1] at h1'; rw [h2] at h2'; cases h1'; cases h2'; rfl
  have key : ∀ (fuel : Nat) (arr : Array Bool) (vals : Nat → Value) (a : Act) (w : World), arr.size = L.length → ((List.range L.length).filter fun i => !arr.getD i false).length ≤ fuel →
      Mid2 n B env₀ G S GG SS ms accs vals (fun i => arr.getD i false) a w → wpAny P .any L.toArray Q fuel arr a w := by
    have done : ∀ (arr : Array Bool) (vals : Nat → Value) (a : Act) (w : World), arr.size = L.length → Region.ready .any L.toArray arr = [] → Mid2 n B env₀ G S GG SS ms accs vals (fun i => arr.getD i false) a w → Q .normal a w := by
      intro arr vals a w hsz hr hmid
      have hlisted : ∀ i, i < L.length → arr.getD i false = true := by
        intro i
        induction i using Nat.strongRecOn with
        | _ i ih =>
          intro hi
          cases hb : arr.getD i false with
          | true => rfl
          | false =>
            exfalso
            have : i ∈ Region.ready .any L.toArray arr := by
              unfold Region.ready
              rw [List.mem_filter]
              refine ⟨by simpa using hi, ?_⟩
              have hi' : i < arr.size := by omega
              have h1 : arr.getD i true = false := by simp [Array.getD, hi'] at hb ⊢; exact hb
              rw [h1]
              have ho : L.toArray[i]? = some L[i] := by simp [hi]
              rw [ho]
              simp only [Bool.not_false, Bool.true_and, Option.map_some, Option.getD_some]
              rw [Array.all_eq_true_iff_forall_mem]
              intro e he
              cases hbd : Region.binds .any e with
              | false => rfl
              | true =>
                have hj : e.on ∈ depsOf L[i] := by
                  unfold depsOf
                  exact List.mem_map.2 ⟨e, List.mem_filter.2 ⟨Array.mem_toList_iff.2 he, hbd⟩, rfl⟩
                have hlt := depsOK_get L 0 i L[i] hok.1 (by simp [hi]) e.on hj
                simp only [Bool.not_true, Bool.false_or]
                exact ih e.on (by omega) (by omega)
            rw [hr] at this; cases this
      have mono : ∀ (acc : Acc) (deps : List Nat) (e : Env) (G1 : List Pers) (S1 : List Res), withDeps deps acc e G1 (fun env' G' => WX n Q .normal B env' G' S1) → ∀ G2, (∀ g ∈ G1, g ∈ G2) → withDeps deps acc e G2 (fun env' G' => WX n Q .normal B env' G' S1) := by
        intro acc
        induction acc with
        | nil => intro deps e G1 S1 h1 G2 hs; simp only [withDeps] at h1 ⊢; exact ⟨fun a w sa sw => h1.go a w sa (sw.sub hs)⟩
        | cons x r ih =>
          obtain ⟨i, d, p, ds⟩ := x
          intro deps e G1 S1 h1 G2 hs
          simp only [withDeps] at h1 ⊢
          cases hb : deps.any (Nat.beq i) with
          | false => rw [hb] at h1; exact ih _ _ _ _ h1 _ hs
          | true =>
            rw [hb] at h1
            cases d with
            | none => simp only [cond_true] at h1 ⊢; exact ih _ _ _ _ (by cases p <;> exact h1) _ hs
            | some d =>
              cases p with
              | is x => exact ih _ _ _ _ h1 _ hs
              | kn f => exact fun v => ih _ _ _ _ (h1 v) _ (fun g hg => by
                  cases hg with
                  | head => exact .head _
                  | tail _ hg => exact .tail _ (hs g hg))
      obtain ⟨t, ht, hlow, hhigh, ξ, hsat⟩ := hmid.sat
      obtain rfl : t = ms.length := by
        rcases Nat.lt_or_ge t ms.length with hlt | hge
        · exfalso
          have h1 := hhigh t ms[t] (Nat.le_refl _) (List.getElem?_eq_getElem hlt)
          rw [hlisted ms[t] (by have := hms _ (List.getElem_mem hlt); omega)] at h1
          cases h1
        · omega
      have hm2 := mono _ _ _ _ _ (hfin ξ) (((accs.filter fun x => arr.getD x.1 false).map fun x => x.2.2.1.pers (vals x.1)) ++ (GG ms.length ξ ++ G)) (fun g hg => List.mem_append.2 (.inr hg))
      obtain ⟨e', H', se, sw', hx⟩ := withDeps_go (accs := accs) (vals := vals) (listed := fun i => arr.getD i false) hmid.clos accs _ _ _ (fun _ hx => hx) (fun i _ hi => by
          obtain ⟨x, hx, rfl⟩ := List.mem_map.1 hi
          obtain ⟨j, o, p, h1, _, rfl⟩ := (hmem' x).1 hx
          exact hlisted j (List.getElem?_eq_some_iff.1 h1).1) (fun i d p ds hx hli => hmid.slot i d p ds hx hli) hmid.st hsat (fun x hx hlx => List.mem_append.2 (.inl (List.mem_map.2 ⟨x, List.mem_filter.2 ⟨hx, hlx⟩, rfl⟩))) (k := fun env' G' => WX n Q .normal B env' G' (SS ms.length ξ ++ S)) hm2
      exact hx.go a w se sw'
    intro fuel
    induction fuel with
    | zero =>
      intro arr vals a w hsz hc hmid
      have hr : Region.ready .any L.toArray arr = [] := by
        unfold Region.ready
        rw [List.filter_eq_nil_iff]
        intro i hi hx
        have hi' : i < L.length := by simpa using hi
        have : i ∈ (List.range L.length).filter fun i => !arr.getD i false := by
          rw [List.mem_filter]
          refine ⟨by simpa using hi', ?_⟩
          simp only [Bool.and_eq_true] at hx
          have h1 := hx.1
          have hi2 : i < arr.size := by omega
          simp [Array.getD, hi2] at h1 ⊢; exact h1
        have e := List.eq_nil_of_length_eq_zero (Nat.le_zero.1 hc)
        rw [e] at this
        cases this
      exact ⟨hr, done arr vals a w hsz hr hmid⟩
    | succ fuel ih =>
      intro arr vals a w hsz hc hmid
      refine ⟨fun hr => done arr vals a w hsz hr hmid, fun i hi => ?_⟩
      unfold Region.ready at hi
      rw [List.mem_filter] at hi
      obtain ⟨hi1, hi2⟩ := hi
      have hil : i < L.length := by simpa using hi1
      have ho : L[i]? = some L[i] := by simp [hil]
      have hoa : L.toArray[i]? = some L[i] := by simp [hil]
      rw [hoa] at hi2
      simp only [Bool.and_eq_true, Option.map_some, Option.getD_some, Array.all_eq_true_iff_forall_mem] at hi2
      have hnot : arr.getD i false = false := by
        have hi3 : i < arr.size := by omega
        have := hi2.1
        simp [Array.getD, hi3] at this ⊢; exact this
      obtain ⟨p, acc', hp, hsub, hcase⟩ := hall i L[i] ho
      have hdeps : ∀ j ∈ depsOf L[i], arr.getD j false = true := by
        intro j hj
        obtain ⟨e, he, rfl⟩ := List.mem_map.1 hj
        rw [List.mem_filter] at he
        have := hi2.2 e (Array.mem_toList_iff.1 he.1)
        rw [he.2] at this
        simpa using this
      obtain ⟨Gx, hGx⟩ : ∃ Gx, Gx = (accs.filter fun x => arr.getD x.1 false).map fun x => x.2.2.1.pers (vals x.1) := ⟨_, rfl⟩
      obtain ⟨t, ht, hlow, hhigh, ξ, hsat⟩ := hmid.sat
      rw [← hGx] at hsat
      have hset : ∀ j, (arr.setIfInBounds i true).getD j false = (decide (j = i) || arr.getD j false) := by
        intro j
        by_cases hj : j = i
        · subst hj; simp [Array.getD, hsz, hil]
        · rw [decide_eq_false hj, Bool.false_or, Array.getD_eq_getD_getElem?, Array.getD_eq_getD_getElem?, Array.getElem?_setIfInBounds_ne (fun e => hj e.symm)]
      have common : ∀ (t' : Nat) (ξ' : Ξ) (v u : Value) (w' : World), t' ≤ ms.length → (∀ s j, s < t' → ms[s]? = some j → (arr.setIfInBounds i true).getD j false = true) → (∀ s j, t' ≤ s → ms[s]? = some j → (arr.setIfInBounds i true).getD j false = false) →
          (a.put L[i].dst v).tmps.size = n → (a.put L[i].dst v).defers = B.ds → (∀ t, L[i].dst = some t → (a.put L[i].dst v).tmps[t]? = some u) → Sat B (p.pers u :: (GG t' ξ' ++ (G ++ Gx))) (SS t' ξ' ++ S) w' → wpAny P .any L.toArray Q fuel (arr.setIfInBounds i true) (a.put L[i].dst v) w' := by
        intro t' ξ' v u w' ht' hlow' hhigh' hsize hdef hu hsat'
        refine ih (arr.setIfInBounds i true) (fun j => if j = i then u else vals j) _ w' (by simp [hsz]) ?_ ?_
        · -- one fewer
          have hlen : ((List.range L.length).filter fun j => !(arr.setIfInBounds i true).getD j false).length < ((List.range L.length).filter fun j => !arr.getD j false).length := by
            have e : ((List.range L.length).filter fun j => !(arr.setIfInBounds i true).getD j false) = (((List.range L.length).filter fun j => !arr.getD j false).filter fun j => !decide (j = i)) := by
              rw [List.filter_filter]
              congr 1; funext j; rw [hset]; cases decide (j = i) <;> cases arr.getD j false <;> rfl
            rw [e]
            refine List.length_filter_lt_length_iff_exists.2 ⟨i, ?_, by simp⟩
            rw [List.mem_filter]
            exact ⟨by simpa using hil, by simp [hnot]⟩
          omega
        · refine ⟨⟨hsize, hdef, fun t x ht => ?_⟩, fun j d q ds hx hlj => ?_, fun x hx hlx j hj => ?_, ?_⟩
          · obtain ⟨_, hni⟩ := hwo _ _ ht
            have h1 := hmid.st.get t x ht
            cases hd : L[i].dst with
            | none => simpa [Act.put] using h1
            | some d =>
              have hne : d ≠ t := fun e => hni (by rw [← e]; exact List.mem_filterMap.2 ⟨L[i], by simp, hd⟩)
              simp [Act.put, Array.getElem?_setIfInBounds_ne hne, h1]
          · rw [hset] at hlj
            obtain ⟨j', o, q', h1, h2, e⟩ := (hmem' _).1 hx
            simp only [Prod.mk.injEq] at e
            obtain ⟨rfl, hd', rfl, rfl⟩ := e
            have hd' := hd'.symm
            by_cases hj : j = i
            · subst hj
              rw [ho] at h1; cases h1
              rw [if_pos rfl]; exact hu d hd'
            · rw [if_neg hj]
              simp only [decide_eq_false hj, Bool.false_or] at hlj
              have h3 := hmid.slot j d q _ hx hlj
              cases hd : L[i].dst with
              | none => simpa [Act.put] using h3
              | some t =>
                have hne : t ≠ d := fun e => hj (by
                  subst e
                  exact dst_inj hnd h1 ho hd' hd)
                simp [Act.put, Array.getElem?_setIfInBounds_ne hne, h3]
          · rw [hset] at hlx ⊢
            simp only [Bool.or_eq_true, decide_eq_true_eq] at hlx ⊢
            right
            rcases hlx with hlx | hlx
            · obtain ⟨j', o, q', h1, h2, rfl⟩ := (hmem' _).1 hx
              simp only at hlx hj; subst hlx
              rw [ho] at h1; cases h1
              exact hdeps j hj
            · exact hmid.clos x hx hlx j hj
          · refine ⟨t', ht', hlow', hhigh', ξ', hsat'.sub fun g hg => ?_⟩
            rcases List.mem_append.1 hg with hg | hg
            · obtain ⟨x, hx, rfl⟩ := List.mem_map.1 hg
              rw [List.mem_filter] at hx
              obtain ⟨hxa, hxl⟩ := hx
              have hxl' := hset x.1
              by_cases hj : x.1 = i
              · have : x = (i, L[i].dst, p, depsOf L[i]) := uniq x hxa _ ((hmem' _).2 ⟨i, L[i], p, ho, hp, rfl⟩) hj
                subst this
                rw [if_pos rfl]; exact .head _
              · rw [if_neg hj]
                refine .tail _ (List.mem_append.2 (.inr (List.mem_append.2 (.inr ?_))))
                rw [hGx]
                rw [hxl'] at hxl
                simp only [decide_eq_false hj, Bool.false_or] at hxl
                exact List.mem_map.2 ⟨x, List.mem_filter.2 ⟨hxa, hxl⟩, rfl⟩
            · rcases List.mem_append.1 hg with hg | hg
              · exact .tail _ (List.mem_append.2 (.inl hg))
              · exact .tail _ (List.mem_append.2 (.inr (List.mem_append.2 (.inl hg))))
      rcases hcase with ⟨hob, hni⟩ | ⟨s, hs, hob, hok2⟩
      · obtain ⟨e', H', se, sw', hwl⟩ := withDeps_go (accs := accs) (vals := vals) (listed := fun i => arr.getD i false) hmid.clos acc' _ _ (G ++ (GG t ξ ++ Gx)) hsub (fun j hj _ => hdeps j hj) (fun i d p ds hx hli => hmid.slot i d p ds hx hli) hmid.st ((hsat.sub fun g hg => by
            simp only [List.mem_append] at hg ⊢
            rcases hg with hg | hg | hg
            · exact .inr (.inr hg)
            · exact .inr (.inl hg)
            · exact .inl hg).perm List.perm_append_comm) (fun x hx hlx => List.mem_append.2 (.inr (List.mem_append.2 (.inr (by rw [hGx]; exact List.mem_map.2 ⟨x, List.mem_filter.2 ⟨hx, hlx⟩, rfl⟩))))) (hob.go (GG t ξ ++ Gx) (SS t ξ))
        refine one_op ho (hwl.go a w se sw') fun v w' hpq => ?_
        obtain ⟨_, hsize, hdef, u, hu, hsat'⟩ := hpq
        refine common t ξ v u w' ht (fun s j h1 h2 => by rw [hset, hlow s j h1 h2]; simp) (fun s j h1 h2 => by
          rw [hset, hhigh s j h1 h2]
          have : j ≠ i := by rintro rfl; exact hni (List.mem_of_getElem? h2)
          simp [this]) hsize hdef hu ((hsat'.sub fun g hg => ?_).perm List.perm_append_comm)
        simp only [List.mem_cons, List.mem_append] at hg ⊢
        rcases hg with hg | hg | hg | hg
        · exact .inl hg
        · exact .inr (.inr (.inl hg))
        · exact .inr (.inl hg)
        · exact .inr (.inr (.inr hg))
      · have hst1 : ¬ s < t := fun h => by rw [hlow s i h hs] at hnot; cases hnot
        have hst2 : ¬ t < s := fun h => by
          cases s with
          | zero => omega
          | succ s' =>
            have hlen : s' < ms.length := by have := (List.getElem?_eq_some_iff.1 hs).1; omega
            have h1 := hhigh s' ms[s'] (by omega) (List.getElem?_eq_getElem hlen)
            simp only [List.getElem?_eq_getElem hlen] at hok2
            have h2 := reach_listed (listed := fun i => arr.getD i false) hmid.clos acc' _ hsub hdeps hok2
            rw [h2] at h1; cases h1
        obtain rfl : s = t := by omega
        have hslt := (List.getElem?_eq_some_iff.1 hs).1
        obtain ⟨e', H', se, sw', hwl⟩ := withDeps_go (accs := accs) (vals := vals) (listed := fun i => arr.getD i false) hmid.clos acc' _ _ (GG s ξ ++ (G ++ Gx)) hsub (fun j hj _ => hdeps j hj) (fun i d p ds hx hli => hmid.slot i d p ds hx hli) hmid.st (hsat.sub fun g hg => by
            simp only [List.mem_append] at hg ⊢
            rcases hg with hg | hg | hg
            · exact .inr (.inl hg)
            · exact .inr (.inr hg)
            · exact .inl hg) (fun x hx hlx => List.mem_append.2 (.inr (List.mem_append.2 (.inr (by rw [hGx]; exact List.mem_map.2 ⟨x, List.mem_filter.2 ⟨hx, hlx⟩, rfl⟩))))) (hob.go ξ Gx)
        refine one_opM ho (hwl.go a w se sw') fun v w' hpq => ?_
        obtain ⟨_, hsize, hdef, u, hu, ξ', hsat'⟩ := hpq
        refine common (s + 1) ξ' v u w' (by omega) (fun q j h1 h2 => by
          rw [hset]
          by_cases hq : q = s
          · subst hq; rw [hs] at h2; cases h2; simp
          · rw [hlow q j (by omega) h2]; simp) (fun q j h1 h2 => by
          rw [hset, hhigh q j (by omega) h2]
          have : j ≠ i := by
            rintro rfl
            have : s = q := (List.getElem?_inj hslt hmnd).1 (by rw [hs, h2])
            omega
          simp [this]) hsize hdef hu hsat'
  refine ⟨fun a w sa sw => wp_region_any hm ?_⟩
  have := key L.length (Array.replicate L.length false) (fun _ => undef) a w.drew (by simp) (by
    refine Nat.le_trans (List.length_filter_le _ _) (by simp)) ⟨⟨sa.size, sa.defers, fun i v hi => sa.get i v (hwo _ _ hi).1⟩, fun i d p ds hx hli => by simp [Array.getD] at hli, fun x hx hlx => by simp [Array.getD] at hlx, ⟨0, by omega, fun _ _ h => by omega, fun _ _ _ _ => by simp [Array.getD], ξ₀, (hst _ sw.drew).sub fun g hg => by
      rcases List.mem_append.1 hg with hg | hg
      · obtain ⟨x, hx, _⟩ := List.mem_map.1 hg
        rw [List.mem_filter] at hx
        have := hx.2
        simp [Array.getD] at this
      · exact hg⟩⟩
  simpa using this

theorem ObP.nil {fin : Nat → Acc → Prop} {i k : Nat} {last : Option Nat} {acc : Acc} (h : fin k acc) : ObP P n L B env G S GG SS fin i k last [] acc := h
theorem ObP.consA {fin : Nat → Acc → Prop} {i k : Nat} {last : Option Nat} {o : Oper} {r : List Oper} {acc : Acc} (p : Post)
    (h : ∀ Gx Sx, withDeps (depsOf o) acc env (G ++ Gx) fun env' G' => WL P n L (PQ n B (G ++ Gx) (S ++ Sx) o.dst p) [o] B env' G' (S ++ Sx))
    (h2 : ObP P n L B env G S GG SS fin (i + 1) k last r ((i, o.dst, p, depsOf o) :: acc)) : ObP P n L B env G S GG SS fin i k last (o :: r) acc := ⟨p, .inl ⟨⟨h⟩, h2⟩⟩
theorem ObP.consM {fin : Nat → Acc → Prop} {i k : Nat} {last : Option Nat} {o : Oper} {r : List Oper} {acc : Acc} (p : Post) (hl : okLast (depsOf o) acc last = true)
    (h : ∀ ξ Gx, withDeps (depsOf o) acc env (GG k ξ ++ (G ++ Gx)) fun env' G' => WL P n L (PM n B (GG (k + 1)) (SS (k + 1)) (G ++ Gx) S o.dst p) [o] B env' G' (SS k ξ ++ S))
    (h2 : ObP P n L B env G S GG SS fin (i + 1) (k + 1) (some i) r ((i, o.dst, p, depsOf o) :: acc)) : ObP P n L B env G S GG SS fin i k last (o :: r) acc := ⟨p, .inr ⟨⟨h⟩, hl, h2⟩⟩
theorem WC.drawP {id : Nat} {env' : Env} {G₀ : List Pers} {S₀ : List Res} [hm : Mixed P] (ξ₀ : Ξ) (hok : (depsOK 0 L && distinct (dstsOf L)) = true) (hw : Wo (dstsOf L) env env')
    (hst : ∀ w, Sat B G₀ S₀ w → Sat B (GG 0 ξ₀ ++ G) (SS 0 ξ₀ ++ S) w)
    (h : ObP P n L B env' G S GG SS (fun k acc => ∀ ξ, withDeps (allOf acc) acc env' (GG k ξ ++ G) fun env'' G' => WX n Q .normal B env'' G' (SS k ξ ++ S)) 0 0 none L []) : WC P n (.region id L.toArray true) Q B env G₀ S₀ :=
  .phases hm.h hok hw ξ₀ hst h
variable {d : Nat} {α : Type} {R : Ty α} {a : α}
theorem WX.pmIs {GG1 : Ξ → List Pers} {SS1 : Ξ → List Res} {G₀ : List Pers} {S₀ : List Res} {v : Value} (ξ : Ξ) (hv : env.get d = some v) (h : ∀ w, Sat B G S w → Sat B (GG1 ξ ++ G₀) (SS1 ξ ++ S₀) w) : WX n (PM n B GG1 SS1 G₀ S₀ (some d) (.is v)) .normal B env G S := by
  refine ⟨fun a w sa sw => ⟨rfl, sa.size, sa.defers, v, fun t ht => by cases ht; exact sa.get _ _ hv, ξ, ?_⟩⟩
  obtain ⟨m, k, dj, hm', hk, hgg, hs1⟩ := (h w sw).heap
  exact ⟨sw.os, sw.tape, sw.output, sw.size, m, k, dj, hm', hk, fun g hg' => by
    cases hg' with
    | head => exact rfl
    | tail _ hg' => exact hgg g hg', hs1⟩
theorem WX.pmRd {GG1 : Ξ → List Pers} {SS1 : Ξ → List Res} {G₀ : List Pers} {S₀ : List Res} {v : Value} (ξ : Ξ) (hv : env.get d = some v) [hr : Rd v G R a] (h : ∀ w, Sat B G S w → Sat B (rd R a v :: (GG1 ξ ++ G₀)) (SS1 ξ ++ S₀) w) : WX n (PM n B GG1 SS1 G₀ S₀ (some d) (.kn (Qd.rd R a))) .normal B env G S :=
  ⟨fun a w sa sw => ⟨rfl, sa.size, sa.defers, v, fun t ht => by cases ht; exact sa.get _ _ hv, ξ, h w sw⟩⟩
instance SelC.app {S Sx T : List Res} {r : Res} [i : SelC S r T] : SelC (S ++ Sx) r (T ++ Sx) := ⟨i.h.app⟩
instance SelBox.app {b : Nat} {S Sx T : List Res} {E : TypeId} {cs : List Value} [i : SelBox b S E cs T] : SelBox b (S ++ Sx) E cs (T ++ Sx) := ⟨i.h.app⟩
instance SelOwn.app {v : Value} {S Sx T : List Res} {E sz m : Nat} {xs : List Value} [i : SelOwn v S E sz m xs T] : SelOwn v (S ++ Sx) E sz m xs (T ++ Sx) := ⟨i.h.app⟩
end
end Go.Qd
