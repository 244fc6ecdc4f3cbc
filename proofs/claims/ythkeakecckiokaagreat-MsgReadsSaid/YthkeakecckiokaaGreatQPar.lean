import Derived.Test.YthkeakecckiokaaGreatQPhase
namespace Go.Qd
open Go

/-! ### A region that draws its order: operations hand on to later ones what they own; others look at it in between -/
inductive Post3 where
  | is (x : Value)
  | kn (f : Value → Pers)
  | ex (Ξ : Type) (v : Ξ → Value) (g : Ξ → List Pers) (s : Ξ → List Res)
def Post3.rel : Post3 → Value → List Pers → List Res → Prop
  | .is x, v, G, S => v = x ∧ G = [] ∧ S = []
  | .kn f, v, G, S => G = [f v] ∧ S = []
  | .ex Ξ fv fg fs, v, G, S => ∃ ξ : Ξ, v = fv ξ ∧ G = fg ξ ∧ S = fs ξ
/-- An operation's number, the slot of which it tells (its own, or one that an earlier one has set), what it leaves, what ran ahead of it, what it looks at, what it takes over, and whose slot it tells anew. -/
structure Ent where
  i : Nat
  d : Option Nat
  p : Post3
  ds : List Nat
  b : List Nat
  c : List Nat
  h : List Nat
abbrev Acc3 := List Ent
def envO (d : Option Nat) (v : Value) (e : Env) : Env := match d with | some d => (d, v) :: e | none => e
def withD3 (bs cs : List Nat) : List Nat → List Nat → Acc3 → Env → List Pers → List Res → List Res → (Env → List Pers → List Res → List Res → Prop) → Prop
  | _, _, [], e, G, T, Bo, k => k e G T Bo
  | hd, deps, ⟨i, d, p, ds, _, _, h⟩ :: r, e, G, T, Bo, k =>
    bif hd.any (Nat.beq i) then bif bs.any (Nat.beq i) then False else withD3 bs cs (h ++ hd) (ds ++ deps) r e G T Bo k
    else bif deps.any (Nat.beq i) then
      match d, p with
      | some d, .is x => withD3 bs cs (h ++ hd) (ds ++ deps) r ((d, x) :: e) G T Bo k
      | none, .is _ => withD3 bs cs (h ++ hd) (ds ++ deps) r e G T Bo k
      | some d, .kn f => ∀ v, withD3 bs cs (h ++ hd) (ds ++ deps) r ((d, v) :: e) (f v :: G) T Bo k
      | none, .kn _ => withD3 bs cs (h ++ hd) (ds ++ deps) r e G T Bo k
      | d, .ex Ξ fv fg fs => ∀ ξ : Ξ, bif cs.any (Nat.beq i) then withD3 bs cs (h ++ hd) (ds ++ deps) r (envO d (fv ξ) e) (fg ξ ++ G) (fs ξ ++ T) Bo k
          else bif bs.any (Nat.beq i) then withD3 bs cs (h ++ hd) (ds ++ deps) r (envO d (fv ξ) e) (fg ξ ++ G) T (fs ξ ++ Bo) k
          else withD3 bs cs (h ++ hd) (ds ++ deps) r (envO d (fv ξ) e) (fg ξ ++ G) T Bo k
    else bif bs.any (Nat.beq i) then False else withD3 bs cs hd deps r e G T Bo k
/-- What an operation must come to. -/
def PG (n : Nat) (B : Base) (G : List Pers) (S : List Res) (d : Option Nat) (p : Post3) : Exit → Act → World → Prop := fun e a w =>
  e = .normal ∧ a.tmps.size = n ∧ a.defers = B.ds ∧ ∃ v, (∀ t, d = some t → a.tmps[t]? = some v) ∧ ∃ G' S', p.rel v G' S' ∧ Sat B (G' ++ G) (S' ++ S) w
structure Ob3 (P : Program) (n : Nat) (L : List Oper) (B : Base) (env : Env) (G : List Pers) (S : List Res) (acc : Acc3) (o : Oper) (d : Option Nat) (p : Post3) (bs cs : List Nat) : Prop where
  go : ∀ Gx Sx, withD3 bs cs [] (depsOf o ++ bs ++ cs) acc env (G ++ Gx) [] [] fun e' G' T Bo => WL P n L (PG n B (G ++ Gx) (Bo ++ (S ++ Sx)) d p) [o] B e' G' (T ++ (Bo ++ (S ++ Sx)))
def reach3 : List Nat → Acc3 → Nat → Bool
  | _, [], _ => false
  | deps, x :: r, j => bif deps.any (Nat.beq x.i) then (Nat.beq x.i j || reach3 (x.ds ++ deps) r j) else reach3 deps r j
def usedOf (acc : Acc3) : List Nat := acc.flatMap (·.c)
def memN (l : List Nat) (i : Nat) : Bool := l.any (Nat.beq i)
theorem memN_iff {l : List Nat} {i : Nat} : memN l i = true ↔ i ∈ l := by
  unfold memN; rw [List.any_eq_true]
  constructor
  · rintro ⟨x, hx, he⟩; rw [Nat.eq_of_beq_eq_true he]; exact hx
  · intro h; exact ⟨i, h, by simp⟩
theorem memN_not {l : List Nat} {i : Nat} : memN l i = false ↔ i ∉ l := by
  rw [← memN_iff]; cases memN l i <;> simp
def okOp (deps bs cs : List Nat) (acc : Acc3) : Bool :=
  (bs ++ cs).all (fun i => (Nat.ble 1000 i || reach3 deps acc i) && !memN (usedOf acc) i) && bs.all (fun i => memN (acc.map (·.i)) i && !memN cs i) && acc.all (fun x => x.b.all (fun i => !memN cs i) || reach3 deps acc x.i)
def tells (s : Nat) (ds : List Nat) (acc : Acc3) : Bool := acc.any fun y => memN ds y.i && (match y.d with | some t => Nat.beq s t | none => false)
/-- The slot of which an operation tells: its own, or one that one ahead of it has set. -/
def okH (od d : Option Nat) (h ds : List Nat) (acc : Acc3) : Prop := (d = od ∧ h = []) ∨ (h.all (memN ds) = true ∧ match d with | some s => tells s ds acc = true | none => True)
def ObP3 (P : Program) (n : Nat) (L : List Oper) (B : Base) (env : Env) (G : List Pers) (S : List Res) (fin : Acc3 → Prop) : Nat → List Oper → Acc3 → Prop
  | _, [], acc => fin acc
  | i, o :: r, acc => ∃ d p bs cs h, Ob3 P n L B env G S acc o d p bs cs ∧ okOp (depsOf o) bs cs acc = true ∧ okH o.dst d h (depsOf o ++ bs ++ cs) acc ∧ ObP3 P n L B env G S fin (i + 1) r (⟨i, d, p, depsOf o ++ bs ++ cs, bs, cs, h⟩ :: acc)

section
variable {P : Program} {n : Nat} {Q : Exit → Act → World → Prop} {B : Base} {env : Env} {G : List Pers} {S : List Res} {L : List Oper}

theorem ObP3.all {fin : Acc3 → Prop} : ∀ (l : List Oper) (i : Nat) (acc : Acc3), ObP3 P n L B env G S fin i l acc →
    ∃ new : Acc3, fin (new ++ acc) ∧ new.map (·.i) = ((List.range l.length).map (i + ·)).reverse ∧ ∀ (j : Nat) (o : Oper), l[j]? = some o → ∃ pre x acc', new ++ acc = pre ++ x :: acc' ∧ x.i = i + j ∧ okH o.dst x.d x.h x.ds acc' ∧ x.ds = depsOf o ++ x.b ++ x.c ∧
      Ob3 P n L B env G S acc' o x.d x.p x.b x.c ∧ okOp (depsOf o) x.b x.c acc' = true
  | [], i, acc, h => ⟨[], h, by simp, fun j o hj => by simp at hj⟩
  | o :: r, i, acc, h => by
    obtain ⟨d, p, bs, cs, hh, hob, hok, hokh, hr⟩ := h
    obtain ⟨new, hf, hi, hall⟩ := ObP3.all r (i + 1) _ hr
    refine ⟨new ++ [⟨i, d, p, depsOf o ++ bs ++ cs, bs, cs, hh⟩], by simpa using hf, ?_, fun j q hj => ?_⟩
    · rw [List.map_append, hi, List.length_cons, List.range_succ_eq_map]
      simp only [List.map_cons, List.map_map, List.reverse_cons, Nat.add_zero, List.map_nil]
      congr 2
      apply List.map_congr_left
      intro a _
      simp only [Function.comp]; omega
    · cases j with
      | zero =>
        simp at hj; subst hj
        exact ⟨new, ⟨i, d, p, depsOf o ++ bs ++ cs, bs, cs, hh⟩, acc, by simp, rfl, hokh, rfl, hob, hok⟩
      | succ j =>
        obtain ⟨pre, x, acc', h1, h2, h3⟩ := hall j q (by simpa using hj)
        exact ⟨pre, x, acc', by simpa using h1, by omega, h3⟩

theorem reach3_listed {accs : Acc3} {listed : Nat → Bool} (hc : ∀ x ∈ accs, listed x.i = true → ∀ j ∈ x.ds, listed j = true) {j : Nat} : ∀ (acc : Acc3) (deps : List Nat), (∀ x ∈ acc, x ∈ accs) → (∀ i ∈ deps, listed i = true) → reach3 deps acc j = true → listed j = true
  | [], _, _, _, h => by simp [reach3] at h
  | x :: r, deps, hs, hl, h => by
    simp only [reach3] at h
    cases hb : deps.any (Nat.beq x.i) with
    | false => rw [hb] at h; exact reach3_listed hc r deps (fun x hx => hs x (.tail _ hx)) hl h
    | true =>
      rw [hb] at h
      have hi : listed x.i = true := hl _ (memN_iff.1 hb)
      simp only [cond_true, Bool.or_eq_true] at h
      rcases h with h | h
      · rw [← Nat.eq_of_beq_eq_true h]; exact hi
      · refine reach3_listed hc r (x.ds ++ deps) (fun x hx => hs x (.tail _ hx)) (fun q hq => ?_) h
        rcases List.mem_append.1 hq with hq | hq
        · exact hc _ (hs _ (.head _)) hi q hq
        · exact hl q hq

theorem one_op3 {Q' : Exit → Act → World → Prop} {K : Act → World → Prop} {p : Post3} {G' : List Pers} {S' : List Res} {i : Nat} {o : Oper} {dd : Option Nat} {a : Act} {w : World} (ho : L[i]? = some o) (h : wpList P L.toArray (PG n B G' S' dd p) [o] a w)
    (hK : ∀ v w', PG n B G' S' dd p .normal (a.put o.dst v) w' → K (a.put o.dst v) w') : wpOp P L.toArray Q' i K a w := by
  unfold wpOp
  have ho' : L.toArray[i]? = some o := by simpa using ho
  rw [ho']
  unfold wpList at h
  show if Region.wanted o (yielded L.toArray a.tmps) = true then _ else _
  split at h
  · rename_i hw
    rw [if_pos hw]
    · skip
      unfold Oper.wp at h ⊢
      generalize (execOp a.eval o).run P w = r at *
      cases r with
      | ok x w' =>
        cases x <;> simp only [Oper.upon] at h ⊢ <;> first
          | exact hK _ _ h
          | (refine Calls.mono h ?_
             intro e w'' he
             cases e <;> simp only at he ⊢
             · exact hK _ _ he
             · exact absurd he.1 (by simp)
             · obtain ⟨_, _, hq⟩ := he; exact absurd hq.1 (by simp))
          | exact Rows.mono h (fun v w'' he => hK _ _ he)
          | (refine RoundIn.mono h ?_
             intro e w'' he
             cases e <;> simp only at he ⊢
             · exact hK _ _ he
             · exact absurd he.1 (by simp)
             · obtain ⟨_, _, hq⟩ := he; exact absurd hq.1 (by simp))
          | (have := h.2.2.1; simp [Act.put] at this; cases hd : o.dst <;> simp [hd] at this)
      | halt x w' => simp only [Oper.upon] at h
  · rename_i hw
    rw [if_neg hw]
    exact hK _ _ h

/-! Lists of what is owned, part by part -/
theorem Sat.sublist {B : World} {w : World} {T : List Res} (h : Sat B G S w) (hs : T.Sublist S) : Sat B G T w := by
  obtain ⟨D, hD⟩ := hs.exists_perm_append
  have h' := h.perm (hD.trans List.perm_append_comm)
  clear hD h hs
  induction D with
  | nil => simpa using h'
  | cons r D ih => exact ih h'.drop
theorem flatMap_sub {α : Type _} {β : Type _} {l : List α} {f g : α → List β} (h : ∀ x ∈ l, (f x).Sublist (g x)) : (l.flatMap f).Sublist (l.flatMap g) := by
  induction l with
  | nil => simp
  | cons x l ih =>
    rw [List.flatMap_cons, List.flatMap_cons]
    exact (h x (.head _)).append (ih fun y hy => h y (.tail _ hy))
theorem flatMap_sub_list {α : Type _} {β : Type _} {l m : List α} {f : α → List β} (h : l.Sublist m) : (l.flatMap f).Sublist (m.flatMap f) := by
  induction h with
  | slnil => simp
  | cons a _ ih => rw [List.flatMap_cons]; exact ih.trans (List.sublist_append_right _ _)
  | cons_cons a _ ih => rw [List.flatMap_cons, List.flatMap_cons]; exact List.Sublist.append (List.Sublist.refl _) ih
theorem flatMap_perm2 {α : Type _} {β : Type _} {f g : α → List β} : ∀ l : List α, (l.flatMap fun x => f x ++ g x).Perm (l.flatMap f ++ l.flatMap g)
  | [] => by simp
  | x :: l => by
    simp only [List.flatMap_cons, List.append_assoc]
    refine List.Perm.append_left _ ?_
    refine ((flatMap_perm2 l).append_left _).trans ?_
    rw [← List.append_assoc, ← List.append_assoc]
    exact List.perm_append_comm.append_right _
theorem flatMap_one {β : Type _} {j : Nat} {X : List β} : ∀ l : Acc3, (l.map (·.i)).Nodup → (l.flatMap fun x => bif Nat.beq x.i j then X else []).Sublist X
  | [], _ => by simp
  | x :: l, h => by
    rw [List.map_cons, List.nodup_cons] at h
    rw [List.flatMap_cons]
    cases hb : Nat.beq x.i j with
    | false => simpa [hb] using flatMap_one l h.2
    | true =>
      have e := Nat.eq_of_beq_eq_true hb
      have : (l.flatMap fun x => bif Nat.beq x.i j then X else []) = [] := by
        rw [List.flatMap_eq_nil_iff]
        intro y hy
        cases hq : Nat.beq y.i j with
        | false => rfl
        | true => exact absurd (List.mem_map.2 ⟨y, hy, (Nat.eq_of_beq_eq_true hq).trans e.symm⟩) h.1
      rw [this]; simp

theorem withD3_go {accs : Acc3} {vals : Nat → Value} {Gs : Nat → List Pers} {Ss : Nat → List Res} {listed : Nat → Bool} {sOf : Ent → List Res} {bs cs : List Nat} {a : Act} {w : World} {Rest : List Res} {k : Env → List Pers → List Res → List Res → Prop}
    (hc : ∀ x ∈ accs, listed x.i = true → ∀ j ∈ x.ds, listed j = true) (hslot : ∀ x ∈ accs, listed x.i = true → ∀ d, x.d = some d → a.tmps[d]? = some (vals x.i)) (hrel : ∀ x ∈ accs, listed x.i = true → x.p.rel (vals x.i) (Gs x.i) (Ss x.i))
    (hs : ∀ x ∈ accs, listed x.i = true → memN cs x.i = true ∨ memN bs x.i = true → sOf x = Ss x.i) (hh : ∀ x ∈ accs, ∀ j ∈ x.h, j ∈ x.ds) :
    ∀ (acc : Acc3) (hd deps : List Nat) (e : Env) (H : List Pers) (T Bo : List Res), (∀ x ∈ acc, x ∈ accs) → (∀ i ∈ hd, i ∈ acc.map (·.i) → listed i = true) → (∀ i ∈ deps, i ∈ acc.map (·.i) → listed i = true) → St n B.ds e a →
      Sat B H (T ++ acc.flatMap (fun x => bif memN cs x.i then sOf x else []) ++ (Bo ++ acc.flatMap (fun x => bif memN cs x.i then [] else bif memN bs x.i then sOf x else []) ++ Rest)) w →
      (∀ x ∈ accs, listed x.i = true → ∀ g ∈ Gs x.i, g ∈ H) → withD3 bs cs hd deps acc e H T Bo k →
      ∃ e' H' T' Bo', St n B.ds e' a ∧ Sat B H' (T' ++ (Bo' ++ Rest)) w ∧ k e' H' T' Bo' ∧ Bo'.Perm (Bo ++ acc.flatMap (fun x => bif memN cs x.i then [] else bif memN bs x.i then sOf x else []))
  | [], hd, deps, e, H, T, Bo, _, _, _, se, sw, _, h => ⟨e, H, T, Bo, se, by simpa using sw, by simpa only [withD3] using h, by simp⟩
  | ⟨i, d, p, ds, xb, xc, xh⟩ :: r, hd, deps, e, H, T, Bo, hsub, hlh, hl, se, sw, hmem, h => by
    simp only [withD3] at h
    have hr : ∀ x ∈ r, x ∈ accs := fun x hx => hsub x (.tail _ hx)
    have hlhr : ∀ i ∈ hd, i ∈ r.map (·.i) → listed i = true := fun j hj hjr => hlh j hj (by rw [List.map_cons]; exact .tail _ hjr)
    have hlr : ∀ i ∈ deps, i ∈ r.map (·.i) → listed i = true := fun j hj hjr => hl j hj (by rw [List.map_cons]; exact .tail _ hjr)
    have hx := hsub _ (List.Mem.head r)
    simp only [List.flatMap_cons] at sw
    have hxh := hh _ hx
    dsimp only at hxh
    have deeper : listed i = true → (∀ j ∈ ds ++ deps, j ∈ r.map (·.i) → listed j = true) ∧ (∀ j ∈ xh ++ hd, j ∈ r.map (·.i) → listed j = true) := fun hi =>
      ⟨fun j hj hjr => by
        rcases List.mem_append.1 hj with hj | hj
        · exact hc _ hx hi j hj
        · exact hlr j hj hjr, fun j hj hjr => by
        rcases List.mem_append.1 hj with hj | hj
        · exact hc _ hx hi j (hxh j hj)
        · exact hlhr j hj hjr⟩
    cases hbh : hd.any (Nat.beq i) with
    | true =>
      rw [hbh] at h
      simp only [cond_true] at h
      have hi : listed i = true := hlh i (memN_iff.1 hbh) (by rw [List.map_cons]; exact .head _)
      cases hbb : bs.any (Nat.beq i) with
      | true => rw [hbb] at h; exact h.elim
      | false =>
        rw [hbb] at h
        have hbb' : memN bs i = false := hbb
        obtain ⟨e', H', T', Bo', h1, h2, h3, h4⟩ := withD3_go (Rest := Rest) hc hslot hrel hs hh r _ _ e H T Bo hr (deeper hi).2 (deeper hi).1 se (sw.sublist (by
          refine List.Sublist.append (List.Sublist.append (List.Sublist.refl _) (List.sublist_append_right _ _)) ?_
          rw [hbb']; simp)) hmem h
        refine ⟨e', H', T', Bo', h1, h2, h3, ?_⟩
        rw [List.flatMap_cons, hbb']; simpa using h4
    | false =>
    rw [hbh] at h
    simp only [cond_false] at h
    cases hb : deps.any (Nat.beq i) with
    | false =>
      rw [hb] at h
      simp only [cond_false] at h
      cases hbb : bs.any (Nat.beq i) with
      | true => rw [hbb] at h; exact h.elim
      | false =>
        rw [hbb] at h
        have hbb' : memN bs i = false := hbb
        obtain ⟨e', H', T', Bo', h1, h2, h3, h4⟩ := withD3_go (Rest := Rest) hc hslot hrel hs hh r hd deps e H T Bo hr hlhr hlr se (sw.sublist (by
          refine List.Sublist.append (List.Sublist.append (List.Sublist.refl _) (List.sublist_append_right _ _)) ?_
          rw [hbb']; simp)) hmem h
        refine ⟨e', H', T', Bo', h1, h2, h3, ?_⟩
        rw [List.flatMap_cons, hbb']; simpa using h4
    | true =>
      rw [hb] at h
      have hi : listed i = true := hl i (memN_iff.1 hb) (by rw [List.map_cons]; exact .head _)
      obtain ⟨hlr', hlhr'⟩ := deeper hi
      have hsl := hslot _ hx hi
      have hre := hrel _ hx hi
      have hso := hs _ hx hi
      dsimp only at hsl hre hso
      have putSt : ∀ v, vals i = v → St n B.ds (envO d v e) a := by
        intro v hv
        cases d with
        | none => exact se
        | some d =>
          refine ⟨se.size, se.defers, fun j u hj => ?_⟩
          simp only [envO, Env.get] at hj
          cases hq : Nat.beq d j with
          | true => rw [hq] at hj; cases hj; rw [← Nat.eq_of_beq_eq_true hq, hsl d rfl, hv]
          | false => rw [hq] at hj; exact se.get j u hj
      -- an entry that hands nothing on
      have plain : ∀ (e₂ : Env) (H₂ : List Pers), Ss i = [] → St n B.ds e₂ a → (∀ g ∈ H₂, g ∈ H ∨ g ∈ Gs i) → (∀ x ∈ accs, listed x.i = true → ∀ g ∈ Gs x.i, g ∈ H₂) → withD3 bs cs (xh ++ hd) (ds ++ deps) r e₂ H₂ T Bo k →
          ∃ e' H' T' Bo', St n B.ds e' a ∧ Sat B H' (T' ++ (Bo' ++ Rest)) w ∧ k e' H' T' Bo' ∧ Bo'.Perm (Bo ++ (⟨i, d, p, ds, xb, xc, xh⟩ :: r : Acc3).flatMap (fun x => bif memN cs x.i then [] else bif memN bs x.i then sOf x else [])) := by
        intro e₂ H₂ h0 hst hH hm hw
        have hz : (bif memN cs i then ([] : List Res) else bif memN bs i then sOf ⟨i, d, p, ds, xb, xc, xh⟩ else []) = [] := by
          cases h1 : memN cs i with
          | true => rfl
          | false =>
            cases h2 : memN bs i with
            | false => rfl
            | true => rw [hso (.inr h2), h0]; rfl
        obtain ⟨e', H', T', Bo', h1, h2, h3, h4⟩ := withD3_go (Rest := Rest) hc hslot hrel hs hh r _ _ e₂ H₂ T Bo hr hlhr' hlr' hst ((sw.sublist (by
          refine List.Sublist.append (List.Sublist.append (List.Sublist.refl _) (List.sublist_append_right _ _)) ?_
          rw [hz]; simp)).sub fun g hg => by
            rcases hH g hg with h | h
            · exact h
            · exact hmem _ hx hi g h) hm hw
        refine ⟨e', H', T', Bo', h1, h2, h3, ?_⟩
        rw [List.flatMap_cons]; dsimp only; rw [hz]; simpa using h4
      cases p with
      | is x =>
        obtain ⟨hv, hg, hS⟩ := hre
        have hw : withD3 bs cs (xh ++ hd) (ds ++ deps) r (envO d x e) H T Bo k := by cases d <;> exact h
        exact plain _ _ hS (putSt x hv) (fun g hg => .inl hg) hmem hw
      | kn f =>
        obtain ⟨hg, hS⟩ := hre
        cases d with
        | none => exact plain _ _ hS se (fun g hg => .inl hg) hmem h
        | some d =>
          exact plain _ _ hS (putSt _ rfl) (fun g hg' => by
            cases hg' with
            | head => right; rw [hg]; exact .head _
            | tail _ h => exact .inl h) (fun x hx hlx g hg => .tail _ (hmem x hx hlx g hg)) (h (vals i))
      | ex Ξ fv fg fs =>
        obtain ⟨ξ, hv, hg, hS⟩ := hre
        have h' : bif cs.any (Nat.beq i) then withD3 bs cs (xh ++ hd) (ds ++ deps) r (envO d (fv ξ) e) (fg ξ ++ H) (fs ξ ++ T) Bo k
          else bif bs.any (Nat.beq i) then withD3 bs cs (xh ++ hd) (ds ++ deps) r (envO d (fv ξ) e) (fg ξ ++ H) T (fs ξ ++ Bo) k
          else withD3 bs cs (xh ++ hd) (ds ++ deps) r (envO d (fv ξ) e) (fg ξ ++ H) T Bo k := by cases d <;> exact h ξ
        have swg : ∀ S', Sat B H S' w → Sat B (fg ξ ++ H) S' w := fun S' hh => hh.sub fun g hg' => by
          rcases List.mem_append.1 hg' with h | h
          · exact hmem _ hx hi g (by dsimp only; rw [hg]; exact h)
          · exact h
        have hm2 : ∀ x ∈ accs, listed x.i = true → ∀ g ∈ Gs x.i, g ∈ fg ξ ++ H := fun x hx hlx g hg => List.mem_append.2 (.inr (hmem x hx hlx g hg))
        cases hcc : memN cs i with
        | true =>
          rw [show cs.any (Nat.beq i) = true from hcc] at h'
          have e1 := hso (.inl hcc)
          rw [hcc] at sw
          simp only [cond_true] at sw h'
          rw [e1, hS] at sw
          obtain ⟨e', H', T', Bo', h1, h2, h3, h4⟩ := withD3_go (Rest := Rest) hc hslot hrel hs hh r _ _ _ _ (fs ξ ++ T) Bo hr hlhr' hlr' (putSt _ hv) (swg _ (sw.perm (by
            simp only [List.nil_append]
            refine List.Perm.append_right _ ?_
            rw [← List.append_assoc]
            exact List.perm_append_comm.append_right _))) hm2 h'
          refine ⟨e', H', T', Bo', h1, h2, h3, ?_⟩
          rw [List.flatMap_cons]; dsimp only; rw [hcc]; simpa using h4
        | false =>
          rw [show cs.any (Nat.beq i) = false from hcc] at h'
          simp only [cond_false] at h'
          rw [hcc] at sw
          simp only [cond_false, List.nil_append] at sw
          cases hbb : memN bs i with
          | true =>
            rw [show bs.any (Nat.beq i) = true from hbb] at h'
            have e1 := hso (.inr hbb)
            rw [hbb] at sw
            simp only [cond_true] at sw h'
            rw [e1, hS] at sw
            obtain ⟨e', H', T', Bo', h1, h2, h3, h4⟩ := withD3_go (Rest := Rest) hc hslot hrel hs hh r _ _ _ _ T (fs ξ ++ Bo) hr hlhr' hlr' (putSt _ hv) (swg _ (sw.perm (by
              refine List.Perm.append_left _ (List.Perm.append_right _ ?_)
              rw [← List.append_assoc]
              exact List.perm_append_comm.append_right _))) hm2 h'
            refine ⟨e', H', T', Bo', h1, h2, h3, h4.trans ?_⟩
            rw [List.flatMap_cons]; dsimp only; rw [hcc, hbb, cond_false, cond_true, e1, hS, ← List.append_assoc]
            exact List.perm_append_comm.append_right _
          | false =>
            rw [show bs.any (Nat.beq i) = false from hbb] at h'
            rw [hbb] at sw
            simp only [cond_false, List.nil_append] at sw h'
            obtain ⟨e', H', T', Bo', h1, h2, h3, h4⟩ := withD3_go (Rest := Rest) hc hslot hrel hs hh r _ _ _ _ T Bo hr hlhr' hlr' (putSt _ hv) (swg _ sw) hm2 h'
            refine ⟨e', H', T', Bo', h1, h2, h3, ?_⟩
            rw [List.flatMap_cons]; dsimp only; rw [hcc, hbb]; simpa using h4

def takenB (accs : Acc3) (listed : Nat → Bool) (i : Nat) : Bool := accs.any fun y => listed y.i && memN y.c i
def sOfB (accs : Acc3) (Ss : Nat → List Res) (listed : Nat → Bool) (x : Ent) : List Res := bif listed x.i && !takenB accs listed x.i then Ss x.i else []
structure Mid3 (n : Nat) (B : Base) (env : Env) (G : List Pers) (S : List Res) (accs : Acc3) (vals : Nat → Value) (Gs : Nat → List Pers) (Ss : Nat → List Res) (listed : Nat → Bool) (a : Act) (w : World) : Prop where
  st : St n B.ds env a
  slot : ∀ x ∈ accs, listed x.i = true → ∀ d, x.d = some d → a.tmps[d]? = some (vals x.i)
  clos : ∀ x ∈ accs, listed x.i = true → ∀ j ∈ x.ds, listed j = true
  rel : ∀ x ∈ accs, listed x.i = true → x.p.rel (vals x.i) (Gs x.i) (Ss x.i)
  sat : Sat B (G ++ accs.flatMap fun x => bif listed x.i then Gs x.i else []) (S ++ accs.flatMap (sOfB accs Ss listed)) w

/-- What an operation looks at or takes over is there. -/
theorem Mid3.free {accs : Acc3} {listed : Nat → Bool} (hclos : ∀ x ∈ accs, listed x.i = true → ∀ j ∈ x.ds, listed j = true) (hcheck : ∀ pre (x : Ent) acc', accs = pre ++ x :: acc' → Nat.blt x.i 1000 = true → ∃ deps, x.ds = deps ++ x.b ++ x.c ∧ okOp deps x.b x.c acc' = true)
    (hvirt : ∀ x ∈ accs, Nat.blt x.i 1000 = false → x.c = [])
    {pre : Acc3} {x : Ent} {acc' : Acc3} (hx : accs = pre ++ x :: acc') (hxr : Nat.blt x.i 1000 = true) (hnot : listed x.i = false) {i : Nat} (hi : memN x.c i = true ∨ memN x.b i = true) : takenB accs listed i = false := by
  cases hq : takenB accs listed i with
  | false => rfl
  | true =>
    exfalso
    unfold takenB at hq
    obtain ⟨y, hy, he⟩ := List.any_eq_true.1 hq
    simp only [Bool.and_eq_true] at he
    obtain ⟨hly, hyc⟩ := he
    have hyr : Nat.blt y.i 1000 = true := by
      cases hb : Nat.blt y.i 1000 with
      | true => rfl
      | false => rw [hvirt y hy hb] at hyc; simp [memN] at hyc
    obtain ⟨deps, _, hok⟩ := hcheck pre x acc' hx hxr
    unfold okOp at hok
    simp only [Bool.and_eq_true, List.all_eq_true] at hok
    obtain ⟨⟨h1, h2⟩, h3⟩ := hok
    rw [hx] at hy
    rcases List.mem_append.1 hy with hy' | hy'
    · -- later in the text
      obtain ⟨p1, p2, rfl⟩ := List.append_of_mem hy'
      obtain ⟨depsy, hdy, hoky⟩ := hcheck p1 y (p2 ++ x :: acc') (by rw [hx]; simp) hyr
      unfold okOp at hoky
      simp only [Bool.and_eq_true, List.all_eq_true] at hoky
      obtain ⟨⟨g1, g2⟩, g3⟩ := hoky
      rcases hi with hi | hi
      · have := (g1 i (List.mem_append.2 (.inr (memN_iff.1 hyc)))).2
        simp only [Bool.not_eq_true'] at this
        rw [memN_not] at this
        exact this (List.mem_flatMap.2 ⟨x, by simp, memN_iff.1 hi⟩)
      · have := g3 x (by simp)
        simp only [Bool.or_eq_true, List.all_eq_true, Bool.not_eq_true'] at this
        rcases this with h | h
        · have := h i (memN_iff.1 hi); rw [hyc] at this; cases this
        · have := reach3_listed hclos (p2 ++ x :: acc') depsy (fun z hz => by rw [hx]; simp only [List.mem_append, List.mem_cons] at hz ⊢; rcases hz with hz | rfl | hz; exact .inl (.inr (.inr hz)); exact .inr (.inl rfl); exact .inr (.inr hz)) (fun j hj => hclos y (by rw [hx]; simp) hly j (by rw [hdy]; simp [hj])) h
          rw [hnot] at this; cases this
    · rcases List.mem_cons.1 hy' with rfl | hy'
      · rw [hnot] at hly; cases hly
      · have := (h1 i (List.mem_append.2 (by rcases hi with hi | hi; exact .inr (memN_iff.1 hi); exact .inl (memN_iff.1 hi)))).2
        simp only [Bool.not_eq_true'] at this
        rw [memN_not] at this
        exact this (List.mem_flatMap.2 ⟨y, hy', memN_iff.1 hyc⟩)

/-- The chunks that the call owns ahead of the region. -/
def chunks : Nat → List (List Res) → Acc3
  | _, [] => []
  | k, s :: r => ⟨1000 + k, none, .ex Unit (fun _ => undef) (fun _ => []) (fun _ => s), [], [], [], []⟩ :: chunks (k + 1) r
theorem chunks_idx : ∀ (V : List (List Res)) (k : Nat), ∀ x ∈ chunks k V, 1000 + k ≤ x.i ∧ x.ds = [] ∧ x.c = [] ∧ x.b = [] ∧ x.d = none ∧ x.h = []
  | [], _, _, h => by cases h
  | s :: r, k, x, h => by
    rcases List.mem_cons.1 h with rfl | h
    · exact ⟨Nat.le_refl _, rfl, rfl, rfl, rfl, rfl⟩
    · obtain ⟨h1, h2⟩ := chunks_idx r (k + 1) x h
      exact ⟨by omega, h2⟩
theorem chunks_nodup : ∀ (V : List (List Res)) (k : Nat), ((chunks k V).map (·.i)).Nodup
  | [], _ => by simp [chunks]
  | s :: r, k => by
    rw [chunks, List.map_cons, List.nodup_cons]
    refine ⟨fun h => ?_, chunks_nodup r (k + 1)⟩
    obtain ⟨x, hx, he⟩ := List.mem_map.1 h
    have := (chunks_idx r (k + 1) x hx).1
    dsimp only at he
    omega
def chunkS (V : List (List Res)) (i : Nat) : List Res := V.getD (i - 1000) []
theorem chunks_rel : ∀ (V : List (List Res)) (k : Nat) (W : List (List Res)), (∀ j, V.getD j [] = W.getD (j + k) []) → ∀ x ∈ chunks k V, x.p.rel undef [] (chunkS W x.i)
  | [], _, _, _, _, h => by cases h
  | s :: r, k, W, hW, x, h => by
    rcases List.mem_cons.1 h with rfl | h
    · refine ⟨(), rfl, rfl, ?_⟩
      have := hW 0
      simp only [chunkS]
      rw [show 1000 + k - 1000 = 0 + k from by omega, ← this]; rfl
    · exact chunks_rel r (k + 1) W (fun j => by rw [show j + (k + 1) = (j + 1) + k from by omega, ← hW (j + 1)]; rfl) x h
theorem chunks_flat : ∀ (V : List (List Res)) (k : Nat) (W : List (List Res)), (∀ j, V.getD j [] = W.getD (j + k) []) → ((chunks k V).flatMap fun x => chunkS W x.i) = V.flatten
  | [], _, _, _ => rfl
  | s :: r, k, W, hW => by
    rw [chunks, List.flatMap_cons, chunks_flat r (k + 1) W (fun j => by rw [show j + (k + 1) = (j + 1) + k from by omega, ← hW (j + 1)]; rfl), List.flatten_cons]
    congr 1
    have := hW 0
    simp only [chunkS]
    rw [show 1000 + k - 1000 = 0 + k from by omega, ← this]; rfl

def allOf3 (acc : Acc3) : List Nat := acc.map (·.i)
def restOf (acc : Acc3) : List Nat := (acc.map (·.i)).filter fun i => !memN (usedOf acc) i
def Fin3 (n : Nat) (Q : Exit → Act → World → Prop) (B : Base) (env : Env) (G : List Pers) (S : List Res) (acc : Acc3) : Prop :=
  withD3 [] (restOf acc) [] (allOf3 acc) acc env G [] [] fun e' G' T _ => WX n Q .normal B e' G' (T ++ S)
theorem withD3_mono {bs cs : List Nat} {k : Env → List Pers → List Res → List Res → Prop} (hk : ∀ e G1 G2 T Bo, (∀ g ∈ G1, g ∈ G2) → k e G1 T Bo → k e G2 T Bo) : ∀ (acc : Acc3) (hd deps : List Nat) (e : Env) (G1 : List Pers) (T Bo : List Res), withD3 bs cs hd deps acc e G1 T Bo k → ∀ G2, (∀ g ∈ G1, g ∈ G2) → withD3 bs cs hd deps acc e G2 T Bo k
  | [], _, _, e, G1, T, Bo, h, G2, hs => by simp only [withD3] at h ⊢; exact hk _ _ _ _ _ hs h
  | ⟨i, d, p, ds, xb, xc, xh⟩ :: r, hd, deps, e, G1, T, Bo, h, G2, hs => by
    simp only [withD3] at h ⊢
    have app : ∀ X : List Pers, ∀ g ∈ X ++ G1, g ∈ X ++ G2 := fun X g hg => by
      rcases List.mem_append.1 hg with h | h
      · exact List.mem_append.2 (.inl h)
      · exact List.mem_append.2 (.inr (hs g h))
    cases hbh : hd.any (Nat.beq i) with
    | true =>
      rw [hbh] at h
      simp only [cond_true] at h ⊢
      cases hbb : bs.any (Nat.beq i) with
      | true => rw [hbb] at h; exact h.elim
      | false => rw [hbb] at h; exact withD3_mono hk r _ _ _ _ _ _ h G2 hs
    | false =>
    rw [hbh] at h
    simp only [cond_false] at h ⊢
    cases hb : deps.any (Nat.beq i) with
    | false =>
      rw [hb] at h
      simp only [cond_false] at h ⊢
      cases hbb : bs.any (Nat.beq i) with
      | true => rw [hbb] at h; exact h.elim
      | false => rw [hbb] at h; exact withD3_mono hk r hd deps e G1 T Bo h G2 hs
    | true =>
      rw [hb] at h
      simp only [cond_true] at h ⊢
      cases p with
      | is x => cases d <;> exact withD3_mono hk r _ _ _ G1 T Bo h G2 hs
      | kn f =>
        cases d with
        | none => exact withD3_mono hk r _ _ _ G1 T Bo h G2 hs
        | some d => exact fun v => withD3_mono hk r _ _ _ _ T Bo (h v) _ (app [f v])
      | ex Ξ fv fg fs =>
        have key : ∀ ξ, (bif cs.any (Nat.beq i) then withD3 bs cs (xh ++ hd) (ds ++ deps) r (envO d (fv ξ) e) (fg ξ ++ G1) (fs ξ ++ T) Bo k
          else bif bs.any (Nat.beq i) then withD3 bs cs (xh ++ hd) (ds ++ deps) r (envO d (fv ξ) e) (fg ξ ++ G1) T (fs ξ ++ Bo) k
          else withD3 bs cs (xh ++ hd) (ds ++ deps) r (envO d (fv ξ) e) (fg ξ ++ G1) T Bo k) → (bif cs.any (Nat.beq i) then withD3 bs cs (xh ++ hd) (ds ++ deps) r (envO d (fv ξ) e) (fg ξ ++ G2) (fs ξ ++ T) Bo k
          else bif bs.any (Nat.beq i) then withD3 bs cs (xh ++ hd) (ds ++ deps) r (envO d (fv ξ) e) (fg ξ ++ G2) T (fs ξ ++ Bo) k
          else withD3 bs cs (xh ++ hd) (ds ++ deps) r (envO d (fv ξ) e) (fg ξ ++ G2) T Bo k) := by
          intro ξ h
          cases hcc : cs.any (Nat.beq i) with
          | true => rw [hcc] at h; exact withD3_mono hk r _ _ _ _ _ _ h _ (app _)
          | false =>
            rw [hcc] at h
            simp only [cond_false] at h ⊢
            cases hbb : bs.any (Nat.beq i) with
            | true => rw [hbb] at h; exact withD3_mono hk r _ _ _ _ _ _ h _ (app _)
            | false => rw [hbb] at h; exact withD3_mono hk r _ _ _ _ _ _ h _ (app _)
        cases d <;> exact fun ξ => key ξ (h ξ)

theorem split_one {l : Acc3} (hn : (l.map (·.i)).Nodup) : ∀ {pre pre' : Acc3} {x x' : Ent} {s s' : Acc3}, l = pre ++ x :: s → l = pre' ++ x' :: s' → x.i = x'.i → pre = pre' ∧ x = x' ∧ s = s' := by
  induction l with
  | nil => intro pre pre' x x' s s' h; simp at h
  | cons y l ih =>
    rw [List.map_cons, List.nodup_cons] at hn
    intro pre pre' x x' s s' h h' e
    cases pre with
    | nil =>
      cases pre' with
      | nil => simp at h h'; exact ⟨rfl, h.1.symm.trans h'.1, h.2.symm.trans h'.2⟩
      | cons z pre' =>
        exfalso
        simp at h h'
        refine hn.1 (List.mem_map.2 ⟨x', by rw [h'.2]; simp, ?_⟩)
        rw [h.1, e]
    | cons z pre =>
      cases pre' with
      | nil =>
        exfalso
        simp at h h'
        refine hn.1 (List.mem_map.2 ⟨x, by rw [h.2]; simp, ?_⟩)
        rw [h'.1, e]
      | cons z' pre' =>
        simp at h h'
        obtain ⟨h1, h2, h3⟩ := ih hn.2 h.2 h'.2 e
        exact ⟨by rw [h1, ← h.1, ← h'.1], h2, h3⟩
theorem ent_eq {l : Acc3} (hn : (l.map (·.i)).Nodup) {x y : Ent} (hx : x ∈ l) (hy : y ∈ l) (e : x.i = y.i) : x = y := by
  obtain ⟨p1, s1, h1⟩ := List.append_of_mem hx
  obtain ⟨p2, s2, h2⟩ := List.append_of_mem hy
  exact (split_one hn h1 h2 e).2.1

theorem parAny {G₀ : List Pers} {S₀ : List Res} (V : List (List Res)) (hok : (depsOK 0 L && distinct (dstsOf L) && Nat.ble L.length 1000) = true) {env₀ : Env} (hwo : ∀ i v, env₀.get i = some v → env.get i = some v ∧ i ∉ dstsOf L)
    (hst : ∀ w, Sat B G₀ S₀ w → Sat B G (S ++ V.flatten) w) (h : ObP3 P n L B env₀ G S (Fin3 n Q B env₀ G S) 0 L (chunks 0 V)) : ∀ a w, St n B.ds env a → Sat B G₀ S₀ w → wpAny P .any L.toArray Q L.toArray.size (Array.replicate L.toArray.size false) a { w with drawn := w.drawn + 1 } := by
  simp only [Bool.and_eq_true, Nat.ble_eq] at hok
  obtain ⟨⟨hok1, hok2⟩, hok3⟩ := hok
  have hnd := distinct_get _ hok2
  obtain ⟨new, hfin, hidx, hall⟩ := ObP3.all L 0 _ h
  simp only [Nat.zero_add] at hall hidx
  obtain ⟨accs, hA⟩ : ∃ accs, accs = new ++ chunks 0 V := ⟨_, rfl⟩
  rw [← hA] at hfin
  have hall' : ∀ (j : Nat) (o : Oper), L[j]? = some o → ∃ pre x acc', accs = pre ++ x :: acc' ∧ x.i = j ∧ okH o.dst x.d x.h x.ds acc' ∧ x.ds = depsOf o ++ x.b ++ x.c ∧ Ob3 P n L B env₀ G S acc' o x.d x.p x.b x.c ∧ okOp (depsOf o) x.b x.c acc' = true := by rw [hA]; exact hall
  have hnew : ∀ x ∈ new, x.i < L.length := fun x hx => by
    have : x.i ∈ new.map (·.i) := List.mem_map.2 ⟨x, hx, rfl⟩
    rw [hidx] at this; simpa using this
  have hreal : ∀ x ∈ accs, Nat.blt x.i 1000 = true → x.i < L.length := fun x hx hb => by
    rw [hA] at hx
    rcases List.mem_append.1 hx with hx | hx
    · exact hnew x hx
    · have := (chunks_idx V 0 x hx).1
      rw [Nat.blt_eq] at hb; omega
  have hvirt : ∀ x ∈ accs, Nat.blt x.i 1000 = false → x ∈ chunks 0 V := fun x hx hb => by
    rw [hA] at hx
    rcases List.mem_append.1 hx with hx | hx
    · have := hnew x hx
      have : Nat.blt x.i 1000 = true := by rw [Nat.blt_eq]; omega
      rw [this] at hb; cases hb
    · exact hx
  have hN : (accs.map (·.i)).Nodup := by
    rw [hA, List.map_append, List.nodup_append]
    refine ⟨by rw [hidx, List.Nodup, List.pairwise_reverse]; simpa using (List.nodup_range (n := L.length)).imp Ne.symm, chunks_nodup V 0, fun a ha b hb e => ?_⟩
    obtain ⟨x, hx, rfl⟩ := List.mem_map.1 ha
    obtain ⟨y, hy, rfl⟩ := List.mem_map.1 hb
    have := hnew x hx
    have := (chunks_idx V 0 y hy).1
    omega
  have hcheck : ∀ pre (x : Ent) acc', accs = pre ++ x :: acc' → Nat.blt x.i 1000 = true → ∃ deps, x.ds = deps ++ x.b ++ x.c ∧ okOp deps x.b x.c acc' = true := fun pre x acc' hx hb => by
    have hlt := hreal x (by rw [hx]; simp) hb
    obtain ⟨pre', x', acc'', h1, h2, h3, h4, h5, h6⟩ := hall' x.i L[x.i] (List.getElem?_eq_getElem hlt)
    obtain ⟨_, rfl, rfl⟩ := split_one hN hx h1 h2.symm
    exact ⟨_, h4, h6⟩
  have hokh : ∀ pre (x : Ent) acc', accs = pre ++ x :: acc' → Nat.blt x.i 1000 = true → ∃ o, L[x.i]? = some o ∧ okH o.dst x.d x.h x.ds acc' := fun pre x acc' hx hb => by
    have hlt := hreal x (by rw [hx]; simp) hb
    obtain ⟨pre', x', acc'', h1, h2, h3, h4, h5, h6⟩ := hall' x.i L[x.i] (List.getElem?_eq_getElem hlt)
    obtain ⟨_, rfl, rfl⟩ := split_one hN hx h1 h2.symm
    exact ⟨_, List.getElem?_eq_getElem hlt, h3⟩
  have hhds : ∀ x ∈ accs, ∀ j ∈ x.h, j ∈ x.ds := fun x hx j hj => by
    cases hb : Nat.blt x.i 1000 with
    | false => rw [(chunks_idx V 0 x (hvirt x hx hb)).2.2.2.2.2] at hj; cases hj
    | true =>
      obtain ⟨p1, s1, h1⟩ := List.append_of_mem hx
      obtain ⟨o, _, ho⟩ := hokh p1 x s1 h1 hb
      rcases ho with ⟨_, h2⟩ | ⟨h2, _⟩
      · rw [h2] at hj; cases hj
      · exact memN_iff.1 (List.all_eq_true.1 h2 j hj)
  have hdstA : ∀ (listed : Nat → Bool), (∀ x ∈ accs, listed x.i = true → ∀ j ∈ x.ds, listed j = true) → ∀ (s : Acc3) (pre : Acc3), accs = pre ++ s → ∀ x ∈ s, listed x.i = true → ∀ d, x.d = some d → ∃ j o, L[j]? = some o ∧ o.dst = some d ∧ listed j = true := by
    intro listed hcl s
    induction s with
    | nil => intro _ _ x hx; cases hx
    | cons y s ih =>
      intro pre hp x hx hlx d hd
      rcases List.mem_cons.1 hx with rfl | hx
      · cases hb : Nat.blt x.i 1000 with
        | false => rw [(chunks_idx V 0 x (hvirt x (by rw [hp]; simp) hb)).2.2.2.2.1] at hd; cases hd
        | true =>
          obtain ⟨o, ho, hk⟩ := hokh pre x s hp hb
          rcases hk with ⟨h2, _⟩ | ⟨_, h2⟩
          · exact ⟨x.i, o, ho, by rw [← h2]; exact hd, hlx⟩
          · rw [hd] at h2
            unfold tells at h2
            obtain ⟨z, hz, he⟩ := List.any_eq_true.1 h2
            simp only [Bool.and_eq_true] at he
            have hzl : listed z.i = true := hcl x (by rw [hp]; simp) hlx _ (memN_iff.1 he.1)
            refine ih (pre ++ [x]) (by rw [hp]; simp) z hz hzl d ?_
            have h3 := he.2
            cases hzd : z.d with
            | none => rw [hzd] at h3; cases h3
            | some t => rw [hzd] at h3; rw [Nat.eq_of_beq_eq_true h3]
      · exact ih (pre ++ [y]) (by rw [hp]; simp) x hx hlx d hd
  have key : ∀ (fuel : Nat) (arr : Array Bool) (vals : Nat → Value) (Gs : Nat → List Pers) (Ss : Nat → List Res) (a : Act) (w : World), arr.size = L.length → ((List.range L.length).filter fun i => !arr.getD i false).length ≤ fuel →
      Mid3 n B env₀ G S accs vals Gs Ss (fun i => Nat.ble 1000 i || arr.getD i false) a w → wpAny P .any L.toArray Q fuel arr a w := by
    have done : ∀ (arr : Array Bool) (vals : Nat → Value) (Gs : Nat → List Pers) (Ss : Nat → List Res) (a : Act) (w : World), arr.size = L.length → Region.ready .any L.toArray arr = [] → Mid3 n B env₀ G S accs vals Gs Ss (fun i => Nat.ble 1000 i || arr.getD i false) a w → Q .normal a w := by
      intro arr vals Gs Ss a w hsz hr hmid
      have hlisted : ∀ i, i < L.length → arr.getD i false = true := by
        intro i
        induction i using Nat.strongRecOn with
        | _ i ih =>
          intro hi
          cases hb : arr.getD i false with
          | true => rfl
          | false =>
            exfalso
            have : i ∈ Region.ready .any L.toArray arr := by
              unfold Region.ready
              rw [List.mem_filter]
              refine ⟨by simpa using hi, ?_⟩
              have hi' : i < arr.size := by omega
              have h1 : arr.getD i true = false := by simp [Array.getD, hi'] at hb ⊢; exact hb
              rw [h1]
              have ho : L.toArray[i]? = some L[i] := by simp [hi]
              rw [ho]
              simp only [Bool.not_false, Bool.true_and, Option.map_some, Option.getD_some]
              rw [Array.all_eq_true_iff_forall_mem]
              intro e he
              cases hbd : Region.binds .any e with
              | false => rfl
              | true =>
                have hj : e.on ∈ depsOf L[i] := by
                  unfold depsOf
                  exact List.mem_map.2 ⟨e, List.mem_filter.2 ⟨Array.mem_toList_iff.2 he, hbd⟩, rfl⟩
                have hlt := depsOK_get L 0 i L[i] hok1 (by simp [hi]) e.on hj
                simp only [Bool.not_true, Bool.false_or]
                exact ih e.on (by omega) (by omega)
            rw [hr] at this; cases this
      have hli : ∀ x ∈ accs, (Nat.ble 1000 x.i || arr.getD x.i false) = true := fun x hx => by
        cases hb : Nat.blt x.i 1000 with
        | true => rw [hlisted x.i (hreal x hx hb)]; simp
        | false => have := (chunks_idx V 0 x (hvirt x hx hb)).1; rw [show Nat.ble 1000 x.i = true from by rw [Nat.ble_eq]; omega]; simp
      have hm2 := withD3_mono (k := fun e' G' T _ => WX n Q .normal B e' G' (T ++ S)) (fun e G1 G2 T Bo hs h => ⟨fun a w sa sw => h.go a w sa (sw.sub hs)⟩) _ _ _ _ _ _ _ hfin (G ++ accs.flatMap fun x => bif (Nat.ble 1000 x.i || arr.getD x.i false) then Gs x.i else []) (fun g hg => List.mem_append.2 (.inl hg))
      have hfree : ∀ x ∈ accs, memN (restOf accs) x.i = true → takenB accs (fun i => Nat.ble 1000 i || arr.getD i false) x.i = false := fun x hx hr => by
        cases hq : takenB accs (fun i => Nat.ble 1000 i || arr.getD i false) x.i with
        | false => rfl
        | true =>
          exfalso
          unfold takenB at hq
          obtain ⟨y, hy, he⟩ := List.any_eq_true.1 hq
          simp only [Bool.and_eq_true] at he
          have h1 := memN_iff.1 hr
          unfold restOf at h1
          rw [List.mem_filter, Bool.not_eq_true', memN_not] at h1
          exact h1.2 (List.mem_flatMap.2 ⟨y, hy, memN_iff.1 he.2⟩)
      have hz : (accs.flatMap fun x => bif memN (restOf accs) x.i then ([] : List Res) else bif memN [] x.i then sOfB accs Ss (fun i => Nat.ble 1000 i || arr.getD i false) x else []) = [] := by
        rw [List.flatMap_eq_nil_iff]
        intro x hx
        cases memN (restOf accs) x.i <;> rfl
      obtain ⟨e', H', T', Bo', se, sw', hx, hp⟩ := withD3_go (accs := accs) (vals := vals) (Gs := Gs) (Ss := Ss) (listed := fun i => Nat.ble 1000 i || arr.getD i false) (sOf := sOfB accs Ss fun i => Nat.ble 1000 i || arr.getD i false) (Rest := S) hmid.clos hmid.slot hmid.rel (fun x hx hlx hc => by
          rcases hc with hc | hc
          · rw [sOfB, hfree x hx hc, hlx]; rfl
          · simp [memN] at hc) hhds accs _ _ _ _ _ _ (fun _ hx => hx) (fun i hi => by cases hi) (fun i _ hi => by
          obtain ⟨x, hx, rfl⟩ := List.mem_map.1 hi
          exact hli x hx) hmid.st ((hmid.sat.perm List.perm_append_comm).sublist (by
          rw [hz]
          simp only [List.nil_append]
          refine List.Sublist.append (flatMap_sub fun x _ => ?_) (List.Sublist.refl _)
          cases memN (restOf accs) x.i
          · exact List.nil_sublist _
          · exact List.Sublist.refl _)) (fun x hx hlx g hg => List.mem_append.2 (.inr (List.mem_flatMap.2 ⟨x, hx, by rw [hlx]; exact hg⟩))) hm2
      rw [hz, List.append_nil] at hp
      rw [hp.eq_nil] at sw'
      exact hx.go a w se (by simpa using sw')
    intro fuel
    induction fuel with
    | zero =>
      intro arr vals Gs Ss a w hsz hc hmid
      have hr : Region.ready .any L.toArray arr = [] := by
        unfold Region.ready
        rw [List.filter_eq_nil_iff]
        intro i hi hx
        have hi' : i < L.length := by simpa using hi
        have : i ∈ (List.range L.length).filter fun i => !arr.getD i false := by
          rw [List.mem_filter]
          refine ⟨by simpa using hi', ?_⟩
          simp only [Bool.and_eq_true] at hx
          have h1 := hx.1
          have hi2 : i < arr.size := by omega
          simp [Array.getD, hi2] at h1 ⊢; exact h1
        have e := List.eq_nil_of_length_eq_zero (Nat.le_zero.1 hc)
        rw [e] at this
        cases this
      exact ⟨hr, done arr vals Gs Ss a w hsz hr hmid⟩
    | succ fuel ih =>
      intro arr vals Gs Ss a w hsz hc hmid
      refine ⟨fun hr => done arr vals Gs Ss a w hsz hr hmid, fun i hi => ?_⟩
      unfold Region.ready at hi
      rw [List.mem_filter] at hi
      obtain ⟨hi1, hi2⟩ := hi
      have hil : i < L.length := by simpa using hi1
      have ho : L[i]? = some L[i] := by simp [hil]
      have hoa : L.toArray[i]? = some L[i] := by simp [hil]
      rw [hoa] at hi2
      simp only [Bool.and_eq_true, Option.map_some, Option.getD_some, Array.all_eq_true_iff_forall_mem] at hi2
      have hnot : arr.getD i false = false := by
        have hi3 : i < arr.size := by omega
        have := hi2.1
        simp [Array.getD, hi3] at this ⊢; exact this
      have hdeps0 : ∀ j ∈ depsOf L[i], arr.getD j false = true := by
        intro j hj
        obtain ⟨e, he, rfl⟩ := List.mem_map.1 hj
        rw [List.mem_filter] at he
        have := hi2.2 e (Array.mem_toList_iff.1 he.1)
        rw [he.2] at this
        simpa using this
      obtain ⟨pre, x, acc', hacc, hxi, hxd, hxds, hob, hokx⟩ := hall' i L[i] ho
      obtain ⟨li, hli⟩ : ∃ li : Nat → Bool, li = fun i => Nat.ble 1000 i || arr.getD i false := ⟨_, rfl⟩
      rw [← hli] at hmid
      have hble : Nat.ble 1000 i = false := by
        cases hb : Nat.ble 1000 i with
        | false => rfl
        | true => rw [Nat.ble_eq] at hb; omega
      have hnotx : li x.i = false := by rw [hxi, hli]; simp only [hnot, hble, Bool.or_false]
      have hxr : Nat.blt x.i 1000 = true := by rw [hxi, Nat.blt_eq]; omega
      have hmemx : x ∈ accs := by rw [hacc]; simp
      have hsub : ∀ z ∈ acc', z ∈ accs := fun z hz => by rw [hacc]; simp [hz]
      have hokx' := hokx
      unfold okOp at hokx'
      simp only [Bool.and_eq_true, List.all_eq_true] at hokx'
      obtain ⟨⟨ok1, ok2⟩, ok3⟩ := hokx'
      have hdeps : ∀ j ∈ depsOf L[i], li j = true := fun j hj => by rw [hli]; simp only [hdeps0 j hj, Bool.or_true]
      have hdsl : ∀ j ∈ x.ds, li j = true := by
        intro j hj
        rw [hxds] at hj
        simp only [List.append_assoc] at hj
        rcases List.mem_append.1 hj with hj | hj
        · exact hdeps j hj
        · have := (ok1 j hj).1
          simp only [Bool.or_eq_true] at this
          rcases this with h | h
          · rw [hli]; simp only [h, Bool.true_or]
          · exact reach3_listed hmid.clos acc' _ hsub hdeps h
      have hfree : ∀ j, memN x.c j = true ∨ memN x.b j = true → takenB accs li j = false := fun j hj => Mid3.free hmid.clos hcheck (fun z hz hb => (chunks_idx V 0 z (hvirt z hz hb)).2.2.1) hacc hxr hnotx hj
      obtain ⟨Gx, hGx⟩ : ∃ Gx, Gx = accs.flatMap fun z => bif li z.i then Gs z.i else [] := ⟨_, rfl⟩
      obtain ⟨so, hso⟩ : ∃ so, so = sOfB accs Ss li := ⟨_, rfl⟩
      obtain ⟨rest, hrest⟩ : ∃ rest : Ent → List Res, rest = fun z => bif memN x.c z.i then [] else bif memN x.b z.i then [] else so z := ⟨_, rfl⟩
      obtain ⟨cp, hcp⟩ : ∃ cp : Ent → List Res, cp = fun z => bif memN x.c z.i then so z else [] := ⟨_, rfl⟩
      obtain ⟨bp, hbp⟩ : ∃ bp : Ent → List Res, bp = fun z => bif memN x.c z.i then [] else bif memN x.b z.i then so z else [] := ⟨_, rfl⟩
      have hsat := hmid.sat
      rw [← hGx, ← hso] at hsat
      have hsplit : (accs.flatMap so).Perm (accs.flatMap cp ++ (accs.flatMap bp ++ accs.flatMap rest)) := by
        have e : so = fun z => cp z ++ (bp z ++ rest z) := by
          funext z
          rw [hcp, hbp, hrest]
          dsimp only
          cases memN x.c z.i <;> cases memN x.b z.i <;> simp
        exact ((by rw [← e] : accs.flatMap so = accs.flatMap fun z => cp z ++ (bp z ++ rest z)) ▸ (flatMap_perm2 accs).trans ((flatMap_perm2 accs).append_left _))
      have hsubl : List.Sublist acc' accs := by rw [hacc]; exact (List.sublist_cons_self _ _).trans (List.sublist_append_right _ _)
      have hsat2 : Sat B (G ++ Gx) ([] ++ acc'.flatMap (fun z => bif memN x.c z.i then so z else []) ++ ([] ++ acc'.flatMap (fun z => bif memN x.c z.i then [] else bif memN x.b z.i then so z else []) ++ (S ++ accs.flatMap rest))) w := by
        rw [← hcp, ← hbp]
        have h1 := hsat.perm (hsplit.append_left S)
        have h2 : (S ++ (accs.flatMap cp ++ (accs.flatMap bp ++ accs.flatMap rest))).Perm (accs.flatMap cp ++ (accs.flatMap bp ++ (S ++ accs.flatMap rest))) := by
          rw [← List.append_assoc, ← List.append_assoc, ← List.append_assoc (accs.flatMap cp), ← List.append_assoc]
          refine List.Perm.append_right _ ?_
          rw [List.append_assoc]
          exact List.perm_append_comm
        refine (h1.perm h2).sublist ?_
        simp only [List.nil_append, List.append_assoc]
        exact List.Sublist.append (flatMap_sub_list hsubl) (List.Sublist.append (flatMap_sub_list hsubl) (List.Sublist.refl _))
      have hwd := hob.go Gx (accs.flatMap rest)
      rw [← hxds] at hwd
      obtain ⟨e', H', T', Bo', se, sw', hwl, hBo⟩ := withD3_go (accs := accs) (vals := vals) (Gs := Gs) (Ss := Ss) (listed := li) (sOf := so) (Rest := S ++ accs.flatMap rest) hmid.clos hmid.slot hmid.rel (fun z hz hlz hc => by
          rw [hso, sOfB, hfree z.i hc, hlz]; rfl) hhds acc' _ _ _ _ _ _ hsub (fun j hj => by cases hj) (fun j hj _ => hdsl j hj) hmid.st hsat2 (fun z hz hlz g hg => List.mem_append.2 (.inr (by rw [hGx]; exact List.mem_flatMap.2 ⟨z, hz, by rw [hlz]; exact hg⟩))) hwd
      refine one_op3 ho (hwl.go a w se sw') fun v w' hpg => ?_
      obtain ⟨_, hsize, hdef, u, hu, G', S', hrel', hsat'⟩ := hpg
      have hset : ∀ j, (arr.setIfInBounds i true).getD j false = (decide (j = i) || arr.getD j false) := by
        intro j
        by_cases hj : j = i
        · subst hj; simp [Array.getD, hsz, hil]
        · rw [decide_eq_false hj, Bool.false_or, Array.getD_eq_getD_getElem?, Array.getD_eq_getD_getElem?, Array.getElem?_setIfInBounds_ne (fun e => hj e.symm)]
      have hli' : ∀ j, (Nat.ble 1000 j || (arr.setIfInBounds i true).getD j false) = (decide (j = i) || li j) := fun j => by
        rw [hset, hli]
        dsimp only
        cases decide (j = i) <;> cases Nat.ble 1000 j <;> cases arr.getD j false <;> rfl
      refine ih (arr.setIfInBounds i true) (fun j => if j = i then u else vals j) (fun j => if j = i then G' else Gs j) (fun j => if j = i then S' else Ss j) _ w' (by simp [hsz]) ?_ ?_
      · have hlen : ((List.range L.length).filter fun j => !(arr.setIfInBounds i true).getD j false).length < ((List.range L.length).filter fun j => !arr.getD j false).length := by
          have e : ((List.range L.length).filter fun j => !(arr.setIfInBounds i true).getD j false) = (((List.range L.length).filter fun j => !arr.getD j false).filter fun j => !decide (j = i)) := by
            rw [List.filter_filter]
            congr 1; funext j; rw [hset]; cases decide (j = i) <;> cases arr.getD j false <;> rfl
          rw [e]
          refine List.length_filter_lt_length_iff_exists.2 ⟨i, ?_, by simp⟩
          rw [List.mem_filter]
          exact ⟨by simpa using hil, by simp [hnot]⟩
        omega
      · rw [show (fun j => Nat.ble 1000 j || (arr.setIfInBounds i true).getD j false) = fun j => decide (j = i) || li j from funext hli']
        have hother : ∀ z ∈ accs, z.i ≠ i → (decide (z.i = i) || li z.i) = li z.i := fun z _ hz => by rw [decide_eq_false hz, Bool.false_or]
        refine ⟨⟨hsize, hdef, fun t y ht => ?_⟩, fun z hz hlz d hd => ?_, fun z hz hlz j hj => ?_, fun z hz hlz => ?_, ?_⟩
        · obtain ⟨_, hni⟩ := hwo _ _ ht
          have h1 := hmid.st.get t y ht
          cases hd : L[i].dst with
          | none => simpa [Act.put] using h1
          | some d =>
            have hne : d ≠ t := fun e => hni (by rw [← e]; exact List.mem_filterMap.2 ⟨L[i], by simp, hd⟩)
            simp [Act.put, Array.getElem?_setIfInBounds_ne hne, h1]
        · by_cases hj : z.i = i
          · have := ent_eq hN hz hmemx (hj.trans hxi.symm)
            subst this
            rw [if_pos hj]
            exact hu d hd
          · rw [if_neg hj]
            rw [hother z hz hj] at hlz
            have h3 := hmid.slot z hz hlz d hd
            cases hd2 : L[i].dst with
            | none => simpa [Act.put] using h3
            | some t =>
              have hne : t ≠ d := fun e => by
                subst e
                obtain ⟨j, o, h5, h6, h7⟩ := hdstA li hmid.clos accs [] rfl z hz hlz t hd
                rw [dst_inj hnd h5 ho h6 hd2, ← hxi, hnotx] at h7; cases h7
              simp [Act.put, Array.getElem?_setIfInBounds_ne hne, h3]
        · by_cases hzi : z.i = i
          · have := ent_eq hN hz hmemx (hzi.trans hxi.symm)
            subst this
            rw [hdsl j hj, Bool.or_true]
          · rw [hother z hz hzi] at hlz
            rw [hmid.clos z hz hlz j hj, Bool.or_true]
        · by_cases hzi : z.i = i
          · have := ent_eq hN hz hmemx (hzi.trans hxi.symm)
            subst this
            rw [if_pos hzi, if_pos hzi, if_pos hzi]; exact hrel'
          · rw [hother z hz hzi] at hlz
            rw [if_neg hzi, if_neg hzi, if_neg hzi]; exact hmid.rel z hz hlz
        · have hbs : accs.flatMap bp = acc'.flatMap bp := by
            have hz : ∀ z ∈ accs, z ∉ acc' → bp z = [] := fun z hz hn => by
              rw [hbp]
              dsimp only
              cases hc : memN x.c z.i with
              | true => rfl
              | false =>
                cases hb : memN x.b z.i with
                | false => rfl
                | true =>
                  exfalso
                  have := (ok2 z.i (memN_iff.1 hb))
                  simp only [memN_iff] at this
                  obtain ⟨y, hy, he⟩ := List.mem_map.1 this.1
                  have := ent_eq hN hz (hsub y hy) he.symm
                  subst this
                  exact hn hy
            have hdis : ∀ z ∈ pre ++ [x], bp z = [] := fun z hz' => hz z (by rw [hacc]; simp only [List.mem_append, List.mem_cons, List.not_mem_nil, or_false] at hz' ⊢; rcases hz' with h | h; exact .inl h; exact .inr (.inl h)) fun hza => by
              have h1 := hN
              rw [hacc, show pre ++ x :: acc' = (pre ++ [x]) ++ acc' from by simp, List.map_append, List.nodup_append] at h1
              exact h1.2.2 z.i (List.mem_map.2 ⟨z, hz', rfl⟩) z.i (List.mem_map.2 ⟨z, hza, rfl⟩) rfl
            have e : (pre ++ [x]).flatMap bp = [] := List.flatMap_eq_nil_iff.2 hdis
            rw [hacc, show pre ++ x :: acc' = (pre ++ [x]) ++ acc' from by simp, List.flatMap_append, e, List.nil_append]
          have hp1 : (S' ++ (Bo' ++ (S ++ accs.flatMap rest))).Perm (S ++ (S' ++ (accs.flatMap bp ++ accs.flatMap rest))) := by
            rw [hbs]
            rw [← hbp, List.nil_append] at hBo
            have h1 : (Bo' ++ (S ++ accs.flatMap rest)).Perm (S ++ (acc'.flatMap bp ++ accs.flatMap rest)) := by
              refine (hBo.append_right _).trans ?_
              rw [← List.append_assoc, ← List.append_assoc]
              exact List.perm_append_comm.append_right _
            refine (h1.append_left S').trans ?_
            rw [← List.append_assoc, ← List.append_assoc S]
            exact List.perm_append_comm.append_right _
          refine Sat.sub (G := G' ++ (G ++ Gx)) ?_ fun g hg => ?_
          · have hpt : ∀ z ∈ accs, (sOfB accs (fun j => if j = i then S' else Ss j) (fun j => decide (j = i) || li j) z).Sublist ((bif Nat.beq z.i i then S' else []) ++ (bp z ++ rest z)) := fun z hz => by
              by_cases hzi : z.i = i
              · have hbq : Nat.beq z.i i = true := by rw [hzi]; simp
                rw [hbq, cond_true]
                unfold sOfB
                dsimp only
                rw [if_pos hzi]
                cases (decide (z.i = i) || li z.i) && !takenB accs (fun j => decide (j = i) || li j) z.i with
                | false => exact List.nil_sublist _
                | true => exact List.sublist_append_left _ _
              · have hbq : Nat.beq z.i i = false := by
                  cases hq : Nat.beq z.i i with
                  | false => rfl
                  | true => exact absurd (Nat.eq_of_beq_eq_true hq) hzi
                rw [hbq, cond_false, List.nil_append]
                unfold sOfB
                dsimp only
                rw [if_neg hzi, hother z hz hzi]
                cases hlz : li z.i with
                | false => exact List.nil_sublist _
                | true =>
                  cases htk : takenB accs (fun j => decide (j = i) || li j) z.i with
                  | true => exact List.nil_sublist _
                  | false =>
                    have hxc : memN x.c z.i = false := by
                      cases hq : memN x.c z.i with
                      | false => rfl
                      | true =>
                        have : takenB accs (fun j => decide (j = i) || li j) z.i = true := List.any_eq_true.2 ⟨x, hmemx, by rw [hq, hxi]; simp⟩
                        rw [this] at htk; cases htk
                    have ht0 : takenB accs li z.i = false := by
                      cases hq : takenB accs li z.i with
                      | false => rfl
                      | true =>
                        obtain ⟨y, hy, he⟩ := List.any_eq_true.1 hq
                        simp only [Bool.and_eq_true] at he
                        have : takenB accs (fun j => decide (j = i) || li j) z.i = true := List.any_eq_true.2 ⟨y, hy, by dsimp only; rw [he.1, he.2]; simp⟩
                        rw [this] at htk; cases htk
                    have hsz : so z = Ss z.i := by rw [hso, sOfB, hlz, ht0]; rfl
                    rw [hbp, hrest]
                    dsimp only
                    rw [hxc, hsz]
                    cases memN x.b z.i <;> simp
            refine Sat.sublist (S := S ++ accs.flatMap fun z => (bif Nat.beq z.i i then S' else []) ++ (bp z ++ rest z)) ?_ (List.Sublist.append (List.Sublist.refl _) (flatMap_sub hpt))
            refine Sat.perm (S := S ++ ((accs.flatMap fun z => bif Nat.beq z.i i then S' else []) ++ (accs.flatMap bp ++ accs.flatMap rest))) ?_ (List.Perm.append_left _ ((flatMap_perm2 accs).trans ((flatMap_perm2 accs).append_left _)).symm)
            exact (hsat'.perm hp1).sublist (List.Sublist.append (List.Sublist.refl _) (List.Sublist.append (flatMap_one accs hN) (List.Sublist.refl _)))
          · rcases List.mem_append.1 hg with hg | hg
            · exact List.mem_append.2 (.inr (List.mem_append.2 (.inl hg)))
            · obtain ⟨z, hz, hgz⟩ := List.mem_flatMap.1 hg
              by_cases hzi : z.i = i
              · rw [decide_eq_true hzi, if_pos hzi] at hgz
                exact List.mem_append.2 (.inl hgz)
              · rw [hother z hz hzi, if_neg hzi] at hgz
                exact List.mem_append.2 (.inr (List.mem_append.2 (.inr (by rw [hGx]; exact List.mem_flatMap.2 ⟨z, hz, hgz⟩))))
  refine fun a w sa sw => ?_
  have h0 : ∀ i, (Nat.ble 1000 i || (Array.replicate L.length false).getD i false) = Nat.ble 1000 i := fun i => by
    have : (Array.replicate L.length false).getD i false = false := by simp [Array.getD]
    rw [this, Bool.or_false]
  have hv : ∀ x ∈ accs, Nat.ble 1000 x.i = true → x ∈ chunks 0 V := fun x hx hb => hvirt x hx (by
    cases hq : Nat.blt x.i 1000 with
    | false => rfl
    | true => rw [Nat.blt_eq] at hq; rw [Nat.ble_eq] at hb; omega)
  have := key L.length (Array.replicate L.length false) (fun _ => undef) (fun _ => []) (chunkS V) a w.drew (by simp) (by
    refine Nat.le_trans (List.length_filter_le _ _) (by simp)) (by
    rw [show (fun i => Nat.ble 1000 i || (Array.replicate L.length false).getD i false) = fun i => Nat.ble 1000 i from funext h0]
    refine ⟨⟨sa.size, sa.defers, fun i v hi => sa.get i v (hwo _ _ hi).1⟩, fun x hx hlx d hd => ?_, fun x hx hlx j hj => ?_, fun x hx hlx => ?_, ?_⟩
    · rw [(chunks_idx V 0 x (hv x hx hlx)).2.2.2.2.1] at hd; cases hd
    · rw [(chunks_idx V 0 x (hv x hx hlx)).2.1] at hj; cases hj
    · exact chunks_rel V 0 V (fun j => rfl) x (hv x hx hlx)
    · have e : (accs.flatMap fun x => bif Nat.ble 1000 x.i then ([] : List Pers) else []) = [] := by
        rw [List.flatMap_eq_nil_iff]; intro x _; cases Nat.ble 1000 x.i <;> rfl
      rw [e, List.append_nil]
      refine ((hst w sw).drew).sublist (List.Sublist.append (List.Sublist.refl _) ?_)
      rw [← chunks_flat V 0 V (fun j => rfl), hA, List.flatMap_append]
      have e2 : new.flatMap (sOfB (new ++ chunks 0 V) (chunkS V) fun i => Nat.ble 1000 i) = [] := by
        rw [List.flatMap_eq_nil_iff]
        intro x hx
        have := hnew x hx
        have hb : Nat.ble 1000 x.i = false := by
          cases hq : Nat.ble 1000 x.i with
          | false => rfl
          | true => rw [Nat.ble_eq] at hq; omega
        unfold sOfB; dsimp only; rw [hb]; rfl
      rw [e2, List.nil_append]
      refine flatMap_sub fun x hx => ?_
      unfold sOfB
      cases Nat.ble 1000 x.i && !takenB (new ++ chunks 0 V) (fun i => Nat.ble 1000 i) x.i with
      | false => exact List.nil_sublist _
      | true => exact List.Sublist.refl _)
  simpa using this

theorem WC.par {id : Nat} {G₀ : List Pers} {S₀ : List Res} (V : List (List Res)) (hm : P.follows .mixedOrders = true) (hok : (depsOK 0 L && distinct (dstsOf L) && Nat.ble L.length 1000) = true) {env₀ : Env} (hwo : ∀ i v, env₀.get i = some v → env.get i = some v ∧ i ∉ dstsOf L)
    (hst : ∀ w, Sat B G₀ S₀ w → Sat B G (S ++ V.flatten) w) (h : ObP3 P n L B env₀ G S (Fin3 n Q B env₀ G S) 0 L (chunks 0 V)) : WC P n (.region id L.toArray true) Q B env G₀ S₀ :=
  ⟨fun a w sa sw => wp_region_any hm (parAny V hok hwo hst h a w sa sw)⟩

theorem withD3_none {k k' : Env → List Pers → List Res → List Res → Prop} (hk : ∀ e G, k e G [] [] → k' e G [] []) : ∀ (acc : Acc3) (hd deps : List Nat) (e : Env) (G : List Pers), withD3 [] [] hd deps acc e G [] [] k → withD3 [] [] hd deps acc e G [] [] k'
  | [], _, _, e, G, h => hk _ _ h
  | ⟨i, d, p, ds, xb, xc, xh⟩ :: r, hd, deps, e, G, h => by
    simp only [withD3] at h ⊢
    cases hbh : hd.any (Nat.beq i) with
    | true => rw [hbh] at h; exact withD3_none hk r _ _ _ _ h
    | false =>
    rw [hbh] at h
    simp only [cond_false] at h ⊢
    cases hb : deps.any (Nat.beq i) with
    | false => rw [hb] at h; exact withD3_none hk r _ _ _ _ h
    | true =>
      rw [hb] at h
      simp only [cond_true] at h ⊢
      cases p with
      | is x => cases d <;> exact withD3_none hk r _ _ _ _ h
      | kn f =>
        cases d with
        | none => exact withD3_none hk r _ _ _ _ h
        | some d => exact fun v => withD3_none hk r _ _ _ _ (h v)
      | ex Ξ fv fg fs => cases d <;> exact fun ξ => withD3_none hk r _ _ _ _ (h ξ)
theorem okOp_none (deps : List Nat) (acc : Acc3) : okOp deps [] [] acc = true := by
  simp [okOp, memN]
variable {env' : Env}
theorem ObP3.nil {fin : Acc3 → Prop} {i : Nat} {acc : Acc3} (h : fin acc) : ObP3 P n L B env G S fin i [] acc := h
theorem ObP3.cons0 {fin : Acc3 → Prop} {i : Nat} {o : Oper} {r : List Oper} {acc : Acc3} (p : Post3)
    (h : ∀ Gx Sx, withD3 [] [] [] (depsOf o) acc env (G ++ Gx) [] [] fun e' G' _ _ => WL P n L (PG n B (G ++ Gx) (S ++ Sx) o.dst p) [o] B e' G' (S ++ Sx))
    (h2 : ObP3 P n L B env G S fin (i + 1) r (⟨i, o.dst, p, depsOf o, [], [], []⟩ :: acc)) : ObP3 P n L B env G S fin i (o :: r) acc :=
  ⟨o.dst, p, [], [], [], ⟨fun Gx Sx => withD3_none (k := fun e' G' _ _ => WL P n L (PG n B (G ++ Gx) (S ++ Sx) o.dst p) [o] B e' G' (S ++ Sx)) (fun e G h => h) _ _ _ _ _ (by rw [List.append_nil, List.append_nil]; exact h Gx Sx)⟩, okOp_none _ _, .inl ⟨rfl, rfl⟩, by rw [List.append_nil, List.append_nil]; exact h2⟩
theorem ObP3.c0A {fin : Acc3 → Prop} {i : Nat} {o : Oper} {r : List Oper} {acc : Acc3} {p : Post3}
    (h2 : ObP3 P n L B env G S fin (i + 1) r (⟨i, o.dst, p, depsOf o, [], [], []⟩ :: acc))
    (h : ∀ Gx Sx, withD3 [] [] [] (depsOf o) acc env (G ++ Gx) [] [] fun e' G' _ _ => WL P n L (PG n B (G ++ Gx) (S ++ Sx) o.dst p) [o] B e' G' (S ++ Sx) := by ((repeat (intro _)); (conv => whnf); (repeat (first | refine vgo ?_ | refine ⟨_, rfl, rfl, ?_⟩ | refine ⟨_, rfl, ?_⟩ | refine ⟨rfl, ?_⟩ | intro hb | refine go2 ?_ | refine WC.seq (fun K hK => ?_) | ((first | refine hK _ _ _ ?_ | refine hK _ _ _ _ rfl ?_ | refine WX.thenExit (K := K) ?_); clear hK K) | (refine WX.thenExit (K := KL) ?_; clear hL KL))); first | exact WX.pgIs rfl | exact WX.pgRd rfl | exact WX.pgCell rfl | exact WX.pgNone | exact WX.pgOwn rfl)) : ObP3 P n L B env G S fin i (o :: r) acc := .cons0 p h h2
theorem ObP3.c0B {fin : Acc3 → Prop} {i : Nat} {o : Oper} {r : List Oper} {acc : Acc3} {p : Post3}
    (h2 : ObP3 P n L B env G S fin (i + 1) r (⟨i, o.dst, p, depsOf o, [], [], []⟩ :: acc))
    (h : ∀ Gx Sx, withD3 [] [] [] (depsOf o) acc env (G ++ Gx) [] [] fun e' G' _ _ => WL P n L (PG n B (G ++ Gx) (S ++ Sx) o.dst p) [o] B e' G' (S ++ Sx) := by ((repeat (intro _)); (conv => whnf); (try dsimp only [envO, List.cons_append, List.nil_append]); (repeat (first | refine vgo ?_ | refine ⟨_, rfl, rfl, ?_⟩ | refine ⟨_, rfl, ?_⟩ | refine ⟨rfl, ?_⟩ | intro hb | refine go2 ?_ | refine WC.seq (fun K hK => ?_) | ((first | refine hK _ _ _ ?_ | refine hK _ _ _ _ rfl ?_ | refine WX.thenExit (K := K) ?_); clear hK K) | (refine WX.thenExit (K := KL) ?_; clear hL KL))); first | exact WX.pgIs rfl | exact WX.pgRd rfl | exact WX.pgCell rfl | exact WX.pgNone | exact WX.pgOwn rfl)) : ObP3 P n L B env G S fin i (o :: r) acc := .cons0 p h h2
theorem ObP3.cons1 {fin : Acc3 → Prop} {i : Nat} {o : Oper} {r : List Oper} {acc : Acc3} (bs cs : List Nat) (p : Post3)
    (h : ∀ Gx Sx, withD3 bs cs [] (depsOf o ++ bs ++ cs) acc env (G ++ Gx) [] [] fun e' G' T Bo => WL P n L (PG n B (G ++ Gx) (Bo ++ (S ++ Sx)) o.dst p) [o] B e' G' (T ++ (Bo ++ (S ++ Sx))))
    (hok : okOp (depsOf o) bs cs acc = true) (h2 : ObP3 P n L B env G S fin (i + 1) r (⟨i, o.dst, p, depsOf o ++ bs ++ cs, bs, cs, []⟩ :: acc)) : ObP3 P n L B env G S fin i (o :: r) acc :=
  ⟨o.dst, p, bs, cs, [], ⟨h⟩, hok, .inl ⟨rfl, rfl⟩, h2⟩
/-- An operation without a slot of its own tells anew of a slot that one ahead of it has set. -/
theorem ObP3.cons2 {fin : Acc3 → Prop} {i : Nat} {o : Oper} {r : List Oper} {acc : Acc3} (bs cs : List Nat) (hs : List Nat) (s : Nat) (p : Post3)
    (h : ∀ Gx Sx, withD3 bs cs [] (depsOf o ++ bs ++ cs) acc env (G ++ Gx) [] [] fun e' G' T Bo => WL P n L (PG n B (G ++ Gx) (Bo ++ (S ++ Sx)) (some s) p) [o] B e' G' (T ++ (Bo ++ (S ++ Sx))))
    (hok : (okOp (depsOf o) bs cs acc && (hs.all (memN (depsOf o ++ bs ++ cs)) && tells s (depsOf o ++ bs ++ cs) acc)) = true) (h2 : ObP3 P n L B env G S fin (i + 1) r (⟨i, some s, p, depsOf o ++ bs ++ cs, bs, cs, hs⟩ :: acc)) : ObP3 P n L B env G S fin i (o :: r) acc := by
  simp only [Bool.and_eq_true] at hok
  exact ⟨some s, p, bs, cs, hs, ⟨h⟩, hok.1, .inr hok.2, h2⟩
/-- Nothing of what is owned changes hands at the beginning. -/
theorem WC.drawE {id : Nat} [hm : Mixed P] (hok : (depsOK 0 L && distinct (dstsOf L) && Nat.ble L.length 1000) = true) (hw : Wo (dstsOf L) env env') (h : ObP3 P n L B env' G S (Fin3 n Q B env' G S) 0 L []) : WC P n (.region id L.toArray true) Q B env G S :=
  .par [] hm.h hok hw (fun w sw => by simpa using sw) h
theorem WC.drawV {id : Nat} {S₀ : List Res} [hm : Mixed P] (V : List (List Res)) (hok : (depsOK 0 L && distinct (dstsOf L) && Nat.ble L.length 1000) = true) (hw : Wo (dstsOf L) env env') (hst : ∀ w, Sat B G S₀ w → Sat B G (V.flatten ++ S) w) (h : ObP3 P n L B env' G S (Fin3 n Q B env' G S) 0 L (chunks 0 V)) : WC P n (.region id L.toArray true) Q B env G S₀ :=
  .par V hm.h hok hw (fun w sw => (hst w sw).perm List.perm_append_comm) h
/-! What an operation leaves, said at its end -/
variable {d : Nat} {v : Value} {α : Type} {R : Ty α} {a : α} {G₀ : List Pers} {S₀ S' : List Res} {dd : Option Nat}
theorem WX.pgIs (hv : env.get d = some v) [hs : SS S₀ S] [hg : GS G₀ G] : WX n (PG n B G₀ S₀ (some d) (.is v)) .normal B env G S :=
  ⟨fun _ _ sa sw => ⟨rfl, sa.size, sa.defers, v, fun t ht => by cases ht; exact sa.get _ _ hv, [], [], ⟨rfl, rfl, rfl⟩, sw.to⟩⟩
theorem WX.pgRd (hv : env.get d = some v) [hr : Rd v G R a] [hs : SS S₀ S] [hg : GS G₀ G] : WX n (PG n B G₀ S₀ (some d) (.kn (Qd.rd R a))) .normal B env G S :=
  ⟨fun _ _ sa sw => ⟨rfl, sa.size, sa.defers, v, fun t ht => by cases ht; exact sa.get _ _ hv, [Qd.rd R a v], [], ⟨rfl, rfl⟩, (sw.sub (fun g hg' => by
    cases hg' with
    | head => exact hr.h
    | tail _ hg' => exact hg.h g hg')).ssub hs.h⟩⟩
theorem WX.pgCell (hv : env.get d = some v) [hr : PC v G R a] [hs : SS S₀ S] [hg : GS G₀ G] : WX n (PG n B G₀ S₀ (some d) (.kn (pcell R a))) .normal B env G S :=
  ⟨fun _ _ sa sw => ⟨rfl, sa.size, sa.defers, v, fun t ht => by cases ht; exact sa.get _ _ hv, [pcell R a v], [], ⟨rfl, rfl⟩, (sw.sub (fun g hg' => by
    cases hg' with
    | head => exact hr.h
    | tail _ hg' => exact hg.h g hg')).ssub hs.h⟩⟩
theorem WX.pgNone [hs : SS S₀ S] [hg : GS G₀ G] : WX n (PG n B G₀ S₀ none (.is undef)) .normal B env G S :=
  ⟨fun _ _ sa sw => ⟨rfl, sa.size, sa.defers, undef, (fun t ht => by cases ht), [], [], ⟨rfl, rfl, rfl⟩, sw.to⟩⟩
def Post3.own (E sz m : Nat) (xs : List Value) : Post3 := .ex Value (fun v => v) (fun _ => []) (fun v => [Qd.own E sz v m xs])
theorem WX.pgOwn {E sz m : Nat} {xs : List Value} (hv : env.get d = some v) [ho : SelOwn v S E sz m xs S'] [hs : SS S₀ S'] [hg : GS G₀ G] : WX n (PG n B G₀ S₀ (some d) (.ex Value (fun v => v) (fun _ => []) (fun v => [Qd.own E sz v m xs]))) .normal B env G S :=
  ⟨fun _ _ sa sw => ⟨rfl, sa.size, sa.defers, v, fun t ht => by cases ht; exact sa.get _ _ hv, [], [Qd.own E sz v m xs], ⟨v, rfl, rfl, rfl⟩, ((sw.perm ho.h.perm).ssub (.cons .here hs.h)).sub hg.h⟩⟩
theorem WX.pgEx {Ξ : Type} {fv : Ξ → Value} {fg : Ξ → List Pers} {fs : Ξ → List Res} (ξ : Ξ) (hv : env.get d = some (fv ξ)) (h : ∀ w, Sat B G S w → Sat B (fg ξ ++ G₀) (fs ξ ++ S₀) w) : WX n (PG n B G₀ S₀ (some d) (.ex Ξ fv fg fs)) .normal B env G S :=
  ⟨fun _ w sa sw => ⟨rfl, sa.size, sa.defers, fv ξ, fun t ht => by cases ht; exact sa.get _ _ hv, _, _, ⟨ξ, rfl, rfl, rfl⟩, h w sw⟩⟩
theorem WX.pgEx0 {Ξ : Type} {fv : Ξ → Value} {fg : Ξ → List Pers} {fs : Ξ → List Res} (ξ : Ξ) (h : ∀ w, Sat B G S w → Sat B (fg ξ ++ G₀) (fs ξ ++ S₀) w) : WX n (PG n B G₀ S₀ none (.ex Ξ fv fg fs)) .normal B env G S :=
  ⟨fun _ w sa sw => ⟨rfl, sa.size, sa.defers, fv ξ, (fun t ht => by cases ht), _, _, ⟨ξ, rfl, rfl, rfl⟩, h w sw⟩⟩
/-- The piece that was changed last is handed on. -/
theorem WX.pgHead {r : Res} [hs : SS S₀ S] [hg : GS G₀ G] : WX n (PG n B G₀ S₀ none (.ex Unit (fun _ => undef) (fun _ => []) (fun _ => [r]))) .normal B env G (r :: S) :=
  .pgEx0 () fun _ sw => (sw.ssub (.cons .here hs.h)).sub hg.h
theorem WX.pgHeadV {r : Res} (hv : env.get d = some v) [hs : SS S₀ S] [hg : GS G₀ G] : WX n (PG n B G₀ S₀ (some d) (.ex Unit (fun _ => v) (fun _ => []) (fun _ => [r]))) .normal B env G (r :: S) :=
  .pgEx () hv fun _ sw => (sw.ssub (.cons .here hs.h)).sub hg.h
end
end Go.Qd
