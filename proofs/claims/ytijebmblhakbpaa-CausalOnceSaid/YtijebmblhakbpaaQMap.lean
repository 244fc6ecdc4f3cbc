/-
  Maps that a call owns.
-/
import Derived.Test.YtijebmblhakbpaaQRange
import Derived.Maps.RangeRun
namespace Go.Qd
open Go
section
variable {α β : Type} [DecidableEq α]
def getM : List (α × β) → α → Option β
  | [], _ => none
  | p :: M, a => if p.1 = a then some p.2 else getM M a
def putM : List (α × β) → α → β → List (α × β)
  | [], a, b => [(a, b)]
  | p :: M, a, b => if p.1 = a then (a, b) :: M else p :: putM M a b
def delM : List (α × β) → α → List (α × β)
  | [], _ => []
  | p :: M, a => if p.1 = a then M else p :: delM M a
end
/-- What a map's keys are. -/
class MapKey {α : Type} (P : Program) (k : TypeId) (f : α → Value) : Prop where
  check : ∀ (em : Bool) (a : α) (w : World), (Instr.checkKey em 10000 k (f a)).run P w = .ok () w
  find : ∀ (a : α) (w : World) (es : List MapEntry), (∀ e ∈ es, ∃ b, e.key = f b) →
    ((Instr.findKey k (f a) es).run P w = .ok none w ∧ ∀ e ∈ es, e.key ≠ f a) ∨ ∃ j e, (Instr.findKey k (f a) es).run P w = .ok (some (j, e.val)) w ∧ es[j]? = some e ∧ e.key = f a ∧ ∀ j' e', j' < j → es[j']? = some e' → e'.key ≠ f a
  stays : ∀ (a : α) (w : World), (Instr.keyThatStays (f a) (f a)).run P w = .ok (f a) w
  inj : ∀ a b, f a = f b → a = b
section
variable {P : Program} {α β : Type} {f : α → Value} {g : β → Value}
abbrev encE (e : MapEntry) : Value × Value := (e.key, e.val)
abbrev encP (f : α → Value) (g : β → Value) (p : α × β) : Value × Value := (f p.1, g p.2)
/-- A map in a block: what it holds, in the order in which it came. -/
structure MapIs (f : α → Value) (g : β → Value) (M : List (α × β)) (es : Array MapEntry) (clock : Nat) : Prop where
  enc : es.toList.map encE = M.map (encP f g)
  born : (es.toList.map (·.born)).Nodup
  old : ∀ e ∈ es.toList, e.born < clock
def mapR (f : α → Value) (g : β → Value) (r : Nat) (M : List (α × β)) : Res := fun h => ∃ es clock, MapIs f g M es clock ∧ blk r (.map es clock) h
theorem Sat.mapOpen {B : World} {G : List Pers} {S : List Res} {w : World} {r : Nat} {M : List (α × β)} (h : Sat B G (mapR f g r M :: S) w) : ∃ es clock, MapIs f g M es clock ∧ Sat B G (blk r (.map es clock) :: S) w := by
  obtain ⟨es, h⟩ := h.exRes
  obtain ⟨clock, h⟩ := h.exRes
  have h1 := h.pureRes fun _ hk => hk.1
  exact ⟨es, clock, h1, h.conv fun _ hk => hk.2⟩
theorem Sat.mapShut {B : World} {G : List Pers} {S : List Res} {w : World} {r : Nat} {M : List (α × β)} {es : Array MapEntry} {clock : Nat} (h : Sat B G (blk r (.map es clock) :: S) w) (hm : MapIs f g M es clock) : Sat B G (mapR f g r M :: S) w :=
  h.conv fun _ hk => ⟨es, clock, hm, hk⟩
theorem MapIs.keys {M : List (α × β)} {es : Array MapEntry} {clock : Nat} (h : MapIs f g M es clock) : ∀ e ∈ es.toList, ∃ b, e.key = f b := fun e he => by
  have h1 : encE e ∈ M.map (encP f g) := h.enc ▸ List.mem_map_of_mem he
  obtain ⟨p, _, hp⟩ := List.mem_map.1 h1
  exact ⟨p.1, (congrArg Prod.fst hp).symm⟩
theorem getM_none [DecidableEq α] (inj : ∀ a b, f a = f b → a = b) {a : α} : ∀ {M : List (α × β)} {es : List MapEntry}, es.map encE = M.map (encP f g) → (∀ e ∈ es, e.key ≠ f a) → getM M a = none
  | [], [], _, _ => rfl
  | p :: M, e :: es, h, hn => by
    simp only [List.map_cons, List.cons.injEq, Prod.mk.injEq] at h
    rw [getM, if_neg (fun e1 => hn e (.head _) (by rw [h.1.1, e1])), getM_none inj h.2 fun e he => hn e (.tail _ he)]
  | [], _ :: _, h, _ => by simp at h
  | _ :: _, [], h, _ => by simp at h
theorem getM_some [DecidableEq α] (inj : ∀ a b, f a = f b → a = b) {a : α} : ∀ {M : List (α × β)} {es : List MapEntry} {j : Nat} {e : MapEntry}, es.map encE = M.map (encP f g) → es[j]? = some e → e.key = f a → (∀ j' e', j' < j → es[j']? = some e' → e'.key ≠ f a) → ∃ b, getM M a = some b ∧ e.val = g b
  | p :: M, e0 :: es, 0, e, h, h1, h2, _ => by
    simp only [List.map_cons, List.cons.injEq, Prod.mk.injEq] at h
    cases h1
    exact ⟨p.2, by rw [getM, if_pos (inj _ _ (h.1.1.symm.trans h2))], h.1.2⟩
  | p :: M, e0 :: es, j + 1, e, h, h1, h2, hn => by
    simp only [List.map_cons, List.cons.injEq, Prod.mk.injEq] at h
    obtain ⟨b, hb, he⟩ := getM_some inj h.2 (by simpa using h1) h2 (fun j' e' hj h' => hn (j' + 1) e' (by omega) (by simpa using h'))
    exact ⟨b, by rw [getM, if_neg (fun e1 => hn 0 e0 (by omega) rfl (by rw [h.1.1, e1])), hb], he⟩
  | [], [], _, _, _, h1, _, _ => by simp at h1
  | [], _ :: _, _, _, h, _, _, _ => by simp at h
  | _ :: _, [], _, _, h, _, _, _ => by simp at h
theorem putM_new [DecidableEq α] (inj : ∀ a b, f a = f b → a = b) {a : α} {b : β} : ∀ {M : List (α × β)} {es : List MapEntry}, es.map encE = M.map (encP f g) → (∀ e ∈ es, e.key ≠ f a) → putM M a b = M ++ [(a, b)]
  | [], [], _, _ => rfl
  | p :: M, e :: es, h, hn => by
    simp only [List.map_cons, List.cons.injEq, Prod.mk.injEq] at h
    rw [putM, if_neg (fun e1 => hn e (.head _) (by rw [h.1.1, e1])), putM_new inj h.2 fun e he => hn e (.tail _ he)]; rfl
  | [], _ :: _, h, _ => by simp at h
  | _ :: _, [], h, _ => by simp at h
theorem putM_old [DecidableEq α] (inj : ∀ a b, f a = f b → a = b) {a : α} {b : β} : ∀ {M : List (α × β)} {es : List MapEntry} {j : Nat} {e : MapEntry}, es.map encE = M.map (encP f g) → es[j]? = some e → e.key = f a → (∀ j' e', j' < j → es[j']? = some e' → e'.key ≠ f a) →
    (es.modify j fun e => { e with key := f a, val := g b }).map encE = (putM M a b).map (encP f g)
  | p :: M, e0 :: es, 0, e, h, h1, h2, _ => by
    simp only [List.map_cons, List.cons.injEq, Prod.mk.injEq] at h
    cases h1
    rw [putM, if_pos (inj _ _ (h.1.1.symm.trans h2))]
    simp [h.2]
  | p :: M, e0 :: es, j + 1, e, h, h1, h2, hn => by
    simp only [List.map_cons, List.cons.injEq, Prod.mk.injEq] at h
    have ih := putM_old inj (b := b) h.2 (by simpa using h1) h2 (fun j' e' hj h' => hn (j' + 1) e' (by omega) (by simpa using h'))
    rw [putM, if_neg (fun e1 => hn 0 e0 (by omega) rfl (by rw [h.1.1, e1]))]
    simp only [List.modify_succ_cons, List.map_cons, ih]
    exact congrArg (· :: _) (Prod.ext h.1.1 h.1.2)
  | [], [], _, _, _, h1, _, _ => by simp at h1
  | [], _ :: _, _, _, h, _, _, _ => by simp at h
  | _ :: _, [], _, _, h, _, _, _ => by simp at h
theorem MapIs.nil : MapIs f g [] #[] 0 := ⟨rfl, by simp, by simp⟩
theorem MapIs.len {M : List (α × β)} {es : Array MapEntry} {clock : Nat} (h : MapIs f g M es clock) : es.size = M.length := by
  have := congrArg List.length h.enc
  simpa using this
end
section
variable {P : Program} {n : Nat} {Q : Exit → Act → World → Prop} {B : Base} {env : Env} {G : List Pers} {S S' : List Res} {L rest : List Oper}
variable {d : Nat} {ty : TypeId} {pos : String} {af : Array Edge} {x y z : Operand} {T K E : TypeId} {α β : Type} {f : α → Value} {g : β → Value} {r : Nat} {M : List (α × β)}
class SelMap (r : Nat) (S : List Res) {α β : outParam Type} (f : outParam (α → Value)) (g : outParam (β → Value)) (M : outParam (List (α × β))) (S' : outParam (List Res)) : Prop where
  h : Sel S (mapR f g r M) S'
instance SelMap.there {s : Res} [i : SelMap r S f g M S'] : SelMap r (s :: S) f g M (s :: S') := ⟨.there i.h⟩
instance SelMap.here : SelMap r (mapR f g r M :: S) f g M S := ⟨.here⟩
/-- A map is made. -/
theorem WL.makeMap (f : α → Value) (g : β → Value) (hd : Nat.blt d n = true) (h : ∀ r, WL P n L Q rest B ((d, .map (some r)) :: env) G (mapR f g r [] :: S)) : WL P n L Q (⟨some d, .makeMap T none, ty, pos, af, none⟩ :: rest) B env G S := by
  refine .valW (I := Nat) (v := fun r => .map (some r)) (G' := fun _ => G) (S' := fun r => mapR f g r [] :: S) rfl rfl hd (fun a w sa sw => ⟨w.heap.size, w.alloc (.map #[] 0), ?_, (sw.alloc _).mapShut MapIs.nil⟩) h
  simp [execOp, Instr.makeMap, newObj, Sem.run, Result.andThen]
/-- A value that is a key, an element that is of the map's kind. -/
class KeyOf (v : Value) (f : α → Value) (a : outParam α) : Prop where
  h : v = f a
class GetM [DecidableEq α] (M : List (α × β)) (a : α) (o : outParam (Option β)) : Prop where
  h : getM M a = o
class ZV (P : Program) (E : TypeId) (z : outParam Value) : Prop where
  h : (P.info? E).bind (·.zero) = some z
theorem run_zero {w : World} {z : Value} (h : (P.info? E).bind (·.zero) = some z) : (zeroValue E).run P w = .ok z w := by
  cases hi : P.info? E with
  | none => rw [hi] at h; cases h
  | some i =>
    rw [hi] at h
    have h : i.zero = some z := h
    simp [zeroValue, typeInfo, hi, h]
theorem run_getMap {w : World} {es : Array MapEntry} {clock : Nat} (h : w.heap[r]? = some (.map es clock)) : (getObj r).run P w = .ok (.map es clock) w := by
  simp [getObj, Sem.run, h]
theorem run_lookup [DecidableEq α] [hk : MapKey P K f] [hT : TU P T (.map K E)] {w : World} {es : Array MapEntry} {clock : Nat} {z : Value} (hz : (P.info? E).bind (·.zero) = some z) (hb : w.heap[r]? = some (.map es clock)) (hm : MapIs f g M es clock) (a : α) :
    (Instr.lookup T (.map (some r)) (f a) true).run P w = .ok (match getM M a with | some b => .tuple #[g b, .bool true] | none => .tuple #[z, .bool false]) w := by
  rcases hk.find a w es.toList hm.keys with ⟨h1, h2⟩ | ⟨j, e, h1, h2, h3, h4⟩
  · rw [getM_none hk.inj hm.enc h2]
    simp [Instr.lookup, run_underlying hT.h, run_getMap hb, hk.check _ a w, h1, run_zero hz, Result.andThen]
  · obtain ⟨b, hb2, he⟩ := getM_some hk.inj hm.enc h2 h3 h4
    rw [hb2]
    simp [Instr.lookup, run_underlying hT.h, run_getMap hb, hk.check _ a w, h1, he, Result.andThen]
theorem WL.lookup [DecidableEq α] [hk : MapKey P K f] [hT : TU P T (.map K E)] {z : Value} [hz : ZV P E z] (hx : env.ev x = some (.map (some r))) {v : Value} (hy : env.ev y = some v) [hm : SelMap r S f g M S'] {a : α} (hv : v = f a) (hd : Nat.blt d n = true)
    (h : WL P n L Q rest B ((d, (match getM M a with | some b => .tuple #[g b, .bool true] | none => .tuple #[z, .bool false])) :: env) G S) : WL P n L Q (⟨some d, .lookup T x y true, ty, pos, af, none⟩ :: rest) B env G S := by
  subst hv
  refine .val rfl rfl hd (fun ac w sa sw => ?_) h
  obtain ⟨es, clock, hi, hs⟩ := (sw.perm hm.h.perm).mapOpen
  have e := run_lookup (P := P) (T := T) (K := K) (E := E) hz.h hs.at hi a
  simp [execOp, sa.ev hx, sa.ev hy, e, Result.andThen]
/-- A map is set. -/
theorem Sat.mapSet [DecidableEq α] [hk : MapKey P K f] [hT : TU P T (.map K E)] {w : World} (hs : Sat B.w G S w) [hm : SelMap r S f g M S'] (a : α) (b : β) : ∃ w', (Instr.mapUpdate T (.map (some r)) (f a) (g b)).run P w = .ok () w' ∧ Sat B.w G (mapR f g r (putM M a b) :: S') w' := by
  obtain ⟨es, clock, hi, hs1⟩ := (hs.perm hm.h.perm).mapOpen
  have hb := hs1.at
  have hset : ∀ o', Sat B.w G (blk r o' :: S') (w.putObj r o') := fun o' => Sat.set hs1 rfl rfl rfl (by simp) (World.putObj_heap_same (Array.getElem?_eq_some_iff.1 hb).1) (fun c _ hc => World.putObj_heap_other hc)
  have hrun : ∀ o', (setObj r o').run P w = .ok () (w.putObj r o') := fun o' => by
    have hlt := (Array.getElem?_eq_some_iff.1 hb).1
    simp [setObj, Sem.run, hb, World.putObj]
  rcases hk.find a w es.toList hi.keys with ⟨h1, h2⟩ | ⟨j, e, h1, h2, h3, h4⟩
  · refine ⟨w.putObj r (.map (es.push { key := f a, val := g b, born := clock }) (clock + 1)), ?_, (hset _).mapShut ⟨?_, ?_, ?_⟩⟩
    · simp [Instr.mapUpdate, run_underlying hT.h, run_getMap hb, hk.check _ a w, h1, hrun, Result.andThen]
    · rw [putM_new hk.inj hi.enc h2, Array.toList_push, List.map_append, List.map_append, hi.enc]; rfl
    · rw [Array.toList_push, List.map_append]
      refine List.nodup_append.2 ⟨hi.born, by simp, fun x hx y hy => ?_⟩
      simp only [List.map_cons, List.map_nil, List.mem_singleton] at hy
      subst hy
      obtain ⟨e, he, rfl⟩ := List.mem_map.1 hx
      exact Nat.ne_of_lt (hi.old e he)
    · intro e he
      rw [Array.toList_push] at he
      rcases List.mem_append.1 he with he | he
      · exact Nat.lt_succ_of_lt (hi.old e he)
      · rw [List.mem_singleton] at he; subst he; exact Nat.lt_succ_self _
  · have hj : es[j]? = some e := by simpa using h2
    refine ⟨w.putObj r (.map (es.modify j fun e' => { e' with key := f a, val := g b }) clock), ?_, (hset _).mapShut ⟨?_, ?_, ?_⟩⟩
    · simp [Instr.mapUpdate, run_underlying hT.h, run_getMap hb, hk.check _ a w, h1, hj, h3, hk.stays, hrun, Result.andThen]
    · rw [Array.toList_modify]
      exact putM_old hk.inj hi.enc h2 h3 h4
    · rw [Array.toList_modify]
      have : (es.toList.modify j fun e' => ({ e' with key := f a, val := g b } : MapEntry)).map (·.born) = es.toList.map (·.born) := by
        apply List.ext_getElem?
        intro i
        rw [List.getElem?_map, List.getElem?_modify, List.getElem?_map]
        cases es.toList[i]? with
        | none => rfl
        | some e' => by_cases hji : j = i <;> simp [hji]
      rw [this]; exact hi.born
    · intro e' he'
      rw [Array.toList_modify] at he'
      obtain ⟨i, hi'⟩ := List.mem_iff_getElem?.1 he'
      rw [List.getElem?_modify] at hi'
      cases h5 : es.toList[i]? with
      | none => rw [h5] at hi'; simp at hi'
      | some e0 =>
        rw [h5] at hi'
        have := hi.old e0 (List.mem_of_getElem? h5)
        by_cases hji : j = i
        · simp [hji] at hi'; rw [← hi']; exact this
        · simp [hji] at hi'; rw [← hi']; exact this
theorem WL.mapUpdate [DecidableEq α] [hk : MapKey P K f] [hT : TU P T (.map K E)] (hx : env.ev x = some (.map (some r))) {v u : Value} (hy : env.ev y = some v) (hz : env.ev z = some u) [hm : SelMap r S f g M S'] {a : α} {b : β} (hv : v = f a) (hu : u = g b)
    (h : WL P n L Q rest B env G (mapR f g r (putM M a b) :: S')) : WL P n L Q (⟨none, .mapUpdate T x y z, ty, pos, af, none⟩ :: rest) B env G S := by
  subst hv; subst hu
  refine .doW (I := Unit) (G' := fun _ => G) (S' := fun _ => mapR f g r (putM M a b) :: S') rfl rfl (fun ac w sa sw => ?_) (fun _ => h)
  obtain ⟨w', h1, h2⟩ := Sat.mapSet (P := P) (K := K) (T := T) (E := E) (r := r) (f := f) (g := g) (M := M) (S' := S') sw a b
  exact ⟨(), w', by simp [execOp, sa.ev hx, sa.ev hy, sa.ev hz, h1], h2⟩
instance [hT : TU P T (.map K E)] [hm : SelMap r S f g M S'] : LnC P G S T (.map (some r)) M.length := ⟨fun B ty w sw => by
  obtain ⟨es, clock, hi, hs⟩ := (sw.perm hm.h.perm).mapOpen
  simp [Builtin.len_, run_underlying hT.h, run_getMap hs.at, hi.len, goInt, Result.andThen]⟩
end
/-! ### Keys -/
section
variable {P : Program} {α : Type} {f : α → Value} {K : TypeId}
theorem run_findAsking (heq : ∀ a b, EqV P K (f a) (f b) 10 (a = b)) (w : World) (a : α) : ∀ (es : List MapEntry) (i : Nat), (∀ e ∈ es, ∃ b, e.key = f b) →
    ((Instr.findAsking K (f a) es i).run P w = .ok none w ∧ ∀ e ∈ es, e.key ≠ f a) ∨ ∃ j e, (Instr.findAsking K (f a) es i).run P w = .ok (some (i + j, e.val)) w ∧ es[j]? = some e ∧ e.key = f a ∧ ∀ j' e', j' < j → es[j']? = some e' → e'.key ≠ f a
  | [], i, _ => .inl ⟨by simp [Instr.findAsking], by simp⟩
  | e :: es, i, h => by
    obtain ⟨b, hb⟩ := h e (.head _)
    obtain ⟨r, hr, hiff⟩ := (heq a b).h Op.maxDepth (by decide) w
    have he : (Op.equal K (f a) e.key).run P w = .ok r w := by rw [hb]; exact hr
    cases r with
    | true =>
      have hab := hiff.1 rfl
      refine .inr ⟨0, e, ?_, rfl, by rw [hb, hab], fun j' e' hj => absurd hj (Nat.not_lt_zero _)⟩
      simp [Instr.findAsking, he, Result.andThen]
    | false =>
      have hne : e.key ≠ f a := fun e1 => by
        obtain ⟨r2, hr2, hiff2⟩ := (heq a a).h Op.maxDepth (by decide) w
        have : (Op.equal K (f a) e.key).run P w = .ok r2 w := by rw [e1]; exact hr2
        rw [he] at this
        cases this
        exact absurd (hiff2.2 rfl) (by decide)
      rcases run_findAsking heq w a es (i + 1) (fun e he => h e (.tail _ he)) with ⟨h1, h2⟩ | ⟨j, e1, h1, h2, h3, h4⟩
      · refine .inl ⟨?_, fun e' he' => ?_⟩
        · simp [Instr.findAsking, he, h1, Result.andThen]
        · rcases List.mem_cons.1 he' with rfl | he'
          · exact hne
          · exact h2 e' he'
      · refine .inr ⟨j + 1, e1, ?_, by rw [List.getElem?_cons_succ]; exact h2, h3, fun j' e' hj h' => ?_⟩
        · simp [Instr.findAsking, he, h1, Result.andThen]; omega
        · cases j' with
          | zero => cases h'; exact hne
          | succ j' => exact h4 j' e' (by omega) (by simpa using h')
theorem mapKey_struct {fs : Array Field} (hK : P.underlying K = some (.struct fs)) (inj : ∀ a b, f a = f b → a = b) (heq : ∀ a b, EqV P K (f a) (f b) 10 (a = b)) (hcheck : ∀ (em : Bool) (a : α) (w : World), (Instr.checkKey em 10000 K (f a)).run P w = .ok () w) (hsame : ∀ a, Instr.sameBits 10000 (f a) (f a) = true) : MapKey P K f where
  check := hcheck
  inj := inj
  stays a w := by simp [Instr.keyThatStays, hsame]
  find a w es h := by
    have hk := run_findAsking heq w a es 0 h
    simp only [Nat.zero_add] at hk
    cases es with
    | nil =>
      refine .inl ⟨?_, by simp⟩
      simp [Instr.findKey, run_underlying hK, Instr.findNow, Result.andThen]
    | cons e es =>
      have hn : Instr.findNow (.struct fs) (f a) (e :: es) 0 = none := by
        unfold Instr.findNow Instr.sameNow; rfl
      have e1 : (Instr.findKey K (f a) (e :: es)).run P w = (Instr.findAsking K (f a) (e :: es) 0).run P w := by
        simp [Instr.findKey, run_underlying hK, hn, Result.andThen]
      rw [e1]; exact hk
theorem mapKey_int {kd : IntKind} (hK : P.underlying K = some (.int kd)) : MapKey P K (fun a : Int => .int kd a) where
  check em a w := by
    rw [show (10000 : Nat) = 9999 + 1 from rfl]
    unfold Instr.checkKey
    simp [run_underlying hK, Result.andThen]
  inj a b h := by simpa using h
  stays a w := by simp [Instr.keyThatStays, Instr.sameBits]
  find a w es h := by
    have key : ∀ (es : List MapEntry) (i : Nat), (∀ e ∈ es, ∃ b : Int, e.key = .int kd b) → (Instr.findNow (.int kd) (.int kd a) es i = some none ∧ ∀ e ∈ es, e.key ≠ .int kd a) ∨ ∃ j e, Instr.findNow (.int kd) (.int kd a) es i = some (some (i + j, e.val)) ∧ es[j]? = some e ∧ e.key = .int kd a ∧ ∀ j' e', j' < j → es[j']? = some e' → e'.key ≠ .int kd a := by
      intro es
      induction es with
      | nil => intro i _; exact .inl ⟨rfl, by simp⟩
      | cons e es ih =>
        intro i h
        obtain ⟨b, hb⟩ := h e (.head _)
        by_cases hab : a = b
        · subst hab
          exact .inr ⟨0, e, by simp [Instr.findNow, Instr.sameNow, hb], rfl, hb, fun j' e' hj => absurd hj (Nat.not_lt_zero _)⟩
        · have hne : e.key ≠ .int kd a := by rw [hb]; simpa using fun h => hab h.symm
          have hf : (a == b) = false := by simpa using hab
          rcases ih (i + 1) (fun e he => h e (.tail _ he)) with ⟨h1, h2⟩ | ⟨j, e1, h1, h2, h3, h4⟩
          · refine .inl ⟨by simp [Instr.findNow, Instr.sameNow, hb, hf, h1], fun e' he' => ?_⟩
            rcases List.mem_cons.1 he' with rfl | he'
            · exact hne
            · exact h2 e' he'
          · refine .inr ⟨j + 1, e1, ?_, by rw [List.getElem?_cons_succ]; exact h2, h3, fun j' e' hj h' => ?_⟩
            · simp [Instr.findNow, Instr.sameNow, hb, hf, h1]; omega
            · cases j' with
              | zero => cases h'; exact hne
              | succ j' => exact h4 j' e' (by omega) (by simpa using h')
    rcases key es 0 h with ⟨h1, h2⟩ | ⟨j, e, h1, h2, h3, h4⟩
    · exact .inl ⟨by simp [Instr.findKey, run_underlying hK, h1, Result.andThen], h2⟩
    · exact .inr ⟨j, e, by simp [Instr.findKey, run_underlying hK, h1, Result.andThen], h2, h3, h4⟩
end
section
variable {P : Program}
theorem run_checkKey_plainInt {t : TypeId} {kd : IntKind} [hT : TU P t (.int kd)] (em : Bool) (n : Nat) (v : Value) (w : World) : (Instr.checkKey em (n + 1) t v).run P w = .ok () w := by
  unfold Instr.checkKey
  simp [run_underlying hT.h, Result.andThen]
theorem run_forIn_yield {w : World} (g : Field → PUnit → Sem (ForInStep PUnit)) : ∀ (fs : List Field), (∀ f ∈ fs, (g f PUnit.unit).run P w = .ok (ForInStep.yield PUnit.unit) w) → (forIn fs PUnit.unit g).run P w = .ok PUnit.unit w
  | [], _ => by simp
  | f :: fs, h => by
    rw [List.forIn_cons]
    simp [h f (.head _), Result.andThen, run_forIn_yield g fs fun f' hf' => h f' (.tail _ hf')]
theorem run_checkKey_struct {t : TypeId} {L : List (TypeId × Nat × Nat)} [hS : SF P t L] (em : Bool) (n : Nat) (cs : List Value) (w : World) (h : ∀ q ∈ L, ∃ v, (part q.1 cs.toArray q.2.1).run P w = .ok v w ∧ (Instr.checkKey em n q.1 v).run P w = .ok () w) : (Instr.checkKey em (n + 1) t (.agg cs.toArray)).run P w = .ok () w := by
  obtain ⟨hu, hm⟩ := structOf_fields hS.h
  unfold Instr.checkKey
  have hfs : ∀ f ∈ (P.fieldsOf t).toList, ∃ v, (part f.type cs.toArray f.offset).run P w = .ok v w ∧ (Instr.checkKey em n f.type v).run P w = .ok () w := fun f hf => by
    have h1 : (f.type, f.offset) ∈ L.map (fun f => (f.1, f.2.1)) := hm ▸ List.mem_map_of_mem hf
    obtain ⟨q, hq, e⟩ := List.mem_map.1 h1
    have e1 := congrArg Prod.fst e
    have e2 := congrArg Prod.snd e
    dsimp only at e1 e2
    rw [← e1, ← e2]
    exact h q hq
  simp only [Sem.run_bind, run_underlying hu, Result.andThen_ok]
  rw [← Array.forIn_toList, run_forIn_yield _ _ fun f hf => ?_]
  · rfl
  · obtain ⟨v, h1, h2⟩ := hfs f hf
    by_cases hn : f.name ≠ "_"
    · simp [hn, h1, h2, Result.andThen]
    · simp [hn]
end
/-! ### Loops over maps -/
section
variable {P : Program} {n : Nat} {Q : Exit → Act → World → Prop} {B : Base} {env : Env} {G : List Pers} {S S' S1 S2 : List Res} {L rest : List Oper}
variable {d : Nat} {ty : TypeId} {pos : String} {af : Array Edge} {x y z : Operand} {T K E : TypeId} {α β : Type} {f : α → Value} {g : β → Value} {r it : Nat} {M : List (α × β)} {es : Array MapEntry} {clock : Nat} {seen : Array Nat}
abbrev mapC (r : Nat) (es : Array MapEntry) (clock : Nat) : Res := blk r (.map es clock)
abbrev itR (it r clock : Nat) (seen : Array Nat) : Res := blk it (.mapIter (some r) clock seen clock)
theorem WL.rangeM (hx : env.ev x = some (.map (some r))) [hT : TU P T (.map K E)] (hm : Sel S (mapC r es clock) S') (hd : Nat.blt d n = true) (h : ∀ it, WL P n L Q rest B ((d, .pointer (some ⟨it, 0, none⟩)) :: env) G (itR it r clock #[] :: S)) : WL P n L Q (⟨some d, .range T x, ty, pos, af, none⟩ :: rest) B env G S := by
  refine .valW (I := Nat) (v := fun it => .pointer (some ⟨it, 0, none⟩)) (G' := fun _ => G) (S' := fun it => itR it r clock #[] :: S) rfl rfl hd (fun ac w sa sw => ⟨w.heap.size, w.alloc (.mapIter (some r) clock #[] clock), ?_, sw.alloc _⟩) h
  have hb := (sw.perm hm.perm).at
  simp [execOp, sa.ev hx, Instr.range, run_underlying hT.h, run_getMap hb, newObj, Sem.run, Result.andThen]
theorem WL.nextM (hx : env.ev x = some (.pointer (some ⟨it, 0, none⟩))) (hi : Sel S (itR it r clock seen) S1) (hm : Sel S1 (mapC r es clock) S2) (hold : ∀ e ∈ es.toList, e.born < clock) (hd : Nat.blt d n = true)
    (h0 : (leftOf es seen).size = 0 → WL P n L Q rest B ((d, .tuple #[.bool false]) :: env) G S)
    (h1 : ∀ e ∈ (leftOf es seen).toList, WL P n L Q rest B ((d, .tuple #[.bool true, e.key, e.val]) :: env) G (itR it r clock (seen.push e.born) :: S1)) : WL P n L Q (⟨some d, .next x false, ty, pos, af, none⟩ :: rest) B env G S := by
  refine ⟨fun a w sa sw => wpList_plain rfl fun K hK => ?_⟩
  unfold Oper.wp
  have s1 := sw.perm hi.perm
  have hr := s1.at
  have hb : w.heap[r]? = some (.map es clock) := (s1.perm ((List.Perm.cons _ hm.perm).trans (List.Perm.swap _ _ _))).at
  rcases run_next_at (P := P) w ty it r clock clock seen es clock hr hb hold (Nat.le_refl _) with ⟨hz, hrun⟩ | ⟨e, he, w1, hw1, hrun⟩
  · have h2 : (execOp a.eval ⟨some d, .next x false, ty, pos, af, none⟩).run P w = .ok (.value (.tuple #[.bool false])) w := by
      simp [execOp, sa.ev hx, hrun, Result.andThen]
    rw [h2, Oper.upon_value]
    exact hK _ _ ((h0 hz).go _ _ (sa.put hd _) sw)
  · have h2 : (execOp a.eval ⟨some d, .next x false, ty, pos, af, none⟩).run P w = .ok (.value (.tuple #[.bool true, e.key, e.val])) (Go.ChangeMaps.setBlock w1 it (.mapIter (some r) clock (seen.push e.born) clock)) := by
      simp [execOp, sa.ev hx, hrun, Result.andThen]
    rw [h2, Oper.upon_value]
    have s3 : Sat B.w G (itR it r clock seen :: S1) w1 := by
      rcases hw1 with rfl | rfl
      · exact s1
      · exact s1.drew
    have hr1 := s3.at
    have s4 : Sat B.w G (itR it r clock (seen.push e.born) :: S1) (Go.ChangeMaps.setBlock w1 it (.mapIter (some r) clock (seen.push e.born) clock)) :=
      Sat.set s3 rfl rfl rfl (by simp [Go.ChangeMaps.setBlock]) (World.putObj_heap_same (w := w1) (Array.getElem?_eq_some_iff.1 hr1).1) (fun c _ hc => World.putObj_heap_other (w := w1) hc)
    exact hK _ _ ((h1 e he).go _ _ (sa.put hd _) s4)
theorem WL.entryM {e : MapEntry} (hx : env.ev x = some (.pointer (some ⟨it, 0, none⟩))) (hi : Sel S (itR it r clock (seen.push e.born)) S1) (hm : Sel S1 (mapC r es clock) S2) (he : e ∈ es.toList) (hn : (es.toList.map (·.born)).Nodup) (hd : Nat.blt d n = true)
    (h : WL P n L Q rest B ((d, .tuple #[e.key, e.val]) :: env) G S) : WL P n L Q (⟨some d, .entry x, ty, pos, af, none⟩ :: rest) B env G S := by
  refine .val rfl rfl hd (fun a w sa sw => ?_) h
  have s1 := sw.perm hi.perm
  have hr := s1.at
  have hb : w.heap[r]? = some (.map es clock) := (s1.perm ((List.Perm.cons _ hm.perm).trans (List.Perm.swap _ _ _))).at
  have hrun := run_entry_at (P := P) w it r clock seen es clock e hr hb he hn
  simp [execOp, sa.ev hx, hrun, Result.andThen]
theorem left_sub {e : MapEntry} (he : e ∈ (leftOf es seen).toList) : e ∈ es.toList ∧ seen.contains e.born = false := by
  unfold leftOf at he
  rw [Array.toList_filter, List.mem_filter] at he
  exact ⟨he.1, by simpa using he.2⟩
theorem left_none (h : (leftOf es seen).size = 0) : ∀ e ∈ es.toList, e.born ∈ seen := fun e he => by
  have h1 : leftOf es seen = #[] := Array.eq_empty_of_size_eq_zero h
  unfold leftOf at h1
  rw [Array.filter_eq_empty_iff] at h1
  have := h1 e (by simpa using he)
  simpa using this
theorem left_lt {e : MapEntry} (he : e ∈ (leftOf es seen).toList) : (leftOf es (seen.push e.born)).size < (leftOf es seen).size := by
  have h1 : leftOf es (seen.push e.born) = (leftOf es seen).filter fun x => x.born != e.born := by
    unfold leftOf
    rw [Array.filter_filter]
    congr 1
    funext x
    rw [Array.contains_push, Bool.not_or, Bool.and_comm]
    rfl
  rw [h1]
  have h2 : ((leftOf es seen).filter fun x => x.born != e.born).toList.length < (leftOf es seen).toList.length := by
    rw [Array.toList_filter]
    rcases Nat.lt_or_eq_of_le (List.length_filter_le (fun x : MapEntry => x.born != e.born) (leftOf es seen).toList) with h | h
    · exact h
    · have := (List.length_filter_eq_length_iff.1 h) e he
      simp at this
  rwa [Array.length_toList, Array.length_toList] at h2
end
/-! ### Open maps, plain lookups. -/
section
variable {P : Program} {n : Nat} {Q : Exit → Act → World → Prop} {B : Base} {env : Env} {G Gy : List Pers} {S S' S0 : List Res} {L rest : List Oper}
variable {d : Nat} {ty : TypeId} {pos : String} {af : Array Edge} {x y z : Operand} {T K E : TypeId} {α β : Type} {f : α → Value} {g : β → Value} {r : Nat} {M : List (α × β)}
theorem WL.openMap {l : List Oper} (r : Nat) [hm : SelMap r S f g M S'] (h : ∀ es clock, MapIs f g M es clock → WL P n L Q l B env G (mapC r es clock :: S')) : WL P n L Q l B env G S :=
  ⟨fun a w sa sw => by
    obtain ⟨es, clock, hi, hs⟩ := (sw.perm hm.h.perm).mapOpen
    exact (h es clock hi).go a w sa hs⟩
theorem WL.lookupF [DecidableEq α] [hk : MapKey P K f] [hT : TU P T (.map K E)] {z : Value} [hz : ZV P E z] (hx : env.ev x = some (.map (some r))) {v : Value} (hy : env.ev y = some v) [hm : SelMap r S f g M S'] {a : α} (hv : v = f a) (hd : Nat.blt d n = true)
    (h : WL P n L Q rest B ((d, (match getM M a with | some b => g b | none => z)) :: env) G S) : WL P n L Q (⟨some d, .lookup T x y false, ty, pos, af, none⟩ :: rest) B env G S := by
  subst hv
  refine .val rfl rfl hd (fun ac w sa sw => ?_) h
  obtain ⟨es, clock, hi, hs⟩ := (sw.perm hm.h.perm).mapOpen
  have e : (Instr.lookup T (.map (some r)) (f a) false).run P w = .ok (match getM M a with | some b => g b | none => z) w := by
    rcases hk.find a w es.toList hi.keys with ⟨h1, h2⟩ | ⟨j, e, h1, h2, h3, h4⟩
    · rw [getM_none hk.inj hi.enc h2]
      simp [Instr.lookup, run_underlying hT.h, run_getMap hs.at, hk.check _ a w, h1, run_zero hz.h, Result.andThen]
    · obtain ⟨b, hb2, he⟩ := getM_some hk.inj hi.enc h2 h3 h4
      rw [hb2]
      simp [Instr.lookup, run_underlying hT.h, run_getMap hs.at, hk.check _ a w, h1, he, Result.andThen]
  simp [execOp, sa.ev hx, sa.ev hy, e, Result.andThen]
end
end Go.Qd
