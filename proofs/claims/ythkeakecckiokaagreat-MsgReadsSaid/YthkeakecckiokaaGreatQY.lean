import Derived.Test.YthkeakecckiokaaGreatQX
import Derived.Test.YthkeakecckiokaaGreatQRec
import Derived.Laws.StructEq
import Derived.Laws.Strings3
import Derived.Laws.Concat
import Derived.Laws.MakeOwn
import Derived.Laws.ResultCell
import Derived.Lib.MinMax
import Derived.Lib.Bytealg
import Derived.ChangeKeysEq
namespace Go.Qd
open Go

section
variable {P : Program} {n : Nat} {Q : Exit → Act → World → Prop} {B : Base} {env : Env} {G : List Pers} {S S' : List Res} {L rest : List Oper}
variable {d d1 d2 : Nat} {ty : TypeId} {pos : String} {af : Array Edge} {x y z : Operand} {T T' E E' : TypeId} {u v v' : Value} {α : Type} {R : Ty α} {a : α}

/-! ### Strings -/
theorem WL.ixs {l : List UInt8} {c : UInt8} {i : Int} {k : IntKind} (hx : env.ev x = some (.string (bs l))) (hy : env.ev y = some (.int k i)) [hT : TU P T .string] (hc : l[i.toNat]? = some c) (h0 : 0 ≤ i) (hd : Nat.blt d n = true)
    (h : WL P n L Q rest B ((d, .int .u8 (c.toNat : Int)) :: env) G S) : WL P n L Q (⟨some d, .index T x y, ty, pos, af, none⟩ :: rest) B env G S := by
  refine .val rfl rfl hd (fun a w sa _ => ?_) h
  obtain ⟨hlt, hget⟩ := List.getElem?_eq_some_iff.1 hc
  have r := run_index_string w T (bs l) k i hT.h (P := P)
  rw [dif_pos ⟨h0, by rw [bs_size]; omega⟩] at r
  have e : (bs l)[i.toNat]'(by rw [bs_size]; omega) = c := hget
  rw [e] at r
  simp [execOp, sa.ev hx, sa.ev hy, r]
instance (priority := 2000) {l : List UInt8} [hT : TU P T .string] : LnC P G S T (.string (bs l)) l.length := ⟨fun B ty w _ => by
  rw [show l.length = (bs l).size from bs_size.symm]
  simp [Builtin.len_, run_underlying hT.h, goInt]⟩
theorem SliceV.str {l r : List UInt8} {lo hi : Option Value} [hT : TU P T .string] (hr : ∀ w, (Instr.slice T (.string (bs l)) lo hi none).run P w = .ok (.string (bs r)) w) (h : WL P n L Q rest B ((d, .string (bs r)) :: env) G S) : SliceV P n L Q rest B env G S d T (.string (bs l)) lo hi none :=
  ⟨fun w sw => ⟨_, by rw [run_sliceAt_string w T _ _ _ _ hT.h, hr], G, sw, h⟩⟩
theorem BinV.cat {l k : List UInt8} (hl : l.length + k.length ≤ 9223372036854775807) (h : WL P n L Q rest B ((d, .string (bs (l ++ k))) :: env) G S) : BinV P n L Q rest B env G S d .add T (.string (bs l)) (.string (bs k)) :=
  ⟨_, fun x y w _ => by
    have r := run_string_add_sum (P := P) w (bs l) (bs k) (by rw [bs_size, bs_size]; exact hl)
    rw [ByteArray.mk_append_mk] at r
    simp [eqGuard, binOp, r], h⟩

/-! ### The greater and the less -/
theorem WL.max2 {k k' : IntKind} {a b : Int} (hx : env.ev x = some (.int k a)) (hy : env.ev y = some (.int k' b)) {ats : Array TypeId} (hd : Nat.blt d n = true) (h : WL P n L Q rest B ((d, .int k (max a b)) :: env) G S) : WL P n L Q (⟨some d, .call ⟨.builtin .max, #[x, y], ats⟩, ty, pos, af, none⟩ :: rest) B env G S :=
  .val rfl rfl hd (fun ac w sa sw => by simp [execOp, resolve, invoke, builtin, sa.ev hx, sa.ev hy, Go.Lib.run_max_ints]) h
theorem WL.min2 {k k' : IntKind} {a b : Int} (hx : env.ev x = some (.int k a)) (hy : env.ev y = some (.int k' b)) {ats : Array TypeId} (hd : Nat.blt d n = true) (h : WL P n L Q rest B ((d, .int k (min a b)) :: env) G S) : WL P n L Q (⟨some d, .call ⟨.builtin .min, #[x, y], ats⟩, ty, pos, af, none⟩ :: rest) B env G S :=
  .val rfl rfl hd (fun ac w sa sw => by simp [execOp, resolve, invoke, builtin, sa.ev hx, sa.ev hy, Go.Lib.run_min_ints]) h

/-! ### Structs compared -/
class NthC (xs : List Value) (i : Nat) (u : outParam Value) : Prop where
  h : xs[i]? = some u
instance NthC.zero {u : Value} {r : List Value} : NthC (u :: r) 0 u := ⟨rfl⟩
instance NthC.succ {c u : Value} {r : List Value} {i : Nat} [h : NthC r i u] : NthC (c :: r) (i + 1) u := ⟨by simpa using h.h⟩
class SegC (xs : List Value) (o s : Nat) (us : outParam (List Value)) : Prop where
  h : (xs.drop o).take s = us ∧ us.length = s
instance SegC.nil {xs : List Value} : SegC xs 0 0 [] := ⟨by simp⟩
instance SegC.take {u : Value} {r us : List Value} {s : Nat} [h : SegC r 0 s us] : SegC (u :: r) 0 (s + 1) (u :: us) := ⟨by have := h.h; simp at this ⊢; exact this⟩
instance SegC.drop {u : Value} {r us : List Value} {o s : Nat} [h : SegC r o s us] : SegC (u :: r) (o + 1) s us := ⟨by have := h.h; simpa using this⟩
class PartC (P : Program) (t : TypeId) (xs : List Value) (o s : Nat) (u : outParam Value) : Prop where
  h : ∀ w, (part t xs.toArray o).run P w = .ok u w
instance PartC.one {t : TypeId} {xs : List Value} {o s : Nat} {u : Value} [hA : TA P t false] [h : NthC xs o u] : PartC P t xs o s u := ⟨fun w => by
  have := h.h
  simp [part, run_isAgg_of w hA.h, this]⟩
instance PartC.agg {t : TypeId} {xs us : List Value} {o s : Nat} [hA : TA P t true] [hs : TS P t s] [h : SegC xs o s us] : PartC P t xs o s (.agg us.toArray) := ⟨fun w => by
  have e : xs.toArray.extract o (o + s) = us.toArray := by
    rw [← h.h.1]
    simp [List.take_drop, Nat.add_comm]
  simp [part, run_isAgg_of w hA.h, run_sizeOf_of w hs.h]
  have := h.h.2
  simpa using congrArg Array.toList e⟩
class EqV (P : Program) (T : TypeId) (x y : Value) (k : Nat) (p : outParam Prop) : Prop where
  h : ∀ d, k ≤ d → ∀ w, ∃ b : Bool, (Op.equalIn d T x y).run P w = .ok b w ∧ (b = true ↔ p)
instance EqV.int {k : IntKind} {a b : Int} {m : Nat} [hT : TU P T (.int k)] : EqV P T (.int k a) (.int k b) (m + 1) (a = b) := ⟨fun d hd w => by
  obtain ⟨d', rfl⟩ : ∃ d', d = d' + 1 := ⟨d - 1, by omega⟩
  exact ⟨_, run_equalIn_int w d' T k k a b hT.h, by simp⟩⟩
instance EqV.bool {a b : Bool} {m : Nat} [hT : TU P T .bool] : EqV P T (.bool a) (.bool b) (m + 1) (a = b) := ⟨fun d hd w => by
  obtain ⟨d', rfl⟩ : ∃ d', d = d' + 1 := ⟨d - 1, by omega⟩
  exact ⟨_, run_equalIn_bool' w d' T a b hT.h, by simp⟩⟩
instance EqV.str {a b : List UInt8} {m : Nat} [hT : TU P T .string] : EqV P T (.string (bs a)) (.string (bs b)) (m + 1) (a = b) := ⟨fun d hd w => by
  obtain ⟨d', rfl⟩ : ∃ d', d = d' + 1 := ⟨d - 1, by omega⟩
  exact ⟨_, run_equalIn_string w d' T (bs a) (bs b) hT.h, by simp [bs]⟩⟩
class EqFs (P : Program) (fs : List (TypeId × Nat × Nat)) (xs ys : List Value) (k : Nat) (p : outParam Prop) : Prop where
  h : ∀ (d : Nat), k ≤ d → ∀ (w : World) (fl : List Field), (∀ f ∈ fl, f.name ≠ "_") → fl.map (fun f => (f.type, f.offset)) = fs.map (fun f => (f.1, f.2.1)) → ∃ b : Bool, (Op.eqFields d xs.toArray ys.toArray fl).run P w = .ok b w ∧ (b = true ↔ p)
instance EqFs.nil {xs ys : List Value} {k : Nat} : EqFs P [] xs ys k True := ⟨fun d _ w fl _ hm => by
  obtain rfl : fl = [] := by simpa using hm
  exact ⟨true, by simp [Op.eqFields], by simp⟩⟩
theorem EqFs.step {t o s : Nat} {fs : List (TypeId × Nat × Nat)} {xs ys : List Value} {k : Nat} {u v : Value} {p q : Prop} (hu : PartC P t xs o s u) (hv : PartC P t ys o s v) (he : EqV P t u v k p) (hr : EqFs P fs xs ys k q) : EqFs P ((t, o, s) :: fs) xs ys k (p ∧ q) := ⟨fun d hd w fl hn hm => by
  cases fl with
  | nil => simp at hm
  | cons f fl =>
    simp only [List.map_cons, List.cons.injEq, Prod.mk.injEq] at hm
    obtain ⟨⟨h1, h2⟩, h3⟩ := hm
    obtain ⟨b, hb, hbp⟩ := he.h d hd w
    obtain ⟨b', hb', hbq⟩ := hr.h d hd w fl (fun f hf => hn f (.tail _ hf)) h3
    have hfn := hn f (.head _)
    cases b with
    | true =>
      refine ⟨b', ?_, by rw [hbq]; simp [hbp.1 rfl]⟩
      simp [Op.eqFields, hfn, h1, h2, hu.h, hv.h, hb, hb']
    | false =>
      refine ⟨false, ?_, by simp; intro hp; exact absurd (hbp.2 hp) (by simp)⟩
      simp [Op.eqFields, hfn, h1, h2, hu.h, hv.h, hb]⟩
instance EqFs.cons {t o s : Nat} {fs : List (TypeId × Nat × Nat)} {xs ys : List Value} {k : Nat} {u v : Value} {p q : Prop} [hu : PartC P t xs o s u] [hv : PartC P t ys o s v] [he : EqV P t u v k p] [hr : EqFs P fs xs ys k q] : EqFs P ((t, o, s) :: fs) xs ys k (p ∧ q) := .step hu hv he hr
instance EqFs.last {t o s : Nat} {xs ys : List Value} {k : Nat} {u v : Value} {p : Prop} [hu : PartC P t xs o s u] [hv : PartC P t ys o s v] [he : EqV P t u v k p] : EqFs P [(t, o, s)] xs ys k p := ⟨fun d hd w fl hn hm => by
  obtain ⟨b, h1, h2⟩ := (EqFs.step hu hv he EqFs.nil).h d hd w fl hn hm
  exact ⟨b, h1, by simpa using h2⟩⟩
theorem structOf_fields {fs : List (TypeId × Nat × Nat)} (h : structOf P T = some fs) : P.underlying T = some (.struct (P.fieldsOf T)) ∧ (P.fieldsOf T).toList.map (fun f => (f.type, f.offset)) = fs.map (fun f => (f.1, f.2.1)) := by
  unfold structOf at h
  cases hu : P.underlying T with
  | none => rw [hu] at h; cases h
  | some dd =>
    rw [hu] at h
    cases dd <;> try (cases h; done)
    rename_i fl
    dsimp only at h
    have e : P.fieldsOf T = fl := by simp [Program.fieldsOf, hu]
    refine ⟨by rw [e], ?_⟩
    rw [e]
    generalize fl.toList = l at h
    clear e hu
    induction l generalizing fs with
    | nil => simp at h; subst h; rfl
    | cons f l ih =>
      rw [List.mapM_cons] at h
      simp only [bind, Option.bind_eq_some_iff, pure, Option.some.injEq, Option.map_eq_some_iff] at h
      obtain ⟨x, ⟨i, hi, rfl⟩, fs', h2, rfl⟩ := h
      simp [ih h2]
instance EqV.struct {fs : List (TypeId × Nat × Nat)} {xs ys : List Value} {m : Nat} {p : Prop} [hS : SF P T fs] [hE : EQT P T] [h : EqFs P fs xs ys m p] : EqV P T (.agg xs.toArray) (.agg ys.toArray) (m + 1) p := ⟨fun d hd w => by
  obtain ⟨d', rfl⟩ : ∃ d', d = d' + 1 := ⟨d - 1, by omega⟩
  obtain ⟨hu, hm⟩ := structOf_fields hS.h
  have he := hE.h
  unfold eqOK at he
  rw [hu] at he
  simp only [Bool.and_eq_true, Bool.not_eq_true', Array.all_eq_true_iff_forall_mem, bne_iff_ne] at he
  rw [run_equalIn_struct w d' T _ _ hu he.1.2]
  exact h.h d' (by omega) w _ (fun f hf => he.1.1 f (by simpa using hf)) hm⟩
theorem eqOK_guard (h : eqOK P T = true) : P.eqGuardType P.depth T = false := by
  unfold eqOK at h
  split at h
  · simp at h; exact h.2
  · simpa using h
  · cases h
theorem BinV.eqa {xs ys : List Value} {p : Prop} [h : EqV P T (.agg xs.toArray) (.agg ys.toArray) 10 p] [hE : EQT P T] [Decidable p] (k : WL P n L Q rest B ((d, .bool (decide p)) :: env) G S) : BinV P n L Q rest B env G S d .eql T (.agg xs.toArray) (.agg ys.toArray) :=
  ⟨_, fun x y w _ => by
    obtain ⟨b, hb, hp⟩ := h.h 10000 (by omega) w
    have e : b = decide p := by rw [Bool.eq_iff_iff, hp]; simp
    simp only [Sem.run_bind, run_eqGuard_agg w .eql T x y _ _ (eqOK_guard hE.h), Result.andThen_ok, run_eql_struct, hb, e], k⟩
theorem BinV.nea {xs ys : List Value} {p : Prop} [h : EqV P T (.agg xs.toArray) (.agg ys.toArray) 10 p] [hE : EQT P T] [Decidable p] (k : WL P n L Q rest B ((d, .bool (decide (¬ p))) :: env) G S) : BinV P n L Q rest B env G S d .neq T (.agg xs.toArray) (.agg ys.toArray) :=
  ⟨_, fun x y w _ => by
    obtain ⟨b, hb, hp⟩ := h.h 10000 (by omega) w
    have e : (!b) = decide (¬ p) := by rw [decide_not]; congr 1; rw [Bool.eq_iff_iff, hp]; simp
    simp only [Sem.run_bind, run_eqGuard_agg w .neq T x y _ _ (eqOK_guard hE.h), Result.andThen_ok, run_neq_struct, hb, e], k⟩

/-! ### Places -/
theorem WL.fadr {b o f k r : Nat} (hx : env.ev x = some (.pointer (some ⟨b, o, none⟩))) [hf : FO P T f k] [hr : Plus o k r] (hd : Nat.blt d n = true) (h : WL P n L Q rest B ((d, .pointer (some ⟨b, r, none⟩)) :: env) G S) :
    WL P n L Q (⟨some d, .fieldAddr T x f, ty, pos, af, none⟩ :: rest) B env G S := .fieldAddr hx hd (by rw [hr.h]; exact h)
theorem LoadV.bS {b o s : Nat} {cs vs : List Value} [hm : SelBox b S E cs S'] [hT : TA P T true] [hs : TS P T s] [hv : SegC cs o s vs] (h : WL P n L Q rest B ((d, .agg vs.toArray) :: env) G S) : LoadV P n L Q rest B env G S d T (.pointer (some ⟨b, o, none⟩)) := .boxA hm.h hv.h.1 hv.h.2 h

/-! ### Function values -/
theorem WL.mkf {f : Fn} {as cs : List Operand} {us vs : List Value} (hx : env.evs as = some us) (hy : env.evs cs = some vs) (hd : Nat.blt d n = true) (h : WL P n L Q rest B ((d, .func f us.toArray vs.toArray) :: env) G S) :
    WL P n L Q (⟨some d, .makeFunc f as.toArray cs.toArray, ty, pos, af, none⟩ :: rest) B env G S :=
  .val rfl rfl hd (fun a w sa _ => by
    have h1 := sa.evs hx
    have h2 := sa.evs hy
    simp [execOp, Instr.makeFunc, h1, h2]) h
/-- A function of Go's that the model knows by its entry. -/
structure Ext (P : Program) (f : FuncId) (args : List Value) (v : Value) : Prop where
  h : ∀ w, (callFunc f args.toArray).run P w = .ok (.value v) w
theorem Ext.mk' {f : FuncId} {fn : Func} {e : Array Value → Sem Value} {args : List Value} (hf : P.funcs[f]? = some fn) (hname : (fn.name == "runtime.NumGoroutine") = false)
    (hb : fn.body.isNone = true) (hn : Extern.findNext fn = none) (he : Extern.find fn = some e) (hr : ∀ w, (e args.toArray).run P w = .ok v w) : Ext P f args v :=
  ⟨fun w => by rw [run_callFunc_extern hf hname hb hn he, hr]; rfl⟩
/-! ### Contracts that the walk finds by itself -/
class PureF (P : Program) (f : FuncId) (vs : List Value) (G : List Pers) (pre : outParam Prop) (v : outParam Value) : Prop where
  h : pre → ∃ Gc, (∀ g ∈ Gc, g ∈ G) ∧ Fun P f vs Gc [] (fun r G S => r = v ∧ G = [] ∧ S = [])
class RetF (P : Program) (f : FuncId) (vs : List Value) (G : List Pers) (pre : outParam Prop) {β : outParam Type} (R : outParam (Ty β)) (b : outParam β) : Prop where
  h : pre → ∃ Gc, (∀ g ∈ Gc, g ∈ G) ∧ Fun P f vs Gc [] (fun r G S => G = [rd R b r] ∧ S = [])
theorem PureF.of0 {f : FuncId} {vs : List Value} (h : Fun P f vs [] [] (fun r G S => r = v ∧ G = [] ∧ S = [])) : ∃ Gc, (∀ g ∈ Gc, g ∈ G) ∧ Fun P f vs Gc [] (fun r G S => r = v ∧ G = [] ∧ S = []) := ⟨[], ⟨(fun _ hg => by cases hg), h⟩⟩
theorem PureF.of {f : FuncId} {vs : List Value} {Gc : List Pers} [i : GS Gc G] (h : Fun P f vs Gc [] (fun r G S => r = v ∧ G = [] ∧ S = [])) : ∃ Gc, (∀ g ∈ Gc, g ∈ G) ∧ Fun P f vs Gc [] (fun r G S => r = v ∧ G = [] ∧ S = []) := ⟨Gc, i.h, h⟩
theorem RetF.of {f : FuncId} {vs : List Value} {β : Type} {R : Ty β} {b : β} {Gc : List Pers} [i : GS Gc G] (h : Fun P f vs Gc [] (fun r G S => G = [rd R b r] ∧ S = [])) : ∃ Gc, (∀ g ∈ Gc, g ∈ G) ∧ Fun P f vs Gc [] (fun r G S => G = [rd R b r] ∧ S = []) := ⟨Gc, i.h, h⟩
/-! ### A slice is made -/
theorem WL.make {kl kc : IntKind} {m : Nat} {i : Int} {z : Value} {by_ : Nat} (hx : env.ev x = some (.int kl i)) (hy : env.ev y = some (.int kc i)) [hT : TU P T (.slice E)] [hs : TS P E 1] [hz : TZ P E [z]] [hb : TB P E by_] (him : i = (m : Int)) (hm : m * by_ ≤ 140737488355328) (h63 : m ≤ maxLen) (hd : Nat.blt d n = true)
    (h : ∀ v, WL P n L Q rest B ((d, v) :: env) G (own E 1 v m (List.replicate m z) :: S)) : WL P n L Q (⟨some d, .makeSlice T x y, ty, pos, af, none⟩ :: rest) B env G S := by
  subst him
  obtain ⟨inf, zz, hi, hzz, hc⟩ := info_of_tz hz.h
  have his : inf.size = 1 := by obtain ⟨i', hi', e⟩ := info_of_tsz hs.h; rw [hi] at hi'; cases hi'; exact e
  have hib : inf.bytes = by_ := by have := hb.h; simpa [tby, hi] using this
  have hmax : m ≤ 9223372036854775807 := by simpa [maxLen] using h63
  have hcells : (madeCells zz.cells (m * inf.size)).toList = List.replicate m z := by
    have hzc : zz.cells = #[z] := by rw [← Array.toList_inj, hc]
    rw [hzc, his, Nat.mul_one]
    unfold madeCells
    apply List.ext_getElem?
    intro j
    by_cases hj : j < m
    · simp [hj, Nat.mod_one]
    · simp [hj]
  refine .valW (I := Nat) (v := fun b => .slice (some ⟨b, 0, none⟩) m m) (G' := fun _ => G) (S' := fun b => own E 1 (.slice (some ⟨b, 0, none⟩) m m) m (List.replicate m z) :: S) rfl rfl hd (fun a w sa sw => ⟨w.heap.size, w.alloc (.cells (madeCells zz.cells (m * inf.size)) E), ?_, ?_⟩) (fun b => h _)
  · have hbm : (inf.bytes : Int) * (m : Int) ≤ 281474976710656 := by
      rw [hib, Int.mul_comm, ← Int.natCast_mul]; omega
    have r := run_make (P := P) w T E inf zz hT.h hi hzz kl kc m m (by omega) (by omega) hbm (by omega)
    simp only [Int.toNat_natCast] at r
    simp [execOp, sa.ev hx, sa.ev hy, r]
  · have h1 := sw.alloc (.cells (madeCells zz.cells (m * inf.size)) E)
    have h2 : Sat B G (Qd.box w.heap.size E (List.replicate m z) :: S) (w.alloc (.cells (madeCells zz.cells (m * inf.size)) E)) := by
      unfold Qd.box
      rw [← hcells]
      simpa using h1
    have := h2.ownBox (c := m) (sz := 1) (m := m) (by simp) (Nat.le_refl _) h63
    simpa using this

theorem PickV.bb {b : Bool} (h1 : b = true → PickV P n L Q rest B env G S d (.bool true) v v') (h2 : b = false → PickV P n L Q rest B env G S d (.bool false) v v') : PickV P n L Q rest B env G S d (.bool b) v v' := by
  cases b
  · exact h2 rfl
  · exact h1 rfl
theorem PickV.dd {p : Prop} [Decidable p] (h1 : p → PickV P n L Q rest B env G S d (.bool true) v v') (h2 : ¬ p → PickV P n L Q rest B env G S d (.bool false) v v') : PickV P n L Q rest B env G S d (.bool (decide p)) v v' :=
  .bb (fun h => h1 (of_decide_eq_true h)) (fun h => h2 (of_decide_eq_false h))
/-! ### Results -/
variable {fn : Func} {F : Value → World → Prop}
theorem WX.retC {t : Nat} {b s : Nat} {cs : List Value} [hClean : Clean B] (hr : fn.results = #[.cell t T]) (hv : env.get t = some (.pointer (some ⟨b, 0, none⟩))) [hm : SelBox b S E cs S'] [hT : TA P T true] [hs : TS P T s] (hl : Nat.beq cs.length s = true) (h : ∀ w, Sat B G S w → F (.agg cs.toArray) w) :
    WX n (FPost P fn F) .ret B env G S := .retCell hr hv hm.h (Nat.eq_of_beq_eq_true hl) h
end
end Go.Qd
