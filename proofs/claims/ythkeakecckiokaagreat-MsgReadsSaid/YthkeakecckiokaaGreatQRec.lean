import Derived.Test.YthkeakecckiokaaGreatQStr
import Derived.Test.YthkeakecckiokaaGreatQLaw
import Derived.Lib.ConvBytes
import Derived.Laws.Tables
import Derived.Laws.Cover3
import Derived.Laws.Pointers
namespace Go.Qd
open Go Go.ChangeShapes Go.WideShapes Go.RowKit

/-! ### Data of several fields -/
theorem agg_cells (x : Array Value) : (Value.agg x).cells = x := rfl
def Ty.rec1 {α : Type} (R : Ty α) : Ty α where
  sz := R.sz
  agg := true
  rel a v h := ∃ x, v = .agg x.cells ∧ R.rel a x h
  mono := by rintro a v h k le ⟨x, rfl, hx⟩; exact ⟨x, rfl, R.mono le hx⟩
  size := by rintro a v h ⟨x, rfl, hx⟩; rw [agg_cells]; exact R.size hx
  form := by rintro a v h ⟨x, rfl, hx⟩; exact ⟨_, rfl⟩
  ones := by rintro a v h ⟨x, rfl, hx⟩ c hc; rw [agg_cells] at hc; exact R.ones hx c hc
def Ty.pair {α β : Type} (R₁ : Ty α) (R₂ : Ty β) : Ty (α × β) where
  sz := R₁.sz + R₂.sz
  agg := true
  rel a v h := ∃ x y, v = .agg (x.cells ++ y.cells) ∧ R₁.rel a.1 x h ∧ R₂.rel a.2 y h
  mono := by rintro a v h k le ⟨x, y, rfl, hx, hy⟩; exact ⟨x, y, rfl, R₁.mono le hx, R₂.mono le hy⟩
  size := by
    rintro a v h ⟨x, y, rfl, hx, hy⟩
    rw [agg_cells, Array.toList_append, List.length_append, R₁.size hx, R₂.size hy]
  form := by rintro a v h ⟨x, y, rfl, hx, hy⟩; exact ⟨_, rfl⟩
  ones := by
    rintro a v h ⟨x, y, rfl, hx, hy⟩ c hc
    rw [agg_cells, Array.toList_append, List.mem_append] at hc
    rcases hc with hc | hc
    · exact R₁.ones hx c hc
    · exact R₂.ones hy c hc
instance {α : Type} {R : Ty α} {s : Nat} [h : Ty.Sz R s] : Ty.Sz (Ty.rec1 R) s := ⟨h.h⟩
class Plus (a b : Nat) (c : outParam Nat) : Prop where
  h : a + b = c
instance Plus.zero {b : Nat} : Plus 0 b b := ⟨Nat.zero_add b⟩
instance Plus.succ {a b c : Nat} [h : Plus a b c] : Plus (a + 1) b (c + 1) := ⟨by have := h.h; omega⟩
instance {α β : Type} {R₁ : Ty α} {R₂ : Ty β} {s t u : Nat} [h : Ty.Sz R₁ s] [k : Ty.Sz R₂ t] [p : Plus s t u] : Ty.Sz (Ty.pair R₁ R₂) u := ⟨by
  obtain ⟨rfl, h1⟩ := h.h
  obtain ⟨rfl, k1⟩ := k.h
  exact ⟨p.h, by have := p.h; omega⟩⟩
/-- A field of such data, from a cell on. -/
class NatSub (s o : Nat) (k : outParam Nat) : Prop where
  h : o = k + s
instance NatSub.zero {k : Nat} : NatSub 0 k k := ⟨rfl⟩
instance NatSub.succ {s o k : Nat} [h : NatSub s o k] : NatSub (s + 1) (o + 1) k := ⟨by have := h.h; omega⟩
class Fld {α : Type} (R : Ty α) (o : Nat) (a : α) {β : outParam Type} (R' : outParam (Ty β)) (b : outParam β) : Prop where
  h : ∀ v h, R.rel a v h → ∃ x, R'.rel b x h ∧ ∀ (j : Nat) c, x.cells.toList[j]? = some c → v.cells.toList[o + j]? = some c
instance Fld.last {α : Type} {R : Ty α} {a : α} : Fld (Ty.rec1 R) 0 a R a := ⟨by
  rintro v h ⟨x, rfl, hx⟩
  exact ⟨x, hx, fun j c hc => by rw [Nat.zero_add]; exact hc⟩⟩
instance Fld.snd {α β γ : Type} {R₁ : Ty α} {R₂ : Ty β} {R' : Ty γ} {a : α × β} {b : γ} {o s k : Nat} [h : Ty.Sz R₁ s] [n : NatSub s o k] [f : Fld R₂ k a.2 R' b] : Fld (Ty.pair R₁ R₂) o a R' b := ⟨by
  rintro v hp ⟨x, y, rfl, hx, hy⟩
  obtain ⟨rfl, _⟩ := h.h
  obtain ⟨z, hz, hc⟩ := f.h y hp hy
  refine ⟨z, hz, fun j c hj => ?_⟩
  rw [agg_cells, Array.toList_append, n.h, List.getElem?_append_right (by rw [R₁.size hx]; omega), R₁.size hx]
  rw [show k + R₁.sz + j - R₁.sz = k + j from by omega]
  exact hc j c hj⟩
instance Fld.fst {α β : Type} {R₁ : Ty α} {R₂ : Ty β} {a : α × β} : Fld (Ty.pair R₁ R₂) 0 a R₁ a.1 := ⟨by
  rintro v h ⟨x, y, rfl, hx, hy⟩
  refine ⟨x, hx, fun j c hc => ?_⟩
  have : j < x.cells.toList.length := (List.getElem?_eq_some_iff.1 hc).1
  rw [agg_cells, Array.toList_append, Nat.zero_add, List.getElem?_append_left this]; exact hc⟩
instance Fld.fstLit {α β : Type} {R₁ : Ty α} {R₂ : Ty β} {a : α} {b : β} : Fld (Ty.pair R₁ R₂) 0 (a, b) R₁ a := ⟨(Fld.fst (R₁ := R₁) (R₂ := R₂) (a := (a, b))).h⟩
instance Fld.sndLit {α β γ : Type} {R₁ : Ty α} {R₂ : Ty β} {R' : Ty γ} {a₁ : α} {a₂ : β} {b : γ} {o s k : Nat} [h : Ty.Sz R₁ s] [n : NatSub s o k] [f : Fld R₂ k a₂ R' b] : Fld (Ty.pair R₁ R₂) o (a₁, a₂) R' b :=
  have : Fld R₂ k (a₁, a₂).2 R' b := f
  Fld.snd

section
variable {P : Program} {n : Nat} {Q : Exit → Act → World → Prop} {B : Base} {env : Env} {G : List Pers} {S S' : List Res} {L rest : List Oper}
variable {d d1 d2 : Nat} {ty : TypeId} {pos : String} {af : Array Edge} {x y z : Operand} {T T' E E' : TypeId} {u v v' : Value} {α β : Type} {R : Ty α} {R' : Ty β} {l l' : List α} {a : α} {b : β}

theorem run_fieldAt_none {w : World} {b o f k : Nat} (hf : fieldOff P T f = some k) : (Instr.fieldAt T (.pointer (some ⟨b, o, none⟩)) f).run P w = .ok (.pointer (some ⟨b, o + k, none⟩)) w := by
  unfold fieldOff at hf
  cases hu : P.underlying T with
  | none => rw [hu] at hf; cases hf
  | some dd =>
    rw [hu] at hf
    cases dd <;> try (cases hf; done)
    rename_i fs
    dsimp only at hf
    cases hfs : fs[f]? with
    | none => rw [hfs] at hf; cases hf
    | some fl =>
      rw [hfs] at hf
      dsimp only at hf
      cases hs : tsz P fl.type with
      | none => rw [hs] at hf; cases hf
      | some s =>
        rw [hs] at hf
        cases s with
        | zero => cases hf
        | succ s =>
          cases hf
          simp [Instr.fieldAt, run_underlying hu, hfs, Instr.sureAddr, fieldPlace, run_sizeOf_of w hs, Addr.add_none]
/-- A field's address, of data that are known for good. -/
theorem WL.fad {f k : Nat} (hx : env.ev x = some v) [hp : PC v G R a] [hf : FO P T f k] [fl : Fld R k a R' b] (hd : Nat.blt d n = true) (h : ∀ p, WL P n L Q rest B ((d, p) :: env) (pcell R' b p :: G) S) :
    WL P n L Q (⟨some d, .fieldAddr T x f, ty, pos, af, none⟩ :: rest) B env G S := by
  refine ⟨fun ac w sa sw => ?_⟩
  obtain ⟨m, k', dj, hm', hk, hg, hs1⟩ := sw.heap
  obtain ⟨bb, o, cs, E, fr, u, rfl, hb, hr, hc⟩ := hg _ hp.h
  obtain ⟨z, hz, hcz⟩ := fl.h u m hr
  refine wpList_plain rfl fun K hK => ?_
  unfold Oper.wp
  have r1 : (execOp ac.eval ⟨some d, .fieldAddr T x f, ty, pos, af, none⟩).run P w = .ok (.value (.pointer (some ⟨bb, o + k, none⟩))) w := by
    simp [execOp, sa.ev hx, run_fieldAt_none hf.h]
  rw [r1, Oper.upon_value]
  refine hK _ _ ((h _).go _ _ (sa.put hd _) ⟨sw.os, sw.tape, sw.output, sw.size, m, k', dj, hm', hk, fun g hgg => ?_, hs1⟩)
  cases hgg with
  | head => exact ⟨bb, o + k, cs, E, fr, z, rfl, hb, hz, fun j c hj => by rw [Nat.add_assoc]; exact hc _ _ (hcz j c hj)⟩
  | tail _ hgg => exact hg g hgg
theorem WL.nilC (hx : env.ev x = some v) [hp : PC v G R a] (hd : Nat.blt d n = true) (h : WL P n L Q rest B ((d, v) :: env) G S) :
    WL P n L Q (⟨some d, .nilCheck x, ty, pos, af, none⟩ :: rest) B env G S :=
  .val rfl rfl hd (fun ac w sa sw => by
    obtain ⟨m, k', dj, hm', hk, hg, hs1⟩ := sw.heap
    obtain ⟨bb, o, cs, E, fr, u, rfl, hb, hr, hc⟩ := hg _ hp.h
    simp [execOp, sa.ev hx]) h

/-! ### A field of a value -/
theorem WL.fld {f k t s : Nat} {ag : Bool} (hx : env.ev x = some v) [hp : Rd v G R a] [ht : FT P T f t k] [hs : TS P t s] [hA : TA P t ag] [fl : Fld R k a R' b] (e : (Nat.beq s R'.sz && (ag == R'.agg) && R.agg) = true) (hd : Nat.blt d n = true) (h : ∀ u, WL P n L Q rest B ((d, u) :: env) (rd R' b u :: G) S) :
    WL P n L Q (⟨some d, .field T x f, ty, pos, af, none⟩ :: rest) B env G S := by
  simp only [Bool.and_eq_true, beq_iff_eq, Nat.beq_eq] at e
  obtain ⟨⟨e1, e2⟩, e3⟩ := e
  refine ⟨fun ac w sa sw => ?_⟩
  obtain ⟨m, k', dj, hm', hk, hg, hs1⟩ := sw.heap
  have hr := hg _ hp.h
  have hform := R.form hr
  rw [e3] at hform
  obtain ⟨cs, rfl⟩ := (by simpa using hform : ∃ cs, v = .agg cs)
  obtain ⟨z, hz, hcz⟩ := fl.h _ m hr
  have hzsz := R'.size hz
  have hzf := R'.form hz
  have htt := ht.h
  unfold fieldTy at htt
  cases hu : P.underlying T with
  | none => rw [hu] at htt; cases htt
  | some dd =>
    rw [hu] at htt
    cases dd <;> try (cases htt; done)
    rename_i fs
    dsimp only at htt
    cases hfs : fs[f]? with
    | none => rw [hfs] at htt; cases htt
    | some ff =>
      rw [hfs] at htt
      simp only [Option.map_some, Option.some.injEq, Prod.mk.injEq] at htt
      obtain ⟨rfl, rfl⟩ := htt
      refine wpList_plain rfl fun K hK => ?_
      unfold Oper.wp
      have r1 : (execOp ac.eval ⟨some d, .field T x f, ty, pos, af, none⟩).run P w = .ok (.value z) w := by
        have hp' : (part ff.type cs ff.offset).run P w = .ok z w := by
          have hag := hA.h
          cases hb : R'.agg with
          | true =>
            rw [hb] at hzf e2
            obtain ⟨zs, rfl⟩ := (by simpa using hzf : ∃ cs, z = .agg cs)
            rw [e2] at hag
            have e4 : cs.extract ff.offset (ff.offset + s) = zs := by
              apply Array.ext_getElem?
              intro j
              rw [Array.getElem?_extract]
              simp only [agg_cells] at hzsz hcz
              by_cases hj : j < s
              · have hj' : j < zs.toList.length := by omega
                have := hcz j zs.toList[j] (List.getElem?_eq_getElem hj')
                simp only [Array.getElem?_toList] at this
                have h5 : zs[j]? = some zs.toList[j] := by rw [← Array.getElem?_toList]; exact List.getElem?_eq_getElem hj'
                have h6 : ff.offset + j < cs.size := (Array.getElem?_eq_some_iff.1 this).1
                rw [h5, if_pos (by omega), this]
              · have h5 : zs[j]? = none := by rw [Array.getElem?_eq_none_iff]; simp at hzsz; omega
                rw [h5, if_neg (by omega)]
            simp [part, run_isAgg_of w hag, run_sizeOf_of w hs.h, e4]
          | false =>
            rw [hb] at hzf e2
            rw [e2] at hag
            have h1 : z.oneCell' = true := by simpa using hzf
            have := hcz 0 z (by rw [one_cells h1]; rfl)
            simp only [agg_cells, Array.getElem?_toList, Nat.add_zero] at this
            simp [part, run_isAgg_of w hag, this]
        simp [execOp, sa.ev hx, Instr.field, run_underlying hu, hfs, asAgg, hp']
      rw [r1, Oper.upon_value]
      refine hK _ _ ((h z).go _ _ (sa.put hd _) ⟨sw.os, sw.tape, sw.output, sw.size, m, k', dj, hm', hk, fun g hgg => ?_, hs1⟩)
      cases hgg with
      | head => exact hz
      | tail _ hgg => exact hg g hgg
theorem WL.fldI {f k t s : Nat} {ag : Bool} {g : β → Value} {ok : β → Prop} (hx : env.ev x = some v) [hp : Rd v G R a] [ht : FT P T f t k] [hs : TS P t s] [hA : TA P t ag] [fl : Fld R k a R' b] [hI : R'.Is g ok] (e : (Nat.beq s R'.sz && (ag == R'.agg) && R.agg) = true) (hd : Nat.blt d n = true) (h : ok b → WL P n L Q rest B ((d, g b) :: env) G S) :
    WL P n L Q (⟨some d, .field T x f, ty, pos, af, none⟩ :: rest) B env G S := by
  refine WL.fld hx e hd (fun u => ⟨fun ac w sa sw => ?_⟩)
  have hu : u = g b ∧ ok b := sw.pure fun m hm => (Ty.Is.iff _ _ _).1 (hm (rd R' b u) (.head _))
  obtain ⟨rfl, ho⟩ := hu
  exact (h ho).go ac w sa (sw.sub fun g hg => .tail _ hg)

/-! ### A string to bytes -/
theorem WL.sb {src : TypeId} {D : TypeDesc} {l : List UInt8} (hx : env.ev x = some (.string (bs l))) [hs : TU P src D] [hT : TU P T (.slice E)] [hE : TU P E (.int .u8)] (hl : l.length ≤ 9223372036854775807) (hd : Nat.blt d n = true)
    (h : ∀ u, WL P n L Q rest B ((d, u) :: env) (rd (Ty.sl Ty.u8) l u :: G) S) : WL P n L Q (⟨some d, .convert src T x, ty, pos, af, none⟩ :: rest) B env G S := by
  refine ⟨fun ac w sa sw => ?_⟩
  have r := Go.Lib.run_convert_string_bytes (P := P) w src T E (bs l) hs.h hT.h hE.h
  rw [bs_size] at r
  refine wpList_plain rfl fun K hK => ?_
  unfold Oper.wp
  have r1 : (execOp ac.eval ⟨some d, .convert src T x, ty, pos, af, none⟩).run P w = .ok (.value (.slice (some ⟨w.heap.size, 0, none⟩) l.length (grownCap w l.length 0 E))) (Go.Lib.bytesWorld w E (bs l)) := by
    simp [execOp, sa.ev hx, r]
  rw [r1, Oper.upon_value]
  refine hK _ _ ((h _).go _ _ (sa.put hd _) ?_)
  have h1 := (sw.drew.alloc (.cells (Go.Lib.bytesCells w E (bs l)) E)).set (w' := Go.Lib.bytesWorld w E (bs l)) (o' := .cells (Go.Lib.bytesCells w E (bs l)) E ((Go.Lib.bytesCells w E (bs l)).size, (Go.Lib.bytesCells w E (bs l)).size + 1))
    rfl rfl rfl (by rw [Go.Lib.bytesWorld_size]; simp [World.alloc, World.drew, -World.alloc_eq, -World.drew_eq]) (Go.Lib.bytesWorld_at_new w E (bs l)) (fun c hc hne => by
      have hc' : c < w.heap.size := by simp [World.alloc, World.drew, -World.alloc_eq, -World.drew_eq] at hc; have : w.drew.heap.size = w.heap.size := rfl; omega
      rw [Go.Lib.bytesWorld_at_old w E (bs l) c hc']
      simp [World.alloc, World.drew, -World.alloc_eq, -World.drew_eq, Array.getElem?_push]; omega)
  refine h1.publish fun k hk => ?_
  have hk' : k = Hp.one w.drew.heap.size _ := hk
  subst hk'
  have hcm : grownCap w l.length 0 E ≤ maxLen := grownCap_le_maxLen _ _ _ _ (by simp only [maxLen]; omega)
  have hge : l.length ≤ grownCap w l.length 0 E := grownCap_ge _ _ _ _
  refine .inr ⟨w.heap.size, 0, _, Go.Lib.bytesCells w E (bs l), E, ((Go.Lib.bytesCells w E (bs l)).size, (Go.Lib.bytesCells w E (bs l)).size + 1), l.map fun b => .int .u8 (b.toNat : Int), rfl, by simp [Hp.one, World.drew, -World.drew_eq], hge, hcm, AllR.is.2 ⟨rfl, fun _ _ => trivial⟩, ?_⟩
  rw [List.drop_zero, flat_one (fun b : UInt8 => Value.int .u8 (b.toNat : Int)) (fun _ => rfl)]
  simp only [Go.Lib.bytesCells, bs, Array.toList_append]
  rw [show Ty.u8.sz = 1 from rfl, Nat.mul_one, List.take_append_of_le_length (by simp)]
  simp
  exact List.take_of_length_le (by simp)

/-! ### Nil, and what isn't -/
instance {p : Addr} [hT : TU P T (.pointer E)] : BinC P .eql T (.pointer (some p)) (.pointer none) (.bool false) := ⟨fun x y w => by
  have hp : P.pointee T = E := by simp [Program.pointee, hT.h]
  simp [eqGuard_at_pointer, run_eql_pointer_nil w T (some p) (by rw [hp]; exact hT.h)]⟩
instance [hT : TU P T (.pointer E)] : BinC P .eql T (.pointer none) (.pointer none) (.bool true) := ⟨fun x y w => by
  have hp : P.pointee T = E := by simp [Program.pointee, hT.h]
  simp [eqGuard_at_pointer, run_eql_pointer_nil w T none (by rw [hp]; exact hT.h)]⟩
instance {p : Addr} [hT : TU P T (.pointer E)] : BinC P .neq T (.pointer (some p)) (.pointer none) (.bool true) := ⟨fun x y w => by
  have hp : P.pointee T = E := by simp [Program.pointee, hT.h]
  simp [eqGuard_at_pointer, run_neq_pointer_nil w T (some p) (by rw [hp]; exact hT.h)]⟩
instance [hT : TU P T (.pointer E)] : BinC P .neq T (.pointer none) (.pointer none) (.bool false) := ⟨fun x y w => by
  have hp : P.pointee T = E := by simp [Program.pointee, hT.h]
  simp [eqGuard_at_pointer, run_neq_pointer_nil w T none (by rw [hp]; exact hT.h)]⟩
theorem run_equalIn_func {w : World} {T : TypeId} (h : isFuncT P T = true) (d : Nat) (f : Fn) (us cs : Array Value) : (Op.equalIn (d + 1) T (.func f us cs) .nilFunc).run P w = .ok false w ∧ (Op.equalIn (d + 1) T .nilFunc .nilFunc).run P w = .ok true w := by
  unfold isFuncT at h
  split at h
  · rename_i ps rs v he
    constructor <;> simp [Op.equalIn, run_underlying he]
  · cases h
theorem run_equal_func {w : World} {T : TypeId} (h : isFuncT P T = true) (f : Fn) (us cs : Array Value) : (Op.equal T (.func f us cs) .nilFunc).run P w = .ok false w := (run_equalIn_func h 9999 f us cs).1
theorem run_equal_nilFunc {w : World} {T : TypeId} (h : isFuncT P T = true) : (Op.equal T .nilFunc .nilFunc).run P w = .ok true w := (run_equalIn_func h 9999 (.func 0) #[] #[]).2
instance {f : Fn} {us cs : Array Value} [hT : TF P T] : BinC P .eql T (.func f us cs) .nilFunc (.bool false) := ⟨fun x y w => by
  simp [eqGuard, binOp, run_equal_func hT.h f us cs]⟩
instance [hT : TF P T] : BinC P .eql T .nilFunc .nilFunc (.bool true) := ⟨fun x y w => by
  simp [eqGuard, binOp, run_equal_nilFunc hT.h]⟩
def isNilSl : Value → Bool
  | .slice none _ _ => true
  | _ => false
theorem BinV.rn [hm : RdSl u G R l] [hT : TU P T (.slice E)] (h : (isNilSl u = true → l = []) → WL P n L Q rest B ((d, .bool (isNilSl u)) :: env) G S) : BinV P n L Q rest B env G S d .eql T u (.slice none 0 0) :=
  ⟨_, fun x y w sw => by
    obtain ⟨p, c, rfl, _⟩ := sw.sl_shape hm.h
    have : isNilSl (.slice p l.length c) = p.isNone := by cases p <;> rfl
    simp only [eqGuard_at_slice, Sem.run_bind, Sem.run_pure, Result.andThen_ok]
    simp only [binOp]
    simp [run_equal_slice_nil w T E p l.length c hT.h, this], .ex (fun w sw hn => by
    obtain ⟨p, c, rfl, _, _, h0⟩ := sw.sl_shape hm.h
    cases p with
    | none => exact (h0 rfl).1
    | some p => cases hn) h⟩
theorem BinV.rnn [hm : RdSl u G R l] [hT : TU P T (.slice E)] (h : (isNilSl u = true → l = []) → WL P n L Q rest B ((d, .bool (!isNilSl u)) :: env) G S) : BinV P n L Q rest B env G S d .neq T u (.slice none 0 0) :=
  ⟨_, fun x y w sw => by
    obtain ⟨p, c, rfl, _⟩ := sw.sl_shape hm.h
    have : isNilSl (.slice p l.length c) = p.isNone := by cases p <;> rfl
    simp [eqGuard_at_slice, run_neq_slice_nil w T E p l.length c hT.h, this], .ex (fun w sw hn => by
    obtain ⟨p, c, rfl, _, _, h0⟩ := sw.sl_shape hm.h
    cases p with
    | none => exact (h0 rfl).1
    | some p => cases hn) h⟩

/-! ### A value of several parts is built -/
def putAt : List Value → Nat → List Value → List Value
  | x :: r, 0, c :: cs => c :: putAt r 0 cs
  | r, 0, [] => r
  | [], _, _ => []
  | x :: r, o + 1, cs => x :: putAt r o cs
theorem putAt_length : ∀ (l : List Value) (o : Nat) (c : List Value), (putAt l o c).length = l.length
  | [], 0, [] => rfl
  | [], 0, _ :: _ => rfl
  | [], _ + 1, _ => rfl
  | x :: r, 0, [] => rfl
  | x :: r, 0, c :: cs => by simp [putAt, putAt_length r 0 cs]
  | x :: r, o + 1, cs => by simp [putAt, putAt_length r o cs]
theorem putAt_get : ∀ (l : List Value) (o : Nat) (c : List Value), o + c.length ≤ l.length → ∀ i : Nat, (putAt l o c)[i]? = if o ≤ i ∧ i < o + c.length then c[i - o]? else l[i]?
  | [], 0, [], _, i => by simp [putAt]
  | [], 0, _ :: _, h, _ => by simp at h
  | [], _ + 1, _, h, _ => by simp at h
  | x :: r, 0, [], _, i => by simp [putAt]
  | x :: r, 0, c :: cs, h, i => by
    cases i with
    | zero => simp [putAt]
    | succ i =>
      have := putAt_get r 0 cs (by simp at h ⊢; omega) i
      simp only [putAt, List.getElem?_cons_succ, this]
      simp
  | x :: r, o + 1, cs, h, i => by
    cases i with
    | zero => simp [putAt]
    | succ i =>
      have := putAt_get r o cs (by simp at h ⊢; omega) i
      simp only [putAt, List.getElem?_cons_succ, this]
      have e : i + 1 - (o + 1) = i - o := by omega
      rw [e]
      congr 1
      simp; omega
class FN (fs : List (TypeId × Nat × Nat)) (i : Nat) (o sz : outParam Nat) : Prop where
  h : ∃ t, fs[i]? = some (t, o, sz)
instance FN.zero {t o sz : Nat} {r : List (TypeId × Nat × Nat)} : FN ((t, o, sz) :: r) 0 o sz := ⟨t, rfl⟩
instance FN.succ {f : TypeId × Nat × Nat} {r : List (TypeId × Nat × Nat)} {i o sz : Nat} [h : FN r i o sz] : FN (f :: r) (i + 1) o sz := ⟨by simpa using h.h⟩
theorem lset_putAt {l c : List Value} {o : Nat} (h : o + c.length ≤ l.length) : lset l o c = putAt l o c := by
  apply List.ext_getElem?
  intro i
  rw [putAt_get l o c h, lset_eq _ _ _ h]
  by_cases h1 : i < o
  · rw [if_neg (by omega), List.append_assoc, List.getElem?_append_left (by simp; omega), List.getElem?_take, if_pos h1]
  · by_cases h2 : i < o + c.length
    · rw [if_pos ⟨by omega, h2⟩, List.append_assoc, List.getElem?_append_right (by simp; omega), List.getElem?_append_left (by simp; omega)]
      congr 1; simp; omega
    · rw [if_neg (by omega), List.getElem?_append_right (by simp; omega), List.getElem?_drop]
      congr 1; simp; omega
def fitsB (fs : List (TypeId × Nat × Nat)) (m : Nat) (ops : List (Nat × Operand)) : Bool := ops.all fun p =>
  match fs[p.1]? with
  | some (_, o, s) => Nat.ble (o + s) m
  | none => false
class PutC (G : List Pers) (S : List Res) (fs : List (TypeId × Nat × Nat)) (zs : List Value) (ops : List (Nat × Operand)) (vs : List Value) (cs : outParam (List Value)) : Prop where
  h : ∀ B w, Sat B G S w → ∀ places : Array (Nat × Nat), (∀ (i : Nat) (t o s : Nat), fs[i]? = some (t, o, s) → places[i]? = some (o, s)) → fitsB fs zs.length ops = true → Instr.fill (places[·]?) zs.toArray ((ops.map (·.1)).zip vs) = some cs.toArray
instance PutC.nil {fs : List (TypeId × Nat × Nat)} {zs vs : List Value} : PutC G S fs zs [] vs zs := ⟨fun _ _ _ _ _ _ => by simp [Instr.fill]⟩
instance PutC.cons {fs : List (TypeId × Nat × Nat)} {zs vs c cs : List Value} {i o s : Nat} {x : Operand} {ops : List (Nat × Operand)} {v : Value} [f : FN fs i o s] [l : LenC G S v s c] [p : PutC G S fs (putAt zs o c) ops vs cs] : PutC G S fs zs ((i, x) :: ops) (v :: vs) cs := ⟨fun B w sw places hp hf => by
  obtain ⟨t, ht⟩ := f.h
  obtain ⟨h1, h2⟩ := l.h B w sw
  simp only [fitsB, List.all_cons, Bool.and_eq_true, ht, Nat.ble_eq] at hf
  have hlen : v.cells.size = s := by rw [← h2, ← h1]; simp
  simp only [List.map_cons, List.zip_cons_cons, Instr.fill, hp i t o s ht]
  rw [if_neg (by simp [hlen]; omega), ← Array.foldl_toList, Array.toList_zipIdx, fold_set, h1, Nat.add_zero]
  rw [show (zs.toArray).toList = zs from rfl, lset_putAt (by omega)]
  exact p.h B w sw places hp (by rw [putAt_length]; exact hf.2)⟩
theorem WL.bld {ops : List (Nat × Operand)} {fs : List (TypeId × Nat × Nat)} {vs zs cs : List Value} (hx : env.evs (ops.map (·.2)) = some vs) [hF : SF P T fs] [hz : TZ P T zs] [hp : PutC G S fs zs ops vs cs] (hok : fitsB fs zs.length ops = true) (hd : Nat.blt d n = true)
    (h : WL P n L Q rest B ((d, .agg cs.toArray) :: env) G S) : WL P n L Q (⟨some d, .build T ops.toArray, ty, pos, af, none⟩ :: rest) B env G S := by
  refine .val rfl rfl hd (fun ac w sa sw => ?_) h
  obtain ⟨i, z, hi, hzz, hzc⟩ := info_of_tz hz.h
  have hF := hF.h
  unfold structOf at hF
  cases hu : P.underlying T with
  | none => rw [hu] at hF; cases hF
  | some dd =>
    rw [hu] at hF
    cases dd <;> try (cases hF; done)
    rename_i fields
    dsimp only at hF
    have hev := sa.evs hx
    have hpl : ∀ (l : List Field) (r : List (TypeId × Nat × Nat)), l.mapM (fun f => (P.info? f.type).map fun i => (f.type, f.offset, i.size)) = some r → l.mapM (fun f => (P.info? f.type).map fun i => (f.offset, i.size)) = some (r.map (·.2)) := by
      intro l
      induction l with
      | nil => intro r h; simp at h; subst h; simp
      | cons f l ih =>
        intro r h
        rw [List.mapM_cons] at h ⊢
        cases hi : P.info? f.type with
        | none => simp [hi] at h
        | some i =>
          cases hl : l.mapM (fun f => (P.info? f.type).map fun i => (f.type, f.offset, i.size)) with
          | none => simp [hi, hl] at h
          | some r' =>
            simp [hi, hl] at h
            subst h
            simp [ih r' hl]
    have hb : P.built T ((ops.map (·.1)).zip vs) = some cs.toArray := by
      unfold Program.built
      simp only [hi, hu, hzz, hpl _ _ hF]
      have := hp.h _ w sw (fs.map (·.2)).toArray (fun i t o s h => by simp [h]) hok
      rw [← hzc] at this
      simpa using this
    have e : (ops.map fun p => (p.1, ac.eval p.2)) = (ops.map (·.1)).zip vs := by
      rw [← hev]
      clear hx hp hok hb hev
      induction ops with
      | nil => rfl
      | cons p ops ih => simp [ih]
    have r := run_build (P := P) w T ((ops.map (·.1)).zip vs).toArray cs.toArray (by simpa using hb)
    simp only [execOp, List.map_toArray]
    rw [Sem.run_bind]
    have e' : (ops.map fun x : Nat × Operand => match x with | (i, x) => (i, ac.eval x)) = (ops.map (·.1)).zip vs := e
    rw [e', r]; rfl

/-! ### Arguments that are structs -/
class ReadsF (N M : Nat) (P : Program) (fs : List (TypeId × Nat × Nat)) (o : outParam Nat) {α : Type} (R : Ty α) : Prop where
  read : ∀ {H : Type} {enc : TypeId × Value → H} {w : World} {base : Nat} {spare : Nat → Bool} {held : Bool} {fuel : Nat} {cs : List Value}, fuel ≤ N →
    (∀ (i : Nat) (t o s : Nat), fs[i]? = some (t, o, s) → ∃ x, DataW.trod enc P w base spare held fuel t ((cs.drop o).take s) = some x ∧ wt x.1 ≤ M) → ∃ (v : Value) (a : α), v.cells.toList = (cs.drop o).take R.sz ∧ R.rel a v (hpOf w)
instance ReadsF.one {N M t o s : Nat} {α : Type} {R : Ty α} [r : ReadsN N M P t R] [hs : Ty.Sz R s] : ReadsF N M P [(t, o, s)] o (Ty.rec1 R) := ⟨fun hN h => by
  obtain ⟨x, hx, hw⟩ := h 0 t o s rfl
  obtain ⟨v, a, hv, ha⟩ := r.read hN hx hw
  obtain ⟨rfl, _⟩ := hs.h
  exact ⟨.agg v.cells, a, hv, v, rfl, ha⟩⟩
instance ReadsF.cons {N M t o s o₂ : Nat} {fs : List (TypeId × Nat × Nat)} {α β : Type} {R : Ty α} {R₂ : Ty β} [r : ReadsN N M P t R] [hs : Ty.Sz R s] [k : ReadsF N M P fs o₂ R₂] [hq : NatSub s o₂ o] : ReadsF N M P ((t, o, s) :: fs) o (Ty.pair R R₂) := ⟨fun {H enc w base spare held fuel cs} hN h => by
  obtain ⟨x, hx, hw⟩ := h 0 t o s rfl
  obtain ⟨v, a, hv, ha⟩ := r.read hN hx hw
  obtain ⟨v2, a2, hv2, ha2⟩ := k.read (fuel := fuel) (cs := cs) hN (fun i t o s hi => h (i + 1) t o s (by simpa using hi))
  obtain ⟨rfl, _⟩ := hs.h
  refine ⟨.agg (v.cells ++ v2.cells), (a, a2), ?_, v, v2, rfl, ha, ha2⟩
  rw [agg_cells, Array.toList_append, hv, hv2, hq.h]
  show _ = (cs.drop o).take (R.sz + R₂.sz)
  rw [List.take_add, List.drop_drop]⟩
theorem Reads.structS {N M : Nat} {fs : List (TypeId × Nat × Nat)} {s : Nat} {α : Type} {R : Ty α} [hF : SF P T fs] [k : ReadsF N M P fs 0 R] [hs : TS P T s] [hR : Ty.Sz R s] : ReadsN (N + 1) (M + 1) P T R := ⟨fun {H enc w base spare held fuel cs x} hN h hW => by
  have hF := hF.h
  unfold structOf at hF
  cases hu : P.underlying T with
  | none => rw [hu] at hF; cases hF
  | some dd =>
    rw [hu] at hF
    cases dd <;> try (cases hF; done)
    rename_i fields
    dsimp only at hF
    obtain ⟨xs, m, rfl, rfl, hl, hlen, hf⟩ := DataW.trod_struct hu h
    have hN' : m ≤ N := by omega
    have hget : ∀ (i t o s : Nat), fs[i]? = some (t, o, s) → ∃ f : Field, fields[i]? = some f ∧ f.type = t ∧ f.offset = o ∧ P.cellsOf t = s := by
      intro i t o s hi
      have h1 := mapM_some_length hF
      have hi' : i < fields.toList.length := by rw [← h1]; exact (List.getElem?_eq_some_iff.1 hi).1
      have h2 := mapM_some_get hF i fields.toList[i] (List.getElem?_eq_getElem hi')
      rw [hi] at h2
      cases hin : P.info? fields.toList[i].type with
      | none => rw [hin] at h2; cases h2
      | some inf =>
        rw [hin] at h2
        simp only [Option.map_some, Option.some.injEq, Prod.mk.injEq] at h2
        obtain ⟨rfl, rfl, rfl⟩ := h2
        exact ⟨fields.toList[i], by rw [← Array.getElem?_toList]; exact List.getElem?_eq_getElem hi', rfl, rfl, by unfold Program.cellsOf; rw [hin]; rfl⟩
    obtain ⟨v, a, hv, ha⟩ := k.read (enc := enc) (w := w) (base := base) (spare := spare) (held := held) (fuel := m) (cs := cs) hN' (fun i t o s hi => by
      obtain ⟨f, h1, rfl, rfl, rfl⟩ := hget i t o s hi
      have h2 := hf i f h1
      have hix : i < xs.length := by rw [hlen]; exact (Array.getElem?_eq_some_iff.1 h1).1
      rw [List.getElem?_eq_getElem hix] at h2
      exact ⟨_, h2, Nat.le_of_succ_le_succ (Nat.le_trans (wt_agg (List.getElem_mem hix)) hW)⟩)
    obtain ⟨e, _⟩ := hR.h
    have hc : P.cellsOf T = s := by
      have := hs.h
      unfold tsz at this
      unfold Program.cellsOf
      rw [this]; rfl
    refine ⟨v, a, ?_, ha⟩
    rw [hv, List.drop_zero, e, ← hc, ← hl, List.take_length]⟩
instance Reads.struct {N M : Nat} {fs : List (TypeId × Nat × Nat)} {s : Nat} {α : Type} {R : Ty α} [hF : SF P T fs] [k : ReadsF N M P fs 0 R] [hs : TS P T s] [hR : Ty.Sz R s] : ReadsN N M P T R := ⟨fun hN h hW => (Reads.structS (N := N) (M := M)).read (Nat.le_succ_of_le hN) h (Nat.le_succ_of_le hW)⟩
end
end Go.Qd
