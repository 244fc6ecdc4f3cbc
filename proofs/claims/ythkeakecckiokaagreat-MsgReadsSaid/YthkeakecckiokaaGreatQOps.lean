import Derived.Test.YthkeakecckiokaaGreatQCore
namespace Go.Qd
open Go

abbrev uV (x : Nat) : Value := .int .u64 (x : Int)
abbrev iV (x : Int) : Value := .int .i64 x
/-! ### What the program's tables say of a type -/
def aggT (P : Program) (T : TypeId) : Option Bool :=
  match P.underlying T with
  | none => none
  | some (.struct _) => some true
  | some (.array _ _) => some true
  | some _ => some false
def tsz (P : Program) (T : TypeId) : Option Nat := (P.info? T).map (·.size)
def tby (P : Program) (T : TypeId) : Option Nat := (P.info? T).map (·.bytes)
def tz (P : Program) (T : TypeId) : Option (List Value) := ((P.info? T).bind (·.zero)).map fun v => v.cells.toList
def fieldOff (P : Program) (T : TypeId) (f : Nat) : Option Nat :=
  match P.underlying T with
  | some (.struct fs) => match fs[f]? with
    | some fl => match tsz P fl.type with
      | some (_ + 1) => some fl.offset
      | _ => none
    | none => none
  | _ => none

class Mixed (P : Program) : Prop where
  h : P.follows .mixedOrders = true
class TU (P : Program) (T : TypeId) (d : outParam TypeDesc) : Prop where
  h : P.underlying T = some d
def isFuncT (P : Program) (T : TypeId) : Bool := match P.underlying T with
  | some (.func _ _ _) => true
  | _ => false
/-- A function's type. -/
class TF (P : Program) (T : TypeId) : Prop where
  h : isFuncT P T = true
class TS (P : Program) (T : TypeId) (s : outParam Nat) : Prop where
  h : tsz P T = some s
class TB (P : Program) (T : TypeId) (s : outParam Nat) : Prop where
  h : tby P T = some s
class TA (P : Program) (T : TypeId) (s : outParam Bool) : Prop where
  h : aggT P T = some s
class TZ (P : Program) (T : TypeId) (s : outParam (List Value)) : Prop where
  h : tz P T = some s
class FO (P : Program) (T : TypeId) (f : Nat) (k : outParam Nat) : Prop where
  h : fieldOff P T f = some k
def fieldTy (P : Program) (T : TypeId) (f : Nat) : Option (TypeId × Nat) :=
  match P.underlying T with
  | some (.struct fs) => (fs[f]?).map fun fl => (fl.type, fl.offset)
  | _ => none
def structOf (P : Program) (T : TypeId) : Option (List (TypeId × Nat × Nat)) :=
  match P.underlying T with
  | some (.struct fs) => fs.toList.mapM fun f => (P.info? f.type).map fun i => (f.type, f.offset, i.size)
  | _ => none
/-- A struct's fields: type, offset, size. -/
class SF (P : Program) (T : TypeId) (fs : outParam (List (TypeId × Nat × Nat))) : Prop where
  h : structOf P T = some fs
class FT (P : Program) (T : TypeId) (f : Nat) (t k : outParam Nat) : Prop where
  h : fieldTy P T f = some (t, k)

/-- Two values of this type may be compared, field by field. -/
def eqOK (P : Program) (T : TypeId) : Bool :=
  match P.underlying T with
  | some (.struct fs) => fs.all (fun f => f.name != "_") && !P.stoodInHeld T && !P.eqGuardType P.depth T
  | some (.array _ _) => !P.eqGuardType P.depth T
  | _ => false
class EQT (P : Program) (T : TypeId) : Prop where
  h : eqOK P T = true

theorem run_equalIn_bool {P : Program} {T : TypeId} (hT : P.underlying T = some .bool) (q : Nat) (x y : Bool) (w : World) : (Op.equalIn (q + 1) T (.bool x) (.bool y)).run P w = .ok (x == y) w := by
  simp [Op.equalIn, run_underlying hT]
theorem run_eql_bool {P : Program} {T : TypeId} (hT : P.underlying T = some .bool) (x y : Bool) (w : World) : (binOp .eql T (.bool x) (.bool y)).run P w = .ok (.bool (x == y)) w := by
  simp only [binOp]
  simp [Op.equal, Op.maxDepth, run_equalIn_bool hT]
theorem run_neq_bool {P : Program} {T : TypeId} (hT : P.underlying T = some .bool) (x y : Bool) (w : World) : (binOp .neq T (.bool x) (.bool y)).run P w = .ok (.bool (!(x == y))) w := by
  simp only [binOp]
  simp [Op.equal, Op.maxDepth, run_equalIn_bool hT]
theorem wrap_i64 {x : Int} (h : -9223372036854775808 ≤ x ∧ x ≤ 9223372036854775807) : IntKind.i64.wrap x = x := by
  simp only [IntKind.wrap, IntKind.bits, IntKind.signed]
  have : (2 ^ 64 : Int) = 18446744073709551616 := by decide
  have : (2 ^ (64 - 1) : Int) = 9223372036854775808 := by decide
  simp only [*]
  simp only [Bool.true_and, decide_eq_true_eq, ge_iff_le]
  split <;> omega
theorem wrap_u64 (x : Int) : IntKind.u64.wrap x = x % 18446744073709551616 := by
  simp [IntKind.wrap, IntKind.bits, IntKind.signed]
theorem wrap_u32 (x : Int) : IntKind.u32.wrap x = x % 4294967296 := by
  simp [IntKind.wrap, IntKind.bits, IntKind.signed]
theorem wrap_u8 (x : Int) : IntKind.u8.wrap x = x % 256 := by
  simp [IntKind.wrap, IntKind.bits, IntKind.signed]
theorem wrap_u64' {x : Int} (h : 0 ≤ x ∧ x ≤ 18446744073709551615) : IntKind.u64.wrap x = x := by rw [wrap_u64]; omega
theorem wrap_u32' {x : Int} (h : 0 ≤ x ∧ x ≤ 4294967295) : IntKind.u32.wrap x = x := by rw [wrap_u32]; omega
theorem wrap_u8' {x : Int} (h : 0 ≤ x ∧ x ≤ 255) : IntKind.u8.wrap x = x := by rw [wrap_u8]; omega


section
variable {P : Program} {n : Nat} {Q : Exit → Act → World → Prop} {B : Base} {env : Env} {G : List Pers} {S : List Res} {L rest : List Oper}
variable {d : Nat} {ty : TypeId} {pos : String} {af : Array Edge} {x y z : Operand} {T T' : TypeId} {k : IntKind} {a b : Int} {u v v' : Value}

/-- An operation that answers a value and leaves the world alone. -/
theorem WL.val {o : Oper} (hdst : o.dst = some d) (hg : o.guard = none) (hd : Nat.blt d n = true)
    (hrun : ∀ a w, St n B.ds env a → Sat B G S w → (execOp a.eval o).run P w = .ok (.value v) w)
    (h : WL P n L Q rest B ((d, v) :: env) G S) : WL P n L Q (o :: rest) B env G S := by
  refine ⟨fun a w sa sw => wpList_plain hg fun K hK => ?_⟩
  unfold Oper.wp
  rw [hrun a w sa sw, Oper.upon_value, hdst]
  exact hK _ _ (h.go _ _ (sa.put hd v) sw)
/-- The same, where the world changes. -/
theorem WL.valW {o : Oper} {I : Type} {v : I → Value} {G' : I → List Pers} {S' : I → List Res} (hdst : o.dst = some d) (hg : o.guard = none) (hd : Nat.blt d n = true)
    (hrun : ∀ a w, St n B.ds env a → Sat B G S w → ∃ i w', (execOp a.eval o).run P w = .ok (.value (v i)) w' ∧ Sat B (G' i) (S' i) w')
    (h : ∀ i, WL P n L Q rest B ((d, v i) :: env) (G' i) (S' i)) : WL P n L Q (o :: rest) B env G S := by
  refine ⟨fun a w sa sw => wpList_plain hg fun K hK => ?_⟩
  unfold Oper.wp
  obtain ⟨i, w', hr, hs⟩ := hrun a w sa sw
  rw [hr, Oper.upon_value, hdst]
  exact hK _ _ ((h i).go _ _ (sa.put hd _) hs)
theorem WL.move (hx : env.ev x = some v) (hd : Nat.blt d n = true) (h : WL P n L Q rest B ((d, v) :: env) G S) :
    WL P n L Q (⟨some d, .move x, ty, pos, af, none⟩ :: rest) B env G S :=
  .val rfl rfl hd (fun a w sa _ => by simp [execOp, sa.ev hx]) h
theorem WL.assign (hx : env.ev x = some v) (hd : Nat.blt d n = true) (h : WL P n L Q rest B ((d, v) :: env) G S) :
    WL P n L Q (⟨some d, .assign x, ty, pos, af, none⟩ :: rest) B env G S :=
  .val rfl rfl hd (fun a w sa _ => by simp [execOp, sa.ev hx]) h

/-- What is left once an operation's answer is known: the rest of the list, the answer in its slot. -/
structure Ans (P : Program) (n : Nat) (L : List Oper) (Q : Exit → Act → World → Prop) (rest : List Oper) (B : Base) (env : Env) (G : List Pers) (S : List Res) (d : Nat) (r : World → Result Value) : Prop where
  go : ∃ v, (∀ w, Sat B G S w → r w = .ok v w) ∧ WL P n L Q rest B ((d, v) :: env) G S
theorem Ans.mk' {r : World → Result Value} (hr : ∀ w, r w = .ok v w) (h : WL P n L Q rest B ((d, v) :: env) G S) : Ans P n L Q rest B env G S d r := ⟨v, fun w _ => hr w, h⟩

structure PickV (P : Program) (n : Nat) (L : List Oper) (Q : Exit → Act → World → Prop) (rest : List Oper) (B : Base) (env : Env) (G : List Pers) (S : List Res) (d : Nat) (u v v' : Value) : Prop where
  go : ∃ b, u = .bool b ∧ WL P n L Q rest B ((d, if b then v else v') :: env) G S
theorem WL.pick (hc : env.ev x = some u) (hx : env.ev y = some v) (hy : env.ev z = some v') (hd : Nat.blt d n = true) (h : PickV P n L Q rest B env G S d u v v') :
    WL P n L Q (⟨some d, .pick x y z, ty, pos, af, none⟩ :: rest) B env G S := by
  obtain ⟨b, hu, hh⟩ := h.go
  subst hu
  exact .val rfl rfl hd (fun a w sa _ => by cases b <;> simp [execOp, sa.ev hc, sa.ev hx, sa.ev hy, asBool]) hh
theorem PickV.t (h : WL P n L Q rest B ((d, v) :: env) G S) : PickV P n L Q rest B env G S d (.bool true) v v' := ⟨true, rfl, h⟩
theorem PickV.f (h : WL P n L Q rest B ((d, v') :: env) G S) : PickV P n L Q rest B env G S d (.bool false) v v' := ⟨false, rfl, h⟩

structure BinV (P : Program) (n : Nat) (L : List Oper) (Q : Exit → Act → World → Prop) (rest : List Oper) (B : Base) (env : Env) (G : List Pers) (S : List Res) (d : Nat) (op : BinOp) (T : TypeId) (u v : Value) : Prop where
  go : ∃ r, (∀ x y w, Sat B G S w → (do eqGuard op T x y u v; binOp op T u v).run P w = .ok r w) ∧ WL P n L Q rest B ((d, r) :: env) G S
theorem WL.bin {op : BinOp} (hx : env.ev x = some u) (hy : env.ev y = some v) (hd : Nat.blt d n = true) (h : BinV P n L Q rest B env G S d op T u v) :
    WL P n L Q (⟨some d, .binOp op T x y T', ty, pos, af, none⟩ :: rest) B env G S := by
  obtain ⟨r, hr, hh⟩ := h.go
  refine .val rfl rfl hd (fun a w sa sw => ?_) hh
  have hq := hr x y w sw
  simp only [execOp, sa.ev hx, sa.ev hy, Sem.run_bind, Sem.run_pure] at hq ⊢
  rw [hq]; rfl
theorem BinV.i {op : BinOp} (hr : ∀ w, (binOp op T (.int k a) (.int k b)).run P w = .ok v w) (h : WL P n L Q rest B ((d, v) :: env) G S) :
    BinV P n L Q rest B env G S d op T (.int k a) (.int k b) := ⟨v, fun x y w _ => by simp [eqGuard_at_int, hr], h⟩
theorem BinV.add (h : WL P n L Q rest B ((d, .int k (k.wrap (a + b))) :: env) G S) : BinV P n L Q rest B env G S d .add T (.int k a) (.int k b) :=
  .i (fun w => by simp [binOp, Op.intArith]) h
theorem BinV.sub (h : WL P n L Q rest B ((d, .int k (k.wrap (a - b))) :: env) G S) : BinV P n L Q rest B env G S d .sub T (.int k a) (.int k b) :=
  .i (fun w => by simp [binOp, Op.intArith]) h
theorem BinV.mul (h : WL P n L Q rest B ((d, .int k (k.wrap (a * b))) :: env) G S) : BinV P n L Q rest B env G S d .mul T (.int k a) (.int k b) :=
  .i (fun w => by simp [binOp, Op.intArith]) h
theorem BinV.quoT (hr : b ≠ 0) (h : WL P n L Q rest B ((d, .int k (k.wrap (a.tdiv b))) :: env) G S) : BinV P n L Q rest B env G S d .quo T (.int k a) (.int k b) :=
  .i (fun w => by simp [binOp, Op.intDiv, hr]) h
theorem BinV.remT (hr : b ≠ 0) (h : WL P n L Q rest B ((d, .int k (a.tmod b)) :: env) G S) : BinV P n L Q rest B env G S d .rem T (.int k a) (.int k b) :=
  .i (fun w => by simp [binOp, Op.intDiv, hr]) h
theorem BinV.quo (hr : 0 ≤ a ∧ 0 < b) (h : WL P n L Q rest B ((d, .int k (k.wrap (a / b))) :: env) G S) : BinV P n L Q rest B env G S d .quo T (.int k a) (.int k b) :=
  .quoT (by omega) (by rw [Int.tdiv_eq_ediv_of_nonneg hr.1]; exact h)
theorem BinV.rem (hr : 0 ≤ a ∧ 0 < b) (h : WL P n L Q rest B ((d, .int k (a % b)) :: env) G S) : BinV P n L Q rest B env G S d .rem T (.int k a) (.int k b) :=
  .remT (by omega) (by rw [Int.tmod_eq_emod_of_nonneg hr.1]; exact h)
theorem quo_small {a b m : Int} (h0 : 0 ≤ a) (h1 : a ≤ m) (hb : 0 < b) : 0 ≤ a / b ∧ a / b ≤ m :=
  ⟨Int.ediv_nonneg h0 (by omega), Int.le_trans (Int.ediv_le_self b h0) h1⟩
theorem BinV.lss (h : WL P n L Q rest B ((d, .bool (decide (a < b))) :: env) G S) : BinV P n L Q rest B env G S d .lss T (.int k a) (.int k b) :=
  .i (fun w => by simp [binOp_lss]) h
theorem BinV.leq (h : WL P n L Q rest B ((d, .bool (decide (a ≤ b))) :: env) G S) : BinV P n L Q rest B env G S d .leq T (.int k a) (.int k b) :=
  .i (fun w => by simp [binOp_leq]) h
theorem BinV.gtr (h : WL P n L Q rest B ((d, .bool (decide (b < a))) :: env) G S) : BinV P n L Q rest B env G S d .gtr T (.int k a) (.int k b) :=
  .i (fun w => by simp [binOp_gtr]) h
theorem BinV.geq (h : WL P n L Q rest B ((d, .bool (decide (b ≤ a))) :: env) G S) : BinV P n L Q rest B env G S d .geq T (.int k a) (.int k b) :=
  .i (fun w => by simp [binOp_geq]) h
theorem BinV.eql (h : WL P n L Q rest B ((d, .bool (decide (a = b))) :: env) G S) : BinV P n L Q rest B env G S d .eql T (.int k a) (.int k b) :=
  .i (fun w => by simp [binOp_eql]; rfl) h
theorem BinV.neq (h : WL P n L Q rest B ((d, .bool (decide (¬ a = b))) :: env) G S) : BinV P n L Q rest B env G S d .neq T (.int k a) (.int k b) :=
  .i (fun w => by simp [binOp_neq, bne]; rfl) h
theorem BinV.shr {yk : IntKind} (hr : 0 ≤ b ∧ b ≤ k.bits) (h : WL P n L Q rest B ((d, .int k (a / 2 ^ b.toNat)) :: env) G S) : BinV P n L Q rest B env G S d .shr T (.int k a) (.int yk b) :=
  ⟨_, fun x y w _ => by simp [eqGuard_at_int, binOp_shr, shift_shr k yk a b hr.1 hr.2], h⟩
theorem BinV.shl {yk : IntKind} (hr : 0 ≤ b ∧ b ≤ k.bits) (h : WL P n L Q rest B ((d, .int k (k.wrap (a * 2 ^ b.toNat))) :: env) G S) : BinV P n L Q rest B env G S d .shl T (.int k a) (.int yk b) :=
  ⟨_, fun x y w _ => by simp [eqGuard_at_int, binOp_shl, shift_shl k yk a b hr.1 hr.2], h⟩
structure UnV (P : Program) (n : Nat) (L : List Oper) (Q : Exit → Act → World → Prop) (rest : List Oper) (B : Base) (env : Env) (G : List Pers) (S : List Res) (d : Nat) (op : UnOp) (u : Value) : Prop where
  go : ∃ r, (∀ w, (Op.unary op u).run P w = .ok r w) ∧ WL P n L Q rest B ((d, r) :: env) G S
theorem WL.un {op : UnOp} (hx : env.ev x = some u) (hd : Nat.blt d n = true) (h : UnV P n L Q rest B env G S d op u) :
    WL P n L Q (⟨some d, .unOp op T x, ty, pos, af, none⟩ :: rest) B env G S := by
  obtain ⟨r, hr, hh⟩ := h.go
  exact .val rfl rfl hd (fun a w sa _ => by simp [execOp, sa.ev hx, hr]) hh
theorem UnV.not {p : Bool} (h : WL P n L Q rest B ((d, .bool (!p)) :: env) G S) : UnV P n L Q rest B env G S d .not (.bool p) := ⟨_, fun w => by simp [Op.unary], h⟩
theorem UnV.neg (h : WL P n L Q rest B ((d, .int k (k.wrap (-a))) :: env) G S) : UnV P n L Q rest B env G S d .neg (.int k a) := ⟨_, fun w => by simp [Op.unary, Op.intArith], h⟩
structure ConvV (P : Program) (n : Nat) (L : List Oper) (Q : Exit → Act → World → Prop) (rest : List Oper) (B : Base) (env : Env) (G : List Pers) (S : List Res) (d : Nat) (src : TypeId) (D : TypeDesc) (u : Value) : Prop where
  go : ∃ r, (∀ dst w, Sat B G S w → P.underlying dst = some D → (convert src dst u).run P w = .ok r w) ∧ WL P n L Q rest B ((d, r) :: env) G S
theorem WL.cv {src dst : TypeId} {D : TypeDesc} (hx : env.ev x = some u) [hD : TU P dst D] (hd : Nat.blt d n = true) (h : ConvV P n L Q rest B env G S d src D u) :
    WL P n L Q (⟨some d, .convert src dst x, ty, pos, af, none⟩ :: rest) B env G S := by
  obtain ⟨r, hr, hh⟩ := h.go
  exact .val rfl rfl hd (fun a w sa sw => by simp [execOp, sa.ev hx, hr dst w sw hD.h]) hh
theorem ConvV.int {src : TypeId} {k' : IntKind} {ds : TypeDesc} [hs : TU P src ds] (h : WL P n L Q rest B ((d, .int k' (k'.wrap a)) :: env) G S) : ConvV P n L Q rest B env G S d src (.int k') (.int k a) :=
  ⟨_, fun dst w _ hD => by
    simp [convert, run_underlying hs.h, run_underlying hD, Conv.intToInt], h⟩
theorem ConvV.i64 {src : TypeId} {ds : TypeDesc} [hs : TU P src ds] (hr : -9223372036854775808 ≤ a ∧ a ≤ 9223372036854775807) (h : WL P n L Q rest B ((d, .int .i64 a) :: env) G S) : ConvV P n L Q rest B env G S d src (.int .i64) (.int k a) :=
  .int (by rw [wrap_i64 hr]; exact h)
theorem ConvV.u64 {src : TypeId} {ds : TypeDesc} [hs : TU P src ds] (hr : 0 ≤ a ∧ a ≤ 18446744073709551615) (h : WL P n L Q rest B ((d, .int .u64 a) :: env) G S) : ConvV P n L Q rest B env G S d src (.int .u64) (.int k a) :=
  .int (by rw [wrap_u64' hr]; exact h)
theorem ConvV.u32 {src : TypeId} {ds : TypeDesc} [hs : TU P src ds] (hr : 0 ≤ a ∧ a ≤ 4294967295) (h : WL P n L Q rest B ((d, .int .u32 a) :: env) G S) : ConvV P n L Q rest B env G S d src (.int .u32) (.int k a) :=
  .int (by rw [wrap_u32' hr]; exact h)
theorem ConvV.u8 {src : TypeId} {ds : TypeDesc} [hs : TU P src ds] (hr : 0 ≤ a ∧ a ≤ 255) (h : WL P n L Q rest B ((d, .int .u8 a) :: env) G S) : ConvV P n L Q rest B env G S d src (.int .u8) (.int k a) :=
  .int (by rw [wrap_u8' hr]; exact h)
def nth : List Value → Nat → Option Value
  | [], _ => none
  | v :: _, 0 => some v
  | _ :: r, i + 1 => nth r i
theorem nth_get : ∀ (l : List Value) (i : Nat), l[i]? = nth l i
  | [], _ => rfl
  | _ :: _, 0 => rfl
  | _ :: r, i + 1 => by simpa [nth] using nth_get r i
theorem WL.extract {i : Nat} {vs : List Value} (hx : env.ev x = some (.tuple vs.toArray)) (hi : nth vs i = some v) (hd : Nat.blt d n = true)
    (h : WL P n L Q rest B ((d, v) :: env) G S) : WL P n L Q (⟨some d, .extract x i, ty, pos, af, none⟩ :: rest) B env G S :=
  .val rfl rfl hd (fun ac w sa _ => by simp [execOp, sa.ev hx, Instr.extract, nth_get, hi]) h

structure LenV (P : Program) (n : Nat) (L : List Oper) (Q : Exit → Act → World → Prop) (rest : List Oper) (B : Base) (env : Env) (G : List Pers) (S : List Res) (d : Nat) (T : TypeId) (u : Value) : Prop where
  go : ∃ r, (∀ ty w, Sat B G S w → (Builtin.len_ #[T] ty #[u]).run P w = .ok r w) ∧ WL P n L Q rest B ((d, r) :: env) G S
theorem WL.len (hx : env.ev x = some u) (hd : Nat.blt d n = true) (h : LenV P n L Q rest B env G S d T u) : WL P n L Q (⟨some d, .call ⟨.builtin .len, #[x], #[T]⟩, ty, pos, af, none⟩ :: rest) B env G S := by
  obtain ⟨r, hr, hh⟩ := h.go
  exact .val rfl rfl hd (fun ac w sa sw => by simp [execOp, resolve, invoke, builtin, sa.ev hx, hr ty w sw]) hh
theorem LenV.slice {p : Option Addr} {m c : Nat} {E : TypeId} [hT : TU P T (.slice E)] (h : WL P n L Q rest B ((d, .int .i64 m) :: env) G S) : LenV P n L Q rest B env G S d T (.slice p m c) :=
  ⟨_, fun ty w _ => by simp [Builtin.len_, run_underlying hT.h, goInt], h⟩
theorem LenV.string {s : ByteArray} [hT : TU P T .string] (h : WL P n L Q rest B ((d, .int .i64 s.size) :: env) G S) : LenV P n L Q rest B env G S d T (.string s) :=
  ⟨_, fun ty w _ => by simp [Builtin.len_, run_underlying hT.h, goInt], h⟩

/-! ### Guards -/
structure GuardV (P : Program) (n : Nat) (L : List Oper) (Q : Exit → Act → World → Prop) (rest : List Oper) (B : Base) (env : Env) (G : List Pers) (S : List Res) (t : Nat) (o : Oper) (want : Bool) (v : Value) : Prop where
  go : env.get t = some v → ∃ b, v = .bool b ∧ if b = want then WL P n L Q ({ o with guard := none } :: rest) B env G S else
    match o.dst with
    | some d => Nat.blt d n = true ∧ WL P n L Q rest B ((d, undef) :: env) G S
    | none => WL P n L Q rest B env G S
theorem WL.guard {o : Oper} {op : Op} {dst : Option Nat} {j t : Nat} {want : Bool} (hj : L[j]? = some o) (hdj : o.dst = some t) (ht : env.get t = some v)
    (h : GuardV P n L Q rest B env G S t ⟨dst, op, ty, pos, af, none⟩ want v) : WL P n L Q (⟨dst, op, ty, pos, af, some (j, want)⟩ :: rest) B env G S := by
  obtain ⟨b, hv, hg⟩ := h.go ht
  subst hv
  refine ⟨fun a w sa sw => ?_⟩
  have hw : yielded L.toArray a.tmps j = some b := by
    have := sa.get t _ ht
    simp [yielded, hj, hdj, this]
  by_cases hb : b = want
  · subst hb
    rw [if_pos rfl] at hg
    have hh := hg.go a w sa sw
    unfold wpList at hh ⊢
    simpa [Region.wanted, hw, Oper.wp, Oper.upon, execOp, Oper.asks] using hh
  · rw [if_neg hb] at hg
    unfold wpList
    rw [if_neg (by simp [Region.wanted, hw, hb])]
    cases dst with
    | none => exact hg.go _ _ sa sw
    | some d => exact hg.2.go _ _ (sa.put hg.1 _) sw
theorem GuardV.tt {o : Oper} {t : Nat} (h : WL P n L Q ({ o with guard := none } :: rest) B env G S) : GuardV P n L Q rest B env G S t o true (.bool true) := ⟨fun _ => ⟨true, rfl, by simpa using h⟩⟩
theorem GuardV.ff {o : Oper} {t : Nat} (h : WL P n L Q ({ o with guard := none } :: rest) B env G S) : GuardV P n L Q rest B env G S t o false (.bool false) := ⟨fun _ => ⟨false, rfl, by simpa using h⟩⟩
theorem GuardV.tf {op : Op} {t d : Nat} (hd : Nat.blt d n = true) (h : WL P n L Q rest B ((d, undef) :: env) G S) : GuardV P n L Q rest B env G S t ⟨some d, op, ty, pos, af, none⟩ true (.bool false) := ⟨fun _ => ⟨false, rfl, by simpa using ⟨by simpa using hd, h⟩⟩⟩
theorem GuardV.ft {op : Op} {t d : Nat} (hd : Nat.blt d n = true) (h : WL P n L Q rest B ((d, undef) :: env) G S) : GuardV P n L Q rest B env G S t ⟨some d, op, ty, pos, af, none⟩ false (.bool true) := ⟨fun _ => ⟨true, rfl, by simpa using ⟨by simpa using hd, h⟩⟩⟩
theorem GuardV.tf0 {op : Op} {t : Nat} (h : WL P n L Q rest B env G S) : GuardV P n L Q rest B env G S t ⟨none, op, ty, pos, af, none⟩ true (.bool false) := ⟨fun _ => ⟨false, rfl, by simpa using h⟩⟩
theorem GuardV.ft0 {op : Op} {t : Nat} (h : WL P n L Q rest B env G S) : GuardV P n L Q rest B env G S t ⟨none, op, ty, pos, af, none⟩ false (.bool true) := ⟨fun _ => ⟨true, rfl, by simpa using h⟩⟩
/-- The guard's own operation was passed over: so is this one. -/
theorem WL.guardU {o : Oper} {op : Op} {d j t : Nat} {want : Bool} (hj : L[j]? = some o) (hdj : o.dst = some t) (ht : env.get t = some undef) (hd : Nat.blt d n = true)
    (h : WL P n L Q rest B ((d, undef) :: env) G S) : WL P n L Q (⟨some d, op, ty, pos, af, some (j, want)⟩ :: rest) B env G S := by
  refine ⟨fun a w sa sw => ?_⟩
  have hw : yielded L.toArray a.tmps j = none := by
    have := sa.get t _ ht
    simp [yielded, hj, hdj, this, undef]
  unfold wpList
  rw [if_neg (by simp [Region.wanted, hw])]
  exact h.go _ _ (sa.put hd _) sw
theorem WL.guardU0 {o : Oper} {op : Op} {j t : Nat} {want : Bool} (hj : L[j]? = some o) (hdj : o.dst = some t) (ht : env.get t = some undef)
    (h : WL P n L Q rest B env G S) : WL P n L Q (⟨none, op, ty, pos, af, some (j, want)⟩ :: rest) B env G S := by
  refine ⟨fun a w sa sw => ?_⟩
  have hw : yielded L.toArray a.tmps j = none := by
    have := sa.get t _ ht
    simp [yielded, hj, hdj, this, undef]
  unfold wpList
  rw [if_neg (by simp [Region.wanted, hw])]
  exact h.go _ _ sa sw
/-- A guard that is not decided: two ways. -/
theorem GuardV.bb {o : Oper} {t : Nat} {want b : Bool} (h1 : b = true → GuardV P n L Q rest B ((t, .bool true) :: env) G S t o want (.bool true)) (h2 : b = false → GuardV P n L Q rest B ((t, .bool false) :: env) G S t o want (.bool false)) :
    GuardV P n L Q rest B env G S t o want (.bool b) := by
  refine ⟨fun ht => ⟨b, rfl, ?_⟩⟩
  have main : ∀ c, b = c → GuardV P n L Q rest B ((t, .bool c) :: env) G S t o want (.bool c) → if b = want then WL P n L Q ({ o with guard := none } :: rest) B env G S else
    match o.dst with
    | some d => Nat.blt d n = true ∧ WL P n L Q rest B ((d, undef) :: env) G S
    | none => WL P n L Q rest B env G S := by
    intro c hc hg
    subst hc
    obtain ⟨b', hb', hh⟩ := hg.go (by simp [Env.get])
    cases hb'
    have le : EnvLe ((t, .bool b) :: env) env := .cons ht .refl
    split at hh
    · rename_i hw; rw [if_pos hw]; exact hh.conv le (fun _ h => h)
    · rename_i hw
      rw [if_neg hw]
      cases hd : o.dst with
      | none => rw [hd] at hh; exact hh.conv le (fun _ h => h)
      | some d =>
        rw [hd] at hh
        refine ⟨hh.1, hh.2.conv ?_ (fun _ h => h)⟩
        intro i v hi
        simp only [Env.get] at hi ⊢
        cases hq : Nat.beq d i with
        | true => rw [hq] at hi; exact hi
        | false =>
          rw [hq] at hi
          simp only [cond_false] at hi ⊢
          exact le i v (by simpa [Env.get] using hi)
  cases hb : b with
  | true => exact hb ▸ main true hb (h1 hb)
  | false => exact hb ▸ main false hb (h2 hb)
theorem GuardV.dd {o : Oper} {t : Nat} {want : Bool} {p : Prop} [Decidable p] (h1 : p → GuardV P n L Q rest B ((t, .bool true) :: env) G S t o want (.bool true)) (h2 : ¬ p → GuardV P n L Q rest B ((t, .bool false) :: env) G S t o want (.bool false)) :
    GuardV P n L Q rest B env G S t o want (.bool (decide p)) := .bb (fun h => h1 (of_decide_eq_true h)) (fun h => h2 (of_decide_eq_false h))
/-- One slot's value, said otherwise. -/
theorem WC.slot {c : Code} {t : Nat} {v v' : Value} (ht : env.get t = some v) (e : v = v') (h : WC P n c Q B ((t, v') :: env) G S) : WC P n c Q B env G S :=
  h.conv (.cons (by rw [ht, e]) .refl) (fun _ h => h)
theorem WL.slot {l : List Oper} {t : Nat} {v v' : Value} (ht : env.get t = some v) (e : v = v') (h : WL P n L Q l B ((t, v') :: env) G S) : WL P n L Q l B env G S :=
  h.conv (.cons (by rw [ht, e]) .refl) (fun _ h => h)
end

/-! ### Functions -/
def argEnv : Nat → List Value → Env
  | _, [] => []
  | i, v :: vs => (i, v) :: argEnv (i + 1) vs

structure Fun (P : Program) (f : FuncId) (args : List Value) (G : List Pers) (S : List Res) (R : Value → List Pers → List Res → Prop) : Prop where
  callable : ∀ (as : Array Value) (w : World), (callFunc f as).run P w = .ok (.enter f as) w
  calls : ∀ (B : World) Gf Sf w, Sat B (G ++ Gf) (S ++ Sf) w → Calls P f args.toArray w (fun e w' => ∃ v G' S', e = .returned v ∧ R v G' S' ∧ Sat B (G' ++ (G ++ Gf)) (S' ++ Sf) w')

abbrev mark (D : Nat) : Deferred := { target := .collected D, args := #[] }
/-- A frame leaves: the marks of its loops over functions are come to, one by one. -/
def Shuts : List Deferred → World → World → Prop
  | [], w, w' => w' = w
  | d :: ds, w, w' => ∃ D, d = mark D ∧ w.heap[D]? = some (.deferred (some [])) ∧ Shuts ds (w.putObj D (.deferred none)) w'
def FEnd (P : Program) (fn : Func) (F : Value → World → Prop) (a : Act) (w : World) : Prop := ∃ w', Shuts a.defers w w' ∧ ∃ v, (results fn a.tmps).run P w' = .ok v w' ∧ ∃ u, Ending.returned v = Ending.returned u ∧ F u w'
def FPost (P : Program) (fn : Func) (F : Value → World → Prop) : Exit → Act → World → Prop
  | .normal, a, w => FEnd P fn F a w
  | .ret, a, w => FEnd P fn F a w
  | _, _, _ => False
theorem FEnd.clean {P : Program} {fn : Func} {F : Value → World → Prop} {a : Act} {w : World} (hd : a.defers = []) (h : ∃ v, (results fn a.tmps).run P w = .ok v w ∧ ∃ u, Ending.returned v = Ending.returned u ∧ F u w) : FEnd P fn F a w := ⟨w, by rw [hd]; rfl, h⟩
theorem shuts_leaves {P : Program} {fn : Func} {tmps : Array Value} {R : Ending → World → Prop} {n : Nat} {Fc : Fence} : ∀ {ds : List Deferred} {w w' : World}, Shuts ds w w' → (∃ v, (results fn tmps).run P w' = .ok v w' ∧ R (.returned v) w') → LeavesInM Fc n P fn tmps R ds .returning w
  | [], w, w', e, h => by cases e; exact h
  | d :: ds, w, w', ⟨D, hd, hk, hs⟩, h => ⟨fun e => (by cases e), .inl ⟨D, _, by rw [hd], run_takeDeferred hk, shuts_leaves hs h⟩⟩

theorem callFunc_go {P : Program} {f : FuncId} {fn : Func} (hf : P.funcs[f]? = some fn) (hname : (fn.name == "runtime.NumGoroutine") = false) (hb : fn.body.isNone = false) (as : Array Value) (w : World) :
    (callFunc f as).run P w = .ok (.enter f as) w := by
  have h1 : fn.name ≠ "runtime.NumGoroutine" := by simpa using hname
  have h2 : fn.body ≠ none := by intro e; rw [e] at hb; cases hb
  simp [callFunc, hf, h1, h2]

theorem argEnv_get : ∀ (vs : List Value) (k i : Nat) (v : Value), (argEnv k vs).get i = some v → k ≤ i ∧ vs[i - k]? = some v
  | [], _, _, _, h => by simp [argEnv, Env.get] at h
  | u :: us, k, i, v, h => by
    simp only [argEnv, Env.get] at h
    cases hb : Nat.beq k i with
    | true =>
      rw [hb] at h
      have := Nat.eq_of_beq_eq_true hb
      subst this
      simp at h; subst h; simp
    | false =>
      rw [hb] at h
      obtain ⟨h1, h2⟩ := argEnv_get us (k + 1) i v h
      refine ⟨by omega, ?_⟩
      rw [show i - k = (i - (k + 1)) + 1 from by omega]
      simpa using h2

theorem Fun.enter {P : Program} {f : FuncId} {fn : Func} {c : Code} {n : Nat} {args : List Value} {G : List Pers} {S : List Res} {R : Value → List Pers → List Res → Prop}
    (hf : P.funcs[f]? = some fn) (hname : (fn.name == "runtime.NumGoroutine") = false) (hb : fn.body = some c) (hn : fn.ntmps = n) (hl : Nat.ble args.length n = true)
    (h : ∀ (B : World) Gf Sf, WC P n c (FPost P fn (fun v w => ∃ G' S', R v G' S' ∧ Sat B (G' ++ (G ++ Gf)) (S' ++ Sf) w)) B (argEnv 0 args) (G ++ Gf) (S ++ Sf)) : Fun P f args G S R := by
  refine ⟨callFunc_go hf hname (by rw [hb]; rfl), fun B Gf Sf w sw => ?_⟩
  have hl' : args.length ≤ n := by simpa [Nat.ble_eq] using hl
  have hw := (h B Gf Sf).go { tmps := args.toArray ++ Array.replicate (fn.ntmps - args.toArray.size) undef, defers := [] } w ?_ sw
  · refine (callsIn_wide (n := 0)).1 (callsIn_of_wp_marks (F := Fr none) (n := 0) hf hb trivial (wpIn_mono hw fun e a w hq => ?_))
    cases e <;> simp only [FPost, bodyPostM] at hq ⊢
    · obtain ⟨w', hs, v, h2, u, e, G', S', h3⟩ := hq
      cases e
      exact shuts_leaves hs ⟨_, h2, _, G', S', rfl, h3⟩
    · obtain ⟨w', hs, v, h2, u, e, G', S', h3⟩ := hq
      cases e
      exact shuts_leaves hs ⟨_, h2, _, G', S', rfl, h3⟩
  · refine ⟨by simp [hn]; omega, rfl, fun i v hi => ?_⟩
    obtain ⟨_, hi⟩ := argEnv_get args 0 i v hi
    have hlt : i < args.length := (List.getElem?_eq_some_iff.1 (by simpa using hi)).1
    have hi' : args[i]? = some v := by simpa using hi
    simp [Array.getElem?_append, hlt]
    exact (List.getElem?_eq_some_iff.1 hi').2

section
variable {P : Program} {n : Nat} {B : Base} {env : Env} {G : List Pers} {S : List Res} {fn : Func} {F : Value → World → Prop} [hClean : Clean B]
theorem WX.ret1 {t : Nat} {v : Value} (hr : fn.results = #[.tmp t]) (hv : env.get t = some v) (h : ∀ w, Sat B G S w → F v w) : WX n (FPost P fn F) .ret B env G S := by
  refine ⟨fun a w sa sw => ?_⟩
  refine FEnd.clean (sa.defers.trans Clean.h) ⟨v, ?_, v, rfl, h w sw⟩
  have := sa.get t v hv
  rw [results_tmp hr]; simp [this]
theorem WX.end0 (hr : fn.results = #[]) (h : ∀ w, Sat B G S w → F (.tuple #[]) w) : WX n (FPost P fn F) .normal B env G S := by
  refine ⟨fun a w sa sw => ?_⟩
  exact FEnd.clean (sa.defers.trans Clean.h) ⟨_, results_none hr _ _ _, _, rfl, h w sw⟩
theorem WX.ret2 {t u : Nat} {v v' : Value} (hr : fn.results = #[.tmp t, .tmp u]) (hv : env.get t = some v) (hu : env.get u = some v') (h : ∀ w, Sat B G S w → F (.tuple #[v, v']) w) : WX n (FPost P fn F) .ret B env G S := by
  refine ⟨fun a w sa sw => ?_⟩
  refine FEnd.clean (sa.defers.trans Clean.h) ⟨.tuple #[v, v'], ?_, _, rfl, h w sw⟩
  have h1 := sa.get t v hv
  have h2 := sa.get u v' hu
  rw [results_tmp2 hr]; simp [h1, h2]
end

/-! ### Lists of what is known and owned -/
theorem GSub.nil {G : List Pers} : ∀ g ∈ ([] : List Pers), g ∈ G := fun _ h => by cases h
theorem GSub.cons {g : Pers} {G G' : List Pers} (h : g ∈ G') (t : ∀ x ∈ G, x ∈ G') : ∀ x ∈ g :: G, x ∈ G' := fun x hx => by
  cases hx with
  | head => exact h
  | tail _ hx => exact t x hx
theorem GSub.skip {g : Pers} {G G' : List Pers} (t : ∀ x ∈ G, x ∈ G') : ∀ x ∈ G, x ∈ g :: G' := fun x hx => .tail _ (t x hx)
theorem GSub.refl {G : List Pers} : ∀ x ∈ G, x ∈ G := fun _ h => h

inductive Sel : List Res → Res → List Res → Prop
  | here {r : Res} {S : List Res} : Sel (r :: S) r S
  | there {r s : Res} {S T : List Res} : Sel S r T → Sel (s :: S) r (s :: T)
theorem Sel.perm {S : List Res} {r : Res} {T : List Res} (h : Sel S r T) : S.Perm (r :: T) := by
  induction h with
  | here => exact .refl _
  | there _ ih => exact (ih.cons _).trans (.swap _ _ _)
/-- S holds Sc; what is left is T. -/
inductive Sels : List Res → List Res → List Res → Prop
  | nil {S : List Res} : Sels S [] S
  | cons {S T U : List Res} {r : Res} {Sc : List Res} : Sel S r T → Sels T Sc U → Sels S (r :: Sc) U
theorem Sels.perm {S Sc T : List Res} (h : Sels S Sc T) : S.Perm (Sc ++ T) := by
  induction h with
  | nil => exact .refl _
  | cons h _ ih => exact h.perm.trans (ih.cons _)
/-- S' is what is kept of S, in whatever order. -/
inductive SSub : List Res → List Res → Prop
  | refl {S : List Res} : SSub S S
  | cons {r : Res} {S S' T : List Res} : Sel S r T → SSub S' T → SSub (r :: S') S
  | drop {r : Res} {S S' : List Res} : SSub S' S → SSub S' (r :: S)
theorem Star.ssub {S T : List Res} (p : SSub T S) : ∀ {h : Hp}, Star S h → ∃ k, Hp.le k h ∧ Star T k := by
  induction p with
  | refl => exact fun {h} hs => ⟨h, fun _ _ e => e, hs⟩
  | drop _ ih =>
    rintro h ⟨h1, h2, d, rfl, hr, hs⟩
    obtain ⟨k, hk, ht⟩ := ih hs
    exact ⟨k, fun b o e => Hp.union_right d (hk b o e), ht⟩
  | cons hsel _ ih =>
    intro h hst
    obtain ⟨h1, h2, d, rfl, hr, hs⟩ := Star.perm hsel.perm hst
    obtain ⟨k, hk, ht⟩ := ih hs
    have dk : Hp.disj h1 k := fun b => by
      rcases d b with e | e
      · exact .inl e
      · cases e' : k b with
        | none => exact .inr rfl
        | some o => rw [hk b o e'] at e; cases e
    refine ⟨Hp.union h1 k, ?_, h1, k, dk, rfl, hr, ht⟩
    intro b o e
    rcases Hp.union_some e with e | e
    · exact Hp.union_left e
    · exact Hp.union_right d (hk b o e)
theorem Sat.ssub {B : World} {G : List Pers} {S T : List Res} {w : World} (h : Sat B G S w) (p : SSub T S) : Sat B G T w := by
  obtain ⟨m, k, d, hm, hk, hg, hs⟩ := h.heap
  obtain ⟨k', hk', ht⟩ := Star.ssub p hs
  refine ⟨h.os, h.tape, h.output, h.size, m, k', fun b => ?_, hm, fun b o e => hk b o (hk' b o e), hg, ht⟩
  rcases d b with e | e
  · exact .inl e
  · cases e' : k' b with
    | none => exact .inr rfl
    | some o => rw [hk' b o e'] at e; cases e
section
variable {P : Program} {n : Nat} {Q : Exit → Act → World → Prop} {B : Base} {env : Env} {G : List Pers} {S : List Res} {L rest : List Oper}
variable {d : Nat} {ty : TypeId} {pos : String} {af : Array Edge}
def Env.evs (env : Env) : List Operand → Option (List Value)
  | [] => some []
  | x :: xs => match env.ev x, env.evs xs with
    | some v, some vs => some (v :: vs)
    | _, _ => none
theorem St.evs {a : Act} (h : St n B.ds env a) : ∀ {xs : List Operand} {vs : List Value}, env.evs xs = some vs → xs.map a.eval = vs
  | [], vs, e => by simp [Env.evs] at e; simp [e]
  | x :: xs, vs, e => by
    simp only [Env.evs] at e
    split at e
    · rename_i v us hv hus
      cases e
      simp [h.ev hv, St.evs h hus]
    · cases e
theorem WL.call {f : FuncId} {as : List Operand} {ats : Array TypeId} {vs : List Value} {Gc : List Pers} {Sc Sr : List Res} {R : Value → List Pers → List Res → Prop}
    (hF : Fun P f vs Gc Sc R) (hx : env.evs as = some vs) (hG : ∀ g ∈ Gc, g ∈ G) (hS : Sels S Sc Sr) (hd : Nat.blt d n = true)
    (h : ∀ v G' S', R v G' S' → WL P n L Q rest B ((d, v) :: env) (G' ++ G) (S' ++ Sr)) : WL P n L Q (⟨some d, .call ⟨.value (.func f), as.toArray, ats⟩, ty, pos, af, none⟩ :: rest) B env G S := by
  refine ⟨fun a w sa sw => ?_⟩
  refine wpList_plain rfl fun K hK => ?_
  unfold Oper.wp
  have hr : (execOp a.eval ⟨some d, .call ⟨.value (.func f), as.toArray, ats⟩, ty, pos, af, none⟩).run P w = .ok (.enter f vs.toArray) w := by
    simp [execOp, resolve, Act.eval, Deferred.ofValue, invoke, hF.callable]
    have := sa.evs hx
    simp [this]
  rw [hr, Oper.upon_enter]
  have hsat : Sat B (Gc ++ G) (Sc ++ Sr) w := (sw.perm hS.perm).sub fun g hg => by
    rcases List.mem_append.1 hg with hg | hg
    · exact hG g hg
    · exact hg
  refine (hF.calls B G Sr w hsat).mono ?_
  rintro e w' ⟨v, G', S', rfl, hR, hs⟩
  exact hK _ _ ((h v G' S' hR).go _ _ (sa.put hd v) (hs.sub fun g hg => by
    rcases List.mem_append.1 hg with hg | hg
    · exact List.mem_append.2 (.inl hg)
    · exact List.mem_append.2 (.inr (List.mem_append.2 (.inr hg)))))
end
end Go.Qd
