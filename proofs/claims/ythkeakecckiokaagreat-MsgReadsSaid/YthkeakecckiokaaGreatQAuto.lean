import Derived.Test.YthkeakecckiokaaGreatQSl
namespace Go.Qd
open Go

/-! ### Looking a thing up, by instances -/
class InG (g : Pers) (G : List Pers) : Prop where
  h : g ∈ G
instance InG.there {g g' : Pers} {G : List Pers} [i : InG g G] : InG g (g' :: G) := ⟨.tail _ i.h⟩
instance InG.here {g : Pers} {G : List Pers} : InG g (g :: G) := ⟨.head _⟩
class GS (Gc G : List Pers) : Prop where
  h : ∀ g ∈ Gc, g ∈ G
instance GS.skip {g : Pers} {G G' : List Pers} [i : GS G G'] : GS G (g :: G') := ⟨fun x hx => .tail _ (i.h x hx)⟩
instance GS.cons {g : Pers} {G G' : List Pers} [i : InG g G'] [j : GS G G'] : GS (g :: G) G' := ⟨GSub.cons i.h j.h⟩
instance GS.refl {G : List Pers} : GS G G := ⟨fun _ h => h⟩
instance GS.nil {G : List Pers} : GS [] G := ⟨fun _ h => by cases h⟩
instance GS.app0 {G G' : List Pers} [i : GS G G'] : GS ([] ++ G) G' := ⟨i.h⟩
instance GS.app1 {g : Pers} {l G G' : List Pers} [i : GS (g :: (l ++ G)) G'] : GS ((g :: l) ++ G) G' := ⟨i.h⟩
class SelC (S : List Res) (r : Res) (T : outParam (List Res)) : Prop where
  h : Sel S r T
instance SelC.there {r s : Res} {S T : List Res} [i : SelC S r T] : SelC (s :: S) r (s :: T) := ⟨.there i.h⟩
instance SelC.here {r : Res} {S : List Res} : SelC (r :: S) r S := ⟨.here⟩
class SelsC (S Sc : List Res) (T : outParam (List Res)) : Prop where
  h : Sels S Sc T
instance SelsC.cons {S T U : List Res} {r : Res} {Sc : List Res} [i : SelC S r T] [j : SelsC T Sc U] : SelsC S (r :: Sc) U := ⟨.cons i.h j.h⟩
instance SelsC.nil {S : List Res} : SelsC S [] S := ⟨.nil⟩
class SS (S' S : List Res) : Prop where
  h : SSub S' S
instance SS.drop {r : Res} {S S' : List Res} [i : SS S' S] : SS S' (r :: S) := ⟨.drop i.h⟩
instance SS.cons {r : Res} {S S' T : List Res} [i : SelC S r T] [j : SS S' T] : SS (r :: S') S := ⟨.cons i.h j.h⟩
instance SS.refl {S : List Res} : SS S S := ⟨.refl⟩
instance SS.app0 {S S' : List Res} [i : SS S' S] : SS ([] ++ S') S := ⟨i.h⟩
instance SS.app1 {r : Res} {l S S' : List Res} [i : SS (r :: (l ++ S')) S] : SS ((r :: l) ++ S') S := ⟨i.h⟩
theorem Sat.to {B w : World} {G G' : List Pers} {S S' : List Res} (h : Sat B G S w) [i : GS G' G] [j : SS S' S] : Sat B G' S' w := (h.sub i.h).ssub j.h
class RdSl (v : Value) (G : List Pers) {α : outParam Type} (R : outParam (Ty α)) (l : outParam (List α)) : Prop where
  h : rd (Ty.sl R) l v ∈ G
instance RdSl.there {α : Type} {R : Ty α} {l : List α} {v : Value} {g : Pers} {G : List Pers} [i : RdSl v G R l] : RdSl v (g :: G) R l := ⟨.tail _ i.h⟩
instance RdSl.here {α : Type} {R : Ty α} {l : List α} {v : Value} {G : List Pers} : RdSl v (rd (Ty.sl R) l v :: G) R l := ⟨.head _⟩
class Rd (v : Value) (G : List Pers) {α : outParam Type} (R : outParam (Ty α)) (a : outParam α) : Prop where
  h : rd R a v ∈ G
instance Rd.there {α : Type} {R : Ty α} {a : α} {v : Value} {g : Pers} {G : List Pers} [i : Rd v G R a] : Rd v (g :: G) R a := ⟨.tail _ i.h⟩
instance Rd.here {α : Type} {R : Ty α} {a : α} {v : Value} {G : List Pers} : Rd v (rd R a v :: G) R a := ⟨.head _⟩
class PC (p : Value) (G : List Pers) {α : outParam Type} (R : outParam (Ty α)) (a : outParam α) : Prop where
  h : pcell R a p ∈ G
instance PC.there {α : Type} {R : Ty α} {a : α} {v : Value} {g : Pers} {G : List Pers} [i : PC v G R a] : PC v (g :: G) R a := ⟨.tail _ i.h⟩
instance PC.here {α : Type} {R : Ty α} {a : α} {v : Value} {G : List Pers} : PC v (pcell R a v :: G) R a := ⟨.head _⟩
class SelBox (b : Nat) (S : List Res) (E : outParam TypeId) (cs : outParam (List Value)) (T : outParam (List Res)) : Prop where
  h : Sel S (box b E cs) T
instance SelBox.there {b : Nat} {s : Res} {S T : List Res} {E : TypeId} {cs : List Value} [i : SelBox b S E cs T] : SelBox b (s :: S) E cs (s :: T) := ⟨.there i.h⟩
instance SelBox.here {b : Nat} {S : List Res} {E : TypeId} {cs : List Value} : SelBox b (box b E cs :: S) E cs S := ⟨.here⟩
class SelOwn (v : Value) (S : List Res) (E sz m : outParam Nat) (xs : outParam (List Value)) (T : outParam (List Res)) : Prop where
  h : Sel S (own E sz v m xs) T
instance SelOwn.there {v : Value} {s : Res} {S T : List Res} {E sz m : Nat} {xs : List Value} [i : SelOwn v S E sz m xs T] : SelOwn v (s :: S) E sz m xs (s :: T) := ⟨.there i.h⟩
instance SelOwn.here {v : Value} {S : List Res} {E sz m : Nat} {xs : List Value} : SelOwn v (own E sz v m xs :: S) E sz m xs S := ⟨.here⟩

/-! ### Values of one cell -/
class Ty.NonAgg {α : Type} (R : Ty α) : Prop where
  h : R.agg = false
instance : Ty.NonAgg Ty.u8 := ⟨rfl⟩
instance : Ty.NonAgg Ty.u32 := ⟨rfl⟩
instance : Ty.NonAgg Ty.u64 := ⟨rfl⟩
instance : Ty.NonAgg Ty.i64 := ⟨rfl⟩
instance : Ty.NonAgg Ty.bool := ⟨rfl⟩
instance : Ty.NonAgg Ty.str := ⟨rfl⟩
instance {α : Type} {R : Ty α} : Ty.NonAgg (Ty.sl R) := ⟨rfl⟩
class OneC (G : List Pers) (S : List Res) (v : Value) : Prop where
  h : ∀ B w, Sat B G S w → v.oneCell' = true
section
variable {G : List Pers} {S : List Res}
instance OneC.rd {v : Value} {α : Type} {R : Ty α} {a : α} [i : Rd v G R a] [j : Ty.NonAgg R] : OneC G S v := ⟨fun _ w sw => one_rd i.h j.h w sw⟩
instance OneC.own {v : Value} {E sz m : Nat} {xs : List Value} {T : List Res} [i : SelOwn v S E sz m xs T] : OneC G S v := ⟨fun _ w sw => one_own i.h w sw⟩
instance {k : IntKind} {x : Int} : OneC G S (.int k x) := ⟨fun _ _ _ => rfl⟩
instance {k : FloatKind} {x : Nat} : OneC G S (.float k x) := ⟨fun _ _ _ => rfl⟩
instance {b : Bool} : OneC G S (.bool b) := ⟨fun _ _ _ => rfl⟩
instance {b : ByteArray} : OneC G S (.string b) := ⟨fun _ _ _ => rfl⟩
instance {p : Option Addr} : OneC G S (.pointer p) := ⟨fun _ _ _ => rfl⟩
instance {p : Option Addr} {m c : Nat} : OneC G S (.slice p m c) := ⟨fun _ _ _ => rfl⟩
instance {p : Option Nat} : OneC G S (.map p) := ⟨fun _ _ _ => rfl⟩
instance {f : Fn} {a b : Array Value} : OneC G S (.func f a b) := ⟨fun _ _ _ => rfl⟩
instance : OneC G S .nilFunc := ⟨fun _ _ _ => rfl⟩
instance : OneC G S .nilIface := ⟨fun _ _ _ => rfl⟩
instance {t : TypeId} {v : Value} : OneC G S (.iface t v) := ⟨fun _ _ _ => rfl⟩
class OnesC (G : List Pers) (S : List Res) (vs : List Value) : Prop where
  h : ∀ B w, Sat B G S w → ∀ u ∈ vs, u.oneCell' = true
instance OnesC.nil : OnesC G S [] := ⟨fun _ _ _ _ h => by cases h⟩
instance OnesC.cons {v : Value} {vs : List Value} [i : OneC G S v] [j : OnesC G S vs] : OnesC G S (v :: vs) := ⟨fun B w sw u hu => by
  cases hu with
  | head => exact i.h B w sw
  | tail _ hu => exact j.h B w sw u hu⟩
/-- How many cells a value has. -/
class LenC (G : List Pers) (S : List Res) (v : Value) (sz : Nat) (cs : outParam (List Value)) : Prop where
  h : ∀ B w, Sat B G S w → v.cells.toList = cs ∧ cs.length = sz
instance LenC.one {v : Value} [i : OneC G S v] : LenC G S v 1 [v] := ⟨fun B w sw => ⟨one_cells (i.h B w sw), rfl⟩⟩
class LensC (G : List Pers) (S : List Res) (vs : List Value) (sz : Nat) (cs : outParam (List Value)) : Prop where
  h : ∀ B w, Sat B G S w → flat vs = cs ∧ ∀ v ∈ vs, v.cells.toList.length = sz
instance LensC.nil {sz : Nat} : LensC G S [] sz [] := ⟨fun _ _ _ => ⟨rfl, fun _ h => by cases h⟩⟩
instance LensC.cons {v : Value} {vs : List Value} {sz : Nat} {c cs : List Value} [i : LenC G S v sz c] [j : LensC G S vs sz cs] : LensC G S (v :: vs) sz (c ++ cs) := ⟨fun B w sw => by
  obtain ⟨h1, h2⟩ := i.h B w sw
  obtain ⟨h3, h4⟩ := j.h B w sw
  refine ⟨by rw [flat_cons, h1, h3], fun u hu => ?_⟩
  cases hu with
  | head => rw [h1, h2]
  | tail _ hu => exact h4 u hu⟩
end

/-! ### The rules, their side conditions looked up -/
section
variable {P : Program} {n : Nat} {Q : Exit → Act → World → Prop} {B : Base} {env : Env} {G : List Pers} {S S' : List Res} {L rest : List Oper}
variable {d d1 d2 : Nat} {ty : TypeId} {pos : String} {af : Array Edge} {x y z : Operand} {T T' E E' : TypeId} {u v v' : Value} {α : Type} {R : Ty α} {l : List α} {a : α}

/-- Bounded arithmetic. -/
class Ari (op : BinOp) (k : IntKind) (a b : Int) (r lo hi : outParam Int) : Prop where
  h : lo ≤ r ∧ r ≤ hi → ∀ T w (P : Program), (binOp op T (.int k a) (.int k b)).run P w = .ok (.int k r) w
instance {a b : Int} : Ari .add .i64 a b (a + b) (-9223372036854775808) 9223372036854775807 := ⟨fun hr T w P => by simp [binOp, Op.intArith, wrap_i64 hr]⟩
instance {a b : Int} : Ari .sub .i64 a b (a - b) (-9223372036854775808) 9223372036854775807 := ⟨fun hr T w P => by simp [binOp, Op.intArith, wrap_i64 hr]⟩
instance {a b : Int} : Ari .mul .i64 a b (a * b) (-9223372036854775808) 9223372036854775807 := ⟨fun hr T w P => by simp [binOp, Op.intArith, wrap_i64 hr]⟩
instance {a b : Int} : Ari .add .u64 a b (a + b) 0 18446744073709551615 := ⟨fun hr T w P => by simp [binOp, Op.intArith, wrap_u64' hr]⟩
instance {a b : Int} : Ari .sub .u64 a b (a - b) 0 18446744073709551615 := ⟨fun hr T w P => by simp [binOp, Op.intArith, wrap_u64' hr]⟩
instance {a b : Int} : Ari .mul .u64 a b (a * b) 0 18446744073709551615 := ⟨fun hr T w P => by simp [binOp, Op.intArith, wrap_u64' hr]⟩
instance {a b : Int} : Ari .add .u8 a b (a + b) 0 255 := ⟨fun hr T w P => by simp [binOp, Op.intArith, wrap_u8' hr]⟩
instance {a b : Int} : Ari .sub .u8 a b (a - b) 0 255 := ⟨fun hr T w P => by simp [binOp, Op.intArith, wrap_u8' hr]⟩
theorem BinV.ar {op : BinOp} {k : IntKind} {a b r lo hi : Int} [i : Ari op k a b r lo hi] (hr : lo ≤ r ∧ r ≤ hi) (h : WL P n L Q rest B ((d, .int k r) :: env) G S) : BinV P n L Q rest B env G S d op T (.int k a) (.int k b) :=
  .i (fun w => i.h hr T w P) h
class QHi (k : IntKind) (hi : outParam Int) : Prop where
  h : ∀ r, 0 ≤ r → r ≤ hi → k.wrap r = r
instance : QHi .i64 9223372036854775807 := ⟨fun r h0 h1 => wrap_i64 (by omega)⟩
instance : QHi .u64 18446744073709551615 := ⟨fun r h0 h1 => wrap_u64' (by omega)⟩
instance : QHi .u32 4294967295 := ⟨fun r h0 h1 => wrap_u32' (by omega)⟩
instance : QHi .u8 255 := ⟨fun r h0 h1 => wrap_u8' (by omega)⟩
theorem BinV.q {k : IntKind} {a b hi : Int} [i : QHi k hi] (hr : 0 ≤ a ∧ a ≤ hi ∧ 0 < b) (h : WL P n L Q rest B ((d, .int k (a / b)) :: env) G S) : BinV P n L Q rest B env G S d .quo T (.int k a) (.int k b) :=
  .quo ⟨hr.1, hr.2.2⟩ (by have := quo_small hr.1 hr.2.1 hr.2.2; rw [i.h _ this.1 this.2]; exact h)
/-- What needs no look at bounds. -/
class BinC (P : Program) (op : BinOp) (T : TypeId) (u v : Value) (r : outParam Value) : Prop where
  h : ∀ x y w, (do eqGuard op T x y u v; binOp op T u v).run P w = .ok r w
theorem BinV.c {op : BinOp} {r : Value} [i : BinC P op T u v r] (h : WL P n L Q rest B ((d, r) :: env) G S) : BinV P n L Q rest B env G S d op T u v := ⟨r, fun x y w _ => i.h x y w, h⟩
instance {k : IntKind} {a b : Int} : BinC P .add T (.int k a) (.int k b) (.int k (k.wrap (a + b))) := ⟨fun _ _ _ => by simp [eqGuard_at_int, binOp, Op.intArith]⟩
instance {k : IntKind} {a b : Int} : BinC P .sub T (.int k a) (.int k b) (.int k (k.wrap (a - b))) := ⟨fun _ _ _ => by simp [eqGuard_at_int, binOp, Op.intArith]⟩
instance {k : IntKind} {a b : Int} : BinC P .mul T (.int k a) (.int k b) (.int k (k.wrap (a * b))) := ⟨fun _ _ _ => by simp [eqGuard_at_int, binOp, Op.intArith]⟩
instance {k : IntKind} {a b : Int} : BinC P .and T (.int k a) (.int k b) (.int k (bits .and k a b)) := ⟨fun _ _ _ => by simp [eqGuard_at_int, binOp, intBits_and]⟩
instance {k : IntKind} {a b : Int} : BinC P .or T (.int k a) (.int k b) (.int k (bits .or k a b)) := ⟨fun _ _ _ => by simp [eqGuard_at_int, binOp, intBits_or]⟩
instance {k : IntKind} {a b : Int} : BinC P .xor T (.int k a) (.int k b) (.int k (bits .xor k a b)) := ⟨fun _ _ _ => by simp [eqGuard_at_int, binOp, intBits_xor]⟩
instance {k : IntKind} {a b : Int} : BinC P .lss T (.int k a) (.int k b) (.bool (decide (a < b))) := ⟨fun _ _ _ => by simp [eqGuard_at_int, binOp_lss]⟩
instance {k : IntKind} {a b : Int} : BinC P .leq T (.int k a) (.int k b) (.bool (decide (a ≤ b))) := ⟨fun _ _ _ => by simp [eqGuard_at_int, binOp_leq]⟩
instance {k : IntKind} {a b : Int} : BinC P .gtr T (.int k a) (.int k b) (.bool (decide (b < a))) := ⟨fun _ _ _ => by simp [eqGuard_at_int, binOp_gtr]⟩
instance {k : IntKind} {a b : Int} : BinC P .geq T (.int k a) (.int k b) (.bool (decide (b ≤ a))) := ⟨fun _ _ _ => by simp [eqGuard_at_int, binOp_geq]⟩
instance {k : IntKind} {a b : Int} : BinC P .eql T (.int k a) (.int k b) (.bool (decide (a = b))) := ⟨fun _ _ _ => by simp [eqGuard_at_int, binOp_eql]; rfl⟩
instance {k : IntKind} {a b : Int} : BinC P .neq T (.int k a) (.int k b) (.bool (decide (¬ a = b))) := ⟨fun _ _ _ => by simp [eqGuard_at_int, binOp_neq, bne]; rfl⟩
instance {p q : Bool} [hT : TU P T .bool] : BinC P .eql T (.bool p) (.bool q) (.bool (decide (p = q))) := ⟨fun x y w => by
  have : decide (p = q) = (p == q) := by cases p <;> cases q <;> rfl
  rw [this]; simp only [eqGuard_at_bool, Sem.run_bind, Sem.run_pure, Result.andThen_ok, run_eql_bool hT.h]⟩
instance {p q : Bool} [hT : TU P T .bool] : BinC P .neq T (.bool p) (.bool q) (.bool (decide (¬ p = q))) := ⟨fun x y w => by
  have : decide (¬ p = q) = !(p == q) := by cases p <;> cases q <;> rfl
  rw [this]; simp only [eqGuard_at_bool, Sem.run_bind, Sem.run_pure, Result.andThen_ok, run_neq_bool hT.h]⟩
/-- A shift by a written count. -/
theorem BinV.sr {k yk : IntKind} {a b : Int} (hr : (0 ≤ b ∧ b ≤ k.bits)) (h : WL P n L Q rest B ((d, .int k (a / 2 ^ b.toNat)) :: env) G S) : BinV P n L Q rest B env G S d .shr T (.int k a) (.int yk b) := .shr hr h
theorem BinV.sl {k yk : IntKind} {a b : Int} (hr : (0 ≤ b ∧ b ≤ k.bits)) (h : WL P n L Q rest B ((d, .int k (k.wrap (a * 2 ^ b.toNat))) :: env) G S) : BinV P n L Q rest B env G S d .shl T (.int k a) (.int yk b) := .shl hr h
/-- A number into another kind that bears it. -/
class CvHi (k : IntKind) (lo hi : outParam Int) : Prop where
  h : ∀ r, lo ≤ r ∧ r ≤ hi → k.wrap r = r
instance : CvHi .i64 (-9223372036854775808) 9223372036854775807 := ⟨fun _ h => wrap_i64 h⟩
instance : CvHi .u64 0 18446744073709551615 := ⟨fun _ h => wrap_u64' h⟩
instance : CvHi .u32 0 4294967295 := ⟨fun _ h => wrap_u32' h⟩
instance : CvHi .u8 0 255 := ⟨fun _ h => wrap_u8' h⟩
theorem ConvV.w {src : TypeId} {ds : TypeDesc} {k k' : IntKind} {a lo hi : Int} [hs : TU P src ds] [i : CvHi k' lo hi] (hr : lo ≤ a ∧ a ≤ hi) (h : WL P n L Q rest B ((d, .int k' a) :: env) G S) : ConvV P n L Q rest B env G S d src (.int k') (.int k a) :=
  .int (by rw [i.h _ hr]; exact h)
class UnC (op : UnOp) (u : Value) (r : outParam Value) : Prop where
  h : ∀ (P : Program) w, (Op.unary op u).run P w = .ok r w
theorem UnV.c {op : UnOp} {r : Value} [i : UnC op u r] (h : WL P n L Q rest B ((d, r) :: env) G S) : UnV P n L Q rest B env G S d op u := ⟨r, fun w => i.h P w, h⟩
instance {p : Bool} : UnC .not (.bool p) (.bool (!p)) := ⟨fun _ _ => by simp [Op.unary]⟩
instance {p : Prop} [Decidable p] : UnC .not (.bool (decide p)) (.bool (decide (¬ p))) := ⟨fun _ _ => by simp [Op.unary]⟩
instance : UnC .not (.bool true) (.bool false) := ⟨fun _ _ => by simp [Op.unary]⟩
instance : UnC .not (.bool false) (.bool true) := ⟨fun _ _ => by simp [Op.unary]⟩
instance {k : IntKind} {a : Int} : UnC .neg (.int k a) (.int k (k.wrap (-a))) := ⟨fun _ _ => by simp [Op.unary, Op.intArith]⟩
instance {k : IntKind} {a : Int} : UnC .xor (.int k a) (.int k (bits .xor k (if k.signed then -1 else k.max) a)) := ⟨fun _ _ => by simp [Op.unary, intBits_xor]⟩
class LnC (P : Program) (G : List Pers) (S : List Res) (T : TypeId) (u : Value) (m : outParam Nat) : Prop where
  h : ∀ B ty w, Sat B G S w → (Builtin.len_ #[T] ty #[u]).run P w = .ok (.int .i64 m) w
theorem LenV.c {m : Nat} [i : LnC P G S T u m] (h : WL P n L Q rest B ((d, .int .i64 m) :: env) G S) : LenV P n L Q rest B env G S d T u := ⟨_, fun ty w sw => i.h B ty w sw, h⟩
instance {E sz m : Nat} {xs : List Value} {T' : List Res} [i : SelOwn u S E sz m xs T'] [hT : TU P T (.slice E')] : LnC P G S T u m := ⟨fun B ty w sw => by
  obtain ⟨p, c, rfl, _⟩ := (sw.perm i.h.perm).pureRes (fun k hk => hk.shape)
  simp [Builtin.len_, run_underlying hT.h, goInt]⟩
instance [i : RdSl u G R l] [hT : TU P T (.slice E)] : LnC P G S T u l.length := ⟨fun B ty w sw => by
  obtain ⟨p, c, rfl, _⟩ := sw.sl_shape i.h
  simp [Builtin.len_, run_underlying hT.h, goInt]⟩
instance {p : Option Addr} {m c : Nat} [hT : TU P T (.slice E)] : LnC P G S T (.slice p m c) m := ⟨fun B ty w _ => by simp [Builtin.len_, run_underlying hT.h, goInt]⟩
instance {s : ByteArray} [hT : TU P T .string] : LnC P G S T (.string s) s.size := ⟨fun B ty w _ => by simp [Builtin.len_, run_underlying hT.h, goInt]⟩

theorem LoadV.b1 {b o : Nat} {cs : List Value} [hm : SelBox b S E cs S'] (hv : cs[o]? = some v) [hT : TA P T false] (h : WL P n L Q rest B ((d, v) :: env) G S) : LoadV P n L Q rest B env G S d T (.pointer (some ⟨b, o, none⟩)) := .box1 hm.h hv h
theorem LoadV.bA {b o s : Nat} {cs vs : List Value} [hm : SelBox b S E cs S'] [hT : TA P T true] [hs : TS P T s] (hv : (cs.drop o).take s = vs) (hl : Nat.beq vs.length s = true) (h : WL P n L Q rest B ((d, .agg vs.toArray) :: env) G S) : LoadV P n L Q rest B env G S d T (.pointer (some ⟨b, o, none⟩)) := .boxA hm.h hv (Nat.eq_of_beq_eq_true hl) h
theorem StV.b1 {b o : Nat} {cs : List Value} [hm : SelBox b S E cs S'] [hs : TS P T 1] [hT : TA P T false] (hl : Nat.blt o cs.length = true) [i : OneC G S v] (h : WL P n L Q rest B env G (box b E (cs.set o v) :: S')) : StV P n L Q rest B env G S T (.pointer (some ⟨b, o, none⟩)) v := .one hm.h hl (i.h B) h
theorem StV.bA {b o sz : Nat} {cs vs : List Value} {arr : Array Value} [hm : SelBox b S E cs S'] (hv : arr.toList = vs) [hs : TS P T sz] (hsl : Nat.beq vs.length sz = true) (hl : Nat.ble (o + vs.length) cs.length = true) [i : OnesC G S vs] (h : WL P n L Q rest B env G (box b E (lset cs o vs) :: S')) : StV P n L Q rest B env G S T (.pointer (some ⟨b, o, none⟩)) (.agg arr) := .agg hm.h hv (Nat.eq_of_beq_eq_true hsl) hl (i.h B) h
theorem IxlV.i {f : α → Value} {ok : α → Prop} {k : Nat} {kd : IntKind} [hm : RdSl v G R l] [hR : R.Is f ok] (hk : l[k]? = some a) {sa sb : Nat} {ag : Bool} [hT : TU P T (.slice E')] [hs' : TS P E' sa] [hs : TS P E sb] [hE : TA P E ag]
    (e : (Nat.beq sa R.sz && Nat.beq sb R.sz && ag == R.agg) = true) (h : ok a → ∀ p, WL P n L Q rest B ((d2, f a) :: (d1, p) :: env) G S) : IxlV P n L Q rest B env G S d1 d2 T E v (.int kd (k : Int)) := by
  simp only [Bool.and_eq_true, beq_iff_eq, Nat.beq_eq] at e
  exact .is hm.h hk e.1.1 e.1.2 e.2 h
theorem IxlV.r {k : Nat} {kd : IntKind} [hm : RdSl v G R l] (hk : l[k]? = some a) {sa sb : Nat} {ag : Bool} [hT : TU P T (.slice E')] [hs' : TS P E' sa] [hs : TS P E sb] [hE : TA P E ag]
    (e : (Nat.beq sa R.sz && Nat.beq sb R.sz && ag == R.agg) = true) (h : ∀ p u, WL P n L Q rest B ((d2, u) :: (d1, p) :: env) (Qd.rd R a u :: G) S) : IxlV P n L Q rest B env G S d1 d2 T E v (.int kd (k : Int)) := by
  simp only [Bool.and_eq_true, beq_iff_eq, Nat.beq_eq] at e
  exact .rd hm.h hk e.1.1 e.1.2 e.2 h
theorem IdxV.s {k : Nat} {kd : IntKind} [hm : RdSl v G R l] (hk : l[k]? = some a) {sa : Nat} [hT : TU P T (.slice E')] [hs' : TS P E' sa] (e1 : Nat.beq sa R.sz = true) (h : ∀ p, WL P n L Q rest B ((d, p) :: env) (pcell R a p :: G) S) : IdxV P n L Q rest B env G S d T v (.int kd (k : Int)) :=
  .sl hm.h hk (Nat.eq_of_beq_eq_true e1) h
theorem LodV.i {f : α → Value} {ok : α → Prop} [hm : PC v G R a] [hR : R.Is f ok] {sb : Nat} {ag : Bool} [hs : TS P T sb] [hE : TA P T ag] (e : (Nat.beq sb R.sz && ag == R.agg) = true) (h : ok a → WL P n L Q rest B ((d, f a) :: env) G S) : LodV P n L Q rest B env G S d T v := by
  simp only [Bool.and_eq_true, beq_iff_eq, Nat.beq_eq] at e
  exact .cellIs hm.h e.1 e.2 h
theorem LodV.r [hm : PC v G R a] {sb : Nat} {ag : Bool} [hs : TS P T sb] [hE : TA P T ag] (e : (Nat.beq sb R.sz && ag == R.agg) = true) (h : ∀ u, WL P n L Q rest B ((d, u) :: env) (rd R a u :: G) S) : LodV P n L Q rest B env G S d T v := by
  simp only [Bool.and_eq_true, beq_iff_eq, Nat.beq_eq] at e
  exact .cell hm.h e.1 e.2 h
theorem WL.build {k sz : Nat} {ops : List (Nat × Operand)} {vs zs cs : List Value} (ho : upto 0 (ops.map (·.2)) = ops) (hx : env.evs (ops.map (·.2)) = some vs) (hk : Nat.beq vs.length k = true) [hT : TU P T (.slice E)] [hsz : TS P E sz] [hz : TZ P E zs] (hpos : (Nat.beq zs.length sz && Nat.ble 1 sz && Nat.ble (k * sz) 16777216) = true)
    [hc : LensC G S vs sz cs] (hd : Nat.blt d n = true) (h : ∀ v, WL P n L Q rest B ((d, v) :: env) G (own E sz v k cs :: S)) : WL P n L Q (⟨some d, .buildSlice T k ops.toArray, ty, pos, af, none⟩ :: rest) B env G S := by
  simp only [Bool.and_eq_true] at hpos
  refine .buildSlice ho hx (Nat.eq_of_beq_eq_true hk) hpos.1.1 hpos.1.2 hpos.2 (fun w sw => (hc.h B w sw).2) hd (fun v => ⟨fun ac w sa sw => ?_⟩)
  have hw : ∃ w', Sat B G S w' := ⟨w, sw.drop⟩
  obtain ⟨w', sw'⟩ := hw
  rw [(hc.h B w' sw').1] at sw
  exact (h v).go ac w sa sw
theorem AppV.o {sz m k by_ : Nat} {xs news zs : List Value} {S1 S2 : List Res} {E2 sz2 : Nat} [h1 : SelOwn u S E2 sz2 k news S1] [h2 : SelOwn v S1 E sz m xs S2] [hT : TU P T (.slice E)] [hsz : TS P E sz] [hz : TZ P E zs] [hby : TB P E by_] (hzl : (Nat.beq zs.length sz && Nat.beq sz2 sz && Nat.ble 1 by_) = true)
    (hfit : (m + k) * by_ ≤ 140737488355328) [ho : OnesC G S news] (h : ∀ v', WL P n L Q rest B ((d, v') :: env) G (Qd.own E sz v' (m + k) (xs ++ news) :: S2)) : AppV P n L Q rest B env G S d T v u := by
  simp only [Bool.and_eq_true, Nat.beq_eq] at hzl
  obtain ⟨⟨hzl, rfl⟩, hb⟩ := hzl
  have hb : 1 ≤ by_ := by simp only [Nat.ble_eq] at hb; exact hb
  have : m + k ≤ (m + k) * by_ := Nat.le_mul_of_pos_right _ hb
  refine .own (E' := E2) ?_ (by simp [hzl]) hfit (by omega) (ho.h B) h
  exact h1.h.perm.trans ((h2.h.perm.cons _).trans (.swap _ _ _))
theorem AppV.s {sz m by_ : Nat} {xs zs : List Value} {f : α → Value} {ok : α → Prop} [hR : R.Is f ok] [hm : RdSl u G R l] [hS : SelOwn v S E sz m xs S'] [hT : TU P T (.slice E)] [hsz : TS P E sz] [hz : TZ P E zs] [hby : TB P E by_] (hzl : (Nat.beq zs.length sz && Nat.beq R.sz sz && Nat.ble 1 by_) = true)
    (hfit : (m + l.length) * by_ ≤ 140737488355328) (h : (∀ a ∈ l, ok a) → ∀ v', WL P n L Q rest B ((d, v') :: env) G (Qd.own E sz v' (m + l.length) (xs ++ flat (l.map f)) :: S')) : AppV P n L Q rest B env G S d T v u := by
  simp only [Bool.and_eq_true, Nat.beq_eq] at hzl
  have hb : 1 ≤ by_ := by have := hzl.2; simp only [Nat.ble_eq] at this; exact this
  have : m + l.length ≤ (m + l.length) * by_ := Nat.le_mul_of_pos_right _ hb
  exact .sl hm.h hS.h hzl.1.2 (by simp [hzl.1.1]) hfit (by omega) h
theorem Sat.pubC {B : World} {w : World} {sz m : Nat} {xs vs cs : List Value} (h : Sat B G S w) [hm : SelOwn v S E sz m xs S'] [hl : LensC G S vs sz cs] (hR : Nat.beq R.sz sz = true) (hxs : xs = cs) (hml : Nat.beq m l.length = true) (hall : ∀ mm, (∀ g ∈ G, g.holds mm) → AllR R l vs mm) : Sat B (Qd.rd (Ty.sl R) l v :: G) S' w :=
  h.pubR hm.h (Nat.eq_of_beq_eq_true hR) (by rw [(hl.h B w h).1]; exact hxs) (Nat.eq_of_beq_eq_true hml) hall
end
end Go.Qd
