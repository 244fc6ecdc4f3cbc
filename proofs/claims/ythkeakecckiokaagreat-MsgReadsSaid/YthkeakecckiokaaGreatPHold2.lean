/-
  What waits: slices of operations, copied and cut.
-/
import Derived.Test.YthkeakecckiokaaGreatPMat
import Derived.Test.YthkeakecckiokaaGreatQDel
namespace Go.Qd
/-! ### What waits: slices of operations, copied and cut. -/
section
open Go Go.Proofs
/-- An operation of the program, of those that the statements make: nobody's but its origin's, numbers, and what is known. -/
abbrev oTail : List Value := [.int .u64 0, .int .i64 0, .int .u64 0, .int .i64 0, .int .i64 0, .int .i64 0, .string .empty, .int .i64 0, .int .i64 0, .string .empty, .int .u64 0, .int .i64 0, .int .u64 0, .int .i64 0, .int .u64 0, .int .i64 0, .int .u64 0, .int .i64 0, .slice none 0 0]
abbrev opC (o : Int) (n t : Nat) (d : Value) (k : Int) : List Value := .int .i64 o :: .int .u64 n :: .int .u64 t :: d :: .int .i64 k :: oTail
abbrev opV (o : Int) (n t : Nat) (d : Value) (k : Int) : Value := .agg (opC o n t d k).toArray
structure OpT where
  o : Int
  n : Nat
  t : Nat
  c : List Nat
  d : Value
  k : Int
abbrev OpT.C (x : OpT) : List Value := opC x.o x.n x.t x.d x.k
abbrev OpT.V (x : OpT) : Value := opV x.o x.n x.t x.d x.k
abbrev hG (l : List OpT) : Pers := rdAll (Ty.sl Ty.u64) (l.map OpT.c) (l.map OpT.d)
end
/-! ### What waits: Put, Next. -/
section
open Go Go.Proofs
end
end Go.Qd
