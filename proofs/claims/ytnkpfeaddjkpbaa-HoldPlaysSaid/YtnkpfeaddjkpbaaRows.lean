/-
  NARROWER THAN 'FOR EVERY INPUT', by the rows' own cells (each row's printed sentence says how): OpOrders: loops.
  DERIVED. THE GIVEN ROWS OF THIS SEAT. 6 by the template 'for every input the law returns true; each argument reads behind the call as it read before'; 0 by the template 'total and deterministic' (their statements: YtnkpfeaddjkpbaaTotals.lean).
  GIVEN WITH THE SEED: the statements are not yours to turn. If you find one false, say at which input.
  Laid BY PROGRAM, IN A SANDBOX (cutbox-rows.mjs): the forced cells as the released guide's own fill.sh prints them over the translation ecc129f09a6ec6eb… (all of the seat's roots in one cut). By AI agents, Wed Nov 11 2026. No macro, syntax, notation, axiom, sorry.
-/
import Derived.Test.YtnkpfeaddjkpbaaChecked
import GoSem.Claim
import GoSem.ClaimJoined
import GoSem.ClaimMapViews
import Derived.JoinedTies
import Derived.KernelRfl
namespace Go.Proofs.Ytnkpfeaddjkpbaa
/- THE CELL 'sum', in the pinned program and in every row, IS THE sha256 OF THE DUMP (.gsa) THAT YtnkpfeaddjkpbaaProg.lean LOADS. Nothing in Lean hashes anything: it is a label: what it is worth is what the hold of that sum in a sandbox is worth. -/
noncomputable def Try.pinned : Pinned := { name := "ytnkpfeaddjkpbaa", sum := "ecc129f09a6ec6eb2c61a616f5394973a99ed9e4212036461fe022875c414188", checked := Try.checked }
namespace Rows
def none {H : Type} : Left H := { results := [], args := [] }

/-- 'quadrillelaw14.OpOrders': WHATEVER THE INPUT: true; the input reads as it did. -/
def opOrdersSpec : ChangeSpec := { name := "opOrders", fn := fun _ => fun
  | [d1, d2] => { results := [.lit (.bool true)], args := [d1, d2] }
  | _ => none }
def opOrdersRow : OpenClaim := { program := "ytnkpfeaddjkpbaa", sum := "ecc129f09a6ec6eb2c61a616f5394973a99ed9e4212036461fe022875c414188", func := "quadrille/quadrillelaw14.OpOrders", spec := "opOrders", unfollowed := true, recurses := true, loops := true, apart := false }
def OpOrdersSaid : Prop := opOrdersRow.holds Try.pinned (OpenSpec.ofChange opOrdersSpec)

/-- ITS FALSE NEIGHBOUR: 'it returns false'. Refute it at one input. -/
def opOrdersWrong : ChangeSpec := { name := "opOrders", fn := fun _ => fun
  | [d1, d2] => { results := [.lit (.bool false)], args := [d1, d2] }
  | _ => none }
def OpOrdersWrongFalsely : Prop := opOrdersRow.holds Try.pinned (OpenSpec.ofChange opOrdersWrong)

/-- 'quadrillelaw05.StampBytes': WHATEVER THE INPUT: true; the input reads as it did. -/
def stampBytesSpec : ChangeSpec := { name := "stampBytes", fn := fun _ => fun
  | [d] => { results := [.lit (.bool true)], args := [d] }
  | _ => none }
def stampBytesRow : OpenClaim := { program := "ytnkpfeaddjkpbaa", sum := "ecc129f09a6ec6eb2c61a616f5394973a99ed9e4212036461fe022875c414188", func := "quadrille/quadrillelaw05.StampBytes", spec := "stampBytes", recurses := true, apart := false }
def StampBytesSaid : Prop := stampBytesRow.holds Try.pinned (OpenSpec.ofChange stampBytesSpec)

/-- ITS FALSE NEIGHBOUR: 'it returns false'. Refute it at one input. -/
def stampBytesWrong : ChangeSpec := { name := "stampBytes", fn := fun _ => fun
  | [d] => { results := [.lit (.bool false)], args := [d] }
  | _ => none }
def StampBytesWrongFalsely : Prop := stampBytesRow.holds Try.pinned (OpenSpec.ofChange stampBytesWrong)

/-- 'quadrillelaw17.HoldDue': WHATEVER THE INPUT: true; the input reads as it did. -/
def holdDueSpec : ChangeSpec := { name := "holdDue", fn := fun _ => fun
  | [d1, d2] => { results := [.lit (.bool true)], args := [d1, d2] }
  | _ => none }
def holdDueRow : OpenClaim := { program := "ytnkpfeaddjkpbaa", sum := "ecc129f09a6ec6eb2c61a616f5394973a99ed9e4212036461fe022875c414188", func := "quadrille/quadrillelaw17.HoldDue", spec := "holdDue", unfollowed := true, recurses := true, apart := false }
def HoldDueSaid : Prop := holdDueRow.holds Try.pinned (OpenSpec.ofChange holdDueSpec)

/-- ITS FALSE NEIGHBOUR: 'it returns false'. Refute it at one input. -/
def holdDueWrong : ChangeSpec := { name := "holdDue", fn := fun _ => fun
  | [d1, d2] => { results := [.lit (.bool false)], args := [d1, d2] }
  | _ => none }
def HoldDueWrongFalsely : Prop := holdDueRow.holds Try.pinned (OpenSpec.ofChange holdDueWrong)

/-- 'quadrillelaw19.MatrixLearns': WHATEVER THE INPUT: true; the input reads as it did. -/
def matrixLearnsSpec : ChangeSpec := { name := "matrixLearns", fn := fun _ => fun
  | [d1, d2, d3, d4] => { results := [.lit (.bool true)], args := [d1, d2, d3, d4] }
  | _ => none }
def matrixLearnsRow : OpenClaim := { program := "ytnkpfeaddjkpbaa", sum := "ecc129f09a6ec6eb2c61a616f5394973a99ed9e4212036461fe022875c414188", func := "quadrille/quadrillelaw19.MatrixLearns", spec := "matrixLearns", unfollowed := true, recurses := true, apart := false }
def MatrixLearnsSaid : Prop := matrixLearnsRow.holds Try.pinned (OpenSpec.ofChange matrixLearnsSpec)

/-- ITS FALSE NEIGHBOUR: 'it returns false'. Refute it at one input. -/
def matrixLearnsWrong : ChangeSpec := { name := "matrixLearns", fn := fun _ => fun
  | [d1, d2, d3, d4] => { results := [.lit (.bool false)], args := [d1, d2, d3, d4] }
  | _ => none }
def MatrixLearnsWrongFalsely : Prop := matrixLearnsRow.holds Try.pinned (OpenSpec.ofChange matrixLearnsWrong)

/-- 'quadrillelaw06.ClockBytes': WHATEVER THE INPUT: true; the input reads as it did. -/
def clockBytesSpec : ChangeSpec := { name := "clockBytes", fn := fun _ => fun
  | [d1, d2] => { results := [.lit (.bool true)], args := [d1, d2] }
  | _ => none }
def clockBytesRow : OpenClaim := { program := "ytnkpfeaddjkpbaa", sum := "ecc129f09a6ec6eb2c61a616f5394973a99ed9e4212036461fe022875c414188", func := "quadrille/quadrillelaw06.ClockBytes", spec := "clockBytes", unfollowed := true, recurses := true, apart := false }
def ClockBytesSaid : Prop := clockBytesRow.holds Try.pinned (OpenSpec.ofChange clockBytesSpec)

/-- ITS FALSE NEIGHBOUR: 'it returns false'. Refute it at one input. -/
def clockBytesWrong : ChangeSpec := { name := "clockBytes", fn := fun _ => fun
  | [d1, d2] => { results := [.lit (.bool false)], args := [d1, d2] }
  | _ => none }
def ClockBytesWrongFalsely : Prop := clockBytesRow.holds Try.pinned (OpenSpec.ofChange clockBytesWrong)

/-- 'quadrillelaw17.HoldPlays': WHATEVER THE INPUT: true; the input reads as it did. -/
def holdPlaysSpec : ChangeSpec := { name := "holdPlays", fn := fun _ => fun
  | [d1, d2] => { results := [.lit (.bool true)], args := [d1, d2] }
  | _ => none }
def holdPlaysRow : OpenClaim := { program := "ytnkpfeaddjkpbaa", sum := "ecc129f09a6ec6eb2c61a616f5394973a99ed9e4212036461fe022875c414188", func := "quadrille/quadrillelaw17.HoldPlays", spec := "holdPlays", unfollowed := true, recurses := true, apart := false }
def HoldPlaysSaid : Prop := holdPlaysRow.holds Try.pinned (OpenSpec.ofChange holdPlaysSpec)

/-- ITS FALSE NEIGHBOUR: 'it returns false'. Refute it at one input. -/
def holdPlaysWrong : ChangeSpec := { name := "holdPlays", fn := fun _ => fun
  | [d1, d2] => { results := [.lit (.bool false)], args := [d1, d2] }
  | _ => none }
def HoldPlaysWrongFalsely : Prop := holdPlaysRow.holds Try.pinned (OpenSpec.ofChange holdPlaysWrong)

/- THE SECOND FORM. 'bulk': how many values and letters a reading holds, each counted each time it is reached (what is shared counts as often as it is met; a slice's spare places count too). A statement '..UptoSaid' is the law's where the arguments, and the package variables that the reading takes, are together of bulk at most 1048576: NARROWER than '..Said'. Prove '..Said' where nothing that the law and all that it calls make is longer than what came in: it says more and counts as full. Else prove '..UptoSaid'. A law counts once. -/
mutual
def uptoBulk {H : Type} : DataW H → Nat
  | .lit (.string bytes) => bytes.length + 1
  | .lit _ => 1
  | .nil => 1
  | .ptr d => uptoBulk d + 1
  | .slice elems spare => uptoBulkAll elems + uptoBulkAll spare + 1
  | .agg parts => uptoBulkAll parts + 1
  | .iface _ d => uptoBulk d + 1
  | .map entries => uptoBulkEntries entries + 1
  | .held _ => 1
def uptoBulkAll {H : Type} : List (DataW H) → Nat
  | [] => 0
  | d :: r => uptoBulk d + uptoBulkAll r
def uptoBulkEntries {H : Type} : List (Lit × DataW H) → Nat
  | [] => 0
  | x :: r => uptoBulkEntry x + uptoBulkEntries r
def uptoBulkEntry {H : Type} : Lit × DataW H → Nat
  | (.string bytes, d) => bytes.length + uptoBulk d + 1
  | (_, d) => uptoBulk d + 1
 end
def uptoSmall : (H : Type) → List (DataW H) → Bool := fun _ ds => decide (uptoBulkAll ds ≤ 1048576)
def OpenSpec.upto (s : _root_.Go.ChangeSpec) : _root_.Go.OpenSpec := { _root_.Go.OpenSpec.ofChange s with cond := some uptoSmall }

/-- 'quadrillelaw14.OpOrders', WHERE WHAT IT READS IS OF BULK AT MOST 1048576: true; the input reads as it did. -/
def opOrdersUptoRow : OpenClaim := { program := "ytnkpfeaddjkpbaa", sum := "ecc129f09a6ec6eb2c61a616f5394973a99ed9e4212036461fe022875c414188", func := "quadrille/quadrillelaw14.OpOrders", spec := "opOrders", unfollowed := true, recurses := true, loops := true, apart := false, narrowed := true }
def OpOrdersUptoSaid : Prop := opOrdersUptoRow.holds Try.pinned (OpenSpec.upto opOrdersSpec)

/-- 'quadrillelaw05.StampBytes', WHERE WHAT IT READS IS OF BULK AT MOST 1048576: true; the input reads as it did. -/
def stampBytesUptoRow : OpenClaim := { program := "ytnkpfeaddjkpbaa", sum := "ecc129f09a6ec6eb2c61a616f5394973a99ed9e4212036461fe022875c414188", func := "quadrille/quadrillelaw05.StampBytes", spec := "stampBytes", recurses := true, apart := false, narrowed := true }
def StampBytesUptoSaid : Prop := stampBytesUptoRow.holds Try.pinned (OpenSpec.upto stampBytesSpec)

/-- 'quadrillelaw17.HoldDue', WHERE WHAT IT READS IS OF BULK AT MOST 1048576: true; the input reads as it did. -/
def holdDueUptoRow : OpenClaim := { program := "ytnkpfeaddjkpbaa", sum := "ecc129f09a6ec6eb2c61a616f5394973a99ed9e4212036461fe022875c414188", func := "quadrille/quadrillelaw17.HoldDue", spec := "holdDue", unfollowed := true, recurses := true, apart := false, narrowed := true }
def HoldDueUptoSaid : Prop := holdDueUptoRow.holds Try.pinned (OpenSpec.upto holdDueSpec)

/-- 'quadrillelaw19.MatrixLearns', WHERE WHAT IT READS IS OF BULK AT MOST 1048576: true; the input reads as it did. -/
def matrixLearnsUptoRow : OpenClaim := { program := "ytnkpfeaddjkpbaa", sum := "ecc129f09a6ec6eb2c61a616f5394973a99ed9e4212036461fe022875c414188", func := "quadrille/quadrillelaw19.MatrixLearns", spec := "matrixLearns", unfollowed := true, recurses := true, apart := false, narrowed := true }
def MatrixLearnsUptoSaid : Prop := matrixLearnsUptoRow.holds Try.pinned (OpenSpec.upto matrixLearnsSpec)

/-- 'quadrillelaw06.ClockBytes', WHERE WHAT IT READS IS OF BULK AT MOST 1048576: true; the input reads as it did. -/
def clockBytesUptoRow : OpenClaim := { program := "ytnkpfeaddjkpbaa", sum := "ecc129f09a6ec6eb2c61a616f5394973a99ed9e4212036461fe022875c414188", func := "quadrille/quadrillelaw06.ClockBytes", spec := "clockBytes", unfollowed := true, recurses := true, apart := false, narrowed := true }
def ClockBytesUptoSaid : Prop := clockBytesUptoRow.holds Try.pinned (OpenSpec.upto clockBytesSpec)

/-- 'quadrillelaw17.HoldPlays', WHERE WHAT IT READS IS OF BULK AT MOST 1048576: true; the input reads as it did. -/
def holdPlaysUptoRow : OpenClaim := { program := "ytnkpfeaddjkpbaa", sum := "ecc129f09a6ec6eb2c61a616f5394973a99ed9e4212036461fe022875c414188", func := "quadrille/quadrillelaw17.HoldPlays", spec := "holdPlays", unfollowed := true, recurses := true, apart := false, narrowed := true }
def HoldPlaysUptoSaid : Prop := holdPlaysUptoRow.holds Try.pinned (OpenSpec.upto holdPlaysSpec)

end Rows
end Go.Proofs.Ytnkpfeaddjkpbaa
