/-
  No cell of these rows narrows 'for every input' (looked for: loops, veiled, ifaces, maps, wideKeys, modest, calm, conditions, laid).
  DERIVED. THE GIVEN ROWS OF THIS SEAT. 10 by the template 'for every input the law returns true; each argument reads behind the call as it read before'; 0 by the template 'total and deterministic' (their statements: YtkjmlcfnokadmaaTotals.lean).
  GIVEN WITH THE SEED: the statements are not yours to turn. If you find one false, say at which input.
  Laid BY PROGRAM, IN A SANDBOX (cutbox-rows.mjs): the forced cells as the released guide's own fill.sh prints them over the translation fff3b1cd93d8d005… (all of the seat's roots in one cut). By AI agents, Wed Nov 11 2026. No macro, syntax, notation, axiom, sorry.
-/
import Derived.Test.YtkjmlcfnokadmaaChecked
import GoSem.Claim
import GoSem.ClaimJoined
import GoSem.ClaimMapViews
import Derived.JoinedTies
import Derived.KernelRfl
namespace Go.Proofs.Ytkjmlcfnokadmaa
/- THE CELL 'sum', in the pinned program and in every row, IS THE sha256 OF THE DUMP (.gsa) THAT YtkjmlcfnokadmaaProg.lean LOADS. Nothing in Lean hashes anything: it is a label: what it is worth is what the hold of that sum in a sandbox is worth. -/
noncomputable def Try.pinned : Pinned := { name := "ytkjmlcfnokadmaa", sum := "fff3b1cd93d8d005b9efe9ff7faab44f18b078ba8b5aabde38695872ef8eac31", checked := Try.checked }
namespace Rows
def none {H : Type} : Left H := { results := [], args := [] }

/-- 'quadrillelaw05.StampOrders': WHATEVER THE INPUT: true; the input reads as it did. -/
def stampOrdersSpec : ChangeSpec := { name := "stampOrders", fn := fun _ => fun
  | [d1, d2] => { results := [.lit (.bool true)], args := [d1, d2] }
  | _ => none }
def stampOrdersRow : OpenClaim := { program := "ytkjmlcfnokadmaa", sum := "fff3b1cd93d8d005b9efe9ff7faab44f18b078ba8b5aabde38695872ef8eac31", func := "quadrille/quadrillelaw05.StampOrders", spec := "stampOrders", recurses := true, apart := false }
def StampOrdersSaid : Prop := stampOrdersRow.holds Try.pinned (OpenSpec.ofChange stampOrdersSpec)

/-- ITS FALSE NEIGHBOUR: 'it returns false'. Refute it at one input. -/
def stampOrdersWrong : ChangeSpec := { name := "stampOrders", fn := fun _ => fun
  | [d1, d2] => { results := [.lit (.bool false)], args := [d1, d2] }
  | _ => none }
def StampOrdersWrongFalsely : Prop := stampOrdersRow.holds Try.pinned (OpenSpec.ofChange stampOrdersWrong)

/-- 'quadrillelaw05.StampBytes': WHATEVER THE INPUT: true; the input reads as it did. -/
def stampBytesSpec : ChangeSpec := { name := "stampBytes", fn := fun _ => fun
  | [d] => { results := [.lit (.bool true)], args := [d] }
  | _ => none }
def stampBytesRow : OpenClaim := { program := "ytkjmlcfnokadmaa", sum := "fff3b1cd93d8d005b9efe9ff7faab44f18b078ba8b5aabde38695872ef8eac31", func := "quadrille/quadrillelaw05.StampBytes", spec := "stampBytes", recurses := true, apart := false }
def StampBytesSaid : Prop := stampBytesRow.holds Try.pinned (OpenSpec.ofChange stampBytesSpec)

/-- ITS FALSE NEIGHBOUR: 'it returns false'. Refute it at one input. -/
def stampBytesWrong : ChangeSpec := { name := "stampBytes", fn := fun _ => fun
  | [d] => { results := [.lit (.bool false)], args := [d] }
  | _ => none }
def StampBytesWrongFalsely : Prop := stampBytesRow.holds Try.pinned (OpenSpec.ofChange stampBytesWrong)

/-- 'quadrillelaw05.StampTexts': WHATEVER THE INPUT: true; the input reads as it did. -/
def stampTextsSpec : ChangeSpec := { name := "stampTexts", fn := fun _ => fun
  | [d1, d2, d3, d4] => { results := [.lit (.bool true)], args := [d1, d2, d3, d4] }
  | _ => none }
def stampTextsRow : OpenClaim := { program := "ytkjmlcfnokadmaa", sum := "fff3b1cd93d8d005b9efe9ff7faab44f18b078ba8b5aabde38695872ef8eac31", func := "quadrille/quadrillelaw05.StampTexts", spec := "stampTexts", inPlace := ["internal/bytealg.IndexByteString", "internal/bytealg.IndexString"], recurses := true, named := ["internal/bytealg.MaxLen"], apart := false }
def StampTextsSaid : Prop := stampTextsRow.holds Try.pinned (OpenSpec.ofChange stampTextsSpec)

/-- ITS FALSE NEIGHBOUR: 'it returns false'. Refute it at one input. -/
def stampTextsWrong : ChangeSpec := { name := "stampTexts", fn := fun _ => fun
  | [d1, d2, d3, d4] => { results := [.lit (.bool false)], args := [d1, d2, d3, d4] }
  | _ => none }
def StampTextsWrongFalsely : Prop := stampTextsRow.holds Try.pinned (OpenSpec.ofChange stampTextsWrong)

/-- 'quadrillelaw06.ClockMeets': WHATEVER THE INPUT: true; the input reads as it did. -/
def clockMeetsSpec : ChangeSpec := { name := "clockMeets", fn := fun _ => fun
  | [d1, d2] => { results := [.lit (.bool true)], args := [d1, d2] }
  | _ => none }
def clockMeetsRow : OpenClaim := { program := "ytkjmlcfnokadmaa", sum := "fff3b1cd93d8d005b9efe9ff7faab44f18b078ba8b5aabde38695872ef8eac31", func := "quadrille/quadrillelaw06.ClockMeets", spec := "clockMeets", unfollowed := true, recurses := true, apart := false }
def ClockMeetsSaid : Prop := clockMeetsRow.holds Try.pinned (OpenSpec.ofChange clockMeetsSpec)

/-- ITS FALSE NEIGHBOUR: 'it returns false'. Refute it at one input. -/
def clockMeetsWrong : ChangeSpec := { name := "clockMeets", fn := fun _ => fun
  | [d1, d2] => { results := [.lit (.bool false)], args := [d1, d2] }
  | _ => none }
def ClockMeetsWrongFalsely : Prop := clockMeetsRow.holds Try.pinned (OpenSpec.ofChange clockMeetsWrong)

/-- 'quadrillelaw06.ClockOrders': WHATEVER THE INPUT: true; the input reads as it did. -/
def clockOrdersSpec : ChangeSpec := { name := "clockOrders", fn := fun _ => fun
  | [d1, d2] => { results := [.lit (.bool true)], args := [d1, d2] }
  | _ => none }
def clockOrdersRow : OpenClaim := { program := "ytkjmlcfnokadmaa", sum := "fff3b1cd93d8d005b9efe9ff7faab44f18b078ba8b5aabde38695872ef8eac31", func := "quadrille/quadrillelaw06.ClockOrders", spec := "clockOrders", unfollowed := true, recurses := true, apart := false }
def ClockOrdersSaid : Prop := clockOrdersRow.holds Try.pinned (OpenSpec.ofChange clockOrdersSpec)

/-- ITS FALSE NEIGHBOUR: 'it returns false'. Refute it at one input. -/
def clockOrdersWrong : ChangeSpec := { name := "clockOrders", fn := fun _ => fun
  | [d1, d2] => { results := [.lit (.bool false)], args := [d1, d2] }
  | _ => none }
def ClockOrdersWrongFalsely : Prop := clockOrdersRow.holds Try.pinned (OpenSpec.ofChange clockOrdersWrong)

/-- 'quadrillelaw06.ClockBytes': WHATEVER THE INPUT: true; the input reads as it did. -/
def clockBytesSpec : ChangeSpec := { name := "clockBytes", fn := fun _ => fun
  | [d1, d2] => { results := [.lit (.bool true)], args := [d1, d2] }
  | _ => none }
def clockBytesRow : OpenClaim := { program := "ytkjmlcfnokadmaa", sum := "fff3b1cd93d8d005b9efe9ff7faab44f18b078ba8b5aabde38695872ef8eac31", func := "quadrille/quadrillelaw06.ClockBytes", spec := "clockBytes", unfollowed := true, recurses := true, apart := false }
def ClockBytesSaid : Prop := clockBytesRow.holds Try.pinned (OpenSpec.ofChange clockBytesSpec)

/-- ITS FALSE NEIGHBOUR: 'it returns false'. Refute it at one input. -/
def clockBytesWrong : ChangeSpec := { name := "clockBytes", fn := fun _ => fun
  | [d1, d2] => { results := [.lit (.bool false)], args := [d1, d2] }
  | _ => none }
def ClockBytesWrongFalsely : Prop := clockBytesRow.holds Try.pinned (OpenSpec.ofChange clockBytesWrong)

/-- 'quadrillelaw07.A1Columns': WHATEVER THE INPUT: true; the input reads as it did. -/
def a1ColumnsSpec : ChangeSpec := { name := "a1Columns", fn := fun _ => fun
  | [d1, d2] => { results := [.lit (.bool true)], args := [d1, d2] }
  | _ => none }
def a1ColumnsRow : OpenClaim := { program := "ytkjmlcfnokadmaa", sum := "fff3b1cd93d8d005b9efe9ff7faab44f18b078ba8b5aabde38695872ef8eac31", func := "quadrille/quadrillelaw07.A1Columns", spec := "a1Columns", apart := false }
def A1ColumnsSaid : Prop := a1ColumnsRow.holds Try.pinned (OpenSpec.ofChange a1ColumnsSpec)

/-- ITS FALSE NEIGHBOUR: 'it returns false'. Refute it at one input. -/
def a1ColumnsWrong : ChangeSpec := { name := "a1Columns", fn := fun _ => fun
  | [d1, d2] => { results := [.lit (.bool false)], args := [d1, d2] }
  | _ => none }
def A1ColumnsWrongFalsely : Prop := a1ColumnsRow.holds Try.pinned (OpenSpec.ofChange a1ColumnsWrong)

/-- 'quadrillelaw07.A1Cells': WHATEVER THE INPUT: true; the input reads as it did. -/
def a1CellsSpec : ChangeSpec := { name := "a1Cells", fn := fun _ => fun
  | [d1, d2] => { results := [.lit (.bool true)], args := [d1, d2] }
  | _ => none }
def a1CellsRow : OpenClaim := { program := "ytkjmlcfnokadmaa", sum := "fff3b1cd93d8d005b9efe9ff7faab44f18b078ba8b5aabde38695872ef8eac31", func := "quadrille/quadrillelaw07.A1Cells", spec := "a1Cells", recurses := true, apart := false }
def A1CellsSaid : Prop := a1CellsRow.holds Try.pinned (OpenSpec.ofChange a1CellsSpec)

/-- ITS FALSE NEIGHBOUR: 'it returns false'. Refute it at one input. -/
def a1CellsWrong : ChangeSpec := { name := "a1Cells", fn := fun _ => fun
  | [d1, d2] => { results := [.lit (.bool false)], args := [d1, d2] }
  | _ => none }
def A1CellsWrongFalsely : Prop := a1CellsRow.holds Try.pinned (OpenSpec.ofChange a1CellsWrong)

/-- 'quadrillelaw07.A1Apart': WHATEVER THE INPUT: true; the input reads as it did. -/
def a1ApartSpec : ChangeSpec := { name := "a1Apart", fn := fun _ => fun
  | [d1, d2] => { results := [.lit (.bool true)], args := [d1, d2] }
  | _ => none }
def a1ApartRow : OpenClaim := { program := "ytkjmlcfnokadmaa", sum := "fff3b1cd93d8d005b9efe9ff7faab44f18b078ba8b5aabde38695872ef8eac31", func := "quadrille/quadrillelaw07.A1Apart", spec := "a1Apart", recurses := true, apart := false }
def A1ApartSaid : Prop := a1ApartRow.holds Try.pinned (OpenSpec.ofChange a1ApartSpec)

/-- ITS FALSE NEIGHBOUR: 'it returns false'. Refute it at one input. -/
def a1ApartWrong : ChangeSpec := { name := "a1Apart", fn := fun _ => fun
  | [d1, d2] => { results := [.lit (.bool false)], args := [d1, d2] }
  | _ => none }
def A1ApartWrongFalsely : Prop := a1ApartRow.holds Try.pinned (OpenSpec.ofChange a1ApartWrong)

/-- 'quadrillelaw07.A1Rects': WHATEVER THE INPUT: true; the input reads as it did. -/
def a1RectsSpec : ChangeSpec := { name := "a1Rects", fn := fun _ => fun
  | [d1, d2] => { results := [.lit (.bool true)], args := [d1, d2] }
  | _ => none }
def a1RectsRow : OpenClaim := { program := "ytkjmlcfnokadmaa", sum := "fff3b1cd93d8d005b9efe9ff7faab44f18b078ba8b5aabde38695872ef8eac31", func := "quadrille/quadrillelaw07.A1Rects", spec := "a1Rects", unfollowed := true, recurses := true, apart := false }
def A1RectsSaid : Prop := a1RectsRow.holds Try.pinned (OpenSpec.ofChange a1RectsSpec)

/-- ITS FALSE NEIGHBOUR: 'it returns false'. Refute it at one input. -/
def a1RectsWrong : ChangeSpec := { name := "a1Rects", fn := fun _ => fun
  | [d1, d2] => { results := [.lit (.bool false)], args := [d1, d2] }
  | _ => none }
def A1RectsWrongFalsely : Prop := a1RectsRow.holds Try.pinned (OpenSpec.ofChange a1RectsWrong)

/- THE SECOND FORM. 'bulk': how many values and letters a reading holds, each counted each time it is reached (what is shared counts as often as it is met; a slice's spare places count too). A statement '..UptoSaid' is the law's where the arguments, and the package variables that the reading takes, are together of bulk at most 1048576: NARROWER than '..Said'. Prove '..Said' where nothing that the law and all that it calls make is longer than what came in: it says more and counts as full. Else prove '..UptoSaid'. A law counts once. -/
mutual
def uptoBulk {H : Type} : DataW H → Nat
  | .lit (.string bytes) => bytes.length + 1
  | .lit _ => 1
  | .nil => 1
  | .ptr d => uptoBulk d + 1
  | .slice elems spare => uptoBulkAll elems + uptoBulkAll spare + 1
  | .agg parts => uptoBulkAll parts + 1
  | .iface _ d => uptoBulk d + 1
  | .map entries => uptoBulkEntries entries + 1
  | .held _ => 1
def uptoBulkAll {H : Type} : List (DataW H) → Nat
  | [] => 0
  | d :: r => uptoBulk d + uptoBulkAll r
def uptoBulkEntries {H : Type} : List (Lit × DataW H) → Nat
  | [] => 0
  | x :: r => uptoBulkEntry x + uptoBulkEntries r
def uptoBulkEntry {H : Type} : Lit × DataW H → Nat
  | (.string bytes, d) => bytes.length + uptoBulk d + 1
  | (_, d) => uptoBulk d + 1
 end
def uptoSmall : (H : Type) → List (DataW H) → Bool := fun _ ds => decide (uptoBulkAll ds ≤ 1048576)
def OpenSpec.upto (s : _root_.Go.ChangeSpec) : _root_.Go.OpenSpec := { _root_.Go.OpenSpec.ofChange s with cond := some uptoSmall }

/-- 'quadrillelaw05.StampOrders', WHERE WHAT IT READS IS OF BULK AT MOST 1048576: true; the input reads as it did. -/
def stampOrdersUptoRow : OpenClaim := { program := "ytkjmlcfnokadmaa", sum := "fff3b1cd93d8d005b9efe9ff7faab44f18b078ba8b5aabde38695872ef8eac31", func := "quadrille/quadrillelaw05.StampOrders", spec := "stampOrders", recurses := true, apart := false, narrowed := true }
def StampOrdersUptoSaid : Prop := stampOrdersUptoRow.holds Try.pinned (OpenSpec.upto stampOrdersSpec)

/-- 'quadrillelaw05.StampBytes', WHERE WHAT IT READS IS OF BULK AT MOST 1048576: true; the input reads as it did. -/
def stampBytesUptoRow : OpenClaim := { program := "ytkjmlcfnokadmaa", sum := "fff3b1cd93d8d005b9efe9ff7faab44f18b078ba8b5aabde38695872ef8eac31", func := "quadrille/quadrillelaw05.StampBytes", spec := "stampBytes", recurses := true, apart := false, narrowed := true }
def StampBytesUptoSaid : Prop := stampBytesUptoRow.holds Try.pinned (OpenSpec.upto stampBytesSpec)

/-- 'quadrillelaw05.StampTexts', WHERE WHAT IT READS IS OF BULK AT MOST 1048576: true; the input reads as it did. -/
def stampTextsUptoRow : OpenClaim := { program := "ytkjmlcfnokadmaa", sum := "fff3b1cd93d8d005b9efe9ff7faab44f18b078ba8b5aabde38695872ef8eac31", func := "quadrille/quadrillelaw05.StampTexts", spec := "stampTexts", inPlace := ["internal/bytealg.IndexByteString", "internal/bytealg.IndexString"], recurses := true, named := ["internal/bytealg.MaxLen"], apart := false, narrowed := true }
def StampTextsUptoSaid : Prop := stampTextsUptoRow.holds Try.pinned (OpenSpec.upto stampTextsSpec)

/-- 'quadrillelaw06.ClockMeets', WHERE WHAT IT READS IS OF BULK AT MOST 1048576: true; the input reads as it did. -/
def clockMeetsUptoRow : OpenClaim := { program := "ytkjmlcfnokadmaa", sum := "fff3b1cd93d8d005b9efe9ff7faab44f18b078ba8b5aabde38695872ef8eac31", func := "quadrille/quadrillelaw06.ClockMeets", spec := "clockMeets", unfollowed := true, recurses := true, apart := false, narrowed := true }
def ClockMeetsUptoSaid : Prop := clockMeetsUptoRow.holds Try.pinned (OpenSpec.upto clockMeetsSpec)

/-- 'quadrillelaw06.ClockOrders', WHERE WHAT IT READS IS OF BULK AT MOST 1048576: true; the input reads as it did. -/
def clockOrdersUptoRow : OpenClaim := { program := "ytkjmlcfnokadmaa", sum := "fff3b1cd93d8d005b9efe9ff7faab44f18b078ba8b5aabde38695872ef8eac31", func := "quadrille/quadrillelaw06.ClockOrders", spec := "clockOrders", unfollowed := true, recurses := true, apart := false, narrowed := true }
def ClockOrdersUptoSaid : Prop := clockOrdersUptoRow.holds Try.pinned (OpenSpec.upto clockOrdersSpec)

/-- 'quadrillelaw06.ClockBytes', WHERE WHAT IT READS IS OF BULK AT MOST 1048576: true; the input reads as it did. -/
def clockBytesUptoRow : OpenClaim := { program := "ytkjmlcfnokadmaa", sum := "fff3b1cd93d8d005b9efe9ff7faab44f18b078ba8b5aabde38695872ef8eac31", func := "quadrille/quadrillelaw06.ClockBytes", spec := "clockBytes", unfollowed := true, recurses := true, apart := false, narrowed := true }
def ClockBytesUptoSaid : Prop := clockBytesUptoRow.holds Try.pinned (OpenSpec.upto clockBytesSpec)

/-- 'quadrillelaw07.A1Columns', WHERE WHAT IT READS IS OF BULK AT MOST 1048576: true; the input reads as it did. -/
def a1ColumnsUptoRow : OpenClaim := { program := "ytkjmlcfnokadmaa", sum := "fff3b1cd93d8d005b9efe9ff7faab44f18b078ba8b5aabde38695872ef8eac31", func := "quadrille/quadrillelaw07.A1Columns", spec := "a1Columns", apart := false, narrowed := true }
def A1ColumnsUptoSaid : Prop := a1ColumnsUptoRow.holds Try.pinned (OpenSpec.upto a1ColumnsSpec)

/-- 'quadrillelaw07.A1Cells', WHERE WHAT IT READS IS OF BULK AT MOST 1048576: true; the input reads as it did. -/
def a1CellsUptoRow : OpenClaim := { program := "ytkjmlcfnokadmaa", sum := "fff3b1cd93d8d005b9efe9ff7faab44f18b078ba8b5aabde38695872ef8eac31", func := "quadrille/quadrillelaw07.A1Cells", spec := "a1Cells", recurses := true, apart := false, narrowed := true }
def A1CellsUptoSaid : Prop := a1CellsUptoRow.holds Try.pinned (OpenSpec.upto a1CellsSpec)

/-- 'quadrillelaw07.A1Apart', WHERE WHAT IT READS IS OF BULK AT MOST 1048576: true; the input reads as it did. -/
def a1ApartUptoRow : OpenClaim := { program := "ytkjmlcfnokadmaa", sum := "fff3b1cd93d8d005b9efe9ff7faab44f18b078ba8b5aabde38695872ef8eac31", func := "quadrille/quadrillelaw07.A1Apart", spec := "a1Apart", recurses := true, apart := false, narrowed := true }
def A1ApartUptoSaid : Prop := a1ApartUptoRow.holds Try.pinned (OpenSpec.upto a1ApartSpec)

/-- 'quadrillelaw07.A1Rects', WHERE WHAT IT READS IS OF BULK AT MOST 1048576: true; the input reads as it did. -/
def a1RectsUptoRow : OpenClaim := { program := "ytkjmlcfnokadmaa", sum := "fff3b1cd93d8d005b9efe9ff7faab44f18b078ba8b5aabde38695872ef8eac31", func := "quadrille/quadrillelaw07.A1Rects", spec := "a1Rects", unfollowed := true, recurses := true, apart := false, narrowed := true }
def A1RectsUptoSaid : Prop := a1RectsUptoRow.holds Try.pinned (OpenSpec.upto a1RectsSpec)

end Rows
end Go.Proofs.Ytkjmlcfnokadmaa
