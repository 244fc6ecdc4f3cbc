/-
  No cell of these rows narrows 'for every input' (looked for: loops, veiled, ifaces, maps, wideKeys, modest, calm, conditions, laid).
  DERIVED. THE GIVEN ROWS OF THIS SEAT. 4 by the template 'for every input the law returns true; each argument reads behind the call as it read before'; 0 by the template 'total and deterministic' (their statements: YtaachikpbdgdnaaTotals.lean).
  GIVEN WITH THE SEED: the statements are not yours to turn. If you find one false, say at which input.
  Laid BY PROGRAM, IN A SANDBOX (cutbox-rows.mjs): the forced cells as the released guide's own fill.sh prints them over the translation f78ffda4af1abcc0… (all of the seat's roots in one cut). By AI agents, Wed Nov 11 2026. No macro, syntax, notation, axiom, sorry.
-/
import Derived.Test.YtaachikpbdgdnaaChecked
import GoSem.Claim
import GoSem.ClaimJoined
import GoSem.ClaimMapViews
import Derived.JoinedTies
import Derived.KernelRfl
namespace Go.Proofs.Ytaachikpbdgdnaa
/- THE CELL 'sum', in the pinned program and in every row, IS THE sha256 OF THE DUMP (.gsa) THAT YtaachikpbdgdnaaProg.lean LOADS. Nothing in Lean hashes anything: it is a label: what it is worth is what the hold of that sum in a sandbox is worth. -/
noncomputable def Try.pinned : Pinned := { name := "ytaachikpbdgdnaa", sum := "f78ffda4af1abcc027ce89f4c491d1cc87bd1932d6a12163ad1f9d34b0cae853", checked := Try.checked }
namespace Rows
def none {H : Type} : Left H := { results := [], args := [] }

/-- 'quadrillelaw38.StatDeviations': WHATEVER THE INPUT: true; the input reads as it did. -/
def statDeviationsSpec : ChangeSpec := { name := "statDeviations", fn := fun _ => fun
  | [d] => { results := [.lit (.bool true)], args := [d] }
  | _ => none }
def statDeviationsRow : OpenClaim := { program := "ytaachikpbdgdnaa", sum := "f78ffda4af1abcc027ce89f4c491d1cc87bd1932d6a12163ad1f9d34b0cae853", func := "quadrille/quadrillelaw38.StatDeviations", spec := "statDeviations", inPlace := ["math/bits.Add64"], recurses := true, named := ["math/bits.divideError", "math/bits.overflowError"], apart := false }
def StatDeviationsSaid : Prop := statDeviationsRow.holds Try.pinned (OpenSpec.ofChange statDeviationsSpec)

/-- ITS FALSE NEIGHBOUR: 'it returns false'. Refute it at one input. -/
def statDeviationsWrong : ChangeSpec := { name := "statDeviations", fn := fun _ => fun
  | [d] => { results := [.lit (.bool false)], args := [d] }
  | _ => none }
def StatDeviationsWrongFalsely : Prop := statDeviationsRow.holds Try.pinned (OpenSpec.ofChange statDeviationsWrong)

/-- 'quadrillelaw38.StatParts': WHATEVER THE INPUT: true; the input reads as it did. -/
def statPartsSpec : ChangeSpec := { name := "statParts", fn := fun _ => fun
  | [d1, d2] => { results := [.lit (.bool true)], args := [d1, d2] }
  | _ => none }
def statPartsRow : OpenClaim := { program := "ytaachikpbdgdnaa", sum := "f78ffda4af1abcc027ce89f4c491d1cc87bd1932d6a12163ad1f9d34b0cae853", func := "quadrille/quadrillelaw38.StatParts", spec := "statParts", inPlace := ["math/bits.Add64"], recurses := true, named := ["math/bits.divideError", "math/bits.overflowError"], apart := false }
def StatPartsSaid : Prop := statPartsRow.holds Try.pinned (OpenSpec.ofChange statPartsSpec)

/-- ITS FALSE NEIGHBOUR: 'it returns false'. Refute it at one input. -/
def statPartsWrong : ChangeSpec := { name := "statParts", fn := fun _ => fun
  | [d1, d2] => { results := [.lit (.bool false)], args := [d1, d2] }
  | _ => none }
def StatPartsWrongFalsely : Prop := statPartsRow.holds Try.pinned (OpenSpec.ofChange statPartsWrong)

/-- 'quadrillelaw38.StatOrders': WHATEVER THE INPUT: true; the input reads as it did. -/
def statOrdersSpec : ChangeSpec := { name := "statOrders", fn := fun _ => fun
  | [d1, d2, d3] => { results := [.lit (.bool true)], args := [d1, d2, d3] }
  | _ => none }
def statOrdersRow : OpenClaim := { program := "ytaachikpbdgdnaa", sum := "f78ffda4af1abcc027ce89f4c491d1cc87bd1932d6a12163ad1f9d34b0cae853", func := "quadrille/quadrillelaw38.StatOrders", spec := "statOrders", inPlace := ["math/bits.Add64"], recurses := true, named := ["math/bits.divideError", "math/bits.overflowError"], apart := false }
def StatOrdersSaid : Prop := statOrdersRow.holds Try.pinned (OpenSpec.ofChange statOrdersSpec)

/-- ITS FALSE NEIGHBOUR: 'it returns false'. Refute it at one input. -/
def statOrdersWrong : ChangeSpec := { name := "statOrders", fn := fun _ => fun
  | [d1, d2, d3] => { results := [.lit (.bool false)], args := [d1, d2, d3] }
  | _ => none }
def StatOrdersWrongFalsely : Prop := statOrdersRow.holds Try.pinned (OpenSpec.ofChange statOrdersWrong)

/-- 'quadrillelaw05.StampSorts': WHATEVER THE INPUT: true; the input reads as it did. -/
def stampSortsSpec : ChangeSpec := { name := "stampSorts", fn := fun _ => fun
  | [d] => { results := [.lit (.bool true)], args := [d] }
  | _ => none }
def stampSortsRow : OpenClaim := { program := "ytaachikpbdgdnaa", sum := "f78ffda4af1abcc027ce89f4c491d1cc87bd1932d6a12163ad1f9d34b0cae853", func := "quadrille/quadrillelaw05.StampSorts", spec := "stampSorts", unfollowed := true, recurses := true, apart := false }
def StampSortsSaid : Prop := stampSortsRow.holds Try.pinned (OpenSpec.ofChange stampSortsSpec)

/-- ITS FALSE NEIGHBOUR: 'it returns false'. Refute it at one input. -/
def stampSortsWrong : ChangeSpec := { name := "stampSorts", fn := fun _ => fun
  | [d] => { results := [.lit (.bool false)], args := [d] }
  | _ => none }
def StampSortsWrongFalsely : Prop := stampSortsRow.holds Try.pinned (OpenSpec.ofChange stampSortsWrong)

/- THE SECOND FORM. 'bulk': how many values and letters a reading holds, each counted each time it is reached (what is shared counts as often as it is met; a slice's spare places count too). A statement '..UptoSaid' is the law's where the arguments, and the package variables that the reading takes, are together of bulk at most 1048576: NARROWER than '..Said'. Prove '..Said' where nothing that the law and all that it calls make is longer than what came in: it says more and counts as full. Else prove '..UptoSaid'. A law counts once. -/
mutual
def uptoBulk {H : Type} : DataW H → Nat
  | .lit (.string bytes) => bytes.length + 1
  | .lit _ => 1
  | .nil => 1
  | .ptr d => uptoBulk d + 1
  | .slice elems spare => uptoBulkAll elems + uptoBulkAll spare + 1
  | .agg parts => uptoBulkAll parts + 1
  | .iface _ d => uptoBulk d + 1
  | .map entries => uptoBulkEntries entries + 1
  | .held _ => 1
def uptoBulkAll {H : Type} : List (DataW H) → Nat
  | [] => 0
  | d :: r => uptoBulk d + uptoBulkAll r
def uptoBulkEntries {H : Type} : List (Lit × DataW H) → Nat
  | [] => 0
  | x :: r => uptoBulkEntry x + uptoBulkEntries r
def uptoBulkEntry {H : Type} : Lit × DataW H → Nat
  | (.string bytes, d) => bytes.length + uptoBulk d + 1
  | (_, d) => uptoBulk d + 1
 end
def uptoSmall : (H : Type) → List (DataW H) → Bool := fun _ ds => decide (uptoBulkAll ds ≤ 1048576)
def OpenSpec.upto (s : _root_.Go.ChangeSpec) : _root_.Go.OpenSpec := { _root_.Go.OpenSpec.ofChange s with cond := some uptoSmall }

/-- 'quadrillelaw38.StatDeviations', WHERE WHAT IT READS IS OF BULK AT MOST 1048576: true; the input reads as it did. -/
def statDeviationsUptoRow : OpenClaim := { program := "ytaachikpbdgdnaa", sum := "f78ffda4af1abcc027ce89f4c491d1cc87bd1932d6a12163ad1f9d34b0cae853", func := "quadrille/quadrillelaw38.StatDeviations", spec := "statDeviations", inPlace := ["math/bits.Add64"], recurses := true, named := ["math/bits.divideError", "math/bits.overflowError"], apart := false, narrowed := true }
def StatDeviationsUptoSaid : Prop := statDeviationsUptoRow.holds Try.pinned (OpenSpec.upto statDeviationsSpec)

/-- 'quadrillelaw38.StatParts', WHERE WHAT IT READS IS OF BULK AT MOST 1048576: true; the input reads as it did. -/
def statPartsUptoRow : OpenClaim := { program := "ytaachikpbdgdnaa", sum := "f78ffda4af1abcc027ce89f4c491d1cc87bd1932d6a12163ad1f9d34b0cae853", func := "quadrille/quadrillelaw38.StatParts", spec := "statParts", inPlace := ["math/bits.Add64"], recurses := true, named := ["math/bits.divideError", "math/bits.overflowError"], apart := false, narrowed := true }
def StatPartsUptoSaid : Prop := statPartsUptoRow.holds Try.pinned (OpenSpec.upto statPartsSpec)

/-- 'quadrillelaw38.StatOrders', WHERE WHAT IT READS IS OF BULK AT MOST 1048576: true; the input reads as it did. -/
def statOrdersUptoRow : OpenClaim := { program := "ytaachikpbdgdnaa", sum := "f78ffda4af1abcc027ce89f4c491d1cc87bd1932d6a12163ad1f9d34b0cae853", func := "quadrille/quadrillelaw38.StatOrders", spec := "statOrders", inPlace := ["math/bits.Add64"], recurses := true, named := ["math/bits.divideError", "math/bits.overflowError"], apart := false, narrowed := true }
def StatOrdersUptoSaid : Prop := statOrdersUptoRow.holds Try.pinned (OpenSpec.upto statOrdersSpec)

/-- 'quadrillelaw05.StampSorts', WHERE WHAT IT READS IS OF BULK AT MOST 1048576: true; the input reads as it did. -/
def stampSortsUptoRow : OpenClaim := { program := "ytaachikpbdgdnaa", sum := "f78ffda4af1abcc027ce89f4c491d1cc87bd1932d6a12163ad1f9d34b0cae853", func := "quadrille/quadrillelaw05.StampSorts", spec := "stampSorts", unfollowed := true, recurses := true, apart := false, narrowed := true }
def StampSortsUptoSaid : Prop := stampSortsUptoRow.holds Try.pinned (OpenSpec.upto stampSortsSpec)

end Rows
end Go.Proofs.Ytaachikpbdgdnaa
