/-
  No cell of these rows narrows 'for every input' (looked for: loops, veiled, ifaces, maps, wideKeys, modest, calm, conditions, laid).
  DERIVED. THE GIVEN ROWS OF THIS SEAT. 8 by the template 'for every input the law returns true; each argument reads behind the call as it read before'; 0 by the template 'total and deterministic' (their statements: YtekdpgnfinbnkaaTotals.lean).
  GIVEN WITH THE SEED: the statements are not yours to turn. If you find one false, say at which input.
  Laid BY PROGRAM, IN A SANDBOX (cutbox-rows.mjs): the forced cells as the released guide's own fill.sh prints them over the translation fbddccaa45304c4d… (all of the seat's roots in one cut). By AI agents, Wed Nov 11 2026. No macro, syntax, notation, axiom, sorry.
-/
import Derived.Test.YtekdpgnfinbnkaaChecked
import GoSem.Claim
import GoSem.ClaimJoined
import GoSem.ClaimMapViews
import Derived.JoinedTies
import Derived.KernelRfl
namespace Go.Proofs.Ytekdpgnfinbnkaa
/- THE CELL 'sum', in the pinned program and in every row, IS THE sha256 OF THE DUMP (.gsa) THAT YtekdpgnfinbnkaaProg.lean LOADS. Nothing in Lean hashes anything: it is a label: what it is worth is what the hold of that sum in a sandbox is worth. -/
noncomputable def Try.pinned : Pinned := { name := "ytekdpgnfinbnkaa", sum := "fbddccaa45304c4d0ae1d102fef910df71513af5949f82dd5b61d8b89a0739c1", checked := Try.checked }
namespace Rows
def none {H : Type} : Left H := { results := [], args := [] }

/-- 'quadrillelaw36.DateMonths': WHATEVER THE INPUT: true; the input reads as it did. -/
def dateMonthsSpec : ChangeSpec := { name := "dateMonths", fn := fun _ => fun
  | [d1, d2] => { results := [.lit (.bool true)], args := [d1, d2] }
  | _ => none }
def dateMonthsRow : OpenClaim := { program := "ytekdpgnfinbnkaa", sum := "fbddccaa45304c4d0ae1d102fef910df71513af5949f82dd5b61d8b89a0739c1", func := "quadrille/quadrillelaw36.DateMonths", spec := "dateMonths", apart := false }
def DateMonthsSaid : Prop := dateMonthsRow.holds Try.pinned (OpenSpec.ofChange dateMonthsSpec)

/-- ITS FALSE NEIGHBOUR: 'it returns false'. Refute it at one input. -/
def dateMonthsWrong : ChangeSpec := { name := "dateMonths", fn := fun _ => fun
  | [d1, d2] => { results := [.lit (.bool false)], args := [d1, d2] }
  | _ => none }
def DateMonthsWrongFalsely : Prop := dateMonthsRow.holds Try.pinned (OpenSpec.ofChange dateMonthsWrong)

/-- 'quadrillelaw36.DateNumbers': WHATEVER THE INPUT: true; the input reads as it did. -/
def dateNumbersSpec : ChangeSpec := { name := "dateNumbers", fn := fun _ => fun
  | [d1, d2] => { results := [.lit (.bool true)], args := [d1, d2] }
  | _ => none }
def dateNumbersRow : OpenClaim := { program := "ytekdpgnfinbnkaa", sum := "fbddccaa45304c4d0ae1d102fef910df71513af5949f82dd5b61d8b89a0739c1", func := "quadrille/quadrillelaw36.DateNumbers", spec := "dateNumbers", apart := false }
def DateNumbersSaid : Prop := dateNumbersRow.holds Try.pinned (OpenSpec.ofChange dateNumbersSpec)

/-- ITS FALSE NEIGHBOUR: 'it returns false'. Refute it at one input. -/
def dateNumbersWrong : ChangeSpec := { name := "dateNumbers", fn := fun _ => fun
  | [d1, d2] => { results := [.lit (.bool false)], args := [d1, d2] }
  | _ => none }
def DateNumbersWrongFalsely : Prop := dateNumbersRow.holds Try.pinned (OpenSpec.ofChange dateNumbersWrong)

/-- 'quadrillelaw36.DateTexts': WHATEVER THE INPUT: true; the input reads as it did. -/
def dateTextsSpec : ChangeSpec := { name := "dateTexts", fn := fun _ => fun
  | [d1, d2] => { results := [.lit (.bool true)], args := [d1, d2] }
  | _ => none }
def dateTextsRow : OpenClaim := { program := "ytekdpgnfinbnkaa", sum := "fbddccaa45304c4d0ae1d102fef910df71513af5949f82dd5b61d8b89a0739c1", func := "quadrille/quadrillelaw36.DateTexts", spec := "dateTexts", recurses := true, apart := false }
def DateTextsSaid : Prop := dateTextsRow.holds Try.pinned (OpenSpec.ofChange dateTextsSpec)

/-- ITS FALSE NEIGHBOUR: 'it returns false'. Refute it at one input. -/
def dateTextsWrong : ChangeSpec := { name := "dateTexts", fn := fun _ => fun
  | [d1, d2] => { results := [.lit (.bool false)], args := [d1, d2] }
  | _ => none }
def DateTextsWrongFalsely : Prop := dateTextsRow.holds Try.pinned (OpenSpec.ofChange dateTextsWrong)

/-- 'quadrillelaw36.DateWorkdays': WHATEVER THE INPUT: true; the input reads as it did. -/
def dateWorkdaysSpec : ChangeSpec := { name := "dateWorkdays", fn := fun _ => fun
  | [d1, d2] => { results := [.lit (.bool true)], args := [d1, d2] }
  | _ => none }
def dateWorkdaysRow : OpenClaim := { program := "ytekdpgnfinbnkaa", sum := "fbddccaa45304c4d0ae1d102fef910df71513af5949f82dd5b61d8b89a0739c1", func := "quadrille/quadrillelaw36.DateWorkdays", spec := "dateWorkdays", recurses := true, apart := false }
def DateWorkdaysSaid : Prop := dateWorkdaysRow.holds Try.pinned (OpenSpec.ofChange dateWorkdaysSpec)

/-- ITS FALSE NEIGHBOUR: 'it returns false'. Refute it at one input. -/
def dateWorkdaysWrong : ChangeSpec := { name := "dateWorkdays", fn := fun _ => fun
  | [d1, d2] => { results := [.lit (.bool false)], args := [d1, d2] }
  | _ => none }
def DateWorkdaysWrongFalsely : Prop := dateWorkdaysRow.holds Try.pinned (OpenSpec.ofChange dateWorkdaysWrong)

/-- 'quadrillelaw42.RadixWords': WHATEVER THE INPUT: true; the input reads as it did. -/
def radixWordsSpec : ChangeSpec := { name := "radixWords", fn := fun _ => fun
  | [d] => { results := [.lit (.bool true)], args := [d] }
  | _ => none }
def radixWordsRow : OpenClaim := { program := "ytekdpgnfinbnkaa", sum := "fbddccaa45304c4d0ae1d102fef910df71513af5949f82dd5b61d8b89a0739c1", func := "quadrille/quadrillelaw42.RadixWords", spec := "radixWords", inPlace := ["internal/abi.NoEscape", "internal/bytealg.MakeNoZero"], apart := false }
def RadixWordsSaid : Prop := radixWordsRow.holds Try.pinned (OpenSpec.ofChange radixWordsSpec)

/-- ITS FALSE NEIGHBOUR: 'it returns false'. Refute it at one input. -/
def radixWordsWrong : ChangeSpec := { name := "radixWords", fn := fun _ => fun
  | [d] => { results := [.lit (.bool false)], args := [d] }
  | _ => none }
def RadixWordsWrongFalsely : Prop := radixWordsRow.holds Try.pinned (OpenSpec.ofChange radixWordsWrong)

/-- 'quadrillelaw42.RadixRomans': WHATEVER THE INPUT: true; the input reads as it did. -/
def radixRomansSpec : ChangeSpec := { name := "radixRomans", fn := fun _ => fun
  | [d1, d2] => { results := [.lit (.bool true)], args := [d1, d2] }
  | _ => none }
def radixRomansRow : OpenClaim := { program := "ytekdpgnfinbnkaa", sum := "fbddccaa45304c4d0ae1d102fef910df71513af5949f82dd5b61d8b89a0739c1", func := "quadrille/quadrillelaw42.RadixRomans", spec := "radixRomans", inPlace := ["internal/abi.NoEscape", "internal/bytealg.MakeNoZero"], apart := false }
def RadixRomansSaid : Prop := radixRomansRow.holds Try.pinned (OpenSpec.ofChange radixRomansSpec)

/-- ITS FALSE NEIGHBOUR: 'it returns false'. Refute it at one input. -/
def radixRomansWrong : ChangeSpec := { name := "radixRomans", fn := fun _ => fun
  | [d1, d2] => { results := [.lit (.bool false)], args := [d1, d2] }
  | _ => none }
def RadixRomansWrongFalsely : Prop := radixRomansRow.holds Try.pinned (OpenSpec.ofChange radixRomansWrong)

/-- 'quadrillelaw42.RadixReads': WHATEVER THE INPUT: true; the input reads as it did. -/
def radixReadsSpec : ChangeSpec := { name := "radixReads", fn := fun _ => fun
  | [d1, d2] => { results := [.lit (.bool true)], args := [d1, d2] }
  | _ => none }
def radixReadsRow : OpenClaim := { program := "ytekdpgnfinbnkaa", sum := "fbddccaa45304c4d0ae1d102fef910df71513af5949f82dd5b61d8b89a0739c1", func := "quadrille/quadrillelaw42.RadixReads", spec := "radixReads", inPlace := ["internal/abi.NoEscape", "internal/bytealg.MakeNoZero", "internal/bytealg.IndexByteString"], apart := false }
def RadixReadsSaid : Prop := radixReadsRow.holds Try.pinned (OpenSpec.ofChange radixReadsSpec)

/-- ITS FALSE NEIGHBOUR: 'it returns false'. Refute it at one input. -/
def radixReadsWrong : ChangeSpec := { name := "radixReads", fn := fun _ => fun
  | [d1, d2] => { results := [.lit (.bool false)], args := [d1, d2] }
  | _ => none }
def RadixReadsWrongFalsely : Prop := radixReadsRow.holds Try.pinned (OpenSpec.ofChange radixReadsWrong)

/-- 'quadrillelaw42.RadixBases': WHATEVER THE INPUT: true; the input reads as it did. -/
def radixBasesSpec : ChangeSpec := { name := "radixBases", fn := fun _ => fun
  | [d1, d2, d3] => { results := [.lit (.bool true)], args := [d1, d2, d3] }
  | _ => none }
def radixBasesRow : OpenClaim := { program := "ytekdpgnfinbnkaa", sum := "fbddccaa45304c4d0ae1d102fef910df71513af5949f82dd5b61d8b89a0739c1", func := "quadrille/quadrillelaw42.RadixBases", spec := "radixBases", inPlace := ["internal/abi.NoEscape", "internal/bytealg.MakeNoZero", "internal/bytealg.IndexByteString"], apart := false }
def RadixBasesSaid : Prop := radixBasesRow.holds Try.pinned (OpenSpec.ofChange radixBasesSpec)

/-- ITS FALSE NEIGHBOUR: 'it returns false'. Refute it at one input. -/
def radixBasesWrong : ChangeSpec := { name := "radixBases", fn := fun _ => fun
  | [d1, d2, d3] => { results := [.lit (.bool false)], args := [d1, d2, d3] }
  | _ => none }
def RadixBasesWrongFalsely : Prop := radixBasesRow.holds Try.pinned (OpenSpec.ofChange radixBasesWrong)

/- THE SECOND FORM. 'bulk': how many values and letters a reading holds, each counted each time it is reached (what is shared counts as often as it is met; a slice's spare places count too). A statement '..UptoSaid' is the law's where the arguments, and the package variables that the reading takes, are together of bulk at most 1048576: NARROWER than '..Said'. Prove '..Said' where nothing that the law and all that it calls make is longer than what came in: it says more and counts as full. Else prove '..UptoSaid'. A law counts once. -/
mutual
def uptoBulk {H : Type} : DataW H → Nat
  | .lit (.string bytes) => bytes.length + 1
  | .lit _ => 1
  | .nil => 1
  | .ptr d => uptoBulk d + 1
  | .slice elems spare => uptoBulkAll elems + uptoBulkAll spare + 1
  | .agg parts => uptoBulkAll parts + 1
  | .iface _ d => uptoBulk d + 1
  | .map entries => uptoBulkEntries entries + 1
  | .held _ => 1
def uptoBulkAll {H : Type} : List (DataW H) → Nat
  | [] => 0
  | d :: r => uptoBulk d + uptoBulkAll r
def uptoBulkEntries {H : Type} : List (Lit × DataW H) → Nat
  | [] => 0
  | x :: r => uptoBulkEntry x + uptoBulkEntries r
def uptoBulkEntry {H : Type} : Lit × DataW H → Nat
  | (.string bytes, d) => bytes.length + uptoBulk d + 1
  | (_, d) => uptoBulk d + 1
 end
def uptoSmall : (H : Type) → List (DataW H) → Bool := fun _ ds => decide (uptoBulkAll ds ≤ 1048576)
def OpenSpec.upto (s : _root_.Go.ChangeSpec) : _root_.Go.OpenSpec := { _root_.Go.OpenSpec.ofChange s with cond := some uptoSmall }

/-- 'quadrillelaw36.DateMonths', WHERE WHAT IT READS IS OF BULK AT MOST 1048576: true; the input reads as it did. -/
def dateMonthsUptoRow : OpenClaim := { program := "ytekdpgnfinbnkaa", sum := "fbddccaa45304c4d0ae1d102fef910df71513af5949f82dd5b61d8b89a0739c1", func := "quadrille/quadrillelaw36.DateMonths", spec := "dateMonths", apart := false, narrowed := true }
def DateMonthsUptoSaid : Prop := dateMonthsUptoRow.holds Try.pinned (OpenSpec.upto dateMonthsSpec)

/-- 'quadrillelaw36.DateNumbers', WHERE WHAT IT READS IS OF BULK AT MOST 1048576: true; the input reads as it did. -/
def dateNumbersUptoRow : OpenClaim := { program := "ytekdpgnfinbnkaa", sum := "fbddccaa45304c4d0ae1d102fef910df71513af5949f82dd5b61d8b89a0739c1", func := "quadrille/quadrillelaw36.DateNumbers", spec := "dateNumbers", apart := false, narrowed := true }
def DateNumbersUptoSaid : Prop := dateNumbersUptoRow.holds Try.pinned (OpenSpec.upto dateNumbersSpec)

/-- 'quadrillelaw36.DateTexts', WHERE WHAT IT READS IS OF BULK AT MOST 1048576: true; the input reads as it did. -/
def dateTextsUptoRow : OpenClaim := { program := "ytekdpgnfinbnkaa", sum := "fbddccaa45304c4d0ae1d102fef910df71513af5949f82dd5b61d8b89a0739c1", func := "quadrille/quadrillelaw36.DateTexts", spec := "dateTexts", recurses := true, apart := false, narrowed := true }
def DateTextsUptoSaid : Prop := dateTextsUptoRow.holds Try.pinned (OpenSpec.upto dateTextsSpec)

/-- 'quadrillelaw36.DateWorkdays', WHERE WHAT IT READS IS OF BULK AT MOST 1048576: true; the input reads as it did. -/
def dateWorkdaysUptoRow : OpenClaim := { program := "ytekdpgnfinbnkaa", sum := "fbddccaa45304c4d0ae1d102fef910df71513af5949f82dd5b61d8b89a0739c1", func := "quadrille/quadrillelaw36.DateWorkdays", spec := "dateWorkdays", recurses := true, apart := false, narrowed := true }
def DateWorkdaysUptoSaid : Prop := dateWorkdaysUptoRow.holds Try.pinned (OpenSpec.upto dateWorkdaysSpec)

/-- 'quadrillelaw42.RadixWords', WHERE WHAT IT READS IS OF BULK AT MOST 1048576: true; the input reads as it did. -/
def radixWordsUptoRow : OpenClaim := { program := "ytekdpgnfinbnkaa", sum := "fbddccaa45304c4d0ae1d102fef910df71513af5949f82dd5b61d8b89a0739c1", func := "quadrille/quadrillelaw42.RadixWords", spec := "radixWords", inPlace := ["internal/abi.NoEscape", "internal/bytealg.MakeNoZero"], apart := false, narrowed := true }
def RadixWordsUptoSaid : Prop := radixWordsUptoRow.holds Try.pinned (OpenSpec.upto radixWordsSpec)

/-- 'quadrillelaw42.RadixRomans', WHERE WHAT IT READS IS OF BULK AT MOST 1048576: true; the input reads as it did. -/
def radixRomansUptoRow : OpenClaim := { program := "ytekdpgnfinbnkaa", sum := "fbddccaa45304c4d0ae1d102fef910df71513af5949f82dd5b61d8b89a0739c1", func := "quadrille/quadrillelaw42.RadixRomans", spec := "radixRomans", inPlace := ["internal/abi.NoEscape", "internal/bytealg.MakeNoZero"], apart := false, narrowed := true }
def RadixRomansUptoSaid : Prop := radixRomansUptoRow.holds Try.pinned (OpenSpec.upto radixRomansSpec)

/-- 'quadrillelaw42.RadixReads', WHERE WHAT IT READS IS OF BULK AT MOST 1048576: true; the input reads as it did. -/
def radixReadsUptoRow : OpenClaim := { program := "ytekdpgnfinbnkaa", sum := "fbddccaa45304c4d0ae1d102fef910df71513af5949f82dd5b61d8b89a0739c1", func := "quadrille/quadrillelaw42.RadixReads", spec := "radixReads", inPlace := ["internal/abi.NoEscape", "internal/bytealg.MakeNoZero", "internal/bytealg.IndexByteString"], apart := false, narrowed := true }
def RadixReadsUptoSaid : Prop := radixReadsUptoRow.holds Try.pinned (OpenSpec.upto radixReadsSpec)

/-- 'quadrillelaw42.RadixBases', WHERE WHAT IT READS IS OF BULK AT MOST 1048576: true; the input reads as it did. -/
def radixBasesUptoRow : OpenClaim := { program := "ytekdpgnfinbnkaa", sum := "fbddccaa45304c4d0ae1d102fef910df71513af5949f82dd5b61d8b89a0739c1", func := "quadrille/quadrillelaw42.RadixBases", spec := "radixBases", inPlace := ["internal/abi.NoEscape", "internal/bytealg.MakeNoZero", "internal/bytealg.IndexByteString"], apart := false, narrowed := true }
def RadixBasesUptoSaid : Prop := radixBasesUptoRow.holds Try.pinned (OpenSpec.upto radixBasesSpec)

end Rows
end Go.Proofs.Ytekdpgnfinbnkaa
