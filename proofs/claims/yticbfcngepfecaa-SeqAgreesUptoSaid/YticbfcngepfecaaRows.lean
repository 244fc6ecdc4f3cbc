/-
  No cell of these rows narrows 'for every input' (looked for: loops, veiled, ifaces, maps, wideKeys, modest, calm, conditions, laid).
  DERIVED. THE GIVEN ROWS OF THIS SEAT. 10 by the template 'for every input the law returns true; each argument reads behind the call as it read before'; 0 by the template 'total and deterministic' (their statements: YticbfcngepfecaaTotals.lean).
  GIVEN WITH THE SEED: the statements are not yours to turn. If you find one false, say at which input.
  Laid BY PROGRAM, IN A SANDBOX (cutbox-rows.mjs): the forced cells as the released guide's own fill.sh prints them over the translation fc791f6df747ec7d… (all of the seat's roots in one cut). By AI agents, Wed Nov 11 2026. No macro, syntax, notation, axiom, sorry.
-/
import Derived.Test.YticbfcngepfecaaChecked
import GoSem.Claim
import GoSem.ClaimJoined
import GoSem.ClaimMapViews
import Derived.JoinedTies
import Derived.KernelRfl
namespace Go.Proofs.Yticbfcngepfecaa
/- THE CELL 'sum', in the pinned program and in every row, IS THE sha256 OF THE DUMP (.gsa) THAT YticbfcngepfecaaProg.lean LOADS. Nothing in Lean hashes anything: it is a label: what it is worth is what the hold of that sum in a sandbox is worth. -/
noncomputable def Try.pinned : Pinned := { name := "yticbfcngepfecaa", sum := "fc791f6df747ec7df67e433dbb4f92b7c22613fa8d74e9d87203f56c67cf7b4a", checked := Try.checked }
namespace Rows
def none {H : Type} : Left H := { results := [], args := [] }

/-- 'quadrillelaw41.DiffSames': WHATEVER THE INPUT: true; the input reads as it did. -/
def diffSamesSpec : ChangeSpec := { name := "diffSames", fn := fun _ => fun
  | [d1, d2] => { results := [.lit (.bool true)], args := [d1, d2] }
  | _ => none }
def diffSamesRow : OpenClaim := { program := "yticbfcngepfecaa", sum := "fc791f6df747ec7df67e433dbb4f92b7c22613fa8d74e9d87203f56c67cf7b4a", func := "quadrille/quadrillelaw41.DiffSames", spec := "diffSames", unfollowed := true, recurses := true, apart := false }
def DiffSamesSaid : Prop := diffSamesRow.holds Try.pinned (OpenSpec.ofChange diffSamesSpec)

/-- ITS FALSE NEIGHBOUR: 'it returns false'. Refute it at one input. -/
def diffSamesWrong : ChangeSpec := { name := "diffSames", fn := fun _ => fun
  | [d1, d2] => { results := [.lit (.bool false)], args := [d1, d2] }
  | _ => none }
def DiffSamesWrongFalsely : Prop := diffSamesRow.holds Try.pinned (OpenSpec.ofChange diffSamesWrong)

/-- 'quadrillelaw12.SeqAgrees': WHATEVER THE INPUT: true; the input reads as it did. -/
def seqAgreesSpec : ChangeSpec := { name := "seqAgrees", fn := fun _ => fun
  | [d1, d2] => { results := [.lit (.bool true)], args := [d1, d2] }
  | _ => none }
def seqAgreesRow : OpenClaim := { program := "yticbfcngepfecaa", sum := "fc791f6df747ec7df67e433dbb4f92b7c22613fa8d74e9d87203f56c67cf7b4a", func := "quadrille/quadrillelaw12.SeqAgrees", spec := "seqAgrees", inPlace := ["slices.overlaps[quadrille/seq.line]"], unfollowed := true, recurses := true, apart := false }
def SeqAgreesSaid : Prop := seqAgreesRow.holds Try.pinned (OpenSpec.ofChange seqAgreesSpec)

/-- ITS FALSE NEIGHBOUR: 'it returns false'. Refute it at one input. -/
def seqAgreesWrong : ChangeSpec := { name := "seqAgrees", fn := fun _ => fun
  | [d1, d2] => { results := [.lit (.bool false)], args := [d1, d2] }
  | _ => none }
def SeqAgreesWrongFalsely : Prop := seqAgreesRow.holds Try.pinned (OpenSpec.ofChange seqAgreesWrong)

/-- 'quadrillelaw39.TableSorts': WHATEVER THE INPUT: true; the input reads as it did. -/
def tableSortsSpec : ChangeSpec := { name := "tableSorts", fn := fun _ => fun
  | [d1, d2, d3, d4] => { results := [.lit (.bool true)], args := [d1, d2, d3, d4] }
  | _ => none }
def tableSortsRow : OpenClaim := { program := "yticbfcngepfecaa", sum := "fc791f6df747ec7df67e433dbb4f92b7c22613fa8d74e9d87203f56c67cf7b4a", func := "quadrille/quadrillelaw39.TableSorts", spec := "tableSorts", inPlace := ["internal/bytealg.abigen_runtime_cmpstring"], unfollowed := true, recurses := true, apart := false }
def TableSortsSaid : Prop := tableSortsRow.holds Try.pinned (OpenSpec.ofChange tableSortsSpec)

/-- ITS FALSE NEIGHBOUR: 'it returns false'. Refute it at one input. -/
def tableSortsWrong : ChangeSpec := { name := "tableSorts", fn := fun _ => fun
  | [d1, d2, d3, d4] => { results := [.lit (.bool false)], args := [d1, d2, d3, d4] }
  | _ => none }
def TableSortsWrongFalsely : Prop := tableSortsRow.holds Try.pinned (OpenSpec.ofChange tableSortsWrong)

/-- 'quadrillelaw41.DiffTells': WHATEVER THE INPUT: true; the input reads as it did. -/
def diffTellsSpec : ChangeSpec := { name := "diffTells", fn := fun _ => fun
  | [d1, d2] => { results := [.lit (.bool true)], args := [d1, d2] }
  | _ => none }
def diffTellsRow : OpenClaim := { program := "yticbfcngepfecaa", sum := "fc791f6df747ec7df67e433dbb4f92b7c22613fa8d74e9d87203f56c67cf7b4a", func := "quadrille/quadrillelaw41.DiffTells", spec := "diffTells", inPlace := ["slices.overlaps[[]string]"], unfollowed := true, recurses := true, apart := false }
def DiffTellsSaid : Prop := diffTellsRow.holds Try.pinned (OpenSpec.ofChange diffTellsSpec)

/-- ITS FALSE NEIGHBOUR: 'it returns false'. Refute it at one input. -/
def diffTellsWrong : ChangeSpec := { name := "diffTells", fn := fun _ => fun
  | [d1, d2] => { results := [.lit (.bool false)], args := [d1, d2] }
  | _ => none }
def DiffTellsWrongFalsely : Prop := diffTellsRow.holds Try.pinned (OpenSpec.ofChange diffTellsWrong)

/-- 'quadrillelaw41.DiffApplies': WHATEVER THE INPUT: true; the input reads as it did. -/
def diffAppliesSpec : ChangeSpec := { name := "diffApplies", fn := fun _ => fun
  | [d1, d2, d3] => { results := [.lit (.bool true)], args := [d1, d2, d3] }
  | _ => none }
def diffAppliesRow : OpenClaim := { program := "yticbfcngepfecaa", sum := "fc791f6df747ec7df67e433dbb4f92b7c22613fa8d74e9d87203f56c67cf7b4a", func := "quadrille/quadrillelaw41.DiffApplies", spec := "diffApplies", inPlace := ["slices.overlaps[[]string]"], unfollowed := true, recurses := true, apart := false }
def DiffAppliesSaid : Prop := diffAppliesRow.holds Try.pinned (OpenSpec.ofChange diffAppliesSpec)

/-- ITS FALSE NEIGHBOUR: 'it returns false'. Refute it at one input. -/
def diffAppliesWrong : ChangeSpec := { name := "diffApplies", fn := fun _ => fun
  | [d1, d2, d3] => { results := [.lit (.bool false)], args := [d1, d2, d3] }
  | _ => none }
def DiffAppliesWrongFalsely : Prop := diffAppliesRow.holds Try.pinned (OpenSpec.ofChange diffAppliesWrong)

/-- 'quadrillelaw12.SeqSweeps': WHATEVER THE INPUT: true; the input reads as it did. -/
def seqSweepsSpec : ChangeSpec := { name := "seqSweeps", fn := fun _ => fun
  | [d1, d2, d3, d4] => { results := [.lit (.bool true)], args := [d1, d2, d3, d4] }
  | _ => none }
def seqSweepsRow : OpenClaim := { program := "yticbfcngepfecaa", sum := "fc791f6df747ec7df67e433dbb4f92b7c22613fa8d74e9d87203f56c67cf7b4a", func := "quadrille/quadrillelaw12.SeqSweeps", spec := "seqSweeps", inPlace := ["slices.overlaps[quadrille/seq.line]"], unfollowed := true, recurses := true, apart := false }
def SeqSweepsSaid : Prop := seqSweepsRow.holds Try.pinned (OpenSpec.ofChange seqSweepsSpec)

/-- ITS FALSE NEIGHBOUR: 'it returns false'. Refute it at one input. -/
def seqSweepsWrong : ChangeSpec := { name := "seqSweeps", fn := fun _ => fun
  | [d1, d2, d3, d4] => { results := [.lit (.bool false)], args := [d1, d2, d3, d4] }
  | _ => none }
def SeqSweepsWrongFalsely : Prop := seqSweepsRow.holds Try.pinned (OpenSpec.ofChange seqSweepsWrong)

/-- 'quadrillelaw39.TableGroups': WHATEVER THE INPUT: true; the input reads as it did. -/
def tableGroupsSpec : ChangeSpec := { name := "tableGroups", fn := fun _ => fun
  | [d1, d2, d3] => { results := [.lit (.bool true)], args := [d1, d2, d3] }
  | _ => none }
def tableGroupsRow : OpenClaim := { program := "yticbfcngepfecaa", sum := "fc791f6df747ec7df67e433dbb4f92b7c22613fa8d74e9d87203f56c67cf7b4a", func := "quadrille/quadrillelaw39.TableGroups", spec := "tableGroups", inPlace := ["internal/bytealg.abigen_runtime_cmpstring"], unfollowed := true, recurses := true, apart := false }
def TableGroupsSaid : Prop := tableGroupsRow.holds Try.pinned (OpenSpec.ofChange tableGroupsSpec)

/-- ITS FALSE NEIGHBOUR: 'it returns false'. Refute it at one input. -/
def tableGroupsWrong : ChangeSpec := { name := "tableGroups", fn := fun _ => fun
  | [d1, d2, d3] => { results := [.lit (.bool false)], args := [d1, d2, d3] }
  | _ => none }
def TableGroupsWrongFalsely : Prop := tableGroupsRow.holds Try.pinned (OpenSpec.ofChange tableGroupsWrong)

/-- 'quadrillelaw39.TableTurns': WHATEVER THE INPUT: true; the input reads as it did. -/
def tableTurnsSpec : ChangeSpec := { name := "tableTurns", fn := fun _ => fun
  | [d] => { results := [.lit (.bool true)], args := [d] }
  | _ => none }
def tableTurnsRow : OpenClaim := { program := "yticbfcngepfecaa", sum := "fc791f6df747ec7df67e433dbb4f92b7c22613fa8d74e9d87203f56c67cf7b4a", func := "quadrille/quadrillelaw39.TableTurns", spec := "tableTurns", inPlace := ["internal/bytealg.abigen_runtime_cmpstring"], unfollowed := true, recurses := true, apart := false }
def TableTurnsSaid : Prop := tableTurnsRow.holds Try.pinned (OpenSpec.ofChange tableTurnsSpec)

/-- ITS FALSE NEIGHBOUR: 'it returns false'. Refute it at one input. -/
def tableTurnsWrong : ChangeSpec := { name := "tableTurns", fn := fun _ => fun
  | [d] => { results := [.lit (.bool false)], args := [d] }
  | _ => none }
def TableTurnsWrongFalsely : Prop := tableTurnsRow.holds Try.pinned (OpenSpec.ofChange tableTurnsWrong)

/-- 'quadrillelaw39.TableFinds': WHATEVER THE INPUT: true; the input reads as it did. -/
def tableFindsSpec : ChangeSpec := { name := "tableFinds", fn := fun _ => fun
  | [d1, d2, d3] => { results := [.lit (.bool true)], args := [d1, d2, d3] }
  | _ => none }
def tableFindsRow : OpenClaim := { program := "yticbfcngepfecaa", sum := "fc791f6df747ec7df67e433dbb4f92b7c22613fa8d74e9d87203f56c67cf7b4a", func := "quadrille/quadrillelaw39.TableFinds", spec := "tableFinds", inPlace := ["internal/bytealg.abigen_runtime_cmpstring"], unfollowed := true, recurses := true, apart := false }
def TableFindsSaid : Prop := tableFindsRow.holds Try.pinned (OpenSpec.ofChange tableFindsSpec)

/-- ITS FALSE NEIGHBOUR: 'it returns false'. Refute it at one input. -/
def tableFindsWrong : ChangeSpec := { name := "tableFinds", fn := fun _ => fun
  | [d1, d2, d3] => { results := [.lit (.bool false)], args := [d1, d2, d3] }
  | _ => none }
def TableFindsWrongFalsely : Prop := tableFindsRow.holds Try.pinned (OpenSpec.ofChange tableFindsWrong)

/-- 'quadrillelaw12.SeqPlays': WHATEVER THE INPUT: true; the input reads as it did. -/
def seqPlaysSpec : ChangeSpec := { name := "seqPlays", fn := fun _ => fun
  | [d1, d2, d3, d4] => { results := [.lit (.bool true)], args := [d1, d2, d3, d4] }
  | _ => none }
def seqPlaysRow : OpenClaim := { program := "yticbfcngepfecaa", sum := "fc791f6df747ec7df67e433dbb4f92b7c22613fa8d74e9d87203f56c67cf7b4a", func := "quadrille/quadrillelaw12.SeqPlays", spec := "seqPlays", inPlace := ["slices.overlaps[quadrille/seq.line]"], unfollowed := true, recurses := true, apart := false }
def SeqPlaysSaid : Prop := seqPlaysRow.holds Try.pinned (OpenSpec.ofChange seqPlaysSpec)

/-- ITS FALSE NEIGHBOUR: 'it returns false'. Refute it at one input. -/
def seqPlaysWrong : ChangeSpec := { name := "seqPlays", fn := fun _ => fun
  | [d1, d2, d3, d4] => { results := [.lit (.bool false)], args := [d1, d2, d3, d4] }
  | _ => none }
def SeqPlaysWrongFalsely : Prop := seqPlaysRow.holds Try.pinned (OpenSpec.ofChange seqPlaysWrong)

/- THE SECOND FORM. 'bulk': how many values and letters a reading holds, each counted each time it is reached (what is shared counts as often as it is met; a slice's spare places count too). A statement '..UptoSaid' is the law's where the arguments, and the package variables that the reading takes, are together of bulk at most 1048576: NARROWER than '..Said'. Prove '..Said' where nothing that the law and all that it calls make is longer than what came in: it says more and counts as full. Else prove '..UptoSaid'. A law counts once. -/
mutual
def uptoBulk {H : Type} : DataW H → Nat
  | .lit (.string bytes) => bytes.length + 1
  | .lit _ => 1
  | .nil => 1
  | .ptr d => uptoBulk d + 1
  | .slice elems spare => uptoBulkAll elems + uptoBulkAll spare + 1
  | .agg parts => uptoBulkAll parts + 1
  | .iface _ d => uptoBulk d + 1
  | .map entries => uptoBulkEntries entries + 1
  | .held _ => 1
def uptoBulkAll {H : Type} : List (DataW H) → Nat
  | [] => 0
  | d :: r => uptoBulk d + uptoBulkAll r
def uptoBulkEntries {H : Type} : List (Lit × DataW H) → Nat
  | [] => 0
  | x :: r => uptoBulkEntry x + uptoBulkEntries r
def uptoBulkEntry {H : Type} : Lit × DataW H → Nat
  | (.string bytes, d) => bytes.length + uptoBulk d + 1
  | (_, d) => uptoBulk d + 1
 end
def uptoSmall : (H : Type) → List (DataW H) → Bool := fun _ ds => decide (uptoBulkAll ds ≤ 1048576)
def OpenSpec.upto (s : _root_.Go.ChangeSpec) : _root_.Go.OpenSpec := { _root_.Go.OpenSpec.ofChange s with cond := some uptoSmall }

/-- 'quadrillelaw41.DiffSames', WHERE WHAT IT READS IS OF BULK AT MOST 1048576: true; the input reads as it did. -/
def diffSamesUptoRow : OpenClaim := { program := "yticbfcngepfecaa", sum := "fc791f6df747ec7df67e433dbb4f92b7c22613fa8d74e9d87203f56c67cf7b4a", func := "quadrille/quadrillelaw41.DiffSames", spec := "diffSames", unfollowed := true, recurses := true, apart := false, narrowed := true }
def DiffSamesUptoSaid : Prop := diffSamesUptoRow.holds Try.pinned (OpenSpec.upto diffSamesSpec)

/-- 'quadrillelaw12.SeqAgrees', WHERE WHAT IT READS IS OF BULK AT MOST 1048576: true; the input reads as it did. -/
def seqAgreesUptoRow : OpenClaim := { program := "yticbfcngepfecaa", sum := "fc791f6df747ec7df67e433dbb4f92b7c22613fa8d74e9d87203f56c67cf7b4a", func := "quadrille/quadrillelaw12.SeqAgrees", spec := "seqAgrees", inPlace := ["slices.overlaps[quadrille/seq.line]"], unfollowed := true, recurses := true, apart := false, narrowed := true }
def SeqAgreesUptoSaid : Prop := seqAgreesUptoRow.holds Try.pinned (OpenSpec.upto seqAgreesSpec)

/-- 'quadrillelaw39.TableSorts', WHERE WHAT IT READS IS OF BULK AT MOST 1048576: true; the input reads as it did. -/
def tableSortsUptoRow : OpenClaim := { program := "yticbfcngepfecaa", sum := "fc791f6df747ec7df67e433dbb4f92b7c22613fa8d74e9d87203f56c67cf7b4a", func := "quadrille/quadrillelaw39.TableSorts", spec := "tableSorts", inPlace := ["internal/bytealg.abigen_runtime_cmpstring"], unfollowed := true, recurses := true, apart := false, narrowed := true }
def TableSortsUptoSaid : Prop := tableSortsUptoRow.holds Try.pinned (OpenSpec.upto tableSortsSpec)

/-- 'quadrillelaw41.DiffTells', WHERE WHAT IT READS IS OF BULK AT MOST 1048576: true; the input reads as it did. -/
def diffTellsUptoRow : OpenClaim := { program := "yticbfcngepfecaa", sum := "fc791f6df747ec7df67e433dbb4f92b7c22613fa8d74e9d87203f56c67cf7b4a", func := "quadrille/quadrillelaw41.DiffTells", spec := "diffTells", inPlace := ["slices.overlaps[[]string]"], unfollowed := true, recurses := true, apart := false, narrowed := true }
def DiffTellsUptoSaid : Prop := diffTellsUptoRow.holds Try.pinned (OpenSpec.upto diffTellsSpec)

/-- 'quadrillelaw41.DiffApplies', WHERE WHAT IT READS IS OF BULK AT MOST 1048576: true; the input reads as it did. -/
def diffAppliesUptoRow : OpenClaim := { program := "yticbfcngepfecaa", sum := "fc791f6df747ec7df67e433dbb4f92b7c22613fa8d74e9d87203f56c67cf7b4a", func := "quadrille/quadrillelaw41.DiffApplies", spec := "diffApplies", inPlace := ["slices.overlaps[[]string]"], unfollowed := true, recurses := true, apart := false, narrowed := true }
def DiffAppliesUptoSaid : Prop := diffAppliesUptoRow.holds Try.pinned (OpenSpec.upto diffAppliesSpec)

/-- 'quadrillelaw12.SeqSweeps', WHERE WHAT IT READS IS OF BULK AT MOST 1048576: true; the input reads as it did. -/
def seqSweepsUptoRow : OpenClaim := { program := "yticbfcngepfecaa", sum := "fc791f6df747ec7df67e433dbb4f92b7c22613fa8d74e9d87203f56c67cf7b4a", func := "quadrille/quadrillelaw12.SeqSweeps", spec := "seqSweeps", inPlace := ["slices.overlaps[quadrille/seq.line]"], unfollowed := true, recurses := true, apart := false, narrowed := true }
def SeqSweepsUptoSaid : Prop := seqSweepsUptoRow.holds Try.pinned (OpenSpec.upto seqSweepsSpec)

/-- 'quadrillelaw39.TableGroups', WHERE WHAT IT READS IS OF BULK AT MOST 1048576: true; the input reads as it did. -/
def tableGroupsUptoRow : OpenClaim := { program := "yticbfcngepfecaa", sum := "fc791f6df747ec7df67e433dbb4f92b7c22613fa8d74e9d87203f56c67cf7b4a", func := "quadrille/quadrillelaw39.TableGroups", spec := "tableGroups", inPlace := ["internal/bytealg.abigen_runtime_cmpstring"], unfollowed := true, recurses := true, apart := false, narrowed := true }
def TableGroupsUptoSaid : Prop := tableGroupsUptoRow.holds Try.pinned (OpenSpec.upto tableGroupsSpec)

/-- 'quadrillelaw39.TableTurns', WHERE WHAT IT READS IS OF BULK AT MOST 1048576: true; the input reads as it did. -/
def tableTurnsUptoRow : OpenClaim := { program := "yticbfcngepfecaa", sum := "fc791f6df747ec7df67e433dbb4f92b7c22613fa8d74e9d87203f56c67cf7b4a", func := "quadrille/quadrillelaw39.TableTurns", spec := "tableTurns", inPlace := ["internal/bytealg.abigen_runtime_cmpstring"], unfollowed := true, recurses := true, apart := false, narrowed := true }
def TableTurnsUptoSaid : Prop := tableTurnsUptoRow.holds Try.pinned (OpenSpec.upto tableTurnsSpec)

/-- 'quadrillelaw39.TableFinds', WHERE WHAT IT READS IS OF BULK AT MOST 1048576: true; the input reads as it did. -/
def tableFindsUptoRow : OpenClaim := { program := "yticbfcngepfecaa", sum := "fc791f6df747ec7df67e433dbb4f92b7c22613fa8d74e9d87203f56c67cf7b4a", func := "quadrille/quadrillelaw39.TableFinds", spec := "tableFinds", inPlace := ["internal/bytealg.abigen_runtime_cmpstring"], unfollowed := true, recurses := true, apart := false, narrowed := true }
def TableFindsUptoSaid : Prop := tableFindsUptoRow.holds Try.pinned (OpenSpec.upto tableFindsSpec)

/-- 'quadrillelaw12.SeqPlays', WHERE WHAT IT READS IS OF BULK AT MOST 1048576: true; the input reads as it did. -/
def seqPlaysUptoRow : OpenClaim := { program := "yticbfcngepfecaa", sum := "fc791f6df747ec7df67e433dbb4f92b7c22613fa8d74e9d87203f56c67cf7b4a", func := "quadrille/quadrillelaw12.SeqPlays", spec := "seqPlays", inPlace := ["slices.overlaps[quadrille/seq.line]"], unfollowed := true, recurses := true, apart := false, narrowed := true }
def SeqPlaysUptoSaid : Prop := seqPlaysUptoRow.holds Try.pinned (OpenSpec.upto seqPlaysSpec)

end Rows
end Go.Proofs.Yticbfcngepfecaa
