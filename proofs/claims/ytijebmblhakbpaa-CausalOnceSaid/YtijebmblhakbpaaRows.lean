/-
  NARROWER THAN 'FOR EVERY INPUT', by the rows' own cells (each row's printed sentence says how): CausalOnce: loops.
  DERIVED. THE GIVEN ROWS OF THIS SEAT. 4 by the template 'for every input the law returns true; each argument reads behind the call as it read before'; 0 by the template 'total and deterministic' (their statements: YtijebmblhakbpaaTotals.lean).
  GIVEN WITH THE SEED: the statements are not yours to turn. If you find one false, say at which input.
  Laid BY PROGRAM, IN A SANDBOX (cutbox-rows.mjs): the forced cells as the released guide's own fill.sh prints them over the translation 69ac93303a286671… (all of the seat's roots in one cut). By AI agents, Wed Nov 11 2026. No macro, syntax, notation, axiom, sorry.
-/
import Derived.Test.YtijebmblhakbpaaChecked
import GoSem.Claim
import GoSem.ClaimJoined
import GoSem.ClaimMapViews
import Derived.JoinedTies
import Derived.KernelRfl
namespace Go.Proofs.Ytijebmblhakbpaa
/- THE CELL 'sum', in the pinned program and in every row, IS THE sha256 OF THE DUMP (.gsa) THAT YtijebmblhakbpaaProg.lean LOADS. Nothing in Lean hashes anything: it is a label: what it is worth is what the hold of that sum in a sandbox is worth. -/
noncomputable def Try.pinned : Pinned := { name := "ytijebmblhakbpaa", sum := "69ac93303a286671a5ec4beeeee6a2533addaeb8ac187e11f0f5a863edc67707", checked := Try.checked }
namespace Rows
def none {H : Type} : Left H := { results := [], args := [] }

/-- 'quadrillelaw16.LogPlays': WHATEVER THE INPUT: true; the input reads as it did. -/
def logPlaysSpec : ChangeSpec := { name := "logPlays", fn := fun _ => fun
  | [d1, d2, d3, d4] => { results := [.lit (.bool true)], args := [d1, d2, d3, d4] }
  | _ => none }
def logPlaysRow : OpenClaim := { program := "ytijebmblhakbpaa", sum := "69ac93303a286671a5ec4beeeee6a2533addaeb8ac187e11f0f5a863edc67707", func := "quadrille/quadrillelaw16.LogPlays", spec := "logPlays", unfollowed := true, recurses := true, plainKeys := false, apart := false }
def LogPlaysSaid : Prop := logPlaysRow.holds Try.pinned (OpenSpec.ofChange logPlaysSpec)

/-- ITS FALSE NEIGHBOUR: 'it returns false'. Refute it at one input. -/
def logPlaysWrong : ChangeSpec := { name := "logPlays", fn := fun _ => fun
  | [d1, d2, d3, d4] => { results := [.lit (.bool false)], args := [d1, d2, d3, d4] }
  | _ => none }
def LogPlaysWrongFalsely : Prop := logPlaysRow.holds Try.pinned (OpenSpec.ofChange logPlaysWrong)

/-- 'quadrillelaw18.CausalOnce': WHATEVER THE INPUT: true; the input reads as it did. -/
def causalOnceSpec : ChangeSpec := { name := "causalOnce", fn := fun _ => fun
  | [d1, d2] => { results := [.lit (.bool true)], args := [d1, d2] }
  | _ => none }
def causalOnceRow : OpenClaim := { program := "ytijebmblhakbpaa", sum := "69ac93303a286671a5ec4beeeee6a2533addaeb8ac187e11f0f5a863edc67707", func := "quadrille/quadrillelaw18.CausalOnce", spec := "causalOnce", unfollowed := true, recurses := true, loops := true, plainKeys := false, apart := false }
def CausalOnceSaid : Prop := causalOnceRow.holds Try.pinned (OpenSpec.ofChange causalOnceSpec)

/-- ITS FALSE NEIGHBOUR: 'it returns false'. Refute it at one input. -/
def causalOnceWrong : ChangeSpec := { name := "causalOnce", fn := fun _ => fun
  | [d1, d2] => { results := [.lit (.bool false)], args := [d1, d2] }
  | _ => none }
def CausalOnceWrongFalsely : Prop := causalOnceRow.holds Try.pinned (OpenSpec.ofChange causalOnceWrong)

/-- 'quadrillelaw20.CellsPlay': WHATEVER THE INPUT: true; the input reads as it did. -/
def cellsPlaySpec : ChangeSpec := { name := "cellsPlay", fn := fun _ => fun
  | [d1, d2, d3] => { results := [.lit (.bool true)], args := [d1, d2, d3] }
  | _ => none }
def cellsPlayRow : OpenClaim := { program := "ytijebmblhakbpaa", sum := "69ac93303a286671a5ec4beeeee6a2533addaeb8ac187e11f0f5a863edc67707", func := "quadrille/quadrillelaw20.CellsPlay", spec := "cellsPlay", unfollowed := true, recurses := true, plainKeys := false, apart := false }
def CellsPlaySaid : Prop := cellsPlayRow.holds Try.pinned (OpenSpec.ofChange cellsPlaySpec)

/-- ITS FALSE NEIGHBOUR: 'it returns false'. Refute it at one input. -/
def cellsPlayWrong : ChangeSpec := { name := "cellsPlay", fn := fun _ => fun
  | [d1, d2, d3] => { results := [.lit (.bool false)], args := [d1, d2, d3] }
  | _ => none }
def CellsPlayWrongFalsely : Prop := cellsPlayRow.holds Try.pinned (OpenSpec.ofChange cellsPlayWrong)

/-- 'quadrillelaw20.CellsAgree': WHATEVER THE INPUT: true; the input reads as it did. -/
def cellsAgreeSpec : ChangeSpec := { name := "cellsAgree", fn := fun _ => fun
  | [d1, d2] => { results := [.lit (.bool true)], args := [d1, d2] }
  | _ => none }
def cellsAgreeRow : OpenClaim := { program := "ytijebmblhakbpaa", sum := "69ac93303a286671a5ec4beeeee6a2533addaeb8ac187e11f0f5a863edc67707", func := "quadrille/quadrillelaw20.CellsAgree", spec := "cellsAgree", unfollowed := true, recurses := true, plainKeys := false, apart := false }
def CellsAgreeSaid : Prop := cellsAgreeRow.holds Try.pinned (OpenSpec.ofChange cellsAgreeSpec)

/-- ITS FALSE NEIGHBOUR: 'it returns false'. Refute it at one input. -/
def cellsAgreeWrong : ChangeSpec := { name := "cellsAgree", fn := fun _ => fun
  | [d1, d2] => { results := [.lit (.bool false)], args := [d1, d2] }
  | _ => none }
def CellsAgreeWrongFalsely : Prop := cellsAgreeRow.holds Try.pinned (OpenSpec.ofChange cellsAgreeWrong)

/- THE SECOND FORM. 'bulk': how many values and letters a reading holds, each counted each time it is reached (what is shared counts as often as it is met; a slice's spare places count too). A statement '..UptoSaid' is the law's where the arguments, and the package variables that the reading takes, are together of bulk at most 1048576: NARROWER than '..Said'. Prove '..Said' where nothing that the law and all that it calls make is longer than what came in: it says more and counts as full. Else prove '..UptoSaid'. A law counts once. -/
mutual
def uptoBulk {H : Type} : DataW H → Nat
  | .lit (.string bytes) => bytes.length + 1
  | .lit _ => 1
  | .nil => 1
  | .ptr d => uptoBulk d + 1
  | .slice elems spare => uptoBulkAll elems + uptoBulkAll spare + 1
  | .agg parts => uptoBulkAll parts + 1
  | .iface _ d => uptoBulk d + 1
  | .map entries => uptoBulkEntries entries + 1
  | .held _ => 1
def uptoBulkAll {H : Type} : List (DataW H) → Nat
  | [] => 0
  | d :: r => uptoBulk d + uptoBulkAll r
def uptoBulkEntries {H : Type} : List (Lit × DataW H) → Nat
  | [] => 0
  | x :: r => uptoBulkEntry x + uptoBulkEntries r
def uptoBulkEntry {H : Type} : Lit × DataW H → Nat
  | (.string bytes, d) => bytes.length + uptoBulk d + 1
  | (_, d) => uptoBulk d + 1
 end
def uptoSmall : (H : Type) → List (DataW H) → Bool := fun _ ds => decide (uptoBulkAll ds ≤ 1048576)
def OpenSpec.upto (s : _root_.Go.ChangeSpec) : _root_.Go.OpenSpec := { _root_.Go.OpenSpec.ofChange s with cond := some uptoSmall }

/-- 'quadrillelaw16.LogPlays', WHERE WHAT IT READS IS OF BULK AT MOST 1048576: true; the input reads as it did. -/
def logPlaysUptoRow : OpenClaim := { program := "ytijebmblhakbpaa", sum := "69ac93303a286671a5ec4beeeee6a2533addaeb8ac187e11f0f5a863edc67707", func := "quadrille/quadrillelaw16.LogPlays", spec := "logPlays", unfollowed := true, recurses := true, plainKeys := false, apart := false, narrowed := true }
def LogPlaysUptoSaid : Prop := logPlaysUptoRow.holds Try.pinned (OpenSpec.upto logPlaysSpec)

/-- 'quadrillelaw18.CausalOnce', WHERE WHAT IT READS IS OF BULK AT MOST 1048576: true; the input reads as it did. -/
def causalOnceUptoRow : OpenClaim := { program := "ytijebmblhakbpaa", sum := "69ac93303a286671a5ec4beeeee6a2533addaeb8ac187e11f0f5a863edc67707", func := "quadrille/quadrillelaw18.CausalOnce", spec := "causalOnce", unfollowed := true, recurses := true, loops := true, plainKeys := false, apart := false, narrowed := true }
def CausalOnceUptoSaid : Prop := causalOnceUptoRow.holds Try.pinned (OpenSpec.upto causalOnceSpec)

/-- 'quadrillelaw20.CellsPlay', WHERE WHAT IT READS IS OF BULK AT MOST 1048576: true; the input reads as it did. -/
def cellsPlayUptoRow : OpenClaim := { program := "ytijebmblhakbpaa", sum := "69ac93303a286671a5ec4beeeee6a2533addaeb8ac187e11f0f5a863edc67707", func := "quadrille/quadrillelaw20.CellsPlay", spec := "cellsPlay", unfollowed := true, recurses := true, plainKeys := false, apart := false, narrowed := true }
def CellsPlayUptoSaid : Prop := cellsPlayUptoRow.holds Try.pinned (OpenSpec.upto cellsPlaySpec)

/-- 'quadrillelaw20.CellsAgree', WHERE WHAT IT READS IS OF BULK AT MOST 1048576: true; the input reads as it did. -/
def cellsAgreeUptoRow : OpenClaim := { program := "ytijebmblhakbpaa", sum := "69ac93303a286671a5ec4beeeee6a2533addaeb8ac187e11f0f5a863edc67707", func := "quadrille/quadrillelaw20.CellsAgree", spec := "cellsAgree", unfollowed := true, recurses := true, plainKeys := false, apart := false, narrowed := true }
def CellsAgreeUptoSaid : Prop := cellsAgreeUptoRow.holds Try.pinned (OpenSpec.upto cellsAgreeSpec)

end Rows
end Go.Proofs.Ytijebmblhakbpaa
