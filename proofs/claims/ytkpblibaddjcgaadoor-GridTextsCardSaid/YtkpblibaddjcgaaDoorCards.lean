/-
  DERIVED. GIVEN WITH THE SEED: THE CARDS: each row of YtkpblibaddjcgaaDoorRows.lean that lists a variable, with what it lists TIED to the program's text (the seventh form; the later family's looks); each row that meets fmt, with fmt's text TOLD by the authors' own Lean function (tested against real Go, not proved from fmt's source: count such statements apart). THE CARD IS WHAT COUNTS. Prove the row's statement (the work); the ties are given (YtkpblibaddjcgaaDoorTie.lean); close each card by the builder's one call (the guide's Derived/Test/ToyasCard.lean, 'card_holds'). Laid BY PROGRAM, IN A SANDBOX (cutbox-door.mjs). By AI agents, Wed Nov 11 2026. No macro, syntax, notation, axiom, sorry.
-/
import Derived.Test.YtkpblibaddjcgaaDoorRows
import GoSem.ClaimSeven
namespace Go.Proofs.YtkpblibaddjcgaaDoor
namespace Rows

/-- THE TIED CARD OF 'quadrillelaw27.GridCuts'. -/
def gridCutsCard : Claim7 := { stood := { row := gridCutsRow, standIns := [], harness := (true, "35c61e43a945bd3b7d382b2daeb646a4b7b10e799c7ae136df3df331381bb666"), looks := false }, kinds := [], alts := [], laidByText := true, laidKinds := [.data, .pinned], laidTests := true, laidLooks := .later }
def GridCutsCardSaid : Prop := Claim7.holds Tryd.pinned (.plain (OpenSpec.ofChange gridCutsSpec)) gridCutsCard

/-- THE TIED CARD OF 'quadrillelaw27.GridTexts'. -/
def gridTextsCard : Claim7 := { stood := { row := gridTextsRow, standIns := [], harness := (true, "35c61e43a945bd3b7d382b2daeb646a4b7b10e799c7ae136df3df331381bb666"), looks := false }, kinds := [], alts := [], laidByText := true, laidKinds := [.data, .pinned], laidTests := true, laidLooks := .later }
def GridTextsCardSaid : Prop := Claim7.holds Tryd.pinned (.plain (OpenSpec.ofChange gridTextsSpec)) gridTextsCard

/-- THE SECOND FORM's CARD OF 'quadrillelaw27.GridCuts'. -/
def gridCutsUptoCard : Claim7 := { stood := { row := gridCutsUptoRow, standIns := [], harness := (true, "35c61e43a945bd3b7d382b2daeb646a4b7b10e799c7ae136df3df331381bb666"), looks := false }, kinds := [], alts := [], laidByText := true, laidKinds := [.data, .pinned], laidTests := true, laidLooks := .later }
def GridCutsUptoCardSaid : Prop := Claim7.holds Tryd.pinned (.plain (OpenSpec.upto gridCutsSpec)) gridCutsUptoCard

/-- THE SECOND FORM's CARD OF 'quadrillelaw27.GridTexts'. -/
def gridTextsUptoCard : Claim7 := { stood := { row := gridTextsUptoRow, standIns := [], harness := (true, "35c61e43a945bd3b7d382b2daeb646a4b7b10e799c7ae136df3df331381bb666"), looks := false }, kinds := [], alts := [], laidByText := true, laidKinds := [.data, .pinned], laidTests := true, laidLooks := .later }
def GridTextsUptoCardSaid : Prop := Claim7.holds Tryd.pinned (.plain (OpenSpec.upto gridTextsSpec)) gridTextsUptoCard
end Rows
end Go.Proofs.YtkpblibaddjcgaaDoor
