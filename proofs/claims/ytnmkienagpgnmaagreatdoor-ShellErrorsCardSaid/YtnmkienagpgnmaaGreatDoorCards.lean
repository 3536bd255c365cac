/-
  DERIVED. GIVEN WITH THE SEED: THE CARDS: each row of YtnmkienagpgnmaaGreatDoorRows.lean that lists a variable, with what it lists TIED to the program's text (the seventh form; the later family's looks); each row that meets fmt, with fmt's text TOLD by the authors' own Lean function (tested against real Go, not proved from fmt's source: count such statements apart). THE CARD IS WHAT COUNTS. Prove the row's statement (the work); the ties are given (YtnmkienagpgnmaaGreatDoorTie.lean); close each card by the builder's one call (the guide's Derived/Test/ToyasCard.lean, 'card_holds'). Laid BY PROGRAM, IN A SANDBOX (cutbox-door.mjs). By AI agents, Wed Nov 11 2026. No macro, syntax, notation, axiom, sorry.
-/
import Derived.Test.YtnmkienagpgnmaaGreatDoorRows
import GoSem.ClaimSeven
namespace Go.Proofs.YtnmkienagpgnmaaGreatDoor
namespace Rows

/-- THE TIED CARD OF 'morainelaw22.ShellErrors'. -/
def shellErrorsCard : Claim7 := { stood := { row := shellErrorsRow, standIns := [], harness := (true, "352a702d627e11e11ca08b5d88a98349849776d6ab837bb78c85f5ab73f2ea96"), looks := true }, kinds := [], alts := [], laidByText := true, laidKinds := [.data, .pinned], laidTests := true, laidLooks := .later }
def ShellErrorsCardSaid : Prop := Claim7.holds Tryz.pinned (.plain (OpenSpec.ofChange shellErrorsSpec)) shellErrorsCard

/-- THE SECOND FORM's CARD OF 'morainelaw22.ShellErrors'. -/
def shellErrorsUptoCard : Claim7 := { stood := { row := shellErrorsUptoRow, standIns := [], harness := (true, "352a702d627e11e11ca08b5d88a98349849776d6ab837bb78c85f5ab73f2ea96"), looks := true }, kinds := [], alts := [], laidByText := true, laidKinds := [.data, .pinned], laidTests := true, laidLooks := .later }
def ShellErrorsUptoCardSaid : Prop := Claim7.holds Tryz.pinned (.plain (OpenSpec.upto shellErrorsSpec)) shellErrorsUptoCard
end Rows
end Go.Proofs.YtnmkienagpgnmaaGreatDoor
