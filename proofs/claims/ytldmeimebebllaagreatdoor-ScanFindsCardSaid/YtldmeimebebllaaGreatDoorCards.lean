/-
  DERIVED. GIVEN WITH THE SEED: THE CARDS: each row of YtldmeimebebllaaGreatDoorRows.lean that lists a variable, with what it lists TIED to the program's text (the seventh form; the later family's looks); each row that meets fmt, with fmt's text TOLD by the authors' own Lean function (tested against real Go, not proved from fmt's source: count such statements apart). THE CARD IS WHAT COUNTS. Prove the row's statement (the work); the ties are given (YtldmeimebebllaaGreatDoorTie.lean); close each card by the builder's one call (the guide's Derived/Test/ToyasCard.lean, 'card_holds'). Laid BY PROGRAM, IN A SANDBOX (cutbox-door.mjs). By AI agents, Wed Nov 11 2026. No macro, syntax, notation, axiom, sorry.
-/
import Derived.Test.YtldmeimebebllaaGreatDoorRows
import GoSem.ClaimSeven
namespace Go.Proofs.YtldmeimebebllaaGreatDoor
namespace Rows

/-- THE TIED CARD OF 'morainelaw08.ScanLooks'. -/
def scanLooksCard : Claim7 := { stood := { row := scanLooksRow, standIns := [], harness := (true, "2ade1cbe9a1752dc88a6f2e9f16f20c359c1bd21345a56af0dd6ae8708702d96"), looks := false }, kinds := [], alts := [], laidByText := true, laidKinds := [.data, .pinned], laidTests := true, laidLooks := .later }
def ScanLooksCardSaid : Prop := Claim7.holds Tryz.pinned (.plain (OpenSpec.ofChange scanLooksSpec)) scanLooksCard

/-- THE TIED CARD OF 'morainelaw08.ScanFinds'. -/
def scanFindsCard : Claim7 := { stood := { row := scanFindsRow, standIns := [], harness := (true, "2ade1cbe9a1752dc88a6f2e9f16f20c359c1bd21345a56af0dd6ae8708702d96"), looks := false }, kinds := [], alts := [], laidByText := true, laidKinds := [.data, .pinned], laidTests := true, laidLooks := .later }
def ScanFindsCardSaid : Prop := Claim7.holds Tryz.pinned (.plain (OpenSpec.ofChange scanFindsSpec)) scanFindsCard

/-- THE SECOND FORM's CARD OF 'morainelaw08.ScanLooks'. -/
def scanLooksUptoCard : Claim7 := { stood := { row := scanLooksUptoRow, standIns := [], harness := (true, "2ade1cbe9a1752dc88a6f2e9f16f20c359c1bd21345a56af0dd6ae8708702d96"), looks := false }, kinds := [], alts := [], laidByText := true, laidKinds := [.data, .pinned], laidTests := true, laidLooks := .later }
def ScanLooksUptoCardSaid : Prop := Claim7.holds Tryz.pinned (.plain (OpenSpec.upto scanLooksSpec)) scanLooksUptoCard

/-- THE SECOND FORM's CARD OF 'morainelaw08.ScanFinds'. -/
def scanFindsUptoCard : Claim7 := { stood := { row := scanFindsUptoRow, standIns := [], harness := (true, "2ade1cbe9a1752dc88a6f2e9f16f20c359c1bd21345a56af0dd6ae8708702d96"), looks := false }, kinds := [], alts := [], laidByText := true, laidKinds := [.data, .pinned], laidTests := true, laidLooks := .later }
def ScanFindsUptoCardSaid : Prop := Claim7.holds Tryz.pinned (.plain (OpenSpec.upto scanFindsSpec)) scanFindsUptoCard
end Rows
end Go.Proofs.YtldmeimebebllaaGreatDoor
