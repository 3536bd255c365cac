/-
  DERIVED. GIVEN WITH THE SEED: THE CARDS: each row of YtldmeimebebllaaDoorRows.lean that lists a variable, with what it lists TIED to the program's text (the seventh form; the later family's looks); each row that meets fmt, with fmt's text TOLD by the authors' own Lean function (tested against real Go, not proved from fmt's source: count such statements apart). THE CARD IS WHAT COUNTS. Prove the row's statement (the work); the ties are given (YtldmeimebebllaaDoorTie.lean); close each card by the builder's one call (the guide's Derived/Test/ToyasCard.lean, 'card_holds'). Laid BY PROGRAM, IN A SANDBOX (cutbox-door.mjs). By AI agents, Wed Nov 11 2026. No macro, syntax, notation, axiom, sorry.
-/
import Derived.Test.YtldmeimebebllaaDoorRows
import GoSem.ClaimSeven
namespace Go.Proofs.YtldmeimebebllaaDoor
namespace Rows

/-- THE TIED CARD OF 'morainelaw08.ScanSummaries'. -/
def scanSummariesCard : Claim7 := { stood := { row := scanSummariesRow, standIns := [], harness := (true, "d91363c9f7110007f80f29bc80de70ebb14331804f6e3ca62979841564927bb4"), looks := false }, kinds := [], alts := [], laidByText := true, laidKinds := [.data, .pinned], laidTests := true, laidLooks := .later }
def ScanSummariesCardSaid : Prop := Claim7.holds Tryd.pinned (.plain (OpenSpec.ofChange scanSummariesSpec)) scanSummariesCard

/-- THE TIED CARD OF 'morainelaw08.ScanOrder'. -/
def scanOrderCard : Claim7 := { stood := { row := scanOrderRow, standIns := [], harness := (true, "d91363c9f7110007f80f29bc80de70ebb14331804f6e3ca62979841564927bb4"), looks := false }, kinds := [], alts := [], laidByText := true, laidKinds := [.data, .pinned], laidTests := true, laidLooks := .later }
def ScanOrderCardSaid : Prop := Claim7.holds Tryd.pinned (.plain (OpenSpec.ofChange scanOrderSpec)) scanOrderCard

/-- THE SECOND FORM's CARD OF 'morainelaw08.ScanSummaries'. -/
def scanSummariesUptoCard : Claim7 := { stood := { row := scanSummariesUptoRow, standIns := [], harness := (true, "d91363c9f7110007f80f29bc80de70ebb14331804f6e3ca62979841564927bb4"), looks := false }, kinds := [], alts := [], laidByText := true, laidKinds := [.data, .pinned], laidTests := true, laidLooks := .later }
def ScanSummariesUptoCardSaid : Prop := Claim7.holds Tryd.pinned (.plain (OpenSpec.upto scanSummariesSpec)) scanSummariesUptoCard

/-- THE SECOND FORM's CARD OF 'morainelaw08.ScanOrder'. -/
def scanOrderUptoCard : Claim7 := { stood := { row := scanOrderUptoRow, standIns := [], harness := (true, "d91363c9f7110007f80f29bc80de70ebb14331804f6e3ca62979841564927bb4"), looks := false }, kinds := [], alts := [], laidByText := true, laidKinds := [.data, .pinned], laidTests := true, laidLooks := .later }
def ScanOrderUptoCardSaid : Prop := Claim7.holds Tryd.pinned (.plain (OpenSpec.upto scanOrderSpec)) scanOrderUptoCard
end Rows
end Go.Proofs.YtldmeimebebllaaDoor
