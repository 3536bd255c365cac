/-
  A part of the proof: what functions of the program do, a symbolic executor of the code with its proof, and closed runs.
-/
import Derived.Test.YtnmkienagpgnmaaGreatDoorRows
import Derived.ProofKit
import Derived.Test.YtnmkienagpgnmaaGreatDoorCards
import Derived.SevenTiedAt
namespace Go.Proofs.YtnmkienagpgnmaaGreatDoor.shellErrors
open Go
theorem wfText : Rows.shellErrorsRow.wfByText (OpenSpec.ofChange Rows.shellErrorsSpec) = true := by kernel_rfl
theorem looks3 : true = Tryz.pinned.checked.prog.looks [] := by kernel_rfl
theorem goes3 : false = Rows.shellErrorsRow.goesBy Tryz.pinned.checked.prog := by kernel_rfl
theorem main3 : Tryz.pinned.checked.prog.mainIs = some (true, "352a702d627e11e11ca08b5d88a98349849776d6ab837bb78c85f5ab73f2ea96".toList) := by kernel_rfl
theorem hall3 : ([3, 3].all fun u => !Tryz.prog.wantsStandIn u) = true := by kernel_rfl
end Go.Proofs.YtnmkienagpgnmaaGreatDoor.shellErrors
