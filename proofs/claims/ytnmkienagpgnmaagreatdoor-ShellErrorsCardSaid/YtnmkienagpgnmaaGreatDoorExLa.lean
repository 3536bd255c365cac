/-
  A part of the proof: what functions of the program do, a symbolic executor of the code with its proof, and closed runs.
-/
import Derived.Test.YtnmkienagpgnmaaGreatDoorRows
import Derived.ProofKit
import Derived.JoinedOf
namespace Go.Proofs.YtnmkienagpgnmaaGreatDoor.shellErrors
open Go
theorem jf0 : (Rows.shellErrorsRow.wf (OpenSpec.ofChange Rows.shellErrorsSpec)) = true := by kernel_rfl
theorem jf1 : (laidOutB Tryz.pinned.checked.prog) = true := by kernel_rfl
theorem jf2 : (mapsRowed Tryz.pinned.checked.prog) = true := by kernel_rfl
theorem jf3 : (Tryz.f3.params.all (Tryz.pinned.checked.prog.readableRec ·)) = true := by kernel_rfl
theorem jf4 : (namedTie Tryz.pinned.checked.prog Rows.shellErrorsRow.named Rows.shellErrorsSpec.vars) = true := by kernel_rfl
theorem jf5 : ((Rows.shellErrorsRow.stops == [])) = true := by kernel_rfl
theorem jf6 : ((Tryz.pinned.checked.prog.stops == [])) = true := by kernel_rfl
theorem jf7 : ((Rows.shellErrorsRow.knobs == [])) = true := by kernel_rfl
theorem jf8 : ((Tryz.pinned.checked.prog.stopKnobs == [])) = true := by kernel_rfl
theorem jf9 : ((Rows.shellErrorsRow.inPlace == Tryz.pinned.checked.prog.inPlace 3)) = true := by kernel_rfl
theorem jf10 : ((Rows.shellErrorsRow.unfollowed == Tryz.pinned.checked.prog.unfollowed 3)) = true := by kernel_rfl
theorem jf11 : ((Rows.shellErrorsRow.recurses == Tryz.pinned.checked.prog.recurses 3)) = true := by kernel_rfl
theorem jf12 : ((Rows.shellErrorsRow.named == Tryz.pinned.checked.prog.varsNamed 3)) = true := by kernel_rfl
theorem jf13 : ((Rows.shellErrorsRow.maps == (Tryz.f3.params.toList ++ Rows.shellErrorsSpec.plain.varTypes Tryz.pinned.checked.prog).any (Tryz.pinned.checked.prog.mapsRec ·))) = true := by kernel_rfl
theorem jf14 : ((Rows.shellErrorsRow.ifaces == (Tryz.f3.params.toList ++ Rows.shellErrorsSpec.plain.varTypes Tryz.pinned.checked.prog).any (Tryz.pinned.checked.prog.ifacesRec ·))) = true := by kernel_rfl
theorem jf15 : ((Rows.shellErrorsRow.mapsOut == Tryz.pinned.checked.prog.mapsAmong Tryz.f3.resultTypes.toList)) = true := by kernel_rfl
theorem jf16 : ((Rows.shellErrorsRow.loops == (Tryz.f3.params.toList ++ Rows.shellErrorsSpec.plain.varTypes Tryz.pinned.checked.prog).any (Tryz.pinned.checked.prog.loopsFrom ·))) = true := by kernel_rfl
theorem jf17 : ((Rows.shellErrorsRow.wideKeys == (Tryz.f3.params.toList ++ Rows.shellErrorsSpec.plain.varTypes Tryz.pinned.checked.prog ++ Tryz.f3.resultTypes.toList).any (Tryz.pinned.checked.prog.wideKeysFrom ·))) = true := by kernel_rfl
theorem jf18 : (Rows.shellErrorsSpec.vars.all (Tryz.pinned.checked.prog.varReadable ·)) = true := by kernel_rfl
theorem jf19 : (Tryz.f3.resultTypes.all (fun t => Tryz.pinned.checked.prog.readableRec t && decide (t < Tryz.pinned.checked.prog.types.size))) = true := by kernel_rfl
theorem jf20 : ((Rows.shellErrorsRow.ifacesOut == Tryz.f3.resultTypes.toList.any (Tryz.pinned.checked.prog.ifacesRec ·))) = true := by kernel_rfl
theorem jf21 : ((Rows.shellErrorsRow.loopsOut == Tryz.f3.resultTypes.toList.any (Tryz.pinned.checked.prog.loopsFrom ·))) = true := by kernel_rfl
theorem jf22 : ((Rows.shellErrorsRow.plainKeys == Tryz.pinned.checked.prog.plainKeys)) = true := by kernel_rfl
theorem jf23 : (Rows.shellErrorsRow.shortTexts.isNone) = true := by kernel_rfl
theorem jf24 : (Tryz.pinned.checked.prog.stopsHeard) = true := by kernel_rfl
theorem jf25 : (Tryz.pinned.checked.prog.mayEnter) = true := by kernel_rfl
theorem jf26 : ((Rows.shellErrorsRow.lifted == Tryz.pinned.checked.prog.liftsFinal)) = true := by kernel_rfl
theorem jf27 : ((Tryz.pinned.checked.prog.make == some Rows.shellErrorsRow.make)) = true := by kernel_rfl
theorem jf28 : ((Rows.shellErrorsRow.kinds == (if Rows.shellErrorsRow.domain.isEmpty then [] else Tryz.f3.params.toList.map fun t => match Tryz.pinned.checked.prog.underlying t with | some (.int k) => some k | _ => none))) = true := by kernel_rfl
theorem jf29 : ((Rows.shellErrorsRow.pinned == Rows.shellErrorsRow.pinnedBy)) = true := by kernel_rfl
theorem jf30 : ((Rows.shellErrorsRow.veiled == (Tryz.f3.params.toList ++ Rows.shellErrorsSpec.plain.varTypes Tryz.pinned.checked.prog ++ Tryz.f3.resultTypes.toList).any (Tryz.pinned.checked.prog.veiledRec ·))) = true := by kernel_rfl
theorem jf31 : (Rows.shellErrorsRow.veiledFits Tryz.pinned.checked.prog Tryz.f3.params.toList (Tryz.f3.params.toList ++ Rows.shellErrorsSpec.plain.varTypes Tryz.pinned.checked.prog ++ Tryz.f3.resultTypes.toList)) = true := by kernel_rfl
theorem jand {a b : Bool} (h1 : a = true) (h2 : b = true) : (a && b) = true := by rw [h1, h2]; rfl
theorem closed : joinedFacts Tryz.pinned.checked.prog 3 Tryz.f3 Rows.shellErrorsSpec Rows.shellErrorsRow = true := by
  unfold joinedFacts
  repeat' with_reducible apply jand
  · first | (with_reducible exact jf0) | kernel_rfl
  · first | (with_reducible exact jf1) | kernel_rfl
  · first | (with_reducible exact jf2) | kernel_rfl
  · first | (with_reducible exact jf3) | kernel_rfl
  · first | (with_reducible exact jf4) | kernel_rfl
  · first | (with_reducible exact jf5) | kernel_rfl
  · first | (with_reducible exact jf6) | kernel_rfl
  · first | (with_reducible exact jf7) | kernel_rfl
  · first | (with_reducible exact jf8) | kernel_rfl
  · first | (with_reducible exact jf9) | kernel_rfl
  · first | (with_reducible exact jf10) | kernel_rfl
  · first | (with_reducible exact jf11) | kernel_rfl
  · first | (with_reducible exact jf12) | kernel_rfl
  · first | (with_reducible exact jf13) | kernel_rfl
  · first | (with_reducible exact jf14) | kernel_rfl
  · first | (with_reducible exact jf15) | kernel_rfl
  · first | (with_reducible exact jf16) | kernel_rfl
  · first | (with_reducible exact jf17) | kernel_rfl
  · first | (with_reducible exact jf18) | kernel_rfl
  · first | (with_reducible exact jf19) | kernel_rfl
  · first | (with_reducible exact jf20) | kernel_rfl
  · first | (with_reducible exact jf21) | kernel_rfl
  · first | (with_reducible exact jf22) | kernel_rfl
  · first | (with_reducible exact jf23) | kernel_rfl
  · first | (with_reducible exact jf24) | kernel_rfl
  · first | (with_reducible exact jf25) | kernel_rfl
  · first | (with_reducible exact jf26) | kernel_rfl
  · first | (with_reducible exact jf27) | kernel_rfl
  · first | (with_reducible exact jf28) | kernel_rfl
  · first | (with_reducible exact jf29) | kernel_rfl
  · first | (with_reducible exact jf30) | kernel_rfl
  · first | (with_reducible exact jf31) | kernel_rfl
theorem named3 : Tryz.pinned.checked.prog.funcNamed Rows.shellErrorsRow.func = some 3 := by kernel_rfl
end Go.Proofs.YtnmkienagpgnmaaGreatDoor.shellErrors
