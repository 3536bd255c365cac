/-
  A part of the proof: what functions of the program do, a symbolic executor of the code with its proof, and closed runs.
-/
import Derived.Test.YtnmkienagpgnmaaGreatDoorPart5
namespace Go.Ex
open Go.Proofs
open Go.Mo
theorem runW00 : (go (env1 (bdL ⟨none, (some 0)⟩ ⟨none, (some (-1))⟩) smL) 20000).call 3 [.w (.x 0), .w (.x 1)] σ0 endT = true := by kernel_rfl
theorem runW10 : (go (env1 (bdL ⟨(some 1), (some 7)⟩ ⟨none, (some (-1))⟩) smL) 20000).call 3 [.w (.x 0), .w (.x 1)] σ0 endT = true := by kernel_rfl
theorem runW20 : (go (env1 (bdL ⟨(some 8), none⟩ ⟨none, (some (-1))⟩) smL) 20000).call 3 [.w (.x 0), .w (.x 1)] σ0 endT = true := by kernel_rfl
end Go.Ex
