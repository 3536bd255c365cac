/-
  A part of the proof: what functions of the program do, a symbolic executor of the code with its proof, and closed runs.
-/
import Derived.Test.YtnmkienagpgnmaaGreatDoorPart5
namespace Go.Ex
open Go.Proofs
open Go.Mo
theorem runW01 : (go (env1 (bdL ⟨none, (some 0)⟩ ⟨(some 0), (some 3)⟩) smL) 20000).call 3 [.w (.x 0), .w (.x 1)] σ0 endT = true := by kernel_rfl
theorem runW11 : (go (env1 (bdL ⟨(some 1), (some 7)⟩ ⟨(some 0), (some 3)⟩) smL) 20000).call 3 [.w (.x 0), .w (.x 1)] σ0 endT = true := by kernel_rfl
theorem runW21 : (go (env1 (bdL ⟨(some 8), none⟩ ⟨(some 0), (some 3)⟩) smL) 20000).call 3 [.w (.x 0), .w (.x 1)] σ0 endT = true := by kernel_rfl
end Go.Ex
