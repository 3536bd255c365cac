/-
  A part of the proof: what functions of the program do, a symbolic executor of the code with its proof, and closed runs.
-/
import Derived.Test.YtnmkienagpgnmaaGreatDoorPart4
import Derived.Test.YtnmkienagpgnmaaGreatDoorExCStp1
import Derived.Test.YtnmkienagpgnmaaGreatDoorExCNew
import Derived.Test.YtnmkienagpgnmaaGreatDoorExCStp2
import Derived.Test.YtnmkienagpgnmaaGreatDoorExCStp3
import Derived.Test.YtnmkienagpgnmaaGreatDoorExCMount2
namespace Go.Ex
open Go.Proofs
open Go.Mo
noncomputable def LAalive : List O := [
  ]
noncomputable def LBalive : List O := upd LAalive [] []
noncomputable def Aalive : St := pic LAalive σ0
noncomputable def Balive : St := pic LBalive σ0
noncomputable def asalive : List V := []
noncomputable def valive : V := (.b true)
theorem nAalive : Nm Aalive := pic_nm LAalive σ0 Nm.start
theorem nBalive : Nm Balive := pic_nm LBalive σ0 Nm.start
theorem runalive : (go (E0 (smNew (smStp1t (smStp2t (smStp3t (smMount2 smS0)))))) 20000).call 4 asalive Aalive (endB 0 9 Balive valive) = true := by kernel_rfl
theorem chalive {ξ : Nat → Int} : Chunk Tryz.prog ξ 4 Aalive asalive Balive valive := chunk_ok (E0_ok (smNew_ok (smStp1t_ok (smStp2t_ok (smStp3t_ok (smMount2_ok smS0_ok)))))) nBalive (by kernel_rfl) runalive
theorem kAalive : Kle Aalive 0 := ⟨by kernel_rfl⟩
theorem kBalive : Kle Balive 0 := ⟨by kernel_rfl⟩
noncomputable def smalive (s : Sm) : Sm := withC 4 0 9 Aalive Balive asalive valive s
theorem smalive_ok {ξ : Nat → Int} {s : Sm} (h : ∀ W, SmOK Tryz.prog W ξ s) : ∀ W, SmOK Tryz.prog W ξ (smalive s) := by
  unfold smalive
  exact withC_ok chalive nAalive kAalive kBalive h
noncomputable def smalivet (s : Sm) : Sm := tryC 4 0 9 Aalive Balive asalive valive s
end Go.Ex
