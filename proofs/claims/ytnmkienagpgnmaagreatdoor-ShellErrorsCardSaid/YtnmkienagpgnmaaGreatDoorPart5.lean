/-
  A part of the proof: what functions of the program do, a symbolic executor of the code with its proof, and closed runs.
-/
import Derived.Test.YtnmkienagpgnmaaGreatDoorPart3
import Derived.Test.YtnmkienagpgnmaaGreatDoorPart4
import Derived.Test.YtnmkienagpgnmaaGreatDoorExCNew
import Derived.Test.YtnmkienagpgnmaaGreatDoorExCMount3
import Derived.Test.YtnmkienagpgnmaaGreatDoorExCalive
namespace Go.Ex
open Go.Proofs
open Go.Mo
def bdL (a b : Bd) : Nat → Bd
  | 0 => a
  | _ => b
noncomputable def smL : Sm := (smalive (smNew (smMount3 smS0)))
theorem smL_ok {ξ : Nat → Int} : ∀ W, SmOK Tryz.prog W ξ smL := (smalive_ok (smNew_ok (smMount3_ok smS0_ok)))
def endT (e : En) (_ : St) : Ans := match e with
  | .r (.b true) => true
  | _ => false
end Go.Ex
