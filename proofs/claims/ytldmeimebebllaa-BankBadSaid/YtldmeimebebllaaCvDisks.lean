/-
  a part of the proof: what functions of the program do, in a separation logic.
-/
import Derived.Test.YtldmeimebebllaaBnk2
import Derived.Test.YtldmeimebebllaaSims
namespace Go.Proofs.Ytldmeimebebllaa
open Go.Mo
theorem disksOk : DisksOk (cvOf Try.prog) := fun b yv Q w hm =>
  enter_of (f := fid_bank_Bank_disks) («as» := #[.pointer b, yv]) (m := bank_Bank_disks (cvOf Try.prog) b yv) (enc := fun _ : Unit => .tuple #[]) (by simp [Deferred.ofValue, invoke]) (fun Qf' h => bank_Bank_disks_sim b yv Qf' w h) Q hm
end Go.Proofs.Ytldmeimebebllaa
