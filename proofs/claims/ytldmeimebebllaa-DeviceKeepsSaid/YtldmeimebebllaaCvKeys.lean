/-
  a part of the proof: what functions of the program do, in a separation logic.
-/
import Derived.Test.YtldmeimebebllaaKeys
import Derived.Test.YtldmeimebebllaaSims
namespace Go.Proofs.Ytldmeimebebllaa
open Go.Mo
theorem keysOk : KeysOk (cvOf Try.prog) := fun a yv Q w hm =>
  enter_of (f := fid_maps_Keys_m_c1) («as» := #[yv, .pointer (some a)]) (m := maps_Keys_m_c1 (cvOf Try.prog) yv a) (enc := fun _ : Unit => .tuple #[]) (by simp [Deferred.ofValue, invoke]) (fun Qf' h => maps_Keys_m_c1_sim yv a Qf' w h) Q hm
end Go.Proofs.Ytldmeimebebllaa
