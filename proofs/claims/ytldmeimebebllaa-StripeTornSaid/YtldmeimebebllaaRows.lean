/-
  No cell of these rows narrows 'for every input' (looked for: loops, veiled, ifaces, maps, wideKeys, modest, calm, conditions, laid).
  DERIVED. THE GIVEN ROWS OF THIS SEAT. 17 by the template 'for every input the law returns true; each argument reads behind the call as it read before'; 0 by the template 'total and deterministic' (their statements: YtldmeimebebllaaTotals.lean).
  GIVEN WITH THE SEED: the statements are not yours to turn. If you find one false, say at which input.
  Laid BY PROGRAM, IN A SANDBOX (cutbox-rows.mjs): the forced cells as the released guide's own fill.sh prints them over the translation ca815be13f4706c1… (all of the seat's roots in one cut). By AI agents, Wed Nov 11 2026. No macro, syntax, notation, axiom, sorry.
-/
import Derived.Test.YtldmeimebebllaaChecked
import GoSem.Claim
import GoSem.ClaimJoined
import GoSem.ClaimMapViews
import Derived.JoinedTies
import Derived.KernelRfl
namespace Go.Proofs.Ytldmeimebebllaa
/- THE CELL 'sum', in the pinned program and in every row, IS THE sha256 OF THE DUMP (.gsa) THAT YtldmeimebebllaaProg.lean LOADS. Nothing in Lean hashes anything: it is a label: what it is worth is what the hold of that sum in a sandbox is worth. -/
noncomputable def Try.pinned : Pinned := { name := "ytldmeimebebllaa", sum := "ca815be13f4706c1e4cd5e08a01c75cde6c26be515ea8e7734544ece97180842", checked := Try.checked }
namespace Rows
def none {H : Type} : Left H := { results := [], args := [] }

/-- 'morainelaw06.BankOpens': WHATEVER THE INPUT: true; the input reads as it did. -/
def bankOpensSpec : ChangeSpec := { name := "bankOpens", fn := fun _ => fun
  | [d1, d2, d3, d4] => { results := [.lit (.bool true)], args := [d1, d2, d3, d4] }
  | _ => none }
def bankOpensRow : OpenClaim := { program := "ytldmeimebebllaa", sum := "ca815be13f4706c1e4cd5e08a01c75cde6c26be515ea8e7734544ece97180842", func := "moraine/morainelaw06.BankOpens", spec := "bankOpens", apart := false }
def BankOpensSaid : Prop := bankOpensRow.holds Try.pinned (OpenSpec.ofChange bankOpensSpec)

/-- ITS FALSE NEIGHBOUR: 'it returns false'. Refute it at one input. -/
def bankOpensWrong : ChangeSpec := { name := "bankOpens", fn := fun _ => fun
  | [d1, d2, d3, d4] => { results := [.lit (.bool false)], args := [d1, d2, d3, d4] }
  | _ => none }
def BankOpensWrongFalsely : Prop := bankOpensRow.holds Try.pinned (OpenSpec.ofChange bankOpensWrong)

/-- 'morainelaw06.BankSpare': WHATEVER THE INPUT: true; the input reads as it did. -/
def bankSpareSpec : ChangeSpec := { name := "bankSpare", fn := fun _ => fun
  | [d1, d2, d3, d4] => { results := [.lit (.bool true)], args := [d1, d2, d3, d4] }
  | _ => none }
def bankSpareRow : OpenClaim := { program := "ytldmeimebebllaa", sum := "ca815be13f4706c1e4cd5e08a01c75cde6c26be515ea8e7734544ece97180842", func := "moraine/morainelaw06.BankSpare", spec := "bankSpare", unfollowed := true, recurses := true, apart := false }
def BankSpareSaid : Prop := bankSpareRow.holds Try.pinned (OpenSpec.ofChange bankSpareSpec)

/-- ITS FALSE NEIGHBOUR: 'it returns false'. Refute it at one input. -/
def bankSpareWrong : ChangeSpec := { name := "bankSpare", fn := fun _ => fun
  | [d1, d2, d3, d4] => { results := [.lit (.bool false)], args := [d1, d2, d3, d4] }
  | _ => none }
def BankSpareWrongFalsely : Prop := bankSpareRow.holds Try.pinned (OpenSpec.ofChange bankSpareWrong)

/-- 'morainelaw06.BankBad': WHATEVER THE INPUT: true; the input reads as it did. -/
def bankBadSpec : ChangeSpec := { name := "bankBad", fn := fun _ => fun
  | [d1, d2] => { results := [.lit (.bool true)], args := [d1, d2] }
  | _ => none }
def bankBadRow : OpenClaim := { program := "ytldmeimebebllaa", sum := "ca815be13f4706c1e4cd5e08a01c75cde6c26be515ea8e7734544ece97180842", func := "moraine/morainelaw06.BankBad", spec := "bankBad", unfollowed := true, recurses := true, apart := false }
def BankBadSaid : Prop := bankBadRow.holds Try.pinned (OpenSpec.ofChange bankBadSpec)

/-- ITS FALSE NEIGHBOUR: 'it returns false'. Refute it at one input. -/
def bankBadWrong : ChangeSpec := { name := "bankBad", fn := fun _ => fun
  | [d1, d2] => { results := [.lit (.bool false)], args := [d1, d2] }
  | _ => none }
def BankBadWrongFalsely : Prop := bankBadRow.holds Try.pinned (OpenSpec.ofChange bankBadWrong)

/-- 'morainelaw02.DeviceKeeps': WHATEVER THE INPUT: true; the input reads as it did. -/
def deviceKeepsSpec : ChangeSpec := { name := "deviceKeeps", fn := fun _ => fun
  | [d1, d2] => { results := [.lit (.bool true)], args := [d1, d2] }
  | _ => none }
def deviceKeepsRow : OpenClaim := { program := "ytldmeimebebllaa", sum := "ca815be13f4706c1e4cd5e08a01c75cde6c26be515ea8e7734544ece97180842", func := "moraine/morainelaw02.DeviceKeeps", spec := "deviceKeeps", unfollowed := true, recurses := true, apart := false }
def DeviceKeepsSaid : Prop := deviceKeepsRow.holds Try.pinned (OpenSpec.ofChange deviceKeepsSpec)

/-- ITS FALSE NEIGHBOUR: 'it returns false'. Refute it at one input. -/
def deviceKeepsWrong : ChangeSpec := { name := "deviceKeeps", fn := fun _ => fun
  | [d1, d2] => { results := [.lit (.bool false)], args := [d1, d2] }
  | _ => none }
def DeviceKeepsWrongFalsely : Prop := deviceKeepsRow.holds Try.pinned (OpenSpec.ofChange deviceKeepsWrong)

/-- 'morainelaw02.DeviceLasts': WHATEVER THE INPUT: true; the input reads as it did. -/
def deviceLastsSpec : ChangeSpec := { name := "deviceLasts", fn := fun _ => fun
  | [d1, d2, d3] => { results := [.lit (.bool true)], args := [d1, d2, d3] }
  | _ => none }
def deviceLastsRow : OpenClaim := { program := "ytldmeimebebllaa", sum := "ca815be13f4706c1e4cd5e08a01c75cde6c26be515ea8e7734544ece97180842", func := "moraine/morainelaw02.DeviceLasts", spec := "deviceLasts", unfollowed := true, recurses := true, apart := false }
def DeviceLastsSaid : Prop := deviceLastsRow.holds Try.pinned (OpenSpec.ofChange deviceLastsSpec)

/-- ITS FALSE NEIGHBOUR: 'it returns false'. Refute it at one input. -/
def deviceLastsWrong : ChangeSpec := { name := "deviceLasts", fn := fun _ => fun
  | [d1, d2, d3] => { results := [.lit (.bool false)], args := [d1, d2, d3] }
  | _ => none }
def DeviceLastsWrongFalsely : Prop := deviceLastsRow.holds Try.pinned (OpenSpec.ofChange deviceLastsWrong)

/-- 'morainelaw02.DevicePower': WHATEVER THE INPUT: true; the input reads as it did. -/
def devicePowerSpec : ChangeSpec := { name := "devicePower", fn := fun _ => fun
  | [d1, d2] => { results := [.lit (.bool true)], args := [d1, d2] }
  | _ => none }
def devicePowerRow : OpenClaim := { program := "ytldmeimebebllaa", sum := "ca815be13f4706c1e4cd5e08a01c75cde6c26be515ea8e7734544ece97180842", func := "moraine/morainelaw02.DevicePower", spec := "devicePower", unfollowed := true, recurses := true, apart := false }
def DevicePowerSaid : Prop := devicePowerRow.holds Try.pinned (OpenSpec.ofChange devicePowerSpec)

/-- ITS FALSE NEIGHBOUR: 'it returns false'. Refute it at one input. -/
def devicePowerWrong : ChangeSpec := { name := "devicePower", fn := fun _ => fun
  | [d1, d2] => { results := [.lit (.bool false)], args := [d1, d2] }
  | _ => none }
def DevicePowerWrongFalsely : Prop := devicePowerRow.holds Try.pinned (OpenSpec.ofChange devicePowerWrong)

/-- 'morainelaw02.DeviceLoads': WHATEVER THE INPUT: true; the input reads as it did. -/
def deviceLoadsSpec : ChangeSpec := { name := "deviceLoads", fn := fun _ => fun
  | [d1, d2] => { results := [.lit (.bool true)], args := [d1, d2] }
  | _ => none }
def deviceLoadsRow : OpenClaim := { program := "ytldmeimebebllaa", sum := "ca815be13f4706c1e4cd5e08a01c75cde6c26be515ea8e7734544ece97180842", func := "moraine/morainelaw02.DeviceLoads", spec := "deviceLoads", unfollowed := true, recurses := true, apart := false }
def DeviceLoadsSaid : Prop := deviceLoadsRow.holds Try.pinned (OpenSpec.ofChange deviceLoadsSpec)

/-- ITS FALSE NEIGHBOUR: 'it returns false'. Refute it at one input. -/
def deviceLoadsWrong : ChangeSpec := { name := "deviceLoads", fn := fun _ => fun
  | [d1, d2] => { results := [.lit (.bool false)], args := [d1, d2] }
  | _ => none }
def DeviceLoadsWrongFalsely : Prop := deviceLoadsRow.holds Try.pinned (OpenSpec.ofChange deviceLoadsWrong)

/-- 'morainelaw07.StripeReads': WHATEVER THE INPUT: true; the input reads as it did. -/
def stripeReadsSpec : ChangeSpec := { name := "stripeReads", fn := fun _ => fun
  | [d1, d2, d3, d4] => { results := [.lit (.bool true)], args := [d1, d2, d3, d4] }
  | _ => none }
def stripeReadsRow : OpenClaim := { program := "ytldmeimebebllaa", sum := "ca815be13f4706c1e4cd5e08a01c75cde6c26be515ea8e7734544ece97180842", func := "moraine/morainelaw07.StripeReads", spec := "stripeReads", inPlace := ["internal/bytealg.MakeNoZero"], unfollowed := true, recurses := true, apart := false }
def StripeReadsSaid : Prop := stripeReadsRow.holds Try.pinned (OpenSpec.ofChange stripeReadsSpec)

/-- ITS FALSE NEIGHBOUR: 'it returns false'. Refute it at one input. -/
def stripeReadsWrong : ChangeSpec := { name := "stripeReads", fn := fun _ => fun
  | [d1, d2, d3, d4] => { results := [.lit (.bool false)], args := [d1, d2, d3, d4] }
  | _ => none }
def StripeReadsWrongFalsely : Prop := stripeReadsRow.holds Try.pinned (OpenSpec.ofChange stripeReadsWrong)

/-- 'morainelaw07.StripeTwo': WHATEVER THE INPUT: true; the input reads as it did. -/
def stripeTwoSpec : ChangeSpec := { name := "stripeTwo", fn := fun _ => fun
  | [d1, d2, d3] => { results := [.lit (.bool true)], args := [d1, d2, d3] }
  | _ => none }
def stripeTwoRow : OpenClaim := { program := "ytldmeimebebllaa", sum := "ca815be13f4706c1e4cd5e08a01c75cde6c26be515ea8e7734544ece97180842", func := "moraine/morainelaw07.StripeTwo", spec := "stripeTwo", inPlace := ["internal/bytealg.MakeNoZero"], unfollowed := true, recurses := true, apart := false }
def StripeTwoSaid : Prop := stripeTwoRow.holds Try.pinned (OpenSpec.ofChange stripeTwoSpec)

/-- ITS FALSE NEIGHBOUR: 'it returns false'. Refute it at one input. -/
def stripeTwoWrong : ChangeSpec := { name := "stripeTwo", fn := fun _ => fun
  | [d1, d2, d3] => { results := [.lit (.bool false)], args := [d1, d2, d3] }
  | _ => none }
def StripeTwoWrongFalsely : Prop := stripeTwoRow.holds Try.pinned (OpenSpec.ofChange stripeTwoWrong)

/-- 'morainelaw07.StripeTwice': WHATEVER THE INPUT: true; the input reads as it did. -/
def stripeTwiceSpec : ChangeSpec := { name := "stripeTwice", fn := fun _ => fun
  | [d1, d2, d3, d4] => { results := [.lit (.bool true)], args := [d1, d2, d3, d4] }
  | _ => none }
def stripeTwiceRow : OpenClaim := { program := "ytldmeimebebllaa", sum := "ca815be13f4706c1e4cd5e08a01c75cde6c26be515ea8e7734544ece97180842", func := "moraine/morainelaw07.StripeTwice", spec := "stripeTwice", inPlace := ["internal/bytealg.MakeNoZero"], unfollowed := true, recurses := true, apart := false }
def StripeTwiceSaid : Prop := stripeTwiceRow.holds Try.pinned (OpenSpec.ofChange stripeTwiceSpec)

/-- ITS FALSE NEIGHBOUR: 'it returns false'. Refute it at one input. -/
def stripeTwiceWrong : ChangeSpec := { name := "stripeTwice", fn := fun _ => fun
  | [d1, d2, d3, d4] => { results := [.lit (.bool false)], args := [d1, d2, d3, d4] }
  | _ => none }
def StripeTwiceWrongFalsely : Prop := stripeTwiceRow.holds Try.pinned (OpenSpec.ofChange stripeTwiceWrong)

/-- 'morainelaw07.StripeSpoilt': WHATEVER THE INPUT: true; the input reads as it did. -/
def stripeSpoiltSpec : ChangeSpec := { name := "stripeSpoilt", fn := fun _ => fun
  | [d1, d2, d3, d4] => { results := [.lit (.bool true)], args := [d1, d2, d3, d4] }
  | _ => none }
def stripeSpoiltRow : OpenClaim := { program := "ytldmeimebebllaa", sum := "ca815be13f4706c1e4cd5e08a01c75cde6c26be515ea8e7734544ece97180842", func := "moraine/morainelaw07.StripeSpoilt", spec := "stripeSpoilt", inPlace := ["internal/bytealg.MakeNoZero"], unfollowed := true, recurses := true, apart := false }
def StripeSpoiltSaid : Prop := stripeSpoiltRow.holds Try.pinned (OpenSpec.ofChange stripeSpoiltSpec)

/-- ITS FALSE NEIGHBOUR: 'it returns false'. Refute it at one input. -/
def stripeSpoiltWrong : ChangeSpec := { name := "stripeSpoilt", fn := fun _ => fun
  | [d1, d2, d3, d4] => { results := [.lit (.bool false)], args := [d1, d2, d3, d4] }
  | _ => none }
def StripeSpoiltWrongFalsely : Prop := stripeSpoiltRow.holds Try.pinned (OpenSpec.ofChange stripeSpoiltWrong)

/-- 'morainelaw02.DeviceFails': WHATEVER THE INPUT: true; the input reads as it did. -/
def deviceFailsSpec : ChangeSpec := { name := "deviceFails", fn := fun _ => fun
  | [d1, d2] => { results := [.lit (.bool true)], args := [d1, d2] }
  | _ => none }
def deviceFailsRow : OpenClaim := { program := "ytldmeimebebllaa", sum := "ca815be13f4706c1e4cd5e08a01c75cde6c26be515ea8e7734544ece97180842", func := "moraine/morainelaw02.DeviceFails", spec := "deviceFails", unfollowed := true, recurses := true, apart := false }
def DeviceFailsSaid : Prop := deviceFailsRow.holds Try.pinned (OpenSpec.ofChange deviceFailsSpec)

/-- ITS FALSE NEIGHBOUR: 'it returns false'. Refute it at one input. -/
def deviceFailsWrong : ChangeSpec := { name := "deviceFails", fn := fun _ => fun
  | [d1, d2] => { results := [.lit (.bool false)], args := [d1, d2] }
  | _ => none }
def DeviceFailsWrongFalsely : Prop := deviceFailsRow.holds Try.pinned (OpenSpec.ofChange deviceFailsWrong)

/-- 'morainelaw02.DeviceCalls': WHATEVER THE INPUT: true; the input reads as it did. -/
def deviceCallsSpec : ChangeSpec := { name := "deviceCalls", fn := fun _ => fun
  | [d1, d2, d3] => { results := [.lit (.bool true)], args := [d1, d2, d3] }
  | _ => none }
def deviceCallsRow : OpenClaim := { program := "ytldmeimebebllaa", sum := "ca815be13f4706c1e4cd5e08a01c75cde6c26be515ea8e7734544ece97180842", func := "moraine/morainelaw02.DeviceCalls", spec := "deviceCalls", unfollowed := true, recurses := true, apart := false }
def DeviceCallsSaid : Prop := deviceCallsRow.holds Try.pinned (OpenSpec.ofChange deviceCallsSpec)

/-- ITS FALSE NEIGHBOUR: 'it returns false'. Refute it at one input. -/
def deviceCallsWrong : ChangeSpec := { name := "deviceCalls", fn := fun _ => fun
  | [d1, d2, d3] => { results := [.lit (.bool false)], args := [d1, d2, d3] }
  | _ => none }
def DeviceCallsWrongFalsely : Prop := deviceCallsRow.holds Try.pinned (OpenSpec.ofChange deviceCallsWrong)

/-- 'morainelaw06.BankLasts': WHATEVER THE INPUT: true; the input reads as it did. -/
def bankLastsSpec : ChangeSpec := { name := "bankLasts", fn := fun _ => fun
  | [d1, d2, d3] => { results := [.lit (.bool true)], args := [d1, d2, d3] }
  | _ => none }
def bankLastsRow : OpenClaim := { program := "ytldmeimebebllaa", sum := "ca815be13f4706c1e4cd5e08a01c75cde6c26be515ea8e7734544ece97180842", func := "moraine/morainelaw06.BankLasts", spec := "bankLasts", unfollowed := true, recurses := true, apart := false }
def BankLastsSaid : Prop := bankLastsRow.holds Try.pinned (OpenSpec.ofChange bankLastsSpec)

/-- ITS FALSE NEIGHBOUR: 'it returns false'. Refute it at one input. -/
def bankLastsWrong : ChangeSpec := { name := "bankLasts", fn := fun _ => fun
  | [d1, d2, d3] => { results := [.lit (.bool false)], args := [d1, d2, d3] }
  | _ => none }
def BankLastsWrongFalsely : Prop := bankLastsRow.holds Try.pinned (OpenSpec.ofChange bankLastsWrong)

/-- 'morainelaw07.StripeRefills': WHATEVER THE INPUT: true; the input reads as it did. -/
def stripeRefillsSpec : ChangeSpec := { name := "stripeRefills", fn := fun _ => fun
  | [d1, d2, d3] => { results := [.lit (.bool true)], args := [d1, d2, d3] }
  | _ => none }
def stripeRefillsRow : OpenClaim := { program := "ytldmeimebebllaa", sum := "ca815be13f4706c1e4cd5e08a01c75cde6c26be515ea8e7734544ece97180842", func := "moraine/morainelaw07.StripeRefills", spec := "stripeRefills", inPlace := ["internal/bytealg.MakeNoZero"], unfollowed := true, recurses := true, apart := false }
def StripeRefillsSaid : Prop := stripeRefillsRow.holds Try.pinned (OpenSpec.ofChange stripeRefillsSpec)

/-- ITS FALSE NEIGHBOUR: 'it returns false'. Refute it at one input. -/
def stripeRefillsWrong : ChangeSpec := { name := "stripeRefills", fn := fun _ => fun
  | [d1, d2, d3] => { results := [.lit (.bool false)], args := [d1, d2, d3] }
  | _ => none }
def StripeRefillsWrongFalsely : Prop := stripeRefillsRow.holds Try.pinned (OpenSpec.ofChange stripeRefillsWrong)

/-- 'morainelaw06.BankCalls': WHATEVER THE INPUT: true; the input reads as it did. -/
def bankCallsSpec : ChangeSpec := { name := "bankCalls", fn := fun _ => fun
  | [d1, d2] => { results := [.lit (.bool true)], args := [d1, d2] }
  | _ => none }
def bankCallsRow : OpenClaim := { program := "ytldmeimebebllaa", sum := "ca815be13f4706c1e4cd5e08a01c75cde6c26be515ea8e7734544ece97180842", func := "moraine/morainelaw06.BankCalls", spec := "bankCalls", unfollowed := true, recurses := true, apart := false }
def BankCallsSaid : Prop := bankCallsRow.holds Try.pinned (OpenSpec.ofChange bankCallsSpec)

/-- ITS FALSE NEIGHBOUR: 'it returns false'. Refute it at one input. -/
def bankCallsWrong : ChangeSpec := { name := "bankCalls", fn := fun _ => fun
  | [d1, d2] => { results := [.lit (.bool false)], args := [d1, d2] }
  | _ => none }
def BankCallsWrongFalsely : Prop := bankCallsRow.holds Try.pinned (OpenSpec.ofChange bankCallsWrong)

/-- 'morainelaw07.StripeTorn': WHATEVER THE INPUT: true; the input reads as it did. -/
def stripeTornSpec : ChangeSpec := { name := "stripeTorn", fn := fun _ => fun
  | [d1, d2, d3, d4] => { results := [.lit (.bool true)], args := [d1, d2, d3, d4] }
  | _ => none }
def stripeTornRow : OpenClaim := { program := "ytldmeimebebllaa", sum := "ca815be13f4706c1e4cd5e08a01c75cde6c26be515ea8e7734544ece97180842", func := "moraine/morainelaw07.StripeTorn", spec := "stripeTorn", inPlace := ["internal/bytealg.MakeNoZero"], unfollowed := true, recurses := true, apart := false }
def StripeTornSaid : Prop := stripeTornRow.holds Try.pinned (OpenSpec.ofChange stripeTornSpec)

/-- ITS FALSE NEIGHBOUR: 'it returns false'. Refute it at one input. -/
def stripeTornWrong : ChangeSpec := { name := "stripeTorn", fn := fun _ => fun
  | [d1, d2, d3, d4] => { results := [.lit (.bool false)], args := [d1, d2, d3, d4] }
  | _ => none }
def StripeTornWrongFalsely : Prop := stripeTornRow.holds Try.pinned (OpenSpec.ofChange stripeTornWrong)

/- THE SECOND FORM. 'bulk': how many values and letters a reading holds, each counted each time it is reached (what is shared counts as often as it is met; a slice's spare places count too). A statement '..UptoSaid' is the law's where the arguments, and the package variables that the reading takes, are together of bulk at most 1048576: NARROWER than '..Said'. Prove '..Said' where nothing that the law and all that it calls make is longer than what came in: it says more and counts as full. Else prove '..UptoSaid'. A law counts once. -/
mutual
def uptoBulk {H : Type} : DataW H → Nat
  | .lit (.string bytes) => bytes.length + 1
  | .lit _ => 1
  | .nil => 1
  | .ptr d => uptoBulk d + 1
  | .slice elems spare => uptoBulkAll elems + uptoBulkAll spare + 1
  | .agg parts => uptoBulkAll parts + 1
  | .iface _ d => uptoBulk d + 1
  | .map entries => uptoBulkEntries entries + 1
  | .held _ => 1
def uptoBulkAll {H : Type} : List (DataW H) → Nat
  | [] => 0
  | d :: r => uptoBulk d + uptoBulkAll r
def uptoBulkEntries {H : Type} : List (Lit × DataW H) → Nat
  | [] => 0
  | x :: r => uptoBulkEntry x + uptoBulkEntries r
def uptoBulkEntry {H : Type} : Lit × DataW H → Nat
  | (.string bytes, d) => bytes.length + uptoBulk d + 1
  | (_, d) => uptoBulk d + 1
 end
def uptoSmall : (H : Type) → List (DataW H) → Bool := fun _ ds => decide (uptoBulkAll ds ≤ 1048576)
def OpenSpec.upto (s : _root_.Go.ChangeSpec) : _root_.Go.OpenSpec := { _root_.Go.OpenSpec.ofChange s with cond := some uptoSmall }

/-- 'morainelaw06.BankOpens', WHERE WHAT IT READS IS OF BULK AT MOST 1048576: true; the input reads as it did. -/
def bankOpensUptoRow : OpenClaim := { program := "ytldmeimebebllaa", sum := "ca815be13f4706c1e4cd5e08a01c75cde6c26be515ea8e7734544ece97180842", func := "moraine/morainelaw06.BankOpens", spec := "bankOpens", apart := false, narrowed := true }
def BankOpensUptoSaid : Prop := bankOpensUptoRow.holds Try.pinned (OpenSpec.upto bankOpensSpec)

/-- 'morainelaw06.BankSpare', WHERE WHAT IT READS IS OF BULK AT MOST 1048576: true; the input reads as it did. -/
def bankSpareUptoRow : OpenClaim := { program := "ytldmeimebebllaa", sum := "ca815be13f4706c1e4cd5e08a01c75cde6c26be515ea8e7734544ece97180842", func := "moraine/morainelaw06.BankSpare", spec := "bankSpare", unfollowed := true, recurses := true, apart := false, narrowed := true }
def BankSpareUptoSaid : Prop := bankSpareUptoRow.holds Try.pinned (OpenSpec.upto bankSpareSpec)

/-- 'morainelaw06.BankBad', WHERE WHAT IT READS IS OF BULK AT MOST 1048576: true; the input reads as it did. -/
def bankBadUptoRow : OpenClaim := { program := "ytldmeimebebllaa", sum := "ca815be13f4706c1e4cd5e08a01c75cde6c26be515ea8e7734544ece97180842", func := "moraine/morainelaw06.BankBad", spec := "bankBad", unfollowed := true, recurses := true, apart := false, narrowed := true }
def BankBadUptoSaid : Prop := bankBadUptoRow.holds Try.pinned (OpenSpec.upto bankBadSpec)

/-- 'morainelaw02.DeviceKeeps', WHERE WHAT IT READS IS OF BULK AT MOST 1048576: true; the input reads as it did. -/
def deviceKeepsUptoRow : OpenClaim := { program := "ytldmeimebebllaa", sum := "ca815be13f4706c1e4cd5e08a01c75cde6c26be515ea8e7734544ece97180842", func := "moraine/morainelaw02.DeviceKeeps", spec := "deviceKeeps", unfollowed := true, recurses := true, apart := false, narrowed := true }
def DeviceKeepsUptoSaid : Prop := deviceKeepsUptoRow.holds Try.pinned (OpenSpec.upto deviceKeepsSpec)

/-- 'morainelaw02.DeviceLasts', WHERE WHAT IT READS IS OF BULK AT MOST 1048576: true; the input reads as it did. -/
def deviceLastsUptoRow : OpenClaim := { program := "ytldmeimebebllaa", sum := "ca815be13f4706c1e4cd5e08a01c75cde6c26be515ea8e7734544ece97180842", func := "moraine/morainelaw02.DeviceLasts", spec := "deviceLasts", unfollowed := true, recurses := true, apart := false, narrowed := true }
def DeviceLastsUptoSaid : Prop := deviceLastsUptoRow.holds Try.pinned (OpenSpec.upto deviceLastsSpec)

/-- 'morainelaw02.DevicePower', WHERE WHAT IT READS IS OF BULK AT MOST 1048576: true; the input reads as it did. -/
def devicePowerUptoRow : OpenClaim := { program := "ytldmeimebebllaa", sum := "ca815be13f4706c1e4cd5e08a01c75cde6c26be515ea8e7734544ece97180842", func := "moraine/morainelaw02.DevicePower", spec := "devicePower", unfollowed := true, recurses := true, apart := false, narrowed := true }
def DevicePowerUptoSaid : Prop := devicePowerUptoRow.holds Try.pinned (OpenSpec.upto devicePowerSpec)

/-- 'morainelaw02.DeviceLoads', WHERE WHAT IT READS IS OF BULK AT MOST 1048576: true; the input reads as it did. -/
def deviceLoadsUptoRow : OpenClaim := { program := "ytldmeimebebllaa", sum := "ca815be13f4706c1e4cd5e08a01c75cde6c26be515ea8e7734544ece97180842", func := "moraine/morainelaw02.DeviceLoads", spec := "deviceLoads", unfollowed := true, recurses := true, apart := false, narrowed := true }
def DeviceLoadsUptoSaid : Prop := deviceLoadsUptoRow.holds Try.pinned (OpenSpec.upto deviceLoadsSpec)

/-- 'morainelaw07.StripeReads', WHERE WHAT IT READS IS OF BULK AT MOST 1048576: true; the input reads as it did. -/
def stripeReadsUptoRow : OpenClaim := { program := "ytldmeimebebllaa", sum := "ca815be13f4706c1e4cd5e08a01c75cde6c26be515ea8e7734544ece97180842", func := "moraine/morainelaw07.StripeReads", spec := "stripeReads", inPlace := ["internal/bytealg.MakeNoZero"], unfollowed := true, recurses := true, apart := false, narrowed := true }
def StripeReadsUptoSaid : Prop := stripeReadsUptoRow.holds Try.pinned (OpenSpec.upto stripeReadsSpec)

/-- 'morainelaw07.StripeTwo', WHERE WHAT IT READS IS OF BULK AT MOST 1048576: true; the input reads as it did. -/
def stripeTwoUptoRow : OpenClaim := { program := "ytldmeimebebllaa", sum := "ca815be13f4706c1e4cd5e08a01c75cde6c26be515ea8e7734544ece97180842", func := "moraine/morainelaw07.StripeTwo", spec := "stripeTwo", inPlace := ["internal/bytealg.MakeNoZero"], unfollowed := true, recurses := true, apart := false, narrowed := true }
def StripeTwoUptoSaid : Prop := stripeTwoUptoRow.holds Try.pinned (OpenSpec.upto stripeTwoSpec)

/-- 'morainelaw07.StripeTwice', WHERE WHAT IT READS IS OF BULK AT MOST 1048576: true; the input reads as it did. -/
def stripeTwiceUptoRow : OpenClaim := { program := "ytldmeimebebllaa", sum := "ca815be13f4706c1e4cd5e08a01c75cde6c26be515ea8e7734544ece97180842", func := "moraine/morainelaw07.StripeTwice", spec := "stripeTwice", inPlace := ["internal/bytealg.MakeNoZero"], unfollowed := true, recurses := true, apart := false, narrowed := true }
def StripeTwiceUptoSaid : Prop := stripeTwiceUptoRow.holds Try.pinned (OpenSpec.upto stripeTwiceSpec)

/-- 'morainelaw07.StripeSpoilt', WHERE WHAT IT READS IS OF BULK AT MOST 1048576: true; the input reads as it did. -/
def stripeSpoiltUptoRow : OpenClaim := { program := "ytldmeimebebllaa", sum := "ca815be13f4706c1e4cd5e08a01c75cde6c26be515ea8e7734544ece97180842", func := "moraine/morainelaw07.StripeSpoilt", spec := "stripeSpoilt", inPlace := ["internal/bytealg.MakeNoZero"], unfollowed := true, recurses := true, apart := false, narrowed := true }
def StripeSpoiltUptoSaid : Prop := stripeSpoiltUptoRow.holds Try.pinned (OpenSpec.upto stripeSpoiltSpec)

/-- 'morainelaw02.DeviceFails', WHERE WHAT IT READS IS OF BULK AT MOST 1048576: true; the input reads as it did. -/
def deviceFailsUptoRow : OpenClaim := { program := "ytldmeimebebllaa", sum := "ca815be13f4706c1e4cd5e08a01c75cde6c26be515ea8e7734544ece97180842", func := "moraine/morainelaw02.DeviceFails", spec := "deviceFails", unfollowed := true, recurses := true, apart := false, narrowed := true }
def DeviceFailsUptoSaid : Prop := deviceFailsUptoRow.holds Try.pinned (OpenSpec.upto deviceFailsSpec)

/-- 'morainelaw02.DeviceCalls', WHERE WHAT IT READS IS OF BULK AT MOST 1048576: true; the input reads as it did. -/
def deviceCallsUptoRow : OpenClaim := { program := "ytldmeimebebllaa", sum := "ca815be13f4706c1e4cd5e08a01c75cde6c26be515ea8e7734544ece97180842", func := "moraine/morainelaw02.DeviceCalls", spec := "deviceCalls", unfollowed := true, recurses := true, apart := false, narrowed := true }
def DeviceCallsUptoSaid : Prop := deviceCallsUptoRow.holds Try.pinned (OpenSpec.upto deviceCallsSpec)

/-- 'morainelaw06.BankLasts', WHERE WHAT IT READS IS OF BULK AT MOST 1048576: true; the input reads as it did. -/
def bankLastsUptoRow : OpenClaim := { program := "ytldmeimebebllaa", sum := "ca815be13f4706c1e4cd5e08a01c75cde6c26be515ea8e7734544ece97180842", func := "moraine/morainelaw06.BankLasts", spec := "bankLasts", unfollowed := true, recurses := true, apart := false, narrowed := true }
def BankLastsUptoSaid : Prop := bankLastsUptoRow.holds Try.pinned (OpenSpec.upto bankLastsSpec)

/-- 'morainelaw07.StripeRefills', WHERE WHAT IT READS IS OF BULK AT MOST 1048576: true; the input reads as it did. -/
def stripeRefillsUptoRow : OpenClaim := { program := "ytldmeimebebllaa", sum := "ca815be13f4706c1e4cd5e08a01c75cde6c26be515ea8e7734544ece97180842", func := "moraine/morainelaw07.StripeRefills", spec := "stripeRefills", inPlace := ["internal/bytealg.MakeNoZero"], unfollowed := true, recurses := true, apart := false, narrowed := true }
def StripeRefillsUptoSaid : Prop := stripeRefillsUptoRow.holds Try.pinned (OpenSpec.upto stripeRefillsSpec)

/-- 'morainelaw06.BankCalls', WHERE WHAT IT READS IS OF BULK AT MOST 1048576: true; the input reads as it did. -/
def bankCallsUptoRow : OpenClaim := { program := "ytldmeimebebllaa", sum := "ca815be13f4706c1e4cd5e08a01c75cde6c26be515ea8e7734544ece97180842", func := "moraine/morainelaw06.BankCalls", spec := "bankCalls", unfollowed := true, recurses := true, apart := false, narrowed := true }
def BankCallsUptoSaid : Prop := bankCallsUptoRow.holds Try.pinned (OpenSpec.upto bankCallsSpec)

/-- 'morainelaw07.StripeTorn', WHERE WHAT IT READS IS OF BULK AT MOST 1048576: true; the input reads as it did. -/
def stripeTornUptoRow : OpenClaim := { program := "ytldmeimebebllaa", sum := "ca815be13f4706c1e4cd5e08a01c75cde6c26be515ea8e7734544ece97180842", func := "moraine/morainelaw07.StripeTorn", spec := "stripeTorn", inPlace := ["internal/bytealg.MakeNoZero"], unfollowed := true, recurses := true, apart := false, narrowed := true }
def StripeTornUptoSaid : Prop := stripeTornUptoRow.holds Try.pinned (OpenSpec.upto stripeTornSpec)

end Rows
end Go.Proofs.Ytldmeimebebllaa
