/-
  No cell of these rows narrows 'for every input' (looked for: loops, veiled, ifaces, maps, wideKeys, modest, calm, conditions, laid).
  DERIVED. THE GIVEN ROWS OF THIS SEAT. 8 by the template 'for every input the law returns true; each argument reads behind the call as it read before'; 0 by the template 'total and deterministic' (their statements: YtiphekepglihlaaTotals.lean).
  GIVEN WITH THE SEED: the statements are not yours to turn. If you find one false, say at which input.
  Laid BY PROGRAM, IN A SANDBOX (cutbox-rows.mjs): the forced cells as the released guide's own fill.sh prints them over the translation 52dec0c3cdf88cf8… (all of the seat's roots in one cut). By AI agents, Wed Nov 11 2026. No macro, syntax, notation, axiom, sorry.
-/
import Derived.Test.YtiphekepglihlaaChecked
import GoSem.Claim
import GoSem.ClaimJoined
import GoSem.ClaimMapViews
import Derived.JoinedTies
import Derived.KernelRfl
namespace Go.Proofs.Ytiphekepglihlaa
/- THE CELL 'sum', in the pinned program and in every row, IS THE sha256 OF THE DUMP (.gsa) THAT YtiphekepglihlaaProg.lean LOADS. Nothing in Lean hashes anything: it is a label: what it is worth is what the hold of that sum in a sandbox is worth. -/
noncomputable def Try.pinned : Pinned := { name := "ytiphekepglihlaa", sum := "52dec0c3cdf88cf84fd9da091e05a34473cfddc1e467af26fe3583b1603e7869", checked := Try.checked }
namespace Rows
def none {H : Type} : Left H := { results := [], args := [] }

/-- 'triadlaw8.HexaWhich': WHATEVER THE INPUT: true; the input reads as it did. -/
def hexaWhichSpec : ChangeSpec := { name := "hexaWhich", fn := fun _ => fun
  | [d] => { results := [.lit (.bool true)], args := [d] }
  | _ => none }
def hexaWhichRow : OpenClaim := { program := "ytiphekepglihlaa", sum := "52dec0c3cdf88cf84fd9da091e05a34473cfddc1e467af26fe3583b1603e7869", func := "triad/triadlaw8.HexaWhich", spec := "hexaWhich", unfollowed := true, recurses := true, apart := false }
def HexaWhichSaid : Prop := hexaWhichRow.holds Try.pinned (OpenSpec.ofChange hexaWhichSpec)

/-- ITS FALSE NEIGHBOUR: 'it returns false'. Refute it at one input. -/
def hexaWhichWrong : ChangeSpec := { name := "hexaWhich", fn := fun _ => fun
  | [d] => { results := [.lit (.bool false)], args := [d] }
  | _ => none }
def HexaWhichWrongFalsely : Prop := hexaWhichRow.holds Try.pinned (OpenSpec.ofChange hexaWhichWrong)

/-- 'triadlaw4.PagerTurns': WHATEVER THE INPUT: true; the input reads as it did. -/
def pagerTurnsSpec : ChangeSpec := { name := "pagerTurns", fn := fun _ => fun
  | [d1, d2] => { results := [.lit (.bool true)], args := [d1, d2] }
  | _ => none }
def pagerTurnsRow : OpenClaim := { program := "ytiphekepglihlaa", sum := "52dec0c3cdf88cf84fd9da091e05a34473cfddc1e467af26fe3583b1603e7869", func := "triad/triadlaw4.PagerTurns", spec := "pagerTurns", unfollowed := true, recurses := true, apart := false }
def PagerTurnsSaid : Prop := pagerTurnsRow.holds Try.pinned (OpenSpec.ofChange pagerTurnsSpec)

/-- ITS FALSE NEIGHBOUR: 'it returns false'. Refute it at one input. -/
def pagerTurnsWrong : ChangeSpec := { name := "pagerTurns", fn := fun _ => fun
  | [d1, d2] => { results := [.lit (.bool false)], args := [d1, d2] }
  | _ => none }
def PagerTurnsWrongFalsely : Prop := pagerTurnsRow.holds Try.pinned (OpenSpec.ofChange pagerTurnsWrong)

/-- 'triadlaw4.PagerBusy': WHATEVER THE INPUT: true; the input reads as it did. -/
def pagerBusySpec : ChangeSpec := { name := "pagerBusy", fn := fun _ => fun
  | [d1, d2] => { results := [.lit (.bool true)], args := [d1, d2] }
  | _ => none }
def pagerBusyRow : OpenClaim := { program := "ytiphekepglihlaa", sum := "52dec0c3cdf88cf84fd9da091e05a34473cfddc1e467af26fe3583b1603e7869", func := "triad/triadlaw4.PagerBusy", spec := "pagerBusy", unfollowed := true, recurses := true, apart := false }
def PagerBusySaid : Prop := pagerBusyRow.holds Try.pinned (OpenSpec.ofChange pagerBusySpec)

/-- ITS FALSE NEIGHBOUR: 'it returns false'. Refute it at one input. -/
def pagerBusyWrong : ChangeSpec := { name := "pagerBusy", fn := fun _ => fun
  | [d1, d2] => { results := [.lit (.bool false)], args := [d1, d2] }
  | _ => none }
def PagerBusyWrongFalsely : Prop := pagerBusyRow.holds Try.pinned (OpenSpec.ofChange pagerBusyWrong)

/-- 'triadlaw4.PagerFull': WHATEVER THE INPUT: true; the input reads as it did. -/
def pagerFullSpec : ChangeSpec := { name := "pagerFull", fn := fun _ => fun
  | [d1, d2] => { results := [.lit (.bool true)], args := [d1, d2] }
  | _ => none }
def pagerFullRow : OpenClaim := { program := "ytiphekepglihlaa", sum := "52dec0c3cdf88cf84fd9da091e05a34473cfddc1e467af26fe3583b1603e7869", func := "triad/triadlaw4.PagerFull", spec := "pagerFull", unfollowed := true, recurses := true, apart := false }
def PagerFullSaid : Prop := pagerFullRow.holds Try.pinned (OpenSpec.ofChange pagerFullSpec)

/-- ITS FALSE NEIGHBOUR: 'it returns false'. Refute it at one input. -/
def pagerFullWrong : ChangeSpec := { name := "pagerFull", fn := fun _ => fun
  | [d1, d2] => { results := [.lit (.bool false)], args := [d1, d2] }
  | _ => none }
def PagerFullWrongFalsely : Prop := pagerFullRow.holds Try.pinned (OpenSpec.ofChange pagerFullWrong)

/-- 'triadlaw4.PagerPlays': WHATEVER THE INPUT: true; the input reads as it did. -/
def pagerPlaysSpec : ChangeSpec := { name := "pagerPlays", fn := fun _ => fun
  | [d1, d2] => { results := [.lit (.bool true)], args := [d1, d2] }
  | _ => none }
def pagerPlaysRow : OpenClaim := { program := "ytiphekepglihlaa", sum := "52dec0c3cdf88cf84fd9da091e05a34473cfddc1e467af26fe3583b1603e7869", func := "triad/triadlaw4.PagerPlays", spec := "pagerPlays", unfollowed := true, recurses := true, apart := false }
def PagerPlaysSaid : Prop := pagerPlaysRow.holds Try.pinned (OpenSpec.ofChange pagerPlaysSpec)

/-- ITS FALSE NEIGHBOUR: 'it returns false'. Refute it at one input. -/
def pagerPlaysWrong : ChangeSpec := { name := "pagerPlays", fn := fun _ => fun
  | [d1, d2] => { results := [.lit (.bool false)], args := [d1, d2] }
  | _ => none }
def PagerPlaysWrongFalsely : Prop := pagerPlaysRow.holds Try.pinned (OpenSpec.ofChange pagerPlaysWrong)

/-- 'triadlaw4.PagerGivesUp': WHATEVER THE INPUT: true; the input reads as it did. -/
def pagerGivesUpSpec : ChangeSpec := { name := "pagerGivesUp", fn := fun _ => fun
  | [d1, d2] => { results := [.lit (.bool true)], args := [d1, d2] }
  | _ => none }
def pagerGivesUpRow : OpenClaim := { program := "ytiphekepglihlaa", sum := "52dec0c3cdf88cf84fd9da091e05a34473cfddc1e467af26fe3583b1603e7869", func := "triad/triadlaw4.PagerGivesUp", spec := "pagerGivesUp", unfollowed := true, recurses := true, apart := false }
def PagerGivesUpSaid : Prop := pagerGivesUpRow.holds Try.pinned (OpenSpec.ofChange pagerGivesUpSpec)

/-- ITS FALSE NEIGHBOUR: 'it returns false'. Refute it at one input. -/
def pagerGivesUpWrong : ChangeSpec := { name := "pagerGivesUp", fn := fun _ => fun
  | [d1, d2] => { results := [.lit (.bool false)], args := [d1, d2] }
  | _ => none }
def PagerGivesUpWrongFalsely : Prop := pagerGivesUpRow.holds Try.pinned (OpenSpec.ofChange pagerGivesUpWrong)

/-- 'triadlaw4.PagerKept': WHATEVER THE INPUT: true; the input reads as it did. -/
def pagerKeptSpec : ChangeSpec := { name := "pagerKept", fn := fun _ => fun
  | [d1, d2] => { results := [.lit (.bool true)], args := [d1, d2] }
  | _ => none }
def pagerKeptRow : OpenClaim := { program := "ytiphekepglihlaa", sum := "52dec0c3cdf88cf84fd9da091e05a34473cfddc1e467af26fe3583b1603e7869", func := "triad/triadlaw4.PagerKept", spec := "pagerKept", unfollowed := true, recurses := true, apart := false }
def PagerKeptSaid : Prop := pagerKeptRow.holds Try.pinned (OpenSpec.ofChange pagerKeptSpec)

/-- ITS FALSE NEIGHBOUR: 'it returns false'. Refute it at one input. -/
def pagerKeptWrong : ChangeSpec := { name := "pagerKept", fn := fun _ => fun
  | [d1, d2] => { results := [.lit (.bool false)], args := [d1, d2] }
  | _ => none }
def PagerKeptWrongFalsely : Prop := pagerKeptRow.holds Try.pinned (OpenSpec.ofChange pagerKeptWrong)

/-- 'triadlaw4.PagerCrashes': WHATEVER THE INPUT: true; the input reads as it did. -/
def pagerCrashesSpec : ChangeSpec := { name := "pagerCrashes", fn := fun _ => fun
  | [d1, d2, d3, d4] => { results := [.lit (.bool true)], args := [d1, d2, d3, d4] }
  | _ => none }
def pagerCrashesRow : OpenClaim := { program := "ytiphekepglihlaa", sum := "52dec0c3cdf88cf84fd9da091e05a34473cfddc1e467af26fe3583b1603e7869", func := "triad/triadlaw4.PagerCrashes", spec := "pagerCrashes", unfollowed := true, recurses := true, apart := false }
def PagerCrashesSaid : Prop := pagerCrashesRow.holds Try.pinned (OpenSpec.ofChange pagerCrashesSpec)

/-- ITS FALSE NEIGHBOUR: 'it returns false'. Refute it at one input. -/
def pagerCrashesWrong : ChangeSpec := { name := "pagerCrashes", fn := fun _ => fun
  | [d1, d2, d3, d4] => { results := [.lit (.bool false)], args := [d1, d2, d3, d4] }
  | _ => none }
def PagerCrashesWrongFalsely : Prop := pagerCrashesRow.holds Try.pinned (OpenSpec.ofChange pagerCrashesWrong)

/- THE SECOND FORM. 'bulk': how many values and letters a reading holds, each counted each time it is reached (what is shared counts as often as it is met; a slice's spare places count too). A statement '..UptoSaid' is the law's where the arguments, and the package variables that the reading takes, are together of bulk at most 1048576: NARROWER than '..Said'. Prove '..Said' where nothing that the law and all that it calls make is longer than what came in: it says more and counts as full. Else prove '..UptoSaid'. A law counts once. -/
mutual
def uptoBulk {H : Type} : DataW H → Nat
  | .lit (.string bytes) => bytes.length + 1
  | .lit _ => 1
  | .nil => 1
  | .ptr d => uptoBulk d + 1
  | .slice elems spare => uptoBulkAll elems + uptoBulkAll spare + 1
  | .agg parts => uptoBulkAll parts + 1
  | .iface _ d => uptoBulk d + 1
  | .map entries => uptoBulkEntries entries + 1
  | .held _ => 1
def uptoBulkAll {H : Type} : List (DataW H) → Nat
  | [] => 0
  | d :: r => uptoBulk d + uptoBulkAll r
def uptoBulkEntries {H : Type} : List (Lit × DataW H) → Nat
  | [] => 0
  | x :: r => uptoBulkEntry x + uptoBulkEntries r
def uptoBulkEntry {H : Type} : Lit × DataW H → Nat
  | (.string bytes, d) => bytes.length + uptoBulk d + 1
  | (_, d) => uptoBulk d + 1
 end
def uptoSmall : (H : Type) → List (DataW H) → Bool := fun _ ds => decide (uptoBulkAll ds ≤ 1048576)
def OpenSpec.upto (s : _root_.Go.ChangeSpec) : _root_.Go.OpenSpec := { _root_.Go.OpenSpec.ofChange s with cond := some uptoSmall }

/-- 'triadlaw8.HexaWhich', WHERE WHAT IT READS IS OF BULK AT MOST 1048576: true; the input reads as it did. -/
def hexaWhichUptoRow : OpenClaim := { program := "ytiphekepglihlaa", sum := "52dec0c3cdf88cf84fd9da091e05a34473cfddc1e467af26fe3583b1603e7869", func := "triad/triadlaw8.HexaWhich", spec := "hexaWhich", unfollowed := true, recurses := true, apart := false, narrowed := true }
def HexaWhichUptoSaid : Prop := hexaWhichUptoRow.holds Try.pinned (OpenSpec.upto hexaWhichSpec)

/-- 'triadlaw4.PagerTurns', WHERE WHAT IT READS IS OF BULK AT MOST 1048576: true; the input reads as it did. -/
def pagerTurnsUptoRow : OpenClaim := { program := "ytiphekepglihlaa", sum := "52dec0c3cdf88cf84fd9da091e05a34473cfddc1e467af26fe3583b1603e7869", func := "triad/triadlaw4.PagerTurns", spec := "pagerTurns", unfollowed := true, recurses := true, apart := false, narrowed := true }
def PagerTurnsUptoSaid : Prop := pagerTurnsUptoRow.holds Try.pinned (OpenSpec.upto pagerTurnsSpec)

/-- 'triadlaw4.PagerBusy', WHERE WHAT IT READS IS OF BULK AT MOST 1048576: true; the input reads as it did. -/
def pagerBusyUptoRow : OpenClaim := { program := "ytiphekepglihlaa", sum := "52dec0c3cdf88cf84fd9da091e05a34473cfddc1e467af26fe3583b1603e7869", func := "triad/triadlaw4.PagerBusy", spec := "pagerBusy", unfollowed := true, recurses := true, apart := false, narrowed := true }
def PagerBusyUptoSaid : Prop := pagerBusyUptoRow.holds Try.pinned (OpenSpec.upto pagerBusySpec)

/-- 'triadlaw4.PagerFull', WHERE WHAT IT READS IS OF BULK AT MOST 1048576: true; the input reads as it did. -/
def pagerFullUptoRow : OpenClaim := { program := "ytiphekepglihlaa", sum := "52dec0c3cdf88cf84fd9da091e05a34473cfddc1e467af26fe3583b1603e7869", func := "triad/triadlaw4.PagerFull", spec := "pagerFull", unfollowed := true, recurses := true, apart := false, narrowed := true }
def PagerFullUptoSaid : Prop := pagerFullUptoRow.holds Try.pinned (OpenSpec.upto pagerFullSpec)

/-- 'triadlaw4.PagerPlays', WHERE WHAT IT READS IS OF BULK AT MOST 1048576: true; the input reads as it did. -/
def pagerPlaysUptoRow : OpenClaim := { program := "ytiphekepglihlaa", sum := "52dec0c3cdf88cf84fd9da091e05a34473cfddc1e467af26fe3583b1603e7869", func := "triad/triadlaw4.PagerPlays", spec := "pagerPlays", unfollowed := true, recurses := true, apart := false, narrowed := true }
def PagerPlaysUptoSaid : Prop := pagerPlaysUptoRow.holds Try.pinned (OpenSpec.upto pagerPlaysSpec)

/-- 'triadlaw4.PagerGivesUp', WHERE WHAT IT READS IS OF BULK AT MOST 1048576: true; the input reads as it did. -/
def pagerGivesUpUptoRow : OpenClaim := { program := "ytiphekepglihlaa", sum := "52dec0c3cdf88cf84fd9da091e05a34473cfddc1e467af26fe3583b1603e7869", func := "triad/triadlaw4.PagerGivesUp", spec := "pagerGivesUp", unfollowed := true, recurses := true, apart := false, narrowed := true }
def PagerGivesUpUptoSaid : Prop := pagerGivesUpUptoRow.holds Try.pinned (OpenSpec.upto pagerGivesUpSpec)

/-- 'triadlaw4.PagerKept', WHERE WHAT IT READS IS OF BULK AT MOST 1048576: true; the input reads as it did. -/
def pagerKeptUptoRow : OpenClaim := { program := "ytiphekepglihlaa", sum := "52dec0c3cdf88cf84fd9da091e05a34473cfddc1e467af26fe3583b1603e7869", func := "triad/triadlaw4.PagerKept", spec := "pagerKept", unfollowed := true, recurses := true, apart := false, narrowed := true }
def PagerKeptUptoSaid : Prop := pagerKeptUptoRow.holds Try.pinned (OpenSpec.upto pagerKeptSpec)

/-- 'triadlaw4.PagerCrashes', WHERE WHAT IT READS IS OF BULK AT MOST 1048576: true; the input reads as it did. -/
def pagerCrashesUptoRow : OpenClaim := { program := "ytiphekepglihlaa", sum := "52dec0c3cdf88cf84fd9da091e05a34473cfddc1e467af26fe3583b1603e7869", func := "triad/triadlaw4.PagerCrashes", spec := "pagerCrashes", unfollowed := true, recurses := true, apart := false, narrowed := true }
def PagerCrashesUptoSaid : Prop := pagerCrashesUptoRow.holds Try.pinned (OpenSpec.upto pagerCrashesSpec)

end Rows
end Go.Proofs.Ytiphekepglihlaa
