/-
  No cell of these rows narrows 'for every input' (looked for: loops, veiled, ifaces, maps, wideKeys, modest, calm, conditions, laid).
  DERIVED. THE GIVEN ROWS OF THIS SEAT. 4 by the template 'for every input the law returns true; each argument reads behind the call as it read before'; 0 by the template 'total and deterministic' (their statements: YtmelcnnpjooocaaTotals.lean).
  GIVEN WITH THE SEED: the statements are not yours to turn. If you find one false, say at which input.
  Laid BY PROGRAM, IN A SANDBOX (cutbox-rows.mjs): the forced cells as the released guide's own fill.sh prints them over the translation 0f78c13a109de468… (all of the seat's roots in one cut). By AI agents, Wed Nov 11 2026. No macro, syntax, notation, axiom, sorry.
-/
import Derived.Test.YtmelcnnpjooocaaChecked
import GoSem.Claim
import GoSem.ClaimJoined
import GoSem.ClaimMapViews
import Derived.JoinedTies
import Derived.KernelRfl
namespace Go.Proofs.Ytmelcnnpjooocaa
/- THE CELL 'sum', in the pinned program and in every row, IS THE sha256 OF THE DUMP (.gsa) THAT YtmelcnnpjooocaaProg.lean LOADS. Nothing in Lean hashes anything: it is a label: what it is worth is what the hold of that sum in a sandbox is worth. -/
noncomputable def Try.pinned : Pinned := { name := "ytmelcnnpjooocaa", sum := "0f78c13a109de46844b9b7cc47c947c6dcec97c15d14940535be9befd7026cd6", checked := Try.checked }
namespace Rows
def none {H : Type} : Left H := { results := [], args := [] }

/-- 'triadlaw10.IriSplits': WHATEVER THE INPUT: true; the input reads as it did. -/
def iriSplitsSpec : ChangeSpec := { name := "iriSplits", fn := fun _ => fun
  | [d1, d2] => { results := [.lit (.bool true)], args := [d1, d2] }
  | _ => none }
def iriSplitsRow : OpenClaim := { program := "ytmelcnnpjooocaa", sum := "0f78c13a109de46844b9b7cc47c947c6dcec97c15d14940535be9befd7026cd6", func := "triad/triadlaw10.IriSplits", spec := "iriSplits", inPlace := ["internal/bytealg.IndexByteString", "internal/abi.NoEscape", "internal/bytealg.MakeNoZero"], apart := false }
def IriSplitsSaid : Prop := iriSplitsRow.holds Try.pinned (OpenSpec.ofChange iriSplitsSpec)

/-- ITS FALSE NEIGHBOUR: 'it returns false'. Refute it at one input. -/
def iriSplitsWrong : ChangeSpec := { name := "iriSplits", fn := fun _ => fun
  | [d1, d2] => { results := [.lit (.bool false)], args := [d1, d2] }
  | _ => none }
def IriSplitsWrongFalsely : Prop := iriSplitsRow.holds Try.pinned (OpenSpec.ofChange iriSplitsWrong)

/-- 'triadlaw10.IriResolves': WHATEVER THE INPUT: true; the input reads as it did. -/
def iriResolvesSpec : ChangeSpec := { name := "iriResolves", fn := fun _ => fun
  | [d1, d2, d3, d4] => { results := [.lit (.bool true)], args := [d1, d2, d3, d4] }
  | _ => none }
def iriResolvesRow : OpenClaim := { program := "ytmelcnnpjooocaa", sum := "0f78c13a109de46844b9b7cc47c947c6dcec97c15d14940535be9befd7026cd6", func := "triad/triadlaw10.IriResolves", spec := "iriResolves", inPlace := ["internal/bytealg.IndexByteString", "internal/abi.NoEscape", "internal/bytealg.MakeNoZero"], apart := false }
def IriResolvesSaid : Prop := iriResolvesRow.holds Try.pinned (OpenSpec.ofChange iriResolvesSpec)

/-- ITS FALSE NEIGHBOUR: 'it returns false'. Refute it at one input. -/
def iriResolvesWrong : ChangeSpec := { name := "iriResolves", fn := fun _ => fun
  | [d1, d2, d3, d4] => { results := [.lit (.bool false)], args := [d1, d2, d3, d4] }
  | _ => none }
def IriResolvesWrongFalsely : Prop := iriResolvesRow.holds Try.pinned (OpenSpec.ofChange iriResolvesWrong)

/-- 'triadlaw10.IriKnown': WHATEVER THE INPUT: true; the input reads as it did. -/
def iriKnownSpec : ChangeSpec := { name := "iriKnown", fn := fun _ => fun
  | [d] => { results := [.lit (.bool true)], args := [d] }
  | _ => none }
def iriKnownRow : OpenClaim := { program := "ytmelcnnpjooocaa", sum := "0f78c13a109de46844b9b7cc47c947c6dcec97c15d14940535be9befd7026cd6", func := "triad/triadlaw10.IriKnown", spec := "iriKnown", inPlace := ["internal/bytealg.IndexByteString", "internal/abi.NoEscape", "internal/bytealg.MakeNoZero"], apart := false }
def IriKnownSaid : Prop := iriKnownRow.holds Try.pinned (OpenSpec.ofChange iriKnownSpec)

/-- ITS FALSE NEIGHBOUR: 'it returns false'. Refute it at one input. -/
def iriKnownWrong : ChangeSpec := { name := "iriKnown", fn := fun _ => fun
  | [d] => { results := [.lit (.bool false)], args := [d] }
  | _ => none }
def IriKnownWrongFalsely : Prop := iriKnownRow.holds Try.pinned (OpenSpec.ofChange iriKnownWrong)

/-- 'triadlaw10.IriOwn': WHATEVER THE INPUT: true; the input reads as it did. -/
def iriOwnSpec : ChangeSpec := { name := "iriOwn", fn := fun _ => fun
  | [d1, d2, d3, d4] => { results := [.lit (.bool true)], args := [d1, d2, d3, d4] }
  | _ => none }
def iriOwnRow : OpenClaim := { program := "ytmelcnnpjooocaa", sum := "0f78c13a109de46844b9b7cc47c947c6dcec97c15d14940535be9befd7026cd6", func := "triad/triadlaw10.IriOwn", spec := "iriOwn", inPlace := ["internal/bytealg.IndexByteString", "internal/abi.NoEscape", "internal/bytealg.MakeNoZero"], apart := false }
def IriOwnSaid : Prop := iriOwnRow.holds Try.pinned (OpenSpec.ofChange iriOwnSpec)

/-- ITS FALSE NEIGHBOUR: 'it returns false'. Refute it at one input. -/
def iriOwnWrong : ChangeSpec := { name := "iriOwn", fn := fun _ => fun
  | [d1, d2, d3, d4] => { results := [.lit (.bool false)], args := [d1, d2, d3, d4] }
  | _ => none }
def IriOwnWrongFalsely : Prop := iriOwnRow.holds Try.pinned (OpenSpec.ofChange iriOwnWrong)

/- THE SECOND FORM. 'bulk': how many values and letters a reading holds, each counted each time it is reached (what is shared counts as often as it is met; a slice's spare places count too). A statement '..UptoSaid' is the law's where the arguments, and the package variables that the reading takes, are together of bulk at most 1048576: NARROWER than '..Said'. Prove '..Said' where nothing that the law and all that it calls make is longer than what came in: it says more and counts as full. Else prove '..UptoSaid'. A law counts once. -/
mutual
def uptoBulk {H : Type} : DataW H → Nat
  | .lit (.string bytes) => bytes.length + 1
  | .lit _ => 1
  | .nil => 1
  | .ptr d => uptoBulk d + 1
  | .slice elems spare => uptoBulkAll elems + uptoBulkAll spare + 1
  | .agg parts => uptoBulkAll parts + 1
  | .iface _ d => uptoBulk d + 1
  | .map entries => uptoBulkEntries entries + 1
  | .held _ => 1
def uptoBulkAll {H : Type} : List (DataW H) → Nat
  | [] => 0
  | d :: r => uptoBulk d + uptoBulkAll r
def uptoBulkEntries {H : Type} : List (Lit × DataW H) → Nat
  | [] => 0
  | x :: r => uptoBulkEntry x + uptoBulkEntries r
def uptoBulkEntry {H : Type} : Lit × DataW H → Nat
  | (.string bytes, d) => bytes.length + uptoBulk d + 1
  | (_, d) => uptoBulk d + 1
 end
def uptoSmall : (H : Type) → List (DataW H) → Bool := fun _ ds => decide (uptoBulkAll ds ≤ 1048576)
def OpenSpec.upto (s : _root_.Go.ChangeSpec) : _root_.Go.OpenSpec := { _root_.Go.OpenSpec.ofChange s with cond := some uptoSmall }

/-- 'triadlaw10.IriSplits', WHERE WHAT IT READS IS OF BULK AT MOST 1048576: true; the input reads as it did. -/
def iriSplitsUptoRow : OpenClaim := { program := "ytmelcnnpjooocaa", sum := "0f78c13a109de46844b9b7cc47c947c6dcec97c15d14940535be9befd7026cd6", func := "triad/triadlaw10.IriSplits", spec := "iriSplits", inPlace := ["internal/bytealg.IndexByteString", "internal/abi.NoEscape", "internal/bytealg.MakeNoZero"], apart := false, narrowed := true }
def IriSplitsUptoSaid : Prop := iriSplitsUptoRow.holds Try.pinned (OpenSpec.upto iriSplitsSpec)

/-- 'triadlaw10.IriResolves', WHERE WHAT IT READS IS OF BULK AT MOST 1048576: true; the input reads as it did. -/
def iriResolvesUptoRow : OpenClaim := { program := "ytmelcnnpjooocaa", sum := "0f78c13a109de46844b9b7cc47c947c6dcec97c15d14940535be9befd7026cd6", func := "triad/triadlaw10.IriResolves", spec := "iriResolves", inPlace := ["internal/bytealg.IndexByteString", "internal/abi.NoEscape", "internal/bytealg.MakeNoZero"], apart := false, narrowed := true }
def IriResolvesUptoSaid : Prop := iriResolvesUptoRow.holds Try.pinned (OpenSpec.upto iriResolvesSpec)

/-- 'triadlaw10.IriKnown', WHERE WHAT IT READS IS OF BULK AT MOST 1048576: true; the input reads as it did. -/
def iriKnownUptoRow : OpenClaim := { program := "ytmelcnnpjooocaa", sum := "0f78c13a109de46844b9b7cc47c947c6dcec97c15d14940535be9befd7026cd6", func := "triad/triadlaw10.IriKnown", spec := "iriKnown", inPlace := ["internal/bytealg.IndexByteString", "internal/abi.NoEscape", "internal/bytealg.MakeNoZero"], apart := false, narrowed := true }
def IriKnownUptoSaid : Prop := iriKnownUptoRow.holds Try.pinned (OpenSpec.upto iriKnownSpec)

/-- 'triadlaw10.IriOwn', WHERE WHAT IT READS IS OF BULK AT MOST 1048576: true; the input reads as it did. -/
def iriOwnUptoRow : OpenClaim := { program := "ytmelcnnpjooocaa", sum := "0f78c13a109de46844b9b7cc47c947c6dcec97c15d14940535be9befd7026cd6", func := "triad/triadlaw10.IriOwn", spec := "iriOwn", inPlace := ["internal/bytealg.IndexByteString", "internal/abi.NoEscape", "internal/bytealg.MakeNoZero"], apart := false, narrowed := true }
def IriOwnUptoSaid : Prop := iriOwnUptoRow.holds Try.pinned (OpenSpec.upto iriOwnSpec)

end Rows
end Go.Proofs.Ytmelcnnpjooocaa
