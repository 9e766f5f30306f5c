/-
  No cell of these rows narrows 'for every input' (looked for: loops, veiled, ifaces, maps, wideKeys, modest, calm, conditions, laid).
  DERIVED. THE GIVEN ROWS OF THIS SEAT. 3 by the template 'for every input the law returns true; each argument reads behind the call as it read before'; 0 by the template 'total and deterministic' (their statements: YtdilkgcoecipjaaTotals.lean).
  GIVEN WITH THE SEED: the statements are not yours to turn. If you find one false, say at which input.
  Laid BY PROGRAM, IN A SANDBOX (cutbox-rows.mjs): the forced cells as the released guide's own fill.sh prints them over the translation e1d8e55cfe46cc5e… (all of the seat's roots in one cut). By AI agents, Wed Nov 11 2026. No macro, syntax, notation, axiom, sorry.
-/
import Derived.Test.YtdilkgcoecipjaaChecked
import GoSem.Claim
import GoSem.ClaimJoined
import GoSem.ClaimMapViews
import Derived.JoinedTies
import Derived.KernelRfl
namespace Go.Proofs.Ytdilkgcoecipjaa
/- THE CELL 'sum', in the pinned program and in every row, IS THE sha256 OF THE DUMP (.gsa) THAT YtdilkgcoecipjaaProg.lean LOADS. Nothing in Lean hashes anything: it is a label: what it is worth is what the hold of that sum in a sandbox is worth. -/
noncomputable def Try.pinned : Pinned := { name := "ytdilkgcoecipjaa", sum := "e1d8e55cfe46cc5e3786d04f4d533ea04dc9a97e8dc8331e0175d45220827365", checked := Try.checked }
namespace Rows
def none {H : Type} : Left H := { results := [], args := [] }

/-- 'triadlaw5.BtreeLong': WHATEVER THE INPUT: true; the input reads as it did. -/
def btreeLongSpec : ChangeSpec := { name := "btreeLong", fn := fun _ => fun
  | [d1, d2] => { results := [.lit (.bool true)], args := [d1, d2] }
  | _ => none }
def btreeLongRow : OpenClaim := { program := "ytdilkgcoecipjaa", sum := "e1d8e55cfe46cc5e3786d04f4d533ea04dc9a97e8dc8331e0175d45220827365", func := "triad/triadlaw5.BtreeLong", spec := "btreeLong", inPlace := ["slices.overlaps[string]"], unfollowed := true, recurses := true, apart := false }
def BtreeLongSaid : Prop := btreeLongRow.holds Try.pinned (OpenSpec.ofChange btreeLongSpec)

/-- ITS FALSE NEIGHBOUR: 'it returns false'. Refute it at one input. -/
def btreeLongWrong : ChangeSpec := { name := "btreeLong", fn := fun _ => fun
  | [d1, d2] => { results := [.lit (.bool false)], args := [d1, d2] }
  | _ => none }
def BtreeLongWrongFalsely : Prop := btreeLongRow.holds Try.pinned (OpenSpec.ofChange btreeLongWrong)

/-- 'triadlaw5.BtreeRanges': WHATEVER THE INPUT: true; the input reads as it did. -/
def btreeRangesSpec : ChangeSpec := { name := "btreeRanges", fn := fun _ => fun
  | [d1, d2, d3, d4] => { results := [.lit (.bool true)], args := [d1, d2, d3, d4] }
  | _ => none }
def btreeRangesRow : OpenClaim := { program := "ytdilkgcoecipjaa", sum := "e1d8e55cfe46cc5e3786d04f4d533ea04dc9a97e8dc8331e0175d45220827365", func := "triad/triadlaw5.BtreeRanges", spec := "btreeRanges", inPlace := ["slices.overlaps[string]"], unfollowed := true, recurses := true, apart := false }
def BtreeRangesSaid : Prop := btreeRangesRow.holds Try.pinned (OpenSpec.ofChange btreeRangesSpec)

/-- ITS FALSE NEIGHBOUR: 'it returns false'. Refute it at one input. -/
def btreeRangesWrong : ChangeSpec := { name := "btreeRanges", fn := fun _ => fun
  | [d1, d2, d3, d4] => { results := [.lit (.bool false)], args := [d1, d2, d3, d4] }
  | _ => none }
def BtreeRangesWrongFalsely : Prop := btreeRangesRow.holds Try.pinned (OpenSpec.ofChange btreeRangesWrong)

/-- 'triadlaw5.BtreeMany': WHATEVER THE INPUT: true; the input reads as it did. -/
def btreeManySpec : ChangeSpec := { name := "btreeMany", fn := fun _ => fun
  | [d1, d2, d3] => { results := [.lit (.bool true)], args := [d1, d2, d3] }
  | _ => none }
def btreeManyRow : OpenClaim := { program := "ytdilkgcoecipjaa", sum := "e1d8e55cfe46cc5e3786d04f4d533ea04dc9a97e8dc8331e0175d45220827365", func := "triad/triadlaw5.BtreeMany", spec := "btreeMany", inPlace := ["slices.overlaps[string]"], unfollowed := true, recurses := true, apart := false }
def BtreeManySaid : Prop := btreeManyRow.holds Try.pinned (OpenSpec.ofChange btreeManySpec)

/-- ITS FALSE NEIGHBOUR: 'it returns false'. Refute it at one input. -/
def btreeManyWrong : ChangeSpec := { name := "btreeMany", fn := fun _ => fun
  | [d1, d2, d3] => { results := [.lit (.bool false)], args := [d1, d2, d3] }
  | _ => none }
def BtreeManyWrongFalsely : Prop := btreeManyRow.holds Try.pinned (OpenSpec.ofChange btreeManyWrong)

/- THE SECOND FORM. 'bulk': how many values and letters a reading holds, each counted each time it is reached (what is shared counts as often as it is met; a slice's spare places count too). A statement '..UptoSaid' is the law's where the arguments, and the package variables that the reading takes, are together of bulk at most 1048576: NARROWER than '..Said'. Prove '..Said' where nothing that the law and all that it calls make is longer than what came in: it says more and counts as full. Else prove '..UptoSaid'. A law counts once. -/
mutual
def uptoBulk {H : Type} : DataW H → Nat
  | .lit (.string bytes) => bytes.length + 1
  | .lit _ => 1
  | .nil => 1
  | .ptr d => uptoBulk d + 1
  | .slice elems spare => uptoBulkAll elems + uptoBulkAll spare + 1
  | .agg parts => uptoBulkAll parts + 1
  | .iface _ d => uptoBulk d + 1
  | .map entries => uptoBulkEntries entries + 1
  | .held _ => 1
def uptoBulkAll {H : Type} : List (DataW H) → Nat
  | [] => 0
  | d :: r => uptoBulk d + uptoBulkAll r
def uptoBulkEntries {H : Type} : List (Lit × DataW H) → Nat
  | [] => 0
  | x :: r => uptoBulkEntry x + uptoBulkEntries r
def uptoBulkEntry {H : Type} : Lit × DataW H → Nat
  | (.string bytes, d) => bytes.length + uptoBulk d + 1
  | (_, d) => uptoBulk d + 1
 end
def uptoSmall : (H : Type) → List (DataW H) → Bool := fun _ ds => decide (uptoBulkAll ds ≤ 1048576)
def OpenSpec.upto (s : _root_.Go.ChangeSpec) : _root_.Go.OpenSpec := { _root_.Go.OpenSpec.ofChange s with cond := some uptoSmall }

/-- 'triadlaw5.BtreeLong', WHERE WHAT IT READS IS OF BULK AT MOST 1048576: true; the input reads as it did. -/
def btreeLongUptoRow : OpenClaim := { program := "ytdilkgcoecipjaa", sum := "e1d8e55cfe46cc5e3786d04f4d533ea04dc9a97e8dc8331e0175d45220827365", func := "triad/triadlaw5.BtreeLong", spec := "btreeLong", inPlace := ["slices.overlaps[string]"], unfollowed := true, recurses := true, apart := false, narrowed := true }
def BtreeLongUptoSaid : Prop := btreeLongUptoRow.holds Try.pinned (OpenSpec.upto btreeLongSpec)

/-- 'triadlaw5.BtreeRanges', WHERE WHAT IT READS IS OF BULK AT MOST 1048576: true; the input reads as it did. -/
def btreeRangesUptoRow : OpenClaim := { program := "ytdilkgcoecipjaa", sum := "e1d8e55cfe46cc5e3786d04f4d533ea04dc9a97e8dc8331e0175d45220827365", func := "triad/triadlaw5.BtreeRanges", spec := "btreeRanges", inPlace := ["slices.overlaps[string]"], unfollowed := true, recurses := true, apart := false, narrowed := true }
def BtreeRangesUptoSaid : Prop := btreeRangesUptoRow.holds Try.pinned (OpenSpec.upto btreeRangesSpec)

/-- 'triadlaw5.BtreeMany', WHERE WHAT IT READS IS OF BULK AT MOST 1048576: true; the input reads as it did. -/
def btreeManyUptoRow : OpenClaim := { program := "ytdilkgcoecipjaa", sum := "e1d8e55cfe46cc5e3786d04f4d533ea04dc9a97e8dc8331e0175d45220827365", func := "triad/triadlaw5.BtreeMany", spec := "btreeMany", inPlace := ["slices.overlaps[string]"], unfollowed := true, recurses := true, apart := false, narrowed := true }
def BtreeManyUptoSaid : Prop := btreeManyUptoRow.holds Try.pinned (OpenSpec.upto btreeManySpec)

end Rows
end Go.Proofs.Ytdilkgcoecipjaa
