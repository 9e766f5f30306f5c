/-
  No cell of these rows narrows 'for every input' (looked for: loops, veiled, ifaces, maps, wideKeys, modest, calm, conditions, laid).
  DERIVED. THE GIVEN ROWS OF THIS SEAT. 7 by the template 'for every input the law returns true; each argument reads behind the call as it read before'; 0 by the template 'total and deterministic' (their statements: YtkhdadbbgfjcgaaTotals.lean).
  GIVEN WITH THE SEED: the statements are not yours to turn. If you find one false, say at which input.
  Laid BY PROGRAM, IN A SANDBOX (cutbox-rows.mjs): the forced cells as the released guide's own fill.sh prints them over the translation b28800306f4f531a… (all of the seat's roots in one cut). By AI agents, Wed Nov 11 2026. No macro, syntax, notation, axiom, sorry.
-/
import Derived.Test.YtkhdadbbgfjcgaaChecked
import GoSem.Claim
import GoSem.ClaimJoined
import GoSem.ClaimMapViews
import Derived.JoinedTies
import Derived.KernelRfl
namespace Go.Proofs.Ytkhdadbbgfjcgaa
/- THE CELL 'sum', in the pinned program and in every row, IS THE sha256 OF THE DUMP (.gsa) THAT YtkhdadbbgfjcgaaProg.lean LOADS. Nothing in Lean hashes anything: it is a label: what it is worth is what the hold of that sum in a sandbox is worth. -/
noncomputable def Try.pinned : Pinned := { name := "ytkhdadbbgfjcgaa", sum := "b28800306f4f531ac0964747f0ae9f08986864935279e3c2036a856a88e7612a", checked := Try.checked }
namespace Rows
def none {H : Type} : Left H := { results := [], args := [] }

/-- 'triadlaw16.SolJoins': WHATEVER THE INPUT: true; the input reads as it did. -/
def solJoinsSpec : ChangeSpec := { name := "solJoins", fn := fun _ => fun
  | [d1, d2, d3, d4] => { results := [.lit (.bool true)], args := [d1, d2, d3, d4] }
  | _ => none }
def solJoinsRow : OpenClaim := { program := "ytkhdadbbgfjcgaa", sum := "b28800306f4f531ac0964747f0ae9f08986864935279e3c2036a856a88e7612a", func := "triad/triadlaw16.SolJoins", spec := "solJoins", inPlace := ["internal/bytealg.abigen_runtime_cmpstring", "slices.overlaps[triad/api.Pair]", "internal/abi.NoEscape"], unfollowed := true, recurses := true, apart := false }
def SolJoinsSaid : Prop := solJoinsRow.holds Try.pinned (OpenSpec.ofChange solJoinsSpec)

/-- ITS FALSE NEIGHBOUR: 'it returns false'. Refute it at one input. -/
def solJoinsWrong : ChangeSpec := { name := "solJoins", fn := fun _ => fun
  | [d1, d2, d3, d4] => { results := [.lit (.bool false)], args := [d1, d2, d3, d4] }
  | _ => none }
def SolJoinsWrongFalsely : Prop := solJoinsRow.holds Try.pinned (OpenSpec.ofChange solJoinsWrong)

/-- 'triadlaw16.SolMany': WHATEVER THE INPUT: true; the input reads as it did. -/
def solManySpec : ChangeSpec := { name := "solMany", fn := fun _ => fun
  | [d1, d2] => { results := [.lit (.bool true)], args := [d1, d2] }
  | _ => none }
def solManyRow : OpenClaim := { program := "ytkhdadbbgfjcgaa", sum := "b28800306f4f531ac0964747f0ae9f08986864935279e3c2036a856a88e7612a", func := "triad/triadlaw16.SolMany", spec := "solMany", inPlace := ["internal/bytealg.abigen_runtime_cmpstring", "slices.overlaps[triad/api.Pair]", "internal/abi.NoEscape"], unfollowed := true, recurses := true, apart := false }
def SolManySaid : Prop := solManyRow.holds Try.pinned (OpenSpec.ofChange solManySpec)

/-- ITS FALSE NEIGHBOUR: 'it returns false'. Refute it at one input. -/
def solManyWrong : ChangeSpec := { name := "solMany", fn := fun _ => fun
  | [d1, d2] => { results := [.lit (.bool false)], args := [d1, d2] }
  | _ => none }
def SolManyWrongFalsely : Prop := solManyRow.holds Try.pinned (OpenSpec.ofChange solManyWrong)

/-- 'triadlaw16.SolOrder': WHATEVER THE INPUT: true; the input reads as it did. -/
def solOrderSpec : ChangeSpec := { name := "solOrder", fn := fun _ => fun
  | [d] => { results := [.lit (.bool true)], args := [d] }
  | _ => none }
def solOrderRow : OpenClaim := { program := "ytkhdadbbgfjcgaa", sum := "b28800306f4f531ac0964747f0ae9f08986864935279e3c2036a856a88e7612a", func := "triad/triadlaw16.SolOrder", spec := "solOrder", inPlace := ["internal/bytealg.abigen_runtime_cmpstring", "slices.overlaps[triad/api.Pair]", "internal/abi.NoEscape"], unfollowed := true, recurses := true, apart := false }
def SolOrderSaid : Prop := solOrderRow.holds Try.pinned (OpenSpec.ofChange solOrderSpec)

/-- ITS FALSE NEIGHBOUR: 'it returns false'. Refute it at one input. -/
def solOrderWrong : ChangeSpec := { name := "solOrder", fn := fun _ => fun
  | [d] => { results := [.lit (.bool false)], args := [d] }
  | _ => none }
def SolOrderWrongFalsely : Prop := solOrderRow.holds Try.pinned (OpenSpec.ofChange solOrderWrong)

/-- 'triadlaw16.SolSets': WHATEVER THE INPUT: true; the input reads as it did. -/
def solSetsSpec : ChangeSpec := { name := "solSets", fn := fun _ => fun
  | [d1, d2, d3, d4] => { results := [.lit (.bool true)], args := [d1, d2, d3, d4] }
  | _ => none }
def solSetsRow : OpenClaim := { program := "ytkhdadbbgfjcgaa", sum := "b28800306f4f531ac0964747f0ae9f08986864935279e3c2036a856a88e7612a", func := "triad/triadlaw16.SolSets", spec := "solSets", inPlace := ["internal/bytealg.abigen_runtime_cmpstring", "slices.overlaps[triad/api.Pair]", "internal/abi.NoEscape"], unfollowed := true, recurses := true, apart := false }
def SolSetsSaid : Prop := solSetsRow.holds Try.pinned (OpenSpec.ofChange solSetsSpec)

/-- ITS FALSE NEIGHBOUR: 'it returns false'. Refute it at one input. -/
def solSetsWrong : ChangeSpec := { name := "solSets", fn := fun _ => fun
  | [d1, d2, d3, d4] => { results := [.lit (.bool false)], args := [d1, d2, d3, d4] }
  | _ => none }
def SolSetsWrongFalsely : Prop := solSetsRow.holds Try.pinned (OpenSpec.ofChange solSetsWrong)

/-- 'triadlaw16.SolRows': WHATEVER THE INPUT: true; the input reads as it did. -/
def solRowsSpec : ChangeSpec := { name := "solRows", fn := fun _ => fun
  | [d1, d2] => { results := [.lit (.bool true)], args := [d1, d2] }
  | _ => none }
def solRowsRow : OpenClaim := { program := "ytkhdadbbgfjcgaa", sum := "b28800306f4f531ac0964747f0ae9f08986864935279e3c2036a856a88e7612a", func := "triad/triadlaw16.SolRows", spec := "solRows", inPlace := ["internal/bytealg.abigen_runtime_cmpstring", "slices.overlaps[triad/api.Pair]", "internal/abi.NoEscape"], unfollowed := true, recurses := true, apart := false }
def SolRowsSaid : Prop := solRowsRow.holds Try.pinned (OpenSpec.ofChange solRowsSpec)

/-- ITS FALSE NEIGHBOUR: 'it returns false'. Refute it at one input. -/
def solRowsWrong : ChangeSpec := { name := "solRows", fn := fun _ => fun
  | [d1, d2] => { results := [.lit (.bool false)], args := [d1, d2] }
  | _ => none }
def SolRowsWrongFalsely : Prop := solRowsRow.holds Try.pinned (OpenSpec.ofChange solRowsWrong)

/-- 'triadlaw16.SolLeft': WHATEVER THE INPUT: true; the input reads as it did. -/
def solLeftSpec : ChangeSpec := { name := "solLeft", fn := fun _ => fun
  | [d1, d2] => { results := [.lit (.bool true)], args := [d1, d2] }
  | _ => none }
def solLeftRow : OpenClaim := { program := "ytkhdadbbgfjcgaa", sum := "b28800306f4f531ac0964747f0ae9f08986864935279e3c2036a856a88e7612a", func := "triad/triadlaw16.SolLeft", spec := "solLeft", inPlace := ["internal/bytealg.abigen_runtime_cmpstring", "slices.overlaps[triad/api.Pair]", "internal/abi.NoEscape"], unfollowed := true, recurses := true, apart := false }
def SolLeftSaid : Prop := solLeftRow.holds Try.pinned (OpenSpec.ofChange solLeftSpec)

/-- ITS FALSE NEIGHBOUR: 'it returns false'. Refute it at one input. -/
def solLeftWrong : ChangeSpec := { name := "solLeft", fn := fun _ => fun
  | [d1, d2] => { results := [.lit (.bool false)], args := [d1, d2] }
  | _ => none }
def SolLeftWrongFalsely : Prop := solLeftRow.holds Try.pinned (OpenSpec.ofChange solLeftWrong)

/-- 'triadlaw16.SolNone': WHATEVER THE INPUT: true; the input reads as it did. -/
def solNoneSpec : ChangeSpec := { name := "solNone", fn := fun _ => fun
  | [d] => { results := [.lit (.bool true)], args := [d] }
  | _ => none }
def solNoneRow : OpenClaim := { program := "ytkhdadbbgfjcgaa", sum := "b28800306f4f531ac0964747f0ae9f08986864935279e3c2036a856a88e7612a", func := "triad/triadlaw16.SolNone", spec := "solNone", inPlace := ["internal/bytealg.abigen_runtime_cmpstring", "slices.overlaps[triad/api.Pair]", "internal/abi.NoEscape"], unfollowed := true, recurses := true, apart := false }
def SolNoneSaid : Prop := solNoneRow.holds Try.pinned (OpenSpec.ofChange solNoneSpec)

/-- ITS FALSE NEIGHBOUR: 'it returns false'. Refute it at one input. -/
def solNoneWrong : ChangeSpec := { name := "solNone", fn := fun _ => fun
  | [d] => { results := [.lit (.bool false)], args := [d] }
  | _ => none }
def SolNoneWrongFalsely : Prop := solNoneRow.holds Try.pinned (OpenSpec.ofChange solNoneWrong)

/- THE SECOND FORM. 'bulk': how many values and letters a reading holds, each counted each time it is reached (what is shared counts as often as it is met; a slice's spare places count too). A statement '..UptoSaid' is the law's where the arguments, and the package variables that the reading takes, are together of bulk at most 1048576: NARROWER than '..Said'. Prove '..Said' where nothing that the law and all that it calls make is longer than what came in: it says more and counts as full. Else prove '..UptoSaid'. A law counts once. -/
mutual
def uptoBulk {H : Type} : DataW H → Nat
  | .lit (.string bytes) => bytes.length + 1
  | .lit _ => 1
  | .nil => 1
  | .ptr d => uptoBulk d + 1
  | .slice elems spare => uptoBulkAll elems + uptoBulkAll spare + 1
  | .agg parts => uptoBulkAll parts + 1
  | .iface _ d => uptoBulk d + 1
  | .map entries => uptoBulkEntries entries + 1
  | .held _ => 1
def uptoBulkAll {H : Type} : List (DataW H) → Nat
  | [] => 0
  | d :: r => uptoBulk d + uptoBulkAll r
def uptoBulkEntries {H : Type} : List (Lit × DataW H) → Nat
  | [] => 0
  | x :: r => uptoBulkEntry x + uptoBulkEntries r
def uptoBulkEntry {H : Type} : Lit × DataW H → Nat
  | (.string bytes, d) => bytes.length + uptoBulk d + 1
  | (_, d) => uptoBulk d + 1
 end
def uptoSmall : (H : Type) → List (DataW H) → Bool := fun _ ds => decide (uptoBulkAll ds ≤ 1048576)
def OpenSpec.upto (s : _root_.Go.ChangeSpec) : _root_.Go.OpenSpec := { _root_.Go.OpenSpec.ofChange s with cond := some uptoSmall }

/-- 'triadlaw16.SolJoins', WHERE WHAT IT READS IS OF BULK AT MOST 1048576: true; the input reads as it did. -/
def solJoinsUptoRow : OpenClaim := { program := "ytkhdadbbgfjcgaa", sum := "b28800306f4f531ac0964747f0ae9f08986864935279e3c2036a856a88e7612a", func := "triad/triadlaw16.SolJoins", spec := "solJoins", inPlace := ["internal/bytealg.abigen_runtime_cmpstring", "slices.overlaps[triad/api.Pair]", "internal/abi.NoEscape"], unfollowed := true, recurses := true, apart := false, narrowed := true }
def SolJoinsUptoSaid : Prop := solJoinsUptoRow.holds Try.pinned (OpenSpec.upto solJoinsSpec)

/-- 'triadlaw16.SolMany', WHERE WHAT IT READS IS OF BULK AT MOST 1048576: true; the input reads as it did. -/
def solManyUptoRow : OpenClaim := { program := "ytkhdadbbgfjcgaa", sum := "b28800306f4f531ac0964747f0ae9f08986864935279e3c2036a856a88e7612a", func := "triad/triadlaw16.SolMany", spec := "solMany", inPlace := ["internal/bytealg.abigen_runtime_cmpstring", "slices.overlaps[triad/api.Pair]", "internal/abi.NoEscape"], unfollowed := true, recurses := true, apart := false, narrowed := true }
def SolManyUptoSaid : Prop := solManyUptoRow.holds Try.pinned (OpenSpec.upto solManySpec)

/-- 'triadlaw16.SolOrder', WHERE WHAT IT READS IS OF BULK AT MOST 1048576: true; the input reads as it did. -/
def solOrderUptoRow : OpenClaim := { program := "ytkhdadbbgfjcgaa", sum := "b28800306f4f531ac0964747f0ae9f08986864935279e3c2036a856a88e7612a", func := "triad/triadlaw16.SolOrder", spec := "solOrder", inPlace := ["internal/bytealg.abigen_runtime_cmpstring", "slices.overlaps[triad/api.Pair]", "internal/abi.NoEscape"], unfollowed := true, recurses := true, apart := false, narrowed := true }
def SolOrderUptoSaid : Prop := solOrderUptoRow.holds Try.pinned (OpenSpec.upto solOrderSpec)

/-- 'triadlaw16.SolSets', WHERE WHAT IT READS IS OF BULK AT MOST 1048576: true; the input reads as it did. -/
def solSetsUptoRow : OpenClaim := { program := "ytkhdadbbgfjcgaa", sum := "b28800306f4f531ac0964747f0ae9f08986864935279e3c2036a856a88e7612a", func := "triad/triadlaw16.SolSets", spec := "solSets", inPlace := ["internal/bytealg.abigen_runtime_cmpstring", "slices.overlaps[triad/api.Pair]", "internal/abi.NoEscape"], unfollowed := true, recurses := true, apart := false, narrowed := true }
def SolSetsUptoSaid : Prop := solSetsUptoRow.holds Try.pinned (OpenSpec.upto solSetsSpec)

/-- 'triadlaw16.SolRows', WHERE WHAT IT READS IS OF BULK AT MOST 1048576: true; the input reads as it did. -/
def solRowsUptoRow : OpenClaim := { program := "ytkhdadbbgfjcgaa", sum := "b28800306f4f531ac0964747f0ae9f08986864935279e3c2036a856a88e7612a", func := "triad/triadlaw16.SolRows", spec := "solRows", inPlace := ["internal/bytealg.abigen_runtime_cmpstring", "slices.overlaps[triad/api.Pair]", "internal/abi.NoEscape"], unfollowed := true, recurses := true, apart := false, narrowed := true }
def SolRowsUptoSaid : Prop := solRowsUptoRow.holds Try.pinned (OpenSpec.upto solRowsSpec)

/-- 'triadlaw16.SolLeft', WHERE WHAT IT READS IS OF BULK AT MOST 1048576: true; the input reads as it did. -/
def solLeftUptoRow : OpenClaim := { program := "ytkhdadbbgfjcgaa", sum := "b28800306f4f531ac0964747f0ae9f08986864935279e3c2036a856a88e7612a", func := "triad/triadlaw16.SolLeft", spec := "solLeft", inPlace := ["internal/bytealg.abigen_runtime_cmpstring", "slices.overlaps[triad/api.Pair]", "internal/abi.NoEscape"], unfollowed := true, recurses := true, apart := false, narrowed := true }
def SolLeftUptoSaid : Prop := solLeftUptoRow.holds Try.pinned (OpenSpec.upto solLeftSpec)

/-- 'triadlaw16.SolNone', WHERE WHAT IT READS IS OF BULK AT MOST 1048576: true; the input reads as it did. -/
def solNoneUptoRow : OpenClaim := { program := "ytkhdadbbgfjcgaa", sum := "b28800306f4f531ac0964747f0ae9f08986864935279e3c2036a856a88e7612a", func := "triad/triadlaw16.SolNone", spec := "solNone", inPlace := ["internal/bytealg.abigen_runtime_cmpstring", "slices.overlaps[triad/api.Pair]", "internal/abi.NoEscape"], unfollowed := true, recurses := true, apart := false, narrowed := true }
def SolNoneUptoSaid : Prop := solNoneUptoRow.holds Try.pinned (OpenSpec.upto solNoneSpec)

end Rows
end Go.Proofs.Ytkhdadbbgfjcgaa
