/-
  No cell of these rows narrows 'for every input' (looked for: loops, veiled, ifaces, maps, wideKeys, modest, calm, conditions, laid).
  DERIVED. THE GIVEN ROWS OF THIS SEAT. 7 by the template 'for every input the law returns true; each argument reads behind the call as it read before'; 0 by the template 'total and deterministic' (their statements: YtplahohlmiphoaaTotals.lean).
  GIVEN WITH THE SEED: the statements are not yours to turn. If you find one false, say at which input.
  Laid BY PROGRAM, IN A SANDBOX (cutbox-rows.mjs): the forced cells as the released guide's own fill.sh prints them over the translation 1e2aabbd82f34b3f… (all of the seat's roots in one cut). By AI agents, Wed Nov 11 2026. No macro, syntax, notation, axiom, sorry.
-/
import Derived.Test.YtplahohlmiphoaaChecked
import GoSem.Claim
import GoSem.ClaimJoined
import GoSem.ClaimMapViews
import Derived.JoinedTies
import Derived.KernelRfl
namespace Go.Proofs.Ytplahohlmiphoaa
/- THE CELL 'sum', in the pinned program and in every row, IS THE sha256 OF THE DUMP (.gsa) THAT YtplahohlmiphoaaProg.lean LOADS. Nothing in Lean hashes anything: it is a label: what it is worth is what the hold of that sum in a sandbox is worth. -/
noncomputable def Try.pinned : Pinned := { name := "ytplahohlmiphoaa", sum := "1e2aabbd82f34b3f2df18d4d398ffaa4432d11a6ea91c44bf9282f3f2ecf9e2b", checked := Try.checked }
namespace Rows
def none {H : Type} : Left H := { results := [], args := [] }

/-- 'triadlaw3.RedoRows': WHATEVER THE INPUT: true; the input reads as it did. -/
def redoRowsSpec : ChangeSpec := { name := "redoRows", fn := fun _ => fun
  | [d1, d2] => { results := [.lit (.bool true)], args := [d1, d2] }
  | _ => none }
def redoRowsRow : OpenClaim := { program := "ytplahohlmiphoaa", sum := "1e2aabbd82f34b3f2df18d4d398ffaa4432d11a6ea91c44bf9282f3f2ecf9e2b", func := "triad/triadlaw3.RedoRows", spec := "redoRows", unfollowed := true, recurses := true, apart := false }
def RedoRowsSaid : Prop := redoRowsRow.holds Try.pinned (OpenSpec.ofChange redoRowsSpec)

/-- ITS FALSE NEIGHBOUR: 'it returns false'. Refute it at one input. -/
def redoRowsWrong : ChangeSpec := { name := "redoRows", fn := fun _ => fun
  | [d1, d2] => { results := [.lit (.bool false)], args := [d1, d2] }
  | _ => none }
def RedoRowsWrongFalsely : Prop := redoRowsRow.holds Try.pinned (OpenSpec.ofChange redoRowsWrong)

/-- 'triadlaw3.RedoOps': WHATEVER THE INPUT: true; the input reads as it did. -/
def redoOpsSpec : ChangeSpec := { name := "redoOps", fn := fun _ => fun
  | [d] => { results := [.lit (.bool true)], args := [d] }
  | _ => none }
def redoOpsRow : OpenClaim := { program := "ytplahohlmiphoaa", sum := "1e2aabbd82f34b3f2df18d4d398ffaa4432d11a6ea91c44bf9282f3f2ecf9e2b", func := "triad/triadlaw3.RedoOps", spec := "redoOps", unfollowed := true, recurses := true, apart := false }
def RedoOpsSaid : Prop := redoOpsRow.holds Try.pinned (OpenSpec.ofChange redoOpsSpec)

/-- ITS FALSE NEIGHBOUR: 'it returns false'. Refute it at one input. -/
def redoOpsWrong : ChangeSpec := { name := "redoOps", fn := fun _ => fun
  | [d] => { results := [.lit (.bool false)], args := [d] }
  | _ => none }
def RedoOpsWrongFalsely : Prop := redoOpsRow.holds Try.pinned (OpenSpec.ofChange redoOpsWrong)

/-- 'triadlaw3.RedoRecovers': WHATEVER THE INPUT: true; the input reads as it did. -/
def redoRecoversSpec : ChangeSpec := { name := "redoRecovers", fn := fun _ => fun
  | [d1, d2, d3, d4, d5] => { results := [.lit (.bool true)], args := [d1, d2, d3, d4, d5] }
  | _ => none }
def redoRecoversRow : OpenClaim := { program := "ytplahohlmiphoaa", sum := "1e2aabbd82f34b3f2df18d4d398ffaa4432d11a6ea91c44bf9282f3f2ecf9e2b", func := "triad/triadlaw3.RedoRecovers", spec := "redoRecovers", unfollowed := true, recurses := true, apart := false }
def RedoRecoversSaid : Prop := redoRecoversRow.holds Try.pinned (OpenSpec.ofChange redoRecoversSpec)

/-- ITS FALSE NEIGHBOUR: 'it returns false'. Refute it at one input. -/
def redoRecoversWrong : ChangeSpec := { name := "redoRecovers", fn := fun _ => fun
  | [d1, d2, d3, d4, d5] => { results := [.lit (.bool false)], args := [d1, d2, d3, d4, d5] }
  | _ => none }
def RedoRecoversWrongFalsely : Prop := redoRecoversRow.holds Try.pinned (OpenSpec.ofChange redoRecoversWrong)

/-- 'triadlaw3.RedoLast': WHATEVER THE INPUT: true; the input reads as it did. -/
def redoLastSpec : ChangeSpec := { name := "redoLast", fn := fun _ => fun
  | [d1, d2, d3] => { results := [.lit (.bool true)], args := [d1, d2, d3] }
  | _ => none }
def redoLastRow : OpenClaim := { program := "ytplahohlmiphoaa", sum := "1e2aabbd82f34b3f2df18d4d398ffaa4432d11a6ea91c44bf9282f3f2ecf9e2b", func := "triad/triadlaw3.RedoLast", spec := "redoLast", unfollowed := true, recurses := true, apart := false }
def RedoLastSaid : Prop := redoLastRow.holds Try.pinned (OpenSpec.ofChange redoLastSpec)

/-- ITS FALSE NEIGHBOUR: 'it returns false'. Refute it at one input. -/
def redoLastWrong : ChangeSpec := { name := "redoLast", fn := fun _ => fun
  | [d1, d2, d3] => { results := [.lit (.bool false)], args := [d1, d2, d3] }
  | _ => none }
def RedoLastWrongFalsely : Prop := redoLastRow.holds Try.pinned (OpenSpec.ofChange redoLastWrong)

/-- 'triadlaw3.RedoWhole': WHATEVER THE INPUT: true; the input reads as it did. -/
def redoWholeSpec : ChangeSpec := { name := "redoWhole", fn := fun _ => fun
  | [d1, d2, d3, d4, d5] => { results := [.lit (.bool true)], args := [d1, d2, d3, d4, d5] }
  | _ => none }
def redoWholeRow : OpenClaim := { program := "ytplahohlmiphoaa", sum := "1e2aabbd82f34b3f2df18d4d398ffaa4432d11a6ea91c44bf9282f3f2ecf9e2b", func := "triad/triadlaw3.RedoWhole", spec := "redoWhole", unfollowed := true, recurses := true, apart := false }
def RedoWholeSaid : Prop := redoWholeRow.holds Try.pinned (OpenSpec.ofChange redoWholeSpec)

/-- ITS FALSE NEIGHBOUR: 'it returns false'. Refute it at one input. -/
def redoWholeWrong : ChangeSpec := { name := "redoWhole", fn := fun _ => fun
  | [d1, d2, d3, d4, d5] => { results := [.lit (.bool false)], args := [d1, d2, d3, d4, d5] }
  | _ => none }
def RedoWholeWrongFalsely : Prop := redoWholeRow.holds Try.pinned (OpenSpec.ofChange redoWholeWrong)

/-- 'triadlaw3.RedoTwice': WHATEVER THE INPUT: true; the input reads as it did. -/
def redoTwiceSpec : ChangeSpec := { name := "redoTwice", fn := fun _ => fun
  | [d1, d2, d3] => { results := [.lit (.bool true)], args := [d1, d2, d3] }
  | _ => none }
def redoTwiceRow : OpenClaim := { program := "ytplahohlmiphoaa", sum := "1e2aabbd82f34b3f2df18d4d398ffaa4432d11a6ea91c44bf9282f3f2ecf9e2b", func := "triad/triadlaw3.RedoTwice", spec := "redoTwice", unfollowed := true, recurses := true, apart := false }
def RedoTwiceSaid : Prop := redoTwiceRow.holds Try.pinned (OpenSpec.ofChange redoTwiceSpec)

/-- ITS FALSE NEIGHBOUR: 'it returns false'. Refute it at one input. -/
def redoTwiceWrong : ChangeSpec := { name := "redoTwice", fn := fun _ => fun
  | [d1, d2, d3] => { results := [.lit (.bool false)], args := [d1, d2, d3] }
  | _ => none }
def RedoTwiceWrongFalsely : Prop := redoTwiceRow.holds Try.pinned (OpenSpec.ofChange redoTwiceWrong)

/-- 'triadlaw3.RedoCommits': WHATEVER THE INPUT: true; the input reads as it did. -/
def redoCommitsSpec : ChangeSpec := { name := "redoCommits", fn := fun _ => fun
  | [d1, d2, d3] => { results := [.lit (.bool true)], args := [d1, d2, d3] }
  | _ => none }
def redoCommitsRow : OpenClaim := { program := "ytplahohlmiphoaa", sum := "1e2aabbd82f34b3f2df18d4d398ffaa4432d11a6ea91c44bf9282f3f2ecf9e2b", func := "triad/triadlaw3.RedoCommits", spec := "redoCommits", unfollowed := true, recurses := true, apart := false }
def RedoCommitsSaid : Prop := redoCommitsRow.holds Try.pinned (OpenSpec.ofChange redoCommitsSpec)

/-- ITS FALSE NEIGHBOUR: 'it returns false'. Refute it at one input. -/
def redoCommitsWrong : ChangeSpec := { name := "redoCommits", fn := fun _ => fun
  | [d1, d2, d3] => { results := [.lit (.bool false)], args := [d1, d2, d3] }
  | _ => none }
def RedoCommitsWrongFalsely : Prop := redoCommitsRow.holds Try.pinned (OpenSpec.ofChange redoCommitsWrong)

/- THE SECOND FORM. 'bulk': how many values and letters a reading holds, each counted each time it is reached (what is shared counts as often as it is met; a slice's spare places count too). A statement '..UptoSaid' is the law's where the arguments, and the package variables that the reading takes, are together of bulk at most 1048576: NARROWER than '..Said'. Prove '..Said' where nothing that the law and all that it calls make is longer than what came in: it says more and counts as full. Else prove '..UptoSaid'. A law counts once. -/
mutual
def uptoBulk {H : Type} : DataW H → Nat
  | .lit (.string bytes) => bytes.length + 1
  | .lit _ => 1
  | .nil => 1
  | .ptr d => uptoBulk d + 1
  | .slice elems spare => uptoBulkAll elems + uptoBulkAll spare + 1
  | .agg parts => uptoBulkAll parts + 1
  | .iface _ d => uptoBulk d + 1
  | .map entries => uptoBulkEntries entries + 1
  | .held _ => 1
def uptoBulkAll {H : Type} : List (DataW H) → Nat
  | [] => 0
  | d :: r => uptoBulk d + uptoBulkAll r
def uptoBulkEntries {H : Type} : List (Lit × DataW H) → Nat
  | [] => 0
  | x :: r => uptoBulkEntry x + uptoBulkEntries r
def uptoBulkEntry {H : Type} : Lit × DataW H → Nat
  | (.string bytes, d) => bytes.length + uptoBulk d + 1
  | (_, d) => uptoBulk d + 1
 end
def uptoSmall : (H : Type) → List (DataW H) → Bool := fun _ ds => decide (uptoBulkAll ds ≤ 1048576)
def OpenSpec.upto (s : _root_.Go.ChangeSpec) : _root_.Go.OpenSpec := { _root_.Go.OpenSpec.ofChange s with cond := some uptoSmall }

/-- 'triadlaw3.RedoRows', WHERE WHAT IT READS IS OF BULK AT MOST 1048576: true; the input reads as it did. -/
def redoRowsUptoRow : OpenClaim := { program := "ytplahohlmiphoaa", sum := "1e2aabbd82f34b3f2df18d4d398ffaa4432d11a6ea91c44bf9282f3f2ecf9e2b", func := "triad/triadlaw3.RedoRows", spec := "redoRows", unfollowed := true, recurses := true, apart := false, narrowed := true }
def RedoRowsUptoSaid : Prop := redoRowsUptoRow.holds Try.pinned (OpenSpec.upto redoRowsSpec)

/-- 'triadlaw3.RedoOps', WHERE WHAT IT READS IS OF BULK AT MOST 1048576: true; the input reads as it did. -/
def redoOpsUptoRow : OpenClaim := { program := "ytplahohlmiphoaa", sum := "1e2aabbd82f34b3f2df18d4d398ffaa4432d11a6ea91c44bf9282f3f2ecf9e2b", func := "triad/triadlaw3.RedoOps", spec := "redoOps", unfollowed := true, recurses := true, apart := false, narrowed := true }
def RedoOpsUptoSaid : Prop := redoOpsUptoRow.holds Try.pinned (OpenSpec.upto redoOpsSpec)

/-- 'triadlaw3.RedoRecovers', WHERE WHAT IT READS IS OF BULK AT MOST 1048576: true; the input reads as it did. -/
def redoRecoversUptoRow : OpenClaim := { program := "ytplahohlmiphoaa", sum := "1e2aabbd82f34b3f2df18d4d398ffaa4432d11a6ea91c44bf9282f3f2ecf9e2b", func := "triad/triadlaw3.RedoRecovers", spec := "redoRecovers", unfollowed := true, recurses := true, apart := false, narrowed := true }
def RedoRecoversUptoSaid : Prop := redoRecoversUptoRow.holds Try.pinned (OpenSpec.upto redoRecoversSpec)

/-- 'triadlaw3.RedoLast', WHERE WHAT IT READS IS OF BULK AT MOST 1048576: true; the input reads as it did. -/
def redoLastUptoRow : OpenClaim := { program := "ytplahohlmiphoaa", sum := "1e2aabbd82f34b3f2df18d4d398ffaa4432d11a6ea91c44bf9282f3f2ecf9e2b", func := "triad/triadlaw3.RedoLast", spec := "redoLast", unfollowed := true, recurses := true, apart := false, narrowed := true }
def RedoLastUptoSaid : Prop := redoLastUptoRow.holds Try.pinned (OpenSpec.upto redoLastSpec)

/-- 'triadlaw3.RedoWhole', WHERE WHAT IT READS IS OF BULK AT MOST 1048576: true; the input reads as it did. -/
def redoWholeUptoRow : OpenClaim := { program := "ytplahohlmiphoaa", sum := "1e2aabbd82f34b3f2df18d4d398ffaa4432d11a6ea91c44bf9282f3f2ecf9e2b", func := "triad/triadlaw3.RedoWhole", spec := "redoWhole", unfollowed := true, recurses := true, apart := false, narrowed := true }
def RedoWholeUptoSaid : Prop := redoWholeUptoRow.holds Try.pinned (OpenSpec.upto redoWholeSpec)

/-- 'triadlaw3.RedoTwice', WHERE WHAT IT READS IS OF BULK AT MOST 1048576: true; the input reads as it did. -/
def redoTwiceUptoRow : OpenClaim := { program := "ytplahohlmiphoaa", sum := "1e2aabbd82f34b3f2df18d4d398ffaa4432d11a6ea91c44bf9282f3f2ecf9e2b", func := "triad/triadlaw3.RedoTwice", spec := "redoTwice", unfollowed := true, recurses := true, apart := false, narrowed := true }
def RedoTwiceUptoSaid : Prop := redoTwiceUptoRow.holds Try.pinned (OpenSpec.upto redoTwiceSpec)

/-- 'triadlaw3.RedoCommits', WHERE WHAT IT READS IS OF BULK AT MOST 1048576: true; the input reads as it did. -/
def redoCommitsUptoRow : OpenClaim := { program := "ytplahohlmiphoaa", sum := "1e2aabbd82f34b3f2df18d4d398ffaa4432d11a6ea91c44bf9282f3f2ecf9e2b", func := "triad/triadlaw3.RedoCommits", spec := "redoCommits", unfollowed := true, recurses := true, apart := false, narrowed := true }
def RedoCommitsUptoSaid : Prop := redoCommitsUptoRow.holds Try.pinned (OpenSpec.upto redoCommitsSpec)

end Rows
end Go.Proofs.Ytplahohlmiphoaa
