/-
  No cell of these rows narrows 'for every input' (looked for: loops, veiled, ifaces, maps, wideKeys, modest, calm, conditions, laid).
  DERIVED. THE GIVEN ROWS OF THIS SEAT. 5 by the template 'for every input the law returns true; each argument reads behind the call as it read before'; 0 by the template 'total and deterministic' (their statements: YtpefpiccljohlaaTotals.lean).
  GIVEN WITH THE SEED: the statements are not yours to turn. If you find one false, say at which input.
  Laid BY PROGRAM, IN A SANDBOX (cutbox-rows.mjs): the forced cells as the released guide's own fill.sh prints them over the translation bd3260b74dd2de46… (all of the seat's roots in one cut). By AI agents, Wed Nov 11 2026. No macro, syntax, notation, axiom, sorry.
-/
import Derived.Test.YtpefpiccljohlaaChecked
import GoSem.Claim
import GoSem.ClaimJoined
import GoSem.ClaimMapViews
import Derived.JoinedTies
import Derived.KernelRfl
namespace Go.Proofs.Ytpefpiccljohlaa
/- THE CELL 'sum', in the pinned program and in every row, IS THE sha256 OF THE DUMP (.gsa) THAT YtpefpiccljohlaaProg.lean LOADS. Nothing in Lean hashes anything: it is a label: what it is worth is what the hold of that sum in a sandbox is worth. -/
noncomputable def Try.pinned : Pinned := { name := "ytpefpiccljohlaa", sum := "bd3260b74dd2de46fdb1e624b3b3defed9a1aa74b4932674682842c21f8edf7e", checked := Try.checked }
namespace Rows
def none {H : Type} : Left H := { results := [], args := [] }

/-- 'signetringlaw20.FanGroups': WHATEVER THE INPUT: true; the input reads as it did. -/
def fanGroupsSpec : ChangeSpec := { name := "fanGroups", fn := fun _ => fun
  | [d1, d2] => { results := [.lit (.bool true)], args := [d1, d2] }
  | _ => none }
def fanGroupsRow : OpenClaim := { program := "ytpefpiccljohlaa", sum := "bd3260b74dd2de46fdb1e624b3b3defed9a1aa74b4932674682842c21f8edf7e", func := "signetring/signetringlaw20.FanGroups", spec := "fanGroups", inPlace := ["internal/abi.NoEscape"], apart := false }
def FanGroupsSaid : Prop := fanGroupsRow.holds Try.pinned (OpenSpec.ofChange fanGroupsSpec)

/-- ITS FALSE NEIGHBOUR: 'it returns false'. Refute it at one input. -/
def fanGroupsWrong : ChangeSpec := { name := "fanGroups", fn := fun _ => fun
  | [d1, d2] => { results := [.lit (.bool false)], args := [d1, d2] }
  | _ => none }
def FanGroupsWrongFalsely : Prop := fanGroupsRow.holds Try.pinned (OpenSpec.ofChange fanGroupsWrong)

/-- 'signetringlaw20.FanTakes': WHATEVER THE INPUT: true; the input reads as it did. -/
def fanTakesSpec : ChangeSpec := { name := "fanTakes", fn := fun _ => fun
  | [d1, d2, d3] => { results := [.lit (.bool true)], args := [d1, d2, d3] }
  | _ => none }
def fanTakesRow : OpenClaim := { program := "ytpefpiccljohlaa", sum := "bd3260b74dd2de46fdb1e624b3b3defed9a1aa74b4932674682842c21f8edf7e", func := "signetring/signetringlaw20.FanTakes", spec := "fanTakes", inPlace := ["internal/abi.NoEscape"], apart := false }
def FanTakesSaid : Prop := fanTakesRow.holds Try.pinned (OpenSpec.ofChange fanTakesSpec)

/-- ITS FALSE NEIGHBOUR: 'it returns false'. Refute it at one input. -/
def fanTakesWrong : ChangeSpec := { name := "fanTakes", fn := fun _ => fun
  | [d1, d2, d3] => { results := [.lit (.bool false)], args := [d1, d2, d3] }
  | _ => none }
def FanTakesWrongFalsely : Prop := fanTakesRow.holds Try.pinned (OpenSpec.ofChange fanTakesWrong)

/-- 'signetringlaw20.FanOnce': WHATEVER THE INPUT: true; the input reads as it did. -/
def fanOnceSpec : ChangeSpec := { name := "fanOnce", fn := fun _ => fun
  | [d] => { results := [.lit (.bool true)], args := [d] }
  | _ => none }
def fanOnceRow : OpenClaim := { program := "ytpefpiccljohlaa", sum := "bd3260b74dd2de46fdb1e624b3b3defed9a1aa74b4932674682842c21f8edf7e", func := "signetring/signetringlaw20.FanOnce", spec := "fanOnce", inPlace := ["internal/abi.NoEscape"], apart := false }
def FanOnceSaid : Prop := fanOnceRow.holds Try.pinned (OpenSpec.ofChange fanOnceSpec)

/-- ITS FALSE NEIGHBOUR: 'it returns false'. Refute it at one input. -/
def fanOnceWrong : ChangeSpec := { name := "fanOnce", fn := fun _ => fun
  | [d] => { results := [.lit (.bool false)], args := [d] }
  | _ => none }
def FanOnceWrongFalsely : Prop := fanOnceRow.holds Try.pinned (OpenSpec.ofChange fanOnceWrong)

/-- 'signetringlaw20.FanRow': WHATEVER THE INPUT: true; the input reads as it did. -/
def fanRowSpec : ChangeSpec := { name := "fanRow", fn := fun _ => fun
  | [d1, d2] => { results := [.lit (.bool true)], args := [d1, d2] }
  | _ => none }
def fanRowRow : OpenClaim := { program := "ytpefpiccljohlaa", sum := "bd3260b74dd2de46fdb1e624b3b3defed9a1aa74b4932674682842c21f8edf7e", func := "signetring/signetringlaw20.FanRow", spec := "fanRow", inPlace := ["internal/abi.NoEscape"], apart := false }
def FanRowSaid : Prop := fanRowRow.holds Try.pinned (OpenSpec.ofChange fanRowSpec)

/-- ITS FALSE NEIGHBOUR: 'it returns false'. Refute it at one input. -/
def fanRowWrong : ChangeSpec := { name := "fanRow", fn := fun _ => fun
  | [d1, d2] => { results := [.lit (.bool false)], args := [d1, d2] }
  | _ => none }
def FanRowWrongFalsely : Prop := fanRowRow.holds Try.pinned (OpenSpec.ofChange fanRowWrong)

/-- 'signetringlaw20.FanMarks': WHATEVER THE INPUT: true; the input reads as it did. -/
def fanMarksSpec : ChangeSpec := { name := "fanMarks", fn := fun _ => fun
  | [d1, d2, d3] => { results := [.lit (.bool true)], args := [d1, d2, d3] }
  | _ => none }
def fanMarksRow : OpenClaim := { program := "ytpefpiccljohlaa", sum := "bd3260b74dd2de46fdb1e624b3b3defed9a1aa74b4932674682842c21f8edf7e", func := "signetring/signetringlaw20.FanMarks", spec := "fanMarks", inPlace := ["internal/abi.NoEscape"], apart := false }
def FanMarksSaid : Prop := fanMarksRow.holds Try.pinned (OpenSpec.ofChange fanMarksSpec)

/-- ITS FALSE NEIGHBOUR: 'it returns false'. Refute it at one input. -/
def fanMarksWrong : ChangeSpec := { name := "fanMarks", fn := fun _ => fun
  | [d1, d2, d3] => { results := [.lit (.bool false)], args := [d1, d2, d3] }
  | _ => none }
def FanMarksWrongFalsely : Prop := fanMarksRow.holds Try.pinned (OpenSpec.ofChange fanMarksWrong)

/- THE SECOND FORM. 'bulk': how many values and letters a reading holds, each counted each time it is reached (what is shared counts as often as it is met; a slice's spare places count too). A statement '..UptoSaid' is the law's where the arguments, and the package variables that the reading takes, are together of bulk at most 1048576: NARROWER than '..Said'. Prove '..Said' where nothing that the law and all that it calls make is longer than what came in: it says more and counts as full. Else prove '..UptoSaid'. A law counts once. -/
mutual
def uptoBulk {H : Type} : DataW H → Nat
  | .lit (.string bytes) => bytes.length + 1
  | .lit _ => 1
  | .nil => 1
  | .ptr d => uptoBulk d + 1
  | .slice elems spare => uptoBulkAll elems + uptoBulkAll spare + 1
  | .agg parts => uptoBulkAll parts + 1
  | .iface _ d => uptoBulk d + 1
  | .map entries => uptoBulkEntries entries + 1
  | .held _ => 1
def uptoBulkAll {H : Type} : List (DataW H) → Nat
  | [] => 0
  | d :: r => uptoBulk d + uptoBulkAll r
def uptoBulkEntries {H : Type} : List (Lit × DataW H) → Nat
  | [] => 0
  | x :: r => uptoBulkEntry x + uptoBulkEntries r
def uptoBulkEntry {H : Type} : Lit × DataW H → Nat
  | (.string bytes, d) => bytes.length + uptoBulk d + 1
  | (_, d) => uptoBulk d + 1
 end
def uptoSmall : (H : Type) → List (DataW H) → Bool := fun _ ds => decide (uptoBulkAll ds ≤ 1048576)
def OpenSpec.upto (s : _root_.Go.ChangeSpec) : _root_.Go.OpenSpec := { _root_.Go.OpenSpec.ofChange s with cond := some uptoSmall }

/-- 'signetringlaw20.FanGroups', WHERE WHAT IT READS IS OF BULK AT MOST 1048576: true; the input reads as it did. -/
def fanGroupsUptoRow : OpenClaim := { program := "ytpefpiccljohlaa", sum := "bd3260b74dd2de46fdb1e624b3b3defed9a1aa74b4932674682842c21f8edf7e", func := "signetring/signetringlaw20.FanGroups", spec := "fanGroups", inPlace := ["internal/abi.NoEscape"], apart := false, narrowed := true }
def FanGroupsUptoSaid : Prop := fanGroupsUptoRow.holds Try.pinned (OpenSpec.upto fanGroupsSpec)

/-- 'signetringlaw20.FanTakes', WHERE WHAT IT READS IS OF BULK AT MOST 1048576: true; the input reads as it did. -/
def fanTakesUptoRow : OpenClaim := { program := "ytpefpiccljohlaa", sum := "bd3260b74dd2de46fdb1e624b3b3defed9a1aa74b4932674682842c21f8edf7e", func := "signetring/signetringlaw20.FanTakes", spec := "fanTakes", inPlace := ["internal/abi.NoEscape"], apart := false, narrowed := true }
def FanTakesUptoSaid : Prop := fanTakesUptoRow.holds Try.pinned (OpenSpec.upto fanTakesSpec)

/-- 'signetringlaw20.FanOnce', WHERE WHAT IT READS IS OF BULK AT MOST 1048576: true; the input reads as it did. -/
def fanOnceUptoRow : OpenClaim := { program := "ytpefpiccljohlaa", sum := "bd3260b74dd2de46fdb1e624b3b3defed9a1aa74b4932674682842c21f8edf7e", func := "signetring/signetringlaw20.FanOnce", spec := "fanOnce", inPlace := ["internal/abi.NoEscape"], apart := false, narrowed := true }
def FanOnceUptoSaid : Prop := fanOnceUptoRow.holds Try.pinned (OpenSpec.upto fanOnceSpec)

/-- 'signetringlaw20.FanRow', WHERE WHAT IT READS IS OF BULK AT MOST 1048576: true; the input reads as it did. -/
def fanRowUptoRow : OpenClaim := { program := "ytpefpiccljohlaa", sum := "bd3260b74dd2de46fdb1e624b3b3defed9a1aa74b4932674682842c21f8edf7e", func := "signetring/signetringlaw20.FanRow", spec := "fanRow", inPlace := ["internal/abi.NoEscape"], apart := false, narrowed := true }
def FanRowUptoSaid : Prop := fanRowUptoRow.holds Try.pinned (OpenSpec.upto fanRowSpec)

/-- 'signetringlaw20.FanMarks', WHERE WHAT IT READS IS OF BULK AT MOST 1048576: true; the input reads as it did. -/
def fanMarksUptoRow : OpenClaim := { program := "ytpefpiccljohlaa", sum := "bd3260b74dd2de46fdb1e624b3b3defed9a1aa74b4932674682842c21f8edf7e", func := "signetring/signetringlaw20.FanMarks", spec := "fanMarks", inPlace := ["internal/abi.NoEscape"], apart := false, narrowed := true }
def FanMarksUptoSaid : Prop := fanMarksUptoRow.holds Try.pinned (OpenSpec.upto fanMarksSpec)

end Rows
end Go.Proofs.Ytpefpiccljohlaa
