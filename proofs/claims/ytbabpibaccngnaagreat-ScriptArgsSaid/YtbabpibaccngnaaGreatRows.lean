/-
  No cell of these rows narrows 'for every input' (looked for: loops, veiled, ifaces, maps, wideKeys, modest, calm, conditions, laid).
  DERIVED. THE GIVEN ROWS OF THIS SEAT. 8 by the template 'for every input the law returns true; each argument reads behind the call as it read before'; 0 by the template 'total and deterministic' (their statements: YtbabpibaccngnaaGreatTotals.lean).
  GIVEN WITH THE SEED: the statements are not yours to turn. If you find one false, say at which input.
  Laid BY PROGRAM, IN A SANDBOX (cutbox-rows.mjs): the forced cells as the released guide's own fill.sh prints them over the translation 1b6769aef528a6ee… (all of the seat's roots in one cut). By AI agents, Wed Nov 11 2026. No macro, syntax, notation, axiom, sorry.
-/
import Derived.Test.YtbabpibaccngnaaGreatChecked
import GoSem.Claim
import GoSem.ClaimJoined
import GoSem.ClaimMapViews
import Derived.JoinedTies
import Derived.KernelRfl
namespace Go.Proofs.YtbabpibaccngnaaGreat
/- THE CELL 'sum', in the pinned program and in every row, IS THE sha256 OF THE DUMP (.gsa) THAT YtbabpibaccngnaaGreatProg.lean LOADS. Nothing in Lean hashes anything: it is a label: what it is worth is what the hold of that sum in a sandbox is worth. -/
noncomputable def Tryz.pinned : Pinned := { name := "ytbabpibaccngnaagreat", sum := "1b6769aef528a6eec6e3d5b3c648892a614c2696efe5c4f3e04da9eef5027360", checked := Tryz.checked }
namespace Rows
def none {H : Type} : Left H := { results := [], args := [] }

/-- 'signetringlaw19.SessionAnew': WHATEVER THE INPUT: true; the input reads as it did. -/
def sessionAnewSpec : ChangeSpec := { name := "sessionAnew", fn := fun _ => fun
  | [d] => { results := [.lit (.bool true)], args := [d] }
  | _ => none }
def sessionAnewRow : OpenClaim := { program := "ytbabpibaccngnaagreat", sum := "1b6769aef528a6eec6e3d5b3c648892a614c2696efe5c4f3e04da9eef5027360", func := "signetring/signetringlaw19.SessionAnew", spec := "sessionAnew", inPlace := ["internal/abi.NoEscape", "internal/bytealg.MakeNoZero"], unfollowed := true, recurses := true, plainKeys := false, apart := false }
def SessionAnewSaid : Prop := sessionAnewRow.holds Tryz.pinned (OpenSpec.ofChange sessionAnewSpec)

/-- ITS FALSE NEIGHBOUR: 'it returns false'. Refute it at one input. -/
def sessionAnewWrong : ChangeSpec := { name := "sessionAnew", fn := fun _ => fun
  | [d] => { results := [.lit (.bool false)], args := [d] }
  | _ => none }
def SessionAnewWrongFalsely : Prop := sessionAnewRow.holds Tryz.pinned (OpenSpec.ofChange sessionAnewWrong)

/-- 'signetringlaw19.SessionBoth': WHATEVER THE INPUT: true; the input reads as it did. -/
def sessionBothSpec : ChangeSpec := { name := "sessionBoth", fn := fun _ => fun
  | [d1, d2] => { results := [.lit (.bool true)], args := [d1, d2] }
  | _ => none }
def sessionBothRow : OpenClaim := { program := "ytbabpibaccngnaagreat", sum := "1b6769aef528a6eec6e3d5b3c648892a614c2696efe5c4f3e04da9eef5027360", func := "signetring/signetringlaw19.SessionBoth", spec := "sessionBoth", inPlace := ["internal/abi.NoEscape", "internal/bytealg.MakeNoZero"], unfollowed := true, recurses := true, plainKeys := false, apart := false }
def SessionBothSaid : Prop := sessionBothRow.holds Tryz.pinned (OpenSpec.ofChange sessionBothSpec)

/-- ITS FALSE NEIGHBOUR: 'it returns false'. Refute it at one input. -/
def sessionBothWrong : ChangeSpec := { name := "sessionBoth", fn := fun _ => fun
  | [d1, d2] => { results := [.lit (.bool false)], args := [d1, d2] }
  | _ => none }
def SessionBothWrongFalsely : Prop := sessionBothRow.holds Tryz.pinned (OpenSpec.ofChange sessionBothWrong)

/-- 'signetringlaw19.SessionOffers': WHATEVER THE INPUT: true; the input reads as it did. -/
def sessionOffersSpec : ChangeSpec := { name := "sessionOffers", fn := fun _ => fun
  | [d] => { results := [.lit (.bool true)], args := [d] }
  | _ => none }
def sessionOffersRow : OpenClaim := { program := "ytbabpibaccngnaagreat", sum := "1b6769aef528a6eec6e3d5b3c648892a614c2696efe5c4f3e04da9eef5027360", func := "signetring/signetringlaw19.SessionOffers", spec := "sessionOffers", inPlace := ["internal/abi.NoEscape", "internal/bytealg.MakeNoZero"], unfollowed := true, recurses := true, plainKeys := false, apart := false }
def SessionOffersSaid : Prop := sessionOffersRow.holds Tryz.pinned (OpenSpec.ofChange sessionOffersSpec)

/-- ITS FALSE NEIGHBOUR: 'it returns false'. Refute it at one input. -/
def sessionOffersWrong : ChangeSpec := { name := "sessionOffers", fn := fun _ => fun
  | [d] => { results := [.lit (.bool false)], args := [d] }
  | _ => none }
def SessionOffersWrongFalsely : Prop := sessionOffersRow.holds Tryz.pinned (OpenSpec.ofChange sessionOffersWrong)

/-- 'signetringlaw20.FanSends': WHATEVER THE INPUT: true; the input reads as it did. -/
def fanSendsSpec : ChangeSpec := { name := "fanSends", fn := fun _ => fun
  | [d1, d2, d3] => { results := [.lit (.bool true)], args := [d1, d2, d3] }
  | _ => none }
def fanSendsRow : OpenClaim := { program := "ytbabpibaccngnaagreat", sum := "1b6769aef528a6eec6e3d5b3c648892a614c2696efe5c4f3e04da9eef5027360", func := "signetring/signetringlaw20.FanSends", spec := "fanSends", inPlace := ["internal/abi.NoEscape", "internal/bytealg.MakeNoZero"], unfollowed := true, recurses := true, plainKeys := false, apart := false }
def FanSendsSaid : Prop := fanSendsRow.holds Tryz.pinned (OpenSpec.ofChange fanSendsSpec)

/-- ITS FALSE NEIGHBOUR: 'it returns false'. Refute it at one input. -/
def fanSendsWrong : ChangeSpec := { name := "fanSends", fn := fun _ => fun
  | [d1, d2, d3] => { results := [.lit (.bool false)], args := [d1, d2, d3] }
  | _ => none }
def FanSendsWrongFalsely : Prop := fanSendsRow.holds Tryz.pinned (OpenSpec.ofChange fanSendsWrong)

/-- 'signetringlaw20.FanArgs': WHATEVER THE INPUT: true; the input reads as it did. -/
def fanArgsSpec : ChangeSpec := { name := "fanArgs", fn := fun _ => fun
  | [d1, d2] => { results := [.lit (.bool true)], args := [d1, d2] }
  | _ => none }
def fanArgsRow : OpenClaim := { program := "ytbabpibaccngnaagreat", sum := "1b6769aef528a6eec6e3d5b3c648892a614c2696efe5c4f3e04da9eef5027360", func := "signetring/signetringlaw20.FanArgs", spec := "fanArgs", inPlace := ["internal/abi.NoEscape", "internal/bytealg.MakeNoZero"], unfollowed := true, recurses := true, plainKeys := false, apart := false }
def FanArgsSaid : Prop := fanArgsRow.holds Tryz.pinned (OpenSpec.ofChange fanArgsSpec)

/-- ITS FALSE NEIGHBOUR: 'it returns false'. Refute it at one input. -/
def fanArgsWrong : ChangeSpec := { name := "fanArgs", fn := fun _ => fun
  | [d1, d2] => { results := [.lit (.bool false)], args := [d1, d2] }
  | _ => none }
def FanArgsWrongFalsely : Prop := fanArgsRow.holds Tryz.pinned (OpenSpec.ofChange fanArgsWrong)

/-- 'signetringlaw22.ScriptDecodes': WHATEVER THE INPUT: true; the input reads as it did. -/
def scriptDecodesSpec : ChangeSpec := { name := "scriptDecodes", fn := fun _ => fun
  | [d] => { results := [.lit (.bool true)], args := [d] }
  | _ => none }
def scriptDecodesRow : OpenClaim := { program := "ytbabpibaccngnaagreat", sum := "1b6769aef528a6eec6e3d5b3c648892a614c2696efe5c4f3e04da9eef5027360", func := "signetring/signetringlaw22.ScriptDecodes", spec := "scriptDecodes", inPlace := ["internal/abi.NoEscape", "internal/bytealg.MakeNoZero"], unfollowed := true, recurses := true, plainKeys := false, apart := false }
def ScriptDecodesSaid : Prop := scriptDecodesRow.holds Tryz.pinned (OpenSpec.ofChange scriptDecodesSpec)

/-- ITS FALSE NEIGHBOUR: 'it returns false'. Refute it at one input. -/
def scriptDecodesWrong : ChangeSpec := { name := "scriptDecodes", fn := fun _ => fun
  | [d] => { results := [.lit (.bool false)], args := [d] }
  | _ => none }
def ScriptDecodesWrongFalsely : Prop := scriptDecodesRow.holds Tryz.pinned (OpenSpec.ofChange scriptDecodesWrong)

/-- 'signetringlaw22.ScriptArgs': WHATEVER THE INPUT: true; the input reads as it did. -/
def scriptArgsSpec : ChangeSpec := { name := "scriptArgs", fn := fun _ => fun
  | [d1, d2] => { results := [.lit (.bool true)], args := [d1, d2] }
  | _ => none }
def scriptArgsRow : OpenClaim := { program := "ytbabpibaccngnaagreat", sum := "1b6769aef528a6eec6e3d5b3c648892a614c2696efe5c4f3e04da9eef5027360", func := "signetring/signetringlaw22.ScriptArgs", spec := "scriptArgs", inPlace := ["internal/abi.NoEscape", "internal/bytealg.MakeNoZero"], unfollowed := true, recurses := true, plainKeys := false, apart := false }
def ScriptArgsSaid : Prop := scriptArgsRow.holds Tryz.pinned (OpenSpec.ofChange scriptArgsSpec)

/-- ITS FALSE NEIGHBOUR: 'it returns false'. Refute it at one input. -/
def scriptArgsWrong : ChangeSpec := { name := "scriptArgs", fn := fun _ => fun
  | [d1, d2] => { results := [.lit (.bool false)], args := [d1, d2] }
  | _ => none }
def ScriptArgsWrongFalsely : Prop := scriptArgsRow.holds Tryz.pinned (OpenSpec.ofChange scriptArgsWrong)

/-- 'signetringlaw22.ScriptCuts': WHATEVER THE INPUT: true; the input reads as it did. -/
def scriptCutsSpec : ChangeSpec := { name := "scriptCuts", fn := fun _ => fun
  | [d1, d2] => { results := [.lit (.bool true)], args := [d1, d2] }
  | _ => none }
def scriptCutsRow : OpenClaim := { program := "ytbabpibaccngnaagreat", sum := "1b6769aef528a6eec6e3d5b3c648892a614c2696efe5c4f3e04da9eef5027360", func := "signetring/signetringlaw22.ScriptCuts", spec := "scriptCuts", inPlace := ["internal/abi.NoEscape", "internal/bytealg.MakeNoZero"], unfollowed := true, recurses := true, plainKeys := false, apart := false }
def ScriptCutsSaid : Prop := scriptCutsRow.holds Tryz.pinned (OpenSpec.ofChange scriptCutsSpec)

/-- ITS FALSE NEIGHBOUR: 'it returns false'. Refute it at one input. -/
def scriptCutsWrong : ChangeSpec := { name := "scriptCuts", fn := fun _ => fun
  | [d1, d2] => { results := [.lit (.bool false)], args := [d1, d2] }
  | _ => none }
def ScriptCutsWrongFalsely : Prop := scriptCutsRow.holds Tryz.pinned (OpenSpec.ofChange scriptCutsWrong)

/- THE SECOND FORM. 'bulk': how many values and letters a reading holds, each counted each time it is reached (what is shared counts as often as it is met; a slice's spare places count too). A statement '..UptoSaid' is the law's where the arguments, and the package variables that the reading takes, are together of bulk at most 1048576: NARROWER than '..Said'. Prove '..Said' where nothing that the law and all that it calls make is longer than what came in: it says more and counts as full. Else prove '..UptoSaid'. A law counts once. -/
mutual
def uptoBulk {H : Type} : DataW H → Nat
  | .lit (.string bytes) => bytes.length + 1
  | .lit _ => 1
  | .nil => 1
  | .ptr d => uptoBulk d + 1
  | .slice elems spare => uptoBulkAll elems + uptoBulkAll spare + 1
  | .agg parts => uptoBulkAll parts + 1
  | .iface _ d => uptoBulk d + 1
  | .map entries => uptoBulkEntries entries + 1
  | .held _ => 1
def uptoBulkAll {H : Type} : List (DataW H) → Nat
  | [] => 0
  | d :: r => uptoBulk d + uptoBulkAll r
def uptoBulkEntries {H : Type} : List (Lit × DataW H) → Nat
  | [] => 0
  | x :: r => uptoBulkEntry x + uptoBulkEntries r
def uptoBulkEntry {H : Type} : Lit × DataW H → Nat
  | (.string bytes, d) => bytes.length + uptoBulk d + 1
  | (_, d) => uptoBulk d + 1
 end
def uptoSmall : (H : Type) → List (DataW H) → Bool := fun _ ds => decide (uptoBulkAll ds ≤ 1048576)
def OpenSpec.upto (s : _root_.Go.ChangeSpec) : _root_.Go.OpenSpec := { _root_.Go.OpenSpec.ofChange s with cond := some uptoSmall }

/-- 'signetringlaw19.SessionAnew', WHERE WHAT IT READS IS OF BULK AT MOST 1048576: true; the input reads as it did. -/
def sessionAnewUptoRow : OpenClaim := { program := "ytbabpibaccngnaagreat", sum := "1b6769aef528a6eec6e3d5b3c648892a614c2696efe5c4f3e04da9eef5027360", func := "signetring/signetringlaw19.SessionAnew", spec := "sessionAnew", inPlace := ["internal/abi.NoEscape", "internal/bytealg.MakeNoZero"], unfollowed := true, recurses := true, plainKeys := false, apart := false, narrowed := true }
def SessionAnewUptoSaid : Prop := sessionAnewUptoRow.holds Tryz.pinned (OpenSpec.upto sessionAnewSpec)

/-- 'signetringlaw19.SessionBoth', WHERE WHAT IT READS IS OF BULK AT MOST 1048576: true; the input reads as it did. -/
def sessionBothUptoRow : OpenClaim := { program := "ytbabpibaccngnaagreat", sum := "1b6769aef528a6eec6e3d5b3c648892a614c2696efe5c4f3e04da9eef5027360", func := "signetring/signetringlaw19.SessionBoth", spec := "sessionBoth", inPlace := ["internal/abi.NoEscape", "internal/bytealg.MakeNoZero"], unfollowed := true, recurses := true, plainKeys := false, apart := false, narrowed := true }
def SessionBothUptoSaid : Prop := sessionBothUptoRow.holds Tryz.pinned (OpenSpec.upto sessionBothSpec)

/-- 'signetringlaw19.SessionOffers', WHERE WHAT IT READS IS OF BULK AT MOST 1048576: true; the input reads as it did. -/
def sessionOffersUptoRow : OpenClaim := { program := "ytbabpibaccngnaagreat", sum := "1b6769aef528a6eec6e3d5b3c648892a614c2696efe5c4f3e04da9eef5027360", func := "signetring/signetringlaw19.SessionOffers", spec := "sessionOffers", inPlace := ["internal/abi.NoEscape", "internal/bytealg.MakeNoZero"], unfollowed := true, recurses := true, plainKeys := false, apart := false, narrowed := true }
def SessionOffersUptoSaid : Prop := sessionOffersUptoRow.holds Tryz.pinned (OpenSpec.upto sessionOffersSpec)

/-- 'signetringlaw20.FanSends', WHERE WHAT IT READS IS OF BULK AT MOST 1048576: true; the input reads as it did. -/
def fanSendsUptoRow : OpenClaim := { program := "ytbabpibaccngnaagreat", sum := "1b6769aef528a6eec6e3d5b3c648892a614c2696efe5c4f3e04da9eef5027360", func := "signetring/signetringlaw20.FanSends", spec := "fanSends", inPlace := ["internal/abi.NoEscape", "internal/bytealg.MakeNoZero"], unfollowed := true, recurses := true, plainKeys := false, apart := false, narrowed := true }
def FanSendsUptoSaid : Prop := fanSendsUptoRow.holds Tryz.pinned (OpenSpec.upto fanSendsSpec)

/-- 'signetringlaw20.FanArgs', WHERE WHAT IT READS IS OF BULK AT MOST 1048576: true; the input reads as it did. -/
def fanArgsUptoRow : OpenClaim := { program := "ytbabpibaccngnaagreat", sum := "1b6769aef528a6eec6e3d5b3c648892a614c2696efe5c4f3e04da9eef5027360", func := "signetring/signetringlaw20.FanArgs", spec := "fanArgs", inPlace := ["internal/abi.NoEscape", "internal/bytealg.MakeNoZero"], unfollowed := true, recurses := true, plainKeys := false, apart := false, narrowed := true }
def FanArgsUptoSaid : Prop := fanArgsUptoRow.holds Tryz.pinned (OpenSpec.upto fanArgsSpec)

/-- 'signetringlaw22.ScriptDecodes', WHERE WHAT IT READS IS OF BULK AT MOST 1048576: true; the input reads as it did. -/
def scriptDecodesUptoRow : OpenClaim := { program := "ytbabpibaccngnaagreat", sum := "1b6769aef528a6eec6e3d5b3c648892a614c2696efe5c4f3e04da9eef5027360", func := "signetring/signetringlaw22.ScriptDecodes", spec := "scriptDecodes", inPlace := ["internal/abi.NoEscape", "internal/bytealg.MakeNoZero"], unfollowed := true, recurses := true, plainKeys := false, apart := false, narrowed := true }
def ScriptDecodesUptoSaid : Prop := scriptDecodesUptoRow.holds Tryz.pinned (OpenSpec.upto scriptDecodesSpec)

/-- 'signetringlaw22.ScriptArgs', WHERE WHAT IT READS IS OF BULK AT MOST 1048576: true; the input reads as it did. -/
def scriptArgsUptoRow : OpenClaim := { program := "ytbabpibaccngnaagreat", sum := "1b6769aef528a6eec6e3d5b3c648892a614c2696efe5c4f3e04da9eef5027360", func := "signetring/signetringlaw22.ScriptArgs", spec := "scriptArgs", inPlace := ["internal/abi.NoEscape", "internal/bytealg.MakeNoZero"], unfollowed := true, recurses := true, plainKeys := false, apart := false, narrowed := true }
def ScriptArgsUptoSaid : Prop := scriptArgsUptoRow.holds Tryz.pinned (OpenSpec.upto scriptArgsSpec)

/-- 'signetringlaw22.ScriptCuts', WHERE WHAT IT READS IS OF BULK AT MOST 1048576: true; the input reads as it did. -/
def scriptCutsUptoRow : OpenClaim := { program := "ytbabpibaccngnaagreat", sum := "1b6769aef528a6eec6e3d5b3c648892a614c2696efe5c4f3e04da9eef5027360", func := "signetring/signetringlaw22.ScriptCuts", spec := "scriptCuts", inPlace := ["internal/abi.NoEscape", "internal/bytealg.MakeNoZero"], unfollowed := true, recurses := true, plainKeys := false, apart := false, narrowed := true }
def ScriptCutsUptoSaid : Prop := scriptCutsUptoRow.holds Tryz.pinned (OpenSpec.upto scriptCutsSpec)

end Rows
end Go.Proofs.YtbabpibaccngnaaGreat
