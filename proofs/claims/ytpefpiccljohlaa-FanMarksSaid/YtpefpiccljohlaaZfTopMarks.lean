/- FanMarks: whatever the input, the law returns true; the input reads behind the call as it did. No conditions. -/
import Derived.Test.YtpefpiccljohlaaRows
import Derived.Test.YtpefpiccljohlaaZfArgs
import Derived.Test.YtpefpiccljohlaaZfLaw5
namespace Go.Proofs.Ytpefpiccljohlaa
open Go.ChangeShapes Go.WideShapes Go.ChangeAt Go.RowKit Go.Vs

theorem Try.own : ownKnob Try.prog.godebug = none := by kernel_rfl
theorem Try.laidOut : laidOutB Try.prog = true := by kernel_rfl

set_option maxRecDepth 100000 in
theorem fanMarks_lifted (os : Os) (started : os.Started) (H : Type) (enc : TypeId × Value → H) :
    ReturnsInHanded {} Try.checked os 7 .any (Rows.fanMarksSpec.pre6 enc Try.prog Try.f7 Rows.fanMarksRow.domain false) (Rows.fanMarksSpec.post enc Try.prog Try.f7 false true false false) := by
  refine returnsInHanded_of_change (C := Try.checked) Try.own started (by kernel_rfl) Try.func7
    (ChangeSpec.witness6 (enc := enc) (C := Try.checked) false ⟨#[], #[.slice none 0 0, .agg #[.string ⟨#[]⟩, .int .u64 0], .string ⟨#[]⟩], []⟩ 8 (by kernel_rfl) (by kernel_rfl) (by kernel_rfl) (by kernel_rfl)) ?_
  intro W base args ds gs before hval hW hcnd _
  refine law_contract (x := FX) (Ts := [TyM, TyMk, .str]) (tb := 4) Try.laidOut rfl (by kernel_rfl) (by kernel_rfl) (by kernel_rfl) (by kernel_rfl) (fun ds hl => ?_) FX.gr (fun xs hx => ?_) hval hW
  · match ds, hl with
    | [d1, d2, d3], _ => rfl
  · obtain ⟨g, _, rfl, hg, p, _, rfl, hp, q, _, rfl, hq, rfl⟩ := hx
    obtain ⟨ms, h1, h2, _⟩ := has_marks hg
    obtain ⟨m, rfl, h3⟩ := has_mark hp
    obtain ⟨s', rfl, h4⟩ := has_str hq
    exact fanMarks_law h1 h2 h3

theorem fanMarks_holds : Rows.FanMarksSaid :=
  OpenClaim.holds_of_wide 7 Try.f7 rfl rfl rfl rfl rfl rfl rfl ⟨rfl, rfl, rfl, rfl, rfl⟩ rfl rfl rfl rfl rfl (by kernel_rfl) Try.func7 (by kernel_rfl)
    (of_decide_eq_true (by kernel_rfl)) (by unfold Func.isWrapper; first | (rw [if_pos (by decide +kernel)]; kernel_rfl) | (rw [if_neg (by decide +kernel)]; exact ⟨rfl, rfl⟩))
    (fun os started H enc _ => fanMarks_lifted os started H enc)
#print axioms fanMarks_holds
end Go.Proofs.Ytpefpiccljohlaa
