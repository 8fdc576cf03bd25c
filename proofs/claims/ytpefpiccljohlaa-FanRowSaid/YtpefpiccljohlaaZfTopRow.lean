/- FanRow: whatever the input, the law returns true; the input reads behind the call as it did. No conditions. -/
import Derived.Test.YtpefpiccljohlaaRows
import Derived.Test.YtpefpiccljohlaaZfArgs
import Derived.Test.YtpefpiccljohlaaZfLaw5
namespace Go.Proofs.Ytpefpiccljohlaa
open Go.ChangeShapes Go.WideShapes Go.ChangeAt Go.RowKit Go.Vs

theorem Try.own : ownKnob Try.prog.godebug = none := by kernel_rfl
theorem Try.laidOut : laidOutB Try.prog = true := by kernel_rfl

set_option maxRecDepth 100000 in
theorem fanRow_lifted (os : Os) (started : os.Started) (H : Type) (enc : TypeId × Value → H) :
    ReturnsInHanded {} Try.checked os 6 .any (Rows.fanRowSpec.pre6 enc Try.prog Try.f6 Rows.fanRowRow.domain false) (Rows.fanRowSpec.post enc Try.prog Try.f6 false true false false) := by
  refine returnsInHanded_of_change (C := Try.checked) Try.own started (by kernel_rfl) Try.func6
    (ChangeSpec.witness6 (enc := enc) (C := Try.checked) false ⟨#[], #[.slice none 0 0, .string ⟨#[]⟩], []⟩ 8 (by kernel_rfl) (by kernel_rfl) (by kernel_rfl) (by kernel_rfl)) ?_
  intro W base args ds gs before hval hW hcnd _
  refine law_contract (x := FX) (Ts := [TyS, .str]) (tb := 4) Try.laidOut rfl (by kernel_rfl) (by kernel_rfl) (by kernel_rfl) (by kernel_rfl) (fun ds hl => ?_) FX.gr (fun xs hx => ?_) hval hW
  · match ds, hl with
    | [d1, d2], _ => rfl
  · obtain ⟨g, _, rfl, hg, p, _, rfl, hp, rfl⟩ := hx
    obtain ⟨ps, h1, h2⟩ := has_strs hg
    obtain ⟨s, rfl, h3⟩ := has_str hp
    exact fanRow_law h1 h2

theorem fanRow_holds : Rows.FanRowSaid :=
  OpenClaim.holds_of_wide 6 Try.f6 rfl rfl rfl rfl rfl rfl rfl ⟨rfl, rfl, rfl, rfl, rfl⟩ rfl rfl rfl rfl rfl (by kernel_rfl) Try.func6 (by kernel_rfl)
    (of_decide_eq_true (by kernel_rfl)) (by unfold Func.isWrapper; first | (rw [if_pos (by decide +kernel)]; kernel_rfl) | (rw [if_neg (by decide +kernel)]; exact ⟨rfl, rfl⟩))
    (fun os started H enc _ => fanRow_lifted os started H enc)
#print axioms fanRow_holds
end Go.Proofs.Ytpefpiccljohlaa
