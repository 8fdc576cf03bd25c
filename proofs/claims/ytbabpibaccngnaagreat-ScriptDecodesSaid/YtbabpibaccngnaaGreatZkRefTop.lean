/- ScriptDecodes: whatever the input, the law returns true; the input reads behind the call as it did. No conditions. -/
import Derived.Test.YtbabpibaccngnaaGreatRows
import Derived.Test.YtbabpibaccngnaaGreatZkRef3
namespace Go.Proofs.YtbabpibaccngnaaGreat
open Go.ChangeShapes Go.WideShapes Go.ChangeAt Go.RowKit Go.Vs

theorem Tryz.own : ownKnob Tryz.prog.godebug = none := by kernel_rfl
theorem Tryz.laidOut : laidOutB Tryz.prog = true := by kernel_rfl

set_option maxRecDepth 100000 in
theorem scriptDecodes_lifted (os : Os) (started : os.Started) (H : Type) (enc : TypeId × Value → H) :
    ReturnsInHanded {} Tryz.checked os 8 .any (Rows.scriptDecodesSpec.pre6 enc Tryz.prog Tryz.f8 Rows.scriptDecodesRow.domain false) (Rows.scriptDecodesSpec.post enc Tryz.prog Tryz.f8 false true false false) := by
  refine returnsInHanded_of_change (C := Tryz.checked) Tryz.own started (by kernel_rfl) Tryz.func8
    (ChangeSpec.witness6 (enc := enc) (C := Tryz.checked) false ⟨#[], #[.slice none 0 0], []⟩ 8 (by kernel_rfl) (by kernel_rfl) (by kernel_rfl) (by kernel_rfl)) ?_
  intro W base args ds gs before hval hW hcnd _
  refine law_contract (x := CX) (Ts := [.sl (.int .u8) false]) (tb := 4) Tryz.laidOut rfl (by kernel_rfl) (by kernel_rfl) (by kernel_rfl) (by kernel_rfl) (fun ds hl => ?_) CX.gr (fun xs hx => ?_) hval hW
  · match ds, hl with
    | [d1], _ => rfl
  · obtain ⟨b, _, rfl, hb, rfl⟩ := hx
    obtain ⟨s, hs, hl⟩ := has_bytes hb
    exact decodes_law hs

theorem scriptDecodes_holds : Rows.ScriptDecodesSaid :=
  OpenClaim.holds_of_wide 8 Tryz.f8 rfl rfl rfl rfl rfl rfl rfl ⟨rfl, rfl, rfl, rfl, rfl⟩ rfl rfl rfl rfl rfl (by kernel_rfl) Tryz.func8 (by kernel_rfl)
    (of_decide_eq_true (by kernel_rfl)) (by unfold Func.isWrapper; first | (rw [if_pos (by decide +kernel)]; kernel_rfl) | (rw [if_neg (by decide +kernel)]; exact ⟨rfl, rfl⟩))
    (fun os started H enc _ => scriptDecodes_lifted os started H enc)
#print axioms scriptDecodes_holds
end Go.Proofs.YtbabpibaccngnaaGreat
