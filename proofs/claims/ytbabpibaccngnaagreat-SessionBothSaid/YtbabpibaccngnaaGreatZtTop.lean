/- SessionBoth: whatever the input, the law returns true; the input reads behind the call as it did. No conditions. -/
import Derived.Test.YtbabpibaccngnaaGreatRows
import Derived.Test.YtbabpibaccngnaaGreatZtC
namespace Go.Proofs.YtbabpibaccngnaaGreat
open Go.ChangeShapes Go.WideShapes Go.ChangeAt Go.RowKit Go.Vs

theorem Tryz.own : ownKnob Tryz.prog.godebug = none := by kernel_rfl
theorem Tryz.laidOut : laidOutB Tryz.prog = true := by kernel_rfl

set_option maxRecDepth 100000 in
theorem sessionBoth_lifted (os : Os) (started : os.Started) (H : Type) (enc : TypeId × Value → H) :
    ReturnsInHanded {} Tryz.checked os 4 .any (Rows.sessionBothSpec.pre6 enc Tryz.prog Tryz.f4 Rows.sessionBothRow.domain false) (Rows.sessionBothSpec.post enc Tryz.prog Tryz.f4 false true false false) := by
  refine returnsInHanded_of_change (C := Tryz.checked) Tryz.own started (by kernel_rfl) Tryz.func4
    (ChangeSpec.witness6 (enc := enc) (C := Tryz.checked) false ⟨#[], #[.bool false, .int .u8 0], []⟩ 8 (by kernel_rfl) (by kernel_rfl) (by kernel_rfl) (by kernel_rfl)) ?_
  intro W base args ds gs before hval hW hcnd _
  refine law_contract (x := CX) (Ts := [.bool, .int .u8]) (tb := 4) Tryz.laidOut rfl (by kernel_rfl) (by kernel_rfl) (by kernel_rfl) (by kernel_rfl) (fun ds hl => ?_) CX.gr (fun xs hx => ?_) hval hW
  · match ds, hl with
    | [d1, d2], _ => rfl
  · obtain ⟨b, _, rfl, ⟨⟨b', h1⟩, h2⟩, g, _, rfl, ⟨hg, h3⟩, rfl⟩ := hx
    have h2 : b.cells = [b] := h2
    rw [h2] at h1
    injection h1 with h1 _
    subst h1
    obtain ⟨n, h1, h0, _⟩ := hg
    have h3 : g.cells = [g] := h3
    rw [h3] at h1
    injection h1 with h1 _
    subst h1
    cases b' with
    | false => exact SB.g0 n h0
    | true => exact SB.g1 n h0

theorem sessionBoth_holds : Rows.SessionBothSaid :=
  OpenClaim.holds_of_wide 4 Tryz.f4 rfl rfl rfl rfl rfl rfl rfl ⟨rfl, rfl, rfl, rfl, rfl⟩ rfl rfl rfl rfl rfl (by kernel_rfl) Tryz.func4 (by kernel_rfl)
    (of_decide_eq_true (by kernel_rfl)) (by unfold Func.isWrapper; first | (rw [if_pos (by decide +kernel)]; kernel_rfl) | (rw [if_neg (by decide +kernel)]; exact ⟨rfl, rfl⟩))
    (fun os started H enc _ => sessionBoth_lifted os started H enc)
#print axioms sessionBoth_holds
end Go.Proofs.YtbabpibaccngnaaGreat
