/- ScriptCuts: whatever the input, the law returns true; the input reads behind the call as it did. No conditions. -/
import Derived.Test.YtbabpibaccngnaaGreatRows
import Derived.Test.YtbabpibaccngnaaGreatZkArgs
namespace Go.Proofs.YtbabpibaccngnaaGreat
open Go.ChangeShapes Go.WideShapes Go.ChangeAt Go.RowKit Go.Vs

theorem Tryz.own : ownKnob Tryz.prog.godebug = none := by kernel_rfl
theorem Tryz.laidOut : laidOutB Tryz.prog = true := by kernel_rfl

set_option maxRecDepth 100000 in
theorem scriptCuts_lifted (os : Os) (started : os.Started) (H : Type) (enc : TypeId × Value → H) :
    ReturnsInHanded {} Tryz.checked os 10 .any (Rows.scriptCutsSpec.pre6 enc Tryz.prog Tryz.f10 Rows.scriptCutsRow.domain false) (Rows.scriptCutsSpec.post enc Tryz.prog Tryz.f10 false true false false) := by
  refine returnsInHanded_of_change (C := Tryz.checked) Tryz.own started (by kernel_rfl) Tryz.func10
    (ChangeSpec.witness6 (enc := enc) (C := Tryz.checked) false ⟨#[], #[.slice none 0 0, .int .u16 0], []⟩ 8 (by kernel_rfl) (by kernel_rfl) (by kernel_rfl) (by kernel_rfl)) ?_
  intro W base args ds gs before hval hW hcnd _
  refine law_contract (x := CX) (Ts := [.sl (.int .u8) false, .int .u16]) (tb := 4) Tryz.laidOut rfl (by kernel_rfl) (by kernel_rfl) (by kernel_rfl) (by kernel_rfl) (fun ds hl => ?_) CX.gr (fun xs hx => ?_) hval hW
  · match ds, hl with
    | [d1, d2], _ => rfl
  · obtain ⟨b, _, rfl, hb, g, _, rfl, ⟨hg, h3⟩, rfl⟩ := hx
    obtain ⟨s, hs, hl⟩ := has_bytes hb
    obtain ⟨n, h1, h0, h4⟩ := hg
    have h3 : g.cells = [g] := h3
    rw [h3] at h1
    injection h1 with h1 _
    subst h1
    have h0 : (0 : Int) ≤ n := h0
    have h4 : n ≤ 65535 := h4
    exact cuts_law hs h0 (by omega)

theorem scriptCuts_holds : Rows.ScriptCutsSaid :=
  OpenClaim.holds_of_wide 10 Tryz.f10 rfl rfl rfl rfl rfl rfl rfl ⟨rfl, rfl, rfl, rfl, rfl⟩ rfl rfl rfl rfl rfl (by kernel_rfl) Tryz.func10 (by kernel_rfl)
    (of_decide_eq_true (by kernel_rfl)) (by unfold Func.isWrapper; first | (rw [if_pos (by decide +kernel)]; kernel_rfl) | (rw [if_neg (by decide +kernel)]; exact ⟨rfl, rfl⟩))
    (fun os started H enc _ => scriptCuts_lifted os started H enc)
#print axioms scriptCuts_holds
end Go.Proofs.YtbabpibaccngnaaGreat
