/- ScriptArgs: whatever the input, the law returns true; the input reads behind the call as it did. No conditions. -/
import Derived.Test.YtbabpibaccngnaaGreatRows
import Derived.Test.YtbabpibaccngnaaGreatZaLaw
namespace Go.Proofs.YtbabpibaccngnaaGreat
open Go.ChangeShapes Go.WideShapes Go.ChangeAt Go.RowKit Go.Vs

theorem Tryz.own : ownKnob Tryz.prog.godebug = none := by kernel_rfl
theorem Tryz.laidOut : laidOutB Tryz.prog = true := by kernel_rfl

set_option maxRecDepth 100000 in
theorem scriptArgs_lifted (os : Os) (started : os.Started) (H : Type) (enc : TypeId × Value → H) :
    ReturnsInHanded {} Tryz.checked os 9 .any (Rows.scriptArgsSpec.pre6 enc Tryz.prog Tryz.f9 Rows.scriptArgsRow.domain false) (Rows.scriptArgsSpec.post enc Tryz.prog Tryz.f9 false true false false) := by
  refine returnsInHanded_of_change (C := Tryz.checked) Tryz.own started (by kernel_rfl) Tryz.func9
    (ChangeSpec.witness6 (enc := enc) (C := Tryz.checked) false ⟨#[], #[.int .i64 0, .int .u16 0], []⟩ 8 (by kernel_rfl) (by kernel_rfl) (by kernel_rfl) (by kernel_rfl)) ?_
  intro W base args ds gs before hval hW hcnd _
  refine law_contract (x := CX) (Ts := [.int .i64, .int .u16]) (tb := 4) Tryz.laidOut rfl (by kernel_rfl) (by kernel_rfl) (by kernel_rfl) (by kernel_rfl) (fun ds hl => ?_) CX.gr (fun xs hx => ?_) hval hW
  · match ds, hl with
    | [d1, d2], _ => rfl
  · obtain ⟨f, _, rfl, ⟨hf, h2⟩, g, _, rfl, ⟨hg, h3⟩, rfl⟩ := hx
    obtain ⟨a, e1, _, _⟩ := hf
    obtain ⟨n, e2, h0, h4⟩ := hg
    have h2 : f.cells = [f] := h2
    have h3 : g.cells = [g] := h3
    rw [h2] at e1
    rw [h3] at e2
    injection e1 with e1 _
    injection e2 with e2 _
    subst e1
    subst e2
    have h0 : (0 : Int) ≤ n := h0
    have h4 : n ≤ 65535 := h4
    exact args_law h0 (by omega)

theorem scriptArgs_holds : Rows.ScriptArgsSaid :=
  OpenClaim.holds_of_wide 9 Tryz.f9 rfl rfl rfl rfl rfl rfl rfl ⟨rfl, rfl, rfl, rfl, rfl⟩ rfl rfl rfl rfl rfl (by kernel_rfl) Tryz.func9 (by kernel_rfl)
    (of_decide_eq_true (by kernel_rfl)) (by unfold Func.isWrapper; first | (rw [if_pos (by decide +kernel)]; kernel_rfl) | (rw [if_neg (by decide +kernel)]; exact ⟨rfl, rfl⟩))
    (fun os started H enc _ => scriptArgs_lifted os started H enc)
#print axioms scriptArgs_holds
end Go.Proofs.YtbabpibaccngnaaGreat
