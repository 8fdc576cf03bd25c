/- PrimsReal: what those of bytes answer is what the layers ahead do, of keys; of others nothing. No conditions. -/
import Derived.Test.YtfinnljkcgglfaaGreatDoorRows
import Derived.Test.YtfinnljkcgglfaaGreatDoorTie
import Derived.Test.YtfinnljkcgglfaaGreatDoorCards
import Derived.Test.YtfinnljkcgglfaaGreatDoorZv4
import Derived.Test.YtfinnljkcgglfaaGreatDoorZrRJ
import Derived.SevenTiedAt
import Derived.ProofKit
import Derived.Stop.Joined
namespace Go.Proofs.YtfinnljkcgglfaaGreatDoor
open Go Go.ChangeShapes Go.WideShapes Go.ChangeAt Go.RowKit Go.Vs
set_option maxRecDepth 100000

theorem Tryz.own : ownKnob Tryz.prog.godebug = none := by kernel_rfl
theorem Tryz.laidOut : laidOutB Tryz.prog = true := by kernel_rfl

def laid2 : List (String × DataW Unit) := [("signetring/ladder.a24", Rows.laid_signetring_ladder_a24), ("signetring/sha.start", Rows.laid_signetring_sha_start), ("signetring/sha.constants", Rows.laid_signetring_sha_constants)]
def startN : List Int := [1779033703, 3144134277, 1013904242, 2773480762, 1359893119, 2600822924, 528734635, 1541459225]
def constsN : List Int := GX.consts.map fun v => match v with
  | .int _ n => n
  | _ => 0
def a24N : List Int := [65, 219, 1, 0, 0, 0, 0, 0, 0, 0, 0, 0, 0, 0, 0, 0, 0, 0, 0, 0, 0, 0, 0, 0, 0, 0, 0, 0, 0, 0, 0, 0]
theorem gA24 : Tryz.prog.globalNamed "signetring/ladder.a24" = some 1 := by kernel_rfl
theorem gStart : Tryz.prog.globalNamed "signetring/sha.start" = some 0 := by kernel_rfl
theorem gConsts : Tryz.prog.globalNamed "signetring/sha.constants" = some 2 := by kernel_rfl

/-- The door's own heap meets the condition. -/
theorem door_met (os : Os) (args : Array Value) : laidMetH Tryz.prog laid2 ((World.doorLaid Tryz.prog 2000 os).forCall (fun _ _ => 0) ⟨#[], args, []⟩).memory :=
  laidMetH_of_parts3 (fuel := 8) (laidMet_of_run' 8 (by kernel_rfl) (by kernel_rfl)) (by kernel_rfl) (by kernel_rfl)

theorem gr_of_laid {W : World} (h : laidMetH Tryz.prog laid2 W) : GR RX (frzE W) := by
  rw [MakeChecks.laidMetH_plain _ _ _ (by kernel_rfl)] at h
  obtain ⟨ps, ⟨g2, t2, cs2, f2, p2, q2, hg2, ht2, hv2, hd2, ⟨g0, t0, cs0, f0, p0, q0, hg0, ht0, hv0, hd0, ⟨g1, t1, cs1, f1, p1, q1, hg1, ht1, hv1, hd1, _, _⟩, _⟩, _⟩, _, _⟩ := h
  obtain rfl := Option.some.inj (gA24.symm.trans hg2)
  obtain rfl := Option.some.inj (gStart.symm.trans hg0)
  obtain rfl := Option.some.inj (gConsts.symm.trans hg1)
  intro g
  match g with
  | 0 => exact laid_ints (ns := startN) (e := _) gStart hv0 (show Tryz.prog.underlying t0 = some (.array 8 (match (Tryz.prog.globals[0]?).map (·.type) with | some t => (match Tryz.prog.underlying t with | some (.array _ e) => e | _ => 0) | none => 0)) by cases ht0; kernel_rfl) (by kernel_rfl) (by kernel_rfl) hd0
  | 2 => exact laid_ints (ns := constsN) (e := _) gConsts hv1 (show Tryz.prog.underlying t1 = some (.array 64 (match (Tryz.prog.globals[2]?).map (·.type) with | some t => (match Tryz.prog.underlying t with | some (.array _ e) => e | _ => 0) | none => 0)) by cases ht1; kernel_rfl) (by kernel_rfl) (by kernel_rfl) hd1
  | 1 => exact laid_ints (ns := a24N) (e := _) gA24 hv2 (show Tryz.prog.underlying t2 = some (.array 32 (match (Tryz.prog.globals[1]?).map (·.type) with | some t => (match Tryz.prog.underlying t with | some (.array _ e) => e | _ => 0) | none => 0)) by cases ht2; kernel_rfl) (by kernel_rfl) (by kernel_rfl) hd2
  | n + 3 => exact fp_nil _ _

theorem primsReal_lifted (os : Os) (started : os.Started) (H : Type) (enc : TypeId × Value → H) :
    ReturnsInHanded {} Tryz.checked os 3 .any (fun w args => (Rows.primsRealSpec.pre enc Tryz.prog Tryz.f3 Rows.primsRealRow.domain false w args ∧ laidMetH Tryz.prog laid2 w) ∧ sizedMet enc Tryz.prog Tryz.f3 (OpenSpec.ofChange Rows.primsRealSpec) false w args)
      (Rows.primsRealSpec.post enc Tryz.prog Tryz.f3 false true false false) := by
  refine returnsInHanded_of_change_and (C := Tryz.checked) (X := fun w _ => laidMetH Tryz.prog laid2 w) (fun _ _ _ hh h => h.of_heap hh) Tryz.own started (by kernel_rfl) Tryz.func3
    (ChangeSpec.witness_shaped (enc := enc) (C := Tryz.checked) (os := os) (X := fun w _ => laidMetH Tryz.prog laid2 w) false (World.doorLaid Tryz.prog 2000 os) #[.agg #[.string ⟨#[]⟩, .string ⟨#[]⟩, .int .u64 0, .string ⟨#[]⟩, .string ⟨#[]⟩], .int .i64 0] 8 rfl (World.shaped_of_RefB (by kernel_rfl) (by kernel_rfl)) (by kernel_rfl) (by kernel_rfl) (by kernel_rfl) (door_met os _)) ?_
  intro W base args ds gs before hval hW _ _ hL _
  refine law_contractG (x := RX) (Ts := [.agg [.str, .str, .int .u64, .str, .str], .int .i64]) (tb := 4) Tryz.laidOut rfl (by kernel_rfl) (by kernel_rfl) (by kernel_rfl) (by kernel_rfl) (fun ds hl => ?_) (fun xs hx => ?_) (gr_of_laid hL) hval hW
  · match ds, hl with
    | [d1, d2], _ => rfl
  · obtain ⟨f, _, rfl, ⟨hf, h2⟩, g, _, rfl, ⟨hg, h3⟩, rfl⟩ := hx
    have h2 : f = .agg f.cells := h2
    obtain ⟨a1, r1, e1, l1, ⟨s1, rfl, _⟩, a2, r2, e2, l2, ⟨s2, rfl, _⟩, a3, r3, e3, l3, ⟨n3, rfl, h0, h4⟩, a4, r4, e4, l4, ⟨s4, rfl, _⟩, a5, r5, e5, l5, ⟨s5, rfl, _⟩, e6⟩ := hf
    subst e6 e5 e4 e3 e2
    rw [e1] at h2
    subst h2
    obtain ⟨m, e8, _, _⟩ := hg
    have h3 : g.cells = [g] := h3
    rw [h3] at e8
    injection e8 with e8 _
    subst e8
    have h0 : (0 : Int) ≤ n3 := h0
    have h4 : n3 ≤ 18446744073709551615 := h4
    obtain ⟨N, rfl⟩ : ∃ N : Nat, n3 = N := ⟨n3.toNat, by omega⟩
    exact real_law (A := s1) (B := s2) (N := N) (Ad := s4) (X := s5) m

theorem primsReal_row : Rows.PrimsRealSaid :=
  OpenClaim.holds_of_wide 3 Tryz.f3 rfl rfl rfl rfl rfl rfl rfl ⟨rfl, rfl, rfl, rfl, rfl⟩ rfl rfl rfl rfl rfl (by kernel_rfl) Tryz.func3 (by kernel_rfl)
    (of_decide_eq_true (by kernel_rfl)) (by unfold Func.isWrapper; first | (rw [if_pos (by decide +kernel)]; kernel_rfl) | (rw [if_neg (by decide +kernel)]; exact ⟨rfl, rfl⟩))
    (fun os started H enc _ => primsReal_lifted os started H enc)

theorem primsReal_holds : Rows.PrimsRealCardSaid :=
  Claim7.holds_tied_plain_at .later [] [.data, .data, .data] true (true, "4ddf46d4a387b3efa093f0aa5dc49f4a1e67050ef9df6a264e74ddccc1d47809") true
    primsReal_row (fun _ h => by cases h) (by kernel_rfl) (fun _ h => by cases h) primsReal_row_tie rfl ⟨rfl, rfl⟩ (by kernel_rfl) rfl
    (fun f fn hf hfn => by
      obtain rfl : f = 3 := Option.some.inj ((show Tryz.prog.funcNamed "signetring/signetringlaw11.PrimsReal" = some 3 by kernel_rfl).symm.trans hf) |>.symm
      obtain rfl : fn = Tryz.f3 := (Option.some.inj (Tryz.func3.symm.trans hfn)).symm
      exact ⟨by kernel_rfl, fun j t ht => by
        have hm : t ∈ Tryz.f3.params.toList := by simpa using Array.mem_of_getElem? ht
        have hall : (Tryz.f3.params.toList.all fun u => !Tryz.prog.wantsStandIn u) = true := by kernel_rfl
        exact (show Tryz.prog.wantsStandIn t = false by simpa using List.all_eq_true.1 hall t hm)⟩)
    (by kernel_rfl)
#print axioms primsReal_holds
end Go.Proofs.YtfinnljkcgglfaaGreatDoor
