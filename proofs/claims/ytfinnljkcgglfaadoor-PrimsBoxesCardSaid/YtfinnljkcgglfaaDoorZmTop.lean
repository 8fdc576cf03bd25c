/- PrimsBoxes: what those of bytes seal and open is what layer 7 does, of keys; of others nothing, or ErrKey. No conditions. -/
import Derived.Test.YtfinnljkcgglfaaDoorRows
import Derived.Test.YtfinnljkcgglfaaDoorTie
import Derived.Test.YtfinnljkcgglfaaDoorCards
import Derived.Test.YtfinnljkcgglfaaDoorZv4
import Derived.Test.YtfinnljkcgglfaaDoorZmMJ
import Derived.SevenTiedAt
import Derived.ProofKit
import Derived.Stop.Joined
namespace Go.Proofs.YtfinnljkcgglfaaDoor
open Go Go.ChangeShapes Go.WideShapes Go.ChangeAt Go.RowKit Go.Vs
set_option maxRecDepth 100000

theorem Tryd.own : ownKnob Tryd.prog.godebug = none := by kernel_rfl
theorem Tryd.laidOut : laidOutB Tryd.prog = true := by kernel_rfl

def laid2 : List (String × DataW Unit) := [("signetring/stream.first", Rows.laid_signetring_stream_first), ("signetring/sha.start", Rows.laid_signetring_sha_start), ("signetring/sha.constants", Rows.laid_signetring_sha_constants)]
def startN : List Int := [1779033703, 3144134277, 1013904242, 2773480762, 1359893119, 2600822924, 528734635, 1541459225]
def constsN : List Int := DX.consts.map fun v => match v with
  | .int _ n => n
  | _ => 0
def firstN : List Int := [1634760805, 857760878, 2036477234, 1797285236]
def firstV : List V := firstN.map fun n => .int .u32 n
theorem gFirst : Tryd.prog.globalNamed "signetring/stream.first" = some 1 := by kernel_rfl
theorem gStart : Tryd.prog.globalNamed "signetring/sha.start" = some 0 := by kernel_rfl
theorem gConsts : Tryd.prog.globalNamed "signetring/sha.constants" = some 2 := by kernel_rfl

/-- The door's own heap meets the condition. -/
theorem door_met (os : Os) (args : Array Value) : laidMetH Tryd.prog laid2 ((World.doorLaid Tryd.prog 2000 os).forCall (fun _ _ => 0) ⟨#[], args, []⟩).memory :=
  laidMetH_of_parts3 (fuel := 8) (laidMet_of_run' 8 (by kernel_rfl) (by kernel_rfl)) (by kernel_rfl) (by kernel_rfl)

theorem gr_of {W : World} (h : laidMetH Tryd.prog laid2 W) : GR (BX firstV) (frzE W) := by
  rw [MakeChecks.laidMetH_plain _ _ _ (by kernel_rfl)] at h
  obtain ⟨ps, ⟨g2, t2, cs2, f2, p2, q2, hg2, ht2, hv2, hd2, ⟨g0, t0, cs0, f0, p0, q0, hg0, ht0, hv0, hd0, ⟨g1, t1, cs1, f1, p1, q1, hg1, ht1, hv1, hd1, _, _⟩, _⟩, _⟩, _, _⟩ := h
  obtain rfl := Option.some.inj (gFirst.symm.trans hg2)
  obtain rfl := Option.some.inj (gStart.symm.trans hg0)
  obtain rfl := Option.some.inj (gConsts.symm.trans hg1)
  intro g
  match g with
  | 0 => exact laid_ints (ns := startN) (e := _) gStart hv0 (show Tryd.prog.underlying t0 = some (.array 8 (match (Tryd.prog.globals[0]?).map (·.type) with | some t => (match Tryd.prog.underlying t with | some (.array _ e) => e | _ => 0) | none => 0)) by cases ht0; kernel_rfl) (by kernel_rfl) (by kernel_rfl) hd0
  | 2 => exact laid_ints (ns := constsN) (e := _) gConsts hv1 (show Tryd.prog.underlying t1 = some (.array 64 (match (Tryd.prog.globals[2]?).map (·.type) with | some t => (match Tryd.prog.underlying t with | some (.array _ e) => e | _ => 0) | none => 0)) by cases ht1; kernel_rfl) (by kernel_rfl) (by kernel_rfl) hd1
  | 1 => exact laid_ints (ns := firstN) (e := _) gFirst hv2 (show Tryd.prog.underlying t2 = some (.array 4 (match (Tryd.prog.globals[1]?).map (·.type) with | some t => (match Tryd.prog.underlying t with | some (.array _ e) => e | _ => 0) | none => 0)) by cases ht2; kernel_rfl) (by kernel_rfl) (by kernel_rfl) hd2
  | n + 3 => exact fp_nil _ _

theorem primsBoxes_lifted (os : Os) (started : os.Started) (H : Type) (enc : TypeId × Value → H) :
    ReturnsInHanded {} Tryd.checked os 4 .any (fun w args => (Rows.primsBoxesSpec.pre enc Tryd.prog Tryd.f4 Rows.primsBoxesRow.domain false w args ∧ laidMetH Tryd.prog laid2 w) ∧ sizedMet enc Tryd.prog Tryd.f4 (OpenSpec.ofChange Rows.primsBoxesSpec) false w args)
      (Rows.primsBoxesSpec.post enc Tryd.prog Tryd.f4 false true false false) := by
  refine returnsInHanded_of_change_and (C := Tryd.checked) (X := fun w _ => laidMetH Tryd.prog laid2 w) (fun _ _ _ hh h => h.of_heap hh) Tryd.own started (by kernel_rfl) Tryd.func4
    (ChangeSpec.witness_shaped (enc := enc) (C := Tryd.checked) (os := os) (X := fun w _ => laidMetH Tryd.prog laid2 w) false (World.doorLaid Tryd.prog 2000 os) #[.agg #[.string ⟨#[]⟩, .string ⟨#[]⟩, .int .u64 0, .string ⟨#[]⟩, .string ⟨#[]⟩]] 8 rfl (World.shaped_of_RefB (by kernel_rfl) (by kernel_rfl)) (by kernel_rfl) (by kernel_rfl) (by kernel_rfl) (door_met os _)) ?_
  intro W base args ds gs before hval hW _ _ hL _
  refine law_contractG (x := BX firstV) (Ts := [.agg [.str, .str, .int .u64, .str, .str]]) (tb := 4) Tryd.laidOut rfl (by kernel_rfl) (by kernel_rfl) (by kernel_rfl) (by kernel_rfl) (fun ds hl => ?_) (fun xs hx => ?_) (gr_of hL) hval hW
  · match ds, hl with
    | [d1], _ => rfl
  · obtain ⟨f, _, rfl, ⟨hf, h2⟩, rfl⟩ := hx
    have h2 : f = .agg f.cells := h2
    obtain ⟨a1, r1, e1, l1, ⟨s1, rfl, _⟩, a2, r2, e2, l2, ⟨s2, rfl, _⟩, a3, r3, e3, l3, ⟨n3, rfl, h0, h4⟩, a4, r4, e4, l4, ⟨s4, rfl, _⟩, a5, r5, e5, l5, ⟨s5, rfl, _⟩, e6⟩ := hf
    subst e6 e5 e4 e3 e2
    rw [e1] at h2
    subst h2
    have h0 : (0 : Int) ≤ n3 := h0
    obtain ⟨N, rfl⟩ : ∃ N : Nat, n3 = N := ⟨n3.toNat, by omega⟩
    exact boxes_law s1 s2 s4 s5 N

theorem primsBoxes_row : Rows.PrimsBoxesSaid :=
  OpenClaim.holds_of_wide 4 Tryd.f4 rfl rfl rfl rfl rfl rfl rfl ⟨rfl, rfl, rfl, rfl, rfl⟩ rfl rfl rfl rfl rfl (by kernel_rfl) Tryd.func4 (by kernel_rfl)
    (of_decide_eq_true (by kernel_rfl)) (by unfold Func.isWrapper; first | (rw [if_pos (by decide +kernel)]; kernel_rfl) | (rw [if_neg (by decide +kernel)]; exact ⟨rfl, rfl⟩))
    (fun os started H enc _ => primsBoxes_lifted os started H enc)

theorem primsBoxes_holds : Rows.PrimsBoxesCardSaid :=
  Claim7.holds_tied_plain_at .later [] [.widerDeep, .data, .data] true (true, "5a00ed3b55971f3104b8cb1e36f6aac4f038b1ccf7a60a28d2905264792237a0") true
    primsBoxes_row (fun _ h => by cases h) (by kernel_rfl) (fun _ h => by cases h) primsBoxes_row_tie rfl ⟨rfl, rfl⟩ (by kernel_rfl) rfl
    (fun f fn hf hfn => by
      obtain rfl : f = 4 := Option.some.inj ((show Tryd.prog.funcNamed "signetring/signetringlaw11.PrimsBoxes" = some 4 by kernel_rfl).symm.trans hf) |>.symm
      obtain rfl : fn = Tryd.f4 := (Option.some.inj (Tryd.func4.symm.trans hfn)).symm
      exact ⟨by kernel_rfl, fun j t ht => by
        have hm : t ∈ Tryd.f4.params.toList := by simpa using Array.mem_of_getElem? ht
        have hall : (Tryd.f4.params.toList.all fun u => !Tryd.prog.wantsStandIn u) = true := by kernel_rfl
        exact (show Tryd.prog.wantsStandIn t = false by simpa using List.all_eq_true.1 hall t hm)⟩)
    (by kernel_rfl)
#print axioms primsBoxes_holds
end Go.Proofs.YtfinnljkcgglfaaDoor
