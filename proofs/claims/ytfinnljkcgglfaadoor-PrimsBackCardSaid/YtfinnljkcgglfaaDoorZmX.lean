/- PrimsBack: of both kinds what is sealed is opened with the same key, number and ad; of terms with no other ones. No conditions. -/
import Derived.Test.YtfinnljkcgglfaaDoorRows
import Derived.Test.YtfinnljkcgglfaaDoorTie
import Derived.Test.YtfinnljkcgglfaaDoorCards
import Derived.Test.YtfinnljkcgglfaaDoorZv4
import Derived.Test.YtfinnljkcgglfaaDoorZmUJ
import Derived.SevenTiedAt
import Derived.ProofKit
import Derived.Stop.Joined
namespace Go.Proofs.YtfinnljkcgglfaaDoor
open Go Go.ChangeShapes Go.WideShapes Go.ChangeAt Go.RowKit Go.Vs
set_option maxRecDepth 100000

theorem Tryd.own : ownKnob Tryd.prog.godebug = none := by kernel_rfl
theorem Tryd.laidOut : laidOutB Tryd.prog = true := by kernel_rfl

def laid2 : List (String × DataW Unit) := [("signetring/sha.start", Rows.laid_signetring_sha_start), ("signetring/sha.constants", Rows.laid_signetring_sha_constants)]
def startN : List Int := [1779033703, 3144134277, 1013904242, 2773480762, 1359893119, 2600822924, 528734635, 1541459225]
def constsN : List Int := DX.consts.map fun v => match v with
  | .int _ n => n
  | _ => 0
theorem gStart : Tryd.prog.globalNamed "signetring/sha.start" = some 0 := by kernel_rfl
theorem gConsts : Tryd.prog.globalNamed "signetring/sha.constants" = some 2 := by kernel_rfl

/-- The door's own heap meets the condition. -/
theorem door_met (os : Os) (args : Array Value) : laidMetH Tryd.prog laid2 ((World.doorLaid Tryd.prog 2000 os).forCall (fun _ _ => 0) ⟨#[], args, []⟩).memory :=
  laidMetH_of_parts3 (fuel := 8) (laidMet_of_run' 8 (by kernel_rfl) (by kernel_rfl)) (by kernel_rfl) (by kernel_rfl)

theorem gr_of {W : World} (h : laidMetH Tryd.prog laid2 W) (hs : W.ShapedOpen Tryd.prog) : ∃ z : List V, GR (BX z) (frzE W) := by
  rw [MakeChecks.laidMetH_plain _ _ _ (by kernel_rfl)] at h
  obtain ⟨ps, ⟨g0, t0, cs0, f0, p0, q0, hg0, ht0, hv0, hd0, ⟨g1, t1, cs1, f1, p1, q1, hg1, ht1, hv1, hd1, _, _⟩, _⟩, _, _⟩ := h
  obtain rfl := Option.some.inj (gStart.symm.trans hg0)
  obtain rfl := Option.some.inj (gConsts.symm.trans hg1)
  have hz : (((begin Tryd.prog (fun _ _ => 0) default).world.heap[1]?).bind Obj.row?).map (fun p => (p.1.size, p.2)) = some (4, 83) := by kernel_rfl
  cases hr : ((begin Tryd.prog (fun _ _ => 0) default).world.heap[1]?).bind Obj.row? with
  | none => rw [hr] at hz; cases hz
  | some p =>
    obtain ⟨zero, t⟩ := p
    rw [hr] at hz
    simp only [Option.map_some, Option.some.injEq, Prod.mk.injEq] at hz
    obtain ⟨hz1, rfl⟩ := hz
    obtain ⟨ns, hnl, hvr⟩ := shaped_ints (k := .u32) (u := 63) (n := 4) hs (show 1 < Tryd.prog.globals.size from Nat.ble_eq.mp (by kernel_rfl)) hr hz1 (by decide) (by kernel_rfl) (by kernel_rfl) (by kernel_rfl)
    refine ⟨ns.map fun i => .int .u32 i, ?_⟩
    have hN : N4 (ns.map fun i => V.int .u32 i) = ns.map fun i => V.int .u32 i := N4_id (isK_mk (by simp [hnl]) fun v hv => by
      obtain ⟨i, _, rfl⟩ := List.mem_map.1 hv; exact ⟨_, rfl⟩)
    intro g
    match g with
    | 0 => exact laid_ints (ns := startN) (e := _) gStart hv0 (show Tryd.prog.underlying t0 = some (.array 8 (match (Tryd.prog.globals[0]?).map (·.type) with | some t => (match Tryd.prog.underlying t with | some (.array _ e) => e | _ => 0) | none => 0)) by cases ht0; kernel_rfl) (by kernel_rfl) (by kernel_rfl) hd0
    | 2 => exact laid_ints (ns := constsN) (e := _) gConsts hv1 (show Tryd.prog.underlying t1 = some (.array 64 (match (Tryd.prog.globals[2]?).map (·.type) with | some t => (match Tryd.prog.underlying t with | some (.array _ e) => e | _ => 0) | none => 0)) by cases ht1; kernel_rfl) (by kernel_rfl) (by kernel_rfl) hd1
    | 1 => show VR _ (.fp (N4 _) 0) _; rw [hN]; exact hvr
    | n + 3 => exact fp_nil _ _

theorem two_of {f : V} (hf : Hass [.str, .str, .int .u64, .str, .str] f.cells) (h2 : f = .agg f.cells) : ∃ (A B Ad X : List UInt8) (N : Nat), f = .agg (twoV A B N Ad X) ∧ N < 18446744073709551616 := by
  obtain ⟨a1, r1, e1, l1, ⟨s1, rfl, _⟩, a2, r2, e2, l2, ⟨s2, rfl, _⟩, a3, r3, e3, l3, ⟨n3, rfl, h0, h4⟩, a4, r4, e4, l4, ⟨s4, rfl, _⟩, a5, r5, e5, l5, ⟨s5, rfl, _⟩, e6⟩ := hf
  subst e6 e5 e4 e3 e2
  rw [e1] at h2
  have h0 : (0 : Int) ≤ n3 := h0
  have h4 : n3 ≤ IntKind.u64.max := h4
  rw [show IntKind.u64.max = 18446744073709551615 by rfl] at h4
  obtain ⟨N, rfl⟩ : ∃ N : Nat, n3 = N := ⟨n3.toNat, by omega⟩
  exact ⟨s1, s2, s4, s5, N, h2, by omega⟩
theorem primsBack_lifted (os : Os) (started : os.Started) (H : Type) (enc : TypeId × Value → H) :
    ReturnsInHanded {} Tryd.checked os 5 .any (fun w args => (Rows.primsBackSpec.pre enc Tryd.prog Tryd.f5 Rows.primsBackRow.domain false w args ∧ laidMetH Tryd.prog laid2 w) ∧ sizedMet enc Tryd.prog Tryd.f5 (OpenSpec.ofChange Rows.primsBackSpec) false w args)
      (Rows.primsBackSpec.post enc Tryd.prog Tryd.f5 false true false false) := by
  refine returnsInHanded_and_shaped (C := Tryd.checked) (X := fun w _ => laidMetH Tryd.prog laid2 w) (fun _ _ _ hh h => h.of_heap hh) Tryd.own started (by kernel_rfl) Tryd.func5
    (ChangeSpec.witness_shaped (enc := enc) (C := Tryd.checked) (os := os) (X := fun w _ => laidMetH Tryd.prog laid2 w) false (World.doorLaid Tryd.prog 2000 os) #[.agg #[.string ⟨#[]⟩, .string ⟨#[]⟩, .int .u64 0, .string ⟨#[]⟩, .string ⟨#[]⟩], .agg #[.string ⟨#[]⟩, .string ⟨#[]⟩, .int .u64 0, .string ⟨#[]⟩, .string ⟨#[]⟩]] 8 rfl (World.shaped_of_RefB (by kernel_rfl) (by kernel_rfl)) (by kernel_rfl) (by kernel_rfl) (by kernel_rfl) (door_met os _)) ?_
  intro W base args ds gs before hval hW hsh hL
  obtain ⟨z, hz⟩ := gr_of hL hsh
  refine law_contractG (x := BX z) (Ts := [.agg [.str, .str, .int .u64, .str, .str], .agg [.str, .str, .int .u64, .str, .str]]) (tb := 4) Tryd.laidOut rfl (by kernel_rfl) (by kernel_rfl) (by kernel_rfl) (by kernel_rfl) (fun ds hl => ?_) (fun xs hx => ?_) hz hval hW
  · match ds, hl with
    | [d1, d2], _ => rfl
  · obtain ⟨f, _, rfl, ⟨hf, h2⟩, g, _, rfl, ⟨hg, h3⟩, rfl⟩ := hx
    have h2 : f = .agg f.cells := h2
    have h3 : g = .agg g.cells := h3
    obtain ⟨A, B, Ad, X, N, rfl, hN⟩ := two_of hf h2
    obtain ⟨A', B', Ad', X', N', rfl, hN'⟩ := two_of hg h3
    exact back_law A B Ad X A' B' Ad' X' N N' hN hN'

theorem primsBack_row : Rows.PrimsBackSaid :=
  OpenClaim.holds_of_wide 5 Tryd.f5 rfl rfl rfl rfl rfl rfl rfl ⟨rfl, rfl, rfl, rfl, rfl⟩ rfl rfl rfl rfl rfl (by kernel_rfl) Tryd.func5 (by kernel_rfl)
    (of_decide_eq_true (by kernel_rfl)) (by unfold Func.isWrapper; first | (rw [if_pos (by decide +kernel)]; kernel_rfl) | (rw [if_neg (by decide +kernel)]; exact ⟨rfl, rfl⟩))
    (fun os started H enc _ => primsBack_lifted os started H enc)

theorem primsBack_holds : Rows.PrimsBackCardSaid :=
  Claim7.holds_tied_plain_at .later [] [.data, .data] true (true, "5a00ed3b55971f3104b8cb1e36f6aac4f038b1ccf7a60a28d2905264792237a0") true
    primsBack_row (fun _ h => by cases h) (by kernel_rfl) (fun _ h => by cases h) primsBack_row_tie rfl ⟨rfl, rfl⟩ (by kernel_rfl) rfl
    (fun f fn hf hfn => by
      obtain rfl : f = 5 := Option.some.inj ((show Tryd.prog.funcNamed "signetring/signetringlaw11.PrimsBack" = some 5 by kernel_rfl).symm.trans hf) |>.symm
      obtain rfl : fn = Tryd.f5 := (Option.some.inj (Tryd.func5.symm.trans hfn)).symm
      exact ⟨by kernel_rfl, fun j t ht => by
        have hm : t ∈ Tryd.f5.params.toList := by simpa using Array.mem_of_getElem? ht
        have hall : (Tryd.f5.params.toList.all fun u => !Tryd.prog.wantsStandIn u) = true := by kernel_rfl
        exact (show Tryd.prog.wantsStandIn t = false by simpa using List.all_eq_true.1 hall t hm)⟩)
    (by kernel_rfl)
#print axioms primsBack_holds
end Go.Proofs.YtfinnljkcgglfaaDoor
