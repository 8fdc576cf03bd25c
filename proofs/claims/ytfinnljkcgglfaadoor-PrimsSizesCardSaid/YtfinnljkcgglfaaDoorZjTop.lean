/- PrimsSizes: of both kinds public keys, digests and keys have 32 bytes, of a secret that is a key. No conditions. -/
import Derived.Test.YtfinnljkcgglfaaDoorRows
import Derived.Test.YtfinnljkcgglfaaDoorTie
import Derived.Test.YtfinnljkcgglfaaDoorCards
import Derived.Test.YtfinnljkcgglfaaDoorZv4
import Derived.Test.YtfinnljkcgglfaaDoorZjL1J
import Derived.SevenTiedAt
import Derived.ProofKit
import Derived.Stop.Joined
namespace Go.Proofs.YtfinnljkcgglfaaDoor
open Go Go.ChangeShapes Go.WideShapes Go.ChangeAt Go.RowKit Go.Vs
set_option maxRecDepth 100000

theorem Tryd.own : ownKnob Tryd.prog.godebug = none := by kernel_rfl
theorem Tryd.laidOut : laidOutB Tryd.prog = true := by kernel_rfl

def laid2 : List (String × DataW Unit) := [("signetring/sha.start", Rows.laid_signetring_sha_start), ("signetring/sha.constants", Rows.laid_signetring_sha_constants)]
def startN : List Int := [1779033703, 3144134277, 1013904242, 2773480762, 1359893119, 2600822924, 528734635, 1541459225]
def constsN : List Int := DX.consts.map fun v => match v with
  | .int _ n => n
  | _ => 0
theorem gStart : Tryd.prog.globalNamed "signetring/sha.start" = some 0 := by kernel_rfl
theorem gConsts : Tryd.prog.globalNamed "signetring/sha.constants" = some 2 := by kernel_rfl

/-- The door's own heap meets the condition. -/
theorem door_met (os : Os) (args : Array Value) : laidMetH Tryd.prog laid2 ((World.doorLaid Tryd.prog 2000 os).forCall (fun _ _ => 0) ⟨#[], args, []⟩).memory :=
  laidMetH_of_parts3 (fuel := 8) (laidMet_of_run' 8 (by kernel_rfl) (by kernel_rfl)) (by kernel_rfl) (by kernel_rfl)

theorem gr_of {W : World} (h : laidMetH Tryd.prog laid2 W) (hs : W.ShapedOpen Tryd.prog) : ∃ z : List V, GR (RX z) (frzE W) := by
  rw [MakeChecks.laidMetH_plain _ _ _ (by kernel_rfl)] at h
  obtain ⟨ps, ⟨g0, t0, cs0, f0, p0, q0, hg0, ht0, hv0, hd0, ⟨g1, t1, cs1, f1, p1, q1, hg1, ht1, hv1, hd1, _, _⟩, _⟩, _, _⟩ := h
  obtain rfl := Option.some.inj (gStart.symm.trans hg0)
  obtain rfl := Option.some.inj (gConsts.symm.trans hg1)
  have hz : (((begin Tryd.prog (fun _ _ => 0) default).world.heap[4]?).bind Obj.row?).map (fun p => (p.1.size, p.2)) = some (32, 22) := by kernel_rfl
  cases hr : ((begin Tryd.prog (fun _ _ => 0) default).world.heap[4]?).bind Obj.row? with
  | none => rw [hr] at hz; cases hz
  | some p =>
    obtain ⟨zero, t⟩ := p
    rw [hr] at hz
    simp only [Option.map_some, Option.some.injEq, Prod.mk.injEq] at hz
    obtain ⟨hz1, rfl⟩ := hz
    obtain ⟨ns, hnl, hvr⟩ := shaped_ints (k := .u8) (u := 5) (n := 32) hs (show 4 < Tryd.prog.globals.size from Nat.ble_eq.mp (by kernel_rfl)) hr hz1 (by decide) (by kernel_rfl) (by kernel_rfl) (by kernel_rfl)
    refine ⟨ns.map fun i => .int .u8 i, ?_⟩
    have hN : N32 (ns.map fun i => V.int .u8 i) = ns.map fun i => V.int .u8 i := N32_id (isK_mk (by simp [hnl]) fun v hv => by
      obtain ⟨i, _, rfl⟩ := List.mem_map.1 hv; exact ⟨_, rfl⟩)
    intro g
    match g with
    | 0 => exact laid_ints (ns := startN) (e := _) gStart hv0 (show Tryd.prog.underlying t0 = some (.array 8 (match (Tryd.prog.globals[0]?).map (·.type) with | some t => (match Tryd.prog.underlying t with | some (.array _ e) => e | _ => 0) | none => 0)) by cases ht0; kernel_rfl) (by kernel_rfl) (by kernel_rfl) hd0
    | 2 => exact laid_ints (ns := constsN) (e := _) gConsts hv1 (show Tryd.prog.underlying t1 = some (.array 64 (match (Tryd.prog.globals[2]?).map (·.type) with | some t => (match Tryd.prog.underlying t with | some (.array _ e) => e | _ => 0) | none => 0)) by cases ht1; kernel_rfl) (by kernel_rfl) (by kernel_rfl) hd1
    | 1 => exact fp_nil _ _
    | 3 => exact fp_nil _ _
    | 4 => show VR _ (.fp (N32 _) 0) _; rw [hN]; exact hvr
    | n + 5 => exact fp_nil _ _

theorem hass_u8 : ∀ (n : Nat) (xs : List V), Hass (List.replicate n (.int .u8)) xs → isK .u8 n xs = true
  | 0, xs, h => by
    have h : xs = [] := h
    subst h; rfl
  | n + 1, xs, h => by
    obtain ⟨a, b, rfl, hl, ⟨m, rfl, _⟩, hb⟩ := h
    have := hass_u8 n b hb
    exact isK_mk (by simp [isK_len this]) fun v hv => by
      rcases List.mem_append.1 hv with hv | hv
      · simp at hv; subst hv; exact ⟨_, rfl⟩
      · exact isK_all this v hv
theorem primsSizes_lifted (os : Os) (started : os.Started) (H : Type) (enc : TypeId × Value → H) :
    ReturnsInHanded {} Tryd.checked os 3 .any (fun w args => (Rows.primsSizesSpec.pre enc Tryd.prog Tryd.f3 Rows.primsSizesRow.domain false w args ∧ laidMetH Tryd.prog laid2 w) ∧ sizedMet enc Tryd.prog Tryd.f3 (OpenSpec.ofChange Rows.primsSizesSpec) false w args)
      (Rows.primsSizesSpec.post enc Tryd.prog Tryd.f3 false true false false) := by
  refine returnsInHanded_and_shaped (C := Tryd.checked) (X := fun w _ => laidMetH Tryd.prog laid2 w) (fun _ _ _ hh h => h.of_heap hh) Tryd.own started (by kernel_rfl) Tryd.func3
    (ChangeSpec.witness_shaped (enc := enc) (C := Tryd.checked) (os := os) (X := fun w _ => laidMetH Tryd.prog laid2 w) false (World.doorLaid Tryd.prog 2000 os) #[.agg #[.int .u8 0, .int .u8 0, .int .u8 0, .int .u8 0, .int .u8 0, .int .u8 0, .int .u8 0, .int .u8 0, .int .u8 0, .int .u8 0, .int .u8 0, .int .u8 0, .int .u8 0, .int .u8 0, .int .u8 0, .int .u8 0, .int .u8 0, .int .u8 0, .int .u8 0, .int .u8 0, .int .u8 0, .int .u8 0, .int .u8 0, .int .u8 0, .int .u8 0, .int .u8 0, .int .u8 0, .int .u8 0, .int .u8 0, .int .u8 0, .int .u8 0, .int .u8 0], .string ⟨#[]⟩, .int .u8 0] 8 rfl (World.shaped_of_RefB (by kernel_rfl) (by kernel_rfl)) (by kernel_rfl) (by kernel_rfl) (by kernel_rfl) (door_met os _)) ?_
  intro W base args ds gs before hval hW hsh hL
  obtain ⟨z, hz⟩ := gr_of hL hsh
  refine law_contractG (x := RX z) (Ts := [.agg [.int .u8, .int .u8, .int .u8, .int .u8, .int .u8, .int .u8, .int .u8, .int .u8, .int .u8, .int .u8, .int .u8, .int .u8, .int .u8, .int .u8, .int .u8, .int .u8, .int .u8, .int .u8, .int .u8, .int .u8, .int .u8, .int .u8, .int .u8, .int .u8, .int .u8, .int .u8, .int .u8, .int .u8, .int .u8, .int .u8, .int .u8, .int .u8], .str, .int .u8]) (tb := 4) Tryd.laidOut rfl (by kernel_rfl) (by kernel_rfl) (by kernel_rfl) (by kernel_rfl) (fun ds hl => ?_) (fun xs hx => ?_) hz hval hW
  · match ds, hl with
    | [d1, d2, d3], _ => rfl
  · obtain ⟨f, _, rfl, ⟨hf, h2⟩, g, _, rfl, ⟨hg, h3⟩, k, _, rfl, ⟨hk, h4⟩, rfl⟩ := hx
    have h2 : f = .agg f.cells := h2
    have hfk : isK .u8 32 f.cells = true := hass_u8 32 f.cells hf
    obtain ⟨s, e8, _⟩ := hg
    have h3 : g.cells = [g] := h3
    rw [h3] at e8
    injection e8 with e8 _
    subst e8
    obtain ⟨n, e9, h0, h5⟩ := hk
    have h4 : k.cells = [k] := h4
    rw [h4] at e9
    injection e9 with e9 _
    subst e9
    have h0 : (0 : Int) ≤ n := h0
    obtain ⟨m, rfl⟩ : ∃ m : Nat, n = m := ⟨n.toNat, by omega⟩
    rw [h2]
    exact sizes_law hfk

theorem primsSizes_row : Rows.PrimsSizesSaid :=
  OpenClaim.holds_of_wide 3 Tryd.f3 rfl rfl rfl rfl rfl rfl rfl ⟨rfl, rfl, rfl, rfl, rfl⟩ rfl rfl rfl rfl rfl (by kernel_rfl) Tryd.func3 (by kernel_rfl)
    (of_decide_eq_true (by kernel_rfl)) (by unfold Func.isWrapper; first | (rw [if_pos (by decide +kernel)]; kernel_rfl) | (rw [if_neg (by decide +kernel)]; exact ⟨rfl, rfl⟩))
    (fun os started H enc _ => primsSizes_lifted os started H enc)

theorem primsSizes_holds : Rows.PrimsSizesCardSaid :=
  Claim7.holds_tied_plain_at .later [] [.data, .data] true (true, "5a00ed3b55971f3104b8cb1e36f6aac4f038b1ccf7a60a28d2905264792237a0") true
    primsSizes_row (fun _ h => by cases h) (by kernel_rfl) (fun _ h => by cases h) primsSizes_row_tie rfl ⟨rfl, rfl⟩ (by kernel_rfl) rfl
    (fun f fn hf hfn => by
      obtain rfl : f = 3 := Option.some.inj ((show Tryd.prog.funcNamed "signetring/signetringlaw11.PrimsSizes" = some 3 by kernel_rfl).symm.trans hf) |>.symm
      obtain rfl : fn = Tryd.f3 := (Option.some.inj (Tryd.func3.symm.trans hfn)).symm
      exact ⟨by kernel_rfl, fun j t ht => by
        have hm : t ∈ Tryd.f3.params.toList := by simpa using Array.mem_of_getElem? ht
        have hall : (Tryd.f3.params.toList.all fun u => !Tryd.prog.wantsStandIn u) = true := by kernel_rfl
        exact (show Tryd.prog.wantsStandIn t = false by simpa using List.all_eq_true.1 hall t hm)⟩)
    (by kernel_rfl)
#print axioms primsSizes_holds
end Go.Proofs.YtfinnljkcgglfaaDoor
