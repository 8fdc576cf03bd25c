/- The input of the laws. -/
import Derived.Test.YtfinnljkcgglfaaGreatDoorZhAl2
import Derived.Test.YtfinnljkcgglfaaGreatDoorZv6
namespace Go.Proofs.YtfinnljkcgglfaaGreatDoor
open Go Go.Vs Go.RowKit
set_option maxRecDepth 100000
set_option linter.unusedSimpArgs false
set_option linter.unusedVariables false
attribute [local simp] unV extV wanted strBin vpt vpn vmp nilV_ptr vic

def invVV (x : X) (m : String) (args : List V) : V → Option Rz
  | .ifc ty v => match x.M ty m with
    | some (f, none) => some (.call f (v :: args))
    | some (f, some off) => match v with
      | .agg cs => (cs[off]?).map fun c => .call f (c :: args)
      | _ => none
    | none => none
  | _ => none
theorem aop_invV {x : X} {t : Nat → V} {h : Hp} (r : O) (m : String) (args : List O) : aop x t h (.inv r m args) = invVV x m (evs x t args) (r.ev x t) := by
  simp only [aop, invVV]
  generalize r.ev x t = u
  cases u <;> rfl
def twoV (A B : List UInt8) (N : Nat) (Ad X : List UInt8) : List V := [.str A, .str B, .int .u64 N, .str Ad, .str X]
theorem few_spec (A B : List UInt8) (N : Nat) (Ad X : List UInt8) : PCalls GX 7 [.agg (twoV A B N Ad X)] fun r => r = .ret (.bool (decide (A.length ≤ 1000 ∧ B.length ≤ 1000 ∧ Ad.length ≤ 1000 ∧ X.length ≤ 1000))) := by
  refine PCalls.of (acall GX.ok ck7 rfl ?_) fun r hr => by subst hr; exact .bool _
  have q : ∀ o, rd [some (.cells [.str A, .str B, .int .u64 N, .str Ad, .str X] none)] (.ptr 0 o) 1 = sub [.str A, .str B, .int .u64 N, .str Ad, .str X] o 1 := fun o => by simp [rd, hget]
  simp [F7, twoV, V.cells, V.one, fadV, q, sub, asV, lenV]
  by_cases h1 : A.length ≤ 1000
  · have h1' : (A.length : Int) ≤ 1000 := by omega
    by_cases h2 : B.length ≤ 1000
    · have h2' : (B.length : Int) ≤ 1000 := by omega
      by_cases h3 : Ad.length ≤ 1000
      · have h3' : (Ad.length : Int) ≤ 1000 := by omega
        by_cases h4 : X.length ≤ 1000
        · have h4' : (X.length : Int) ≤ 1000 := by omega
          simp [h1, h1', h2, h2', h3, h3', h4, h4', fadV, q, sub, asV, lenV]
        · have h4' : ¬ (X.length : Int) ≤ 1000 := by omega
          simp [h1, h1', h2, h2', h3, h3', h4, h4', fadV, q, sub, asV, lenV]
      · have h3' : ¬ (Ad.length : Int) ≤ 1000 := by omega
        simp [h1, h1', h2, h2', h3, h3', fadV, q, sub, asV, lenV]
    · have h2' : ¬ (B.length : Int) ≤ 1000 := by omega
      simp [h1, h1', h2, h2', fadV, q, sub, asV, lenV]
  · have h1' : ¬ (A.length : Int) ≤ 1000 := by omega
    simp [h1, h1', fadV, q, sub, asV, lenV]

end Go.Proofs.YtfinnljkcgglfaaGreatDoor
