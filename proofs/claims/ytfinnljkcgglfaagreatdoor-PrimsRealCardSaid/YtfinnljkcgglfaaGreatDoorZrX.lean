/- X, Pub, Shared: one answer each. -/
import Derived.Test.YtfinnljkcgglfaaGreatDoorZrBJ
namespace Go.Proofs.YtfinnljkcgglfaaGreatDoor
open Go Go.Vs
set_option maxRecDepth 100000
noncomputable section
theorem X_ex (k u : List V) : ∃ r, okA .u8 32 r = true ∧ PCalls RX 21 [.agg (N32 k), .agg (N32 u)] fun b => b = r := ex_of RX.ok RX.low CLL.ok (n := 3000) (by kernel_rfl)
def xF (k u : List V) : List V := aggOf (Classical.choose (X_ex k u))
def xP (f : FuncId) (args : List V) : Option V := match Nat.beq f 21 with
  | true => bi1 xF args
  | false => none
theorem bi1_okR {f : FuncId} {g : List V → List V → List V} (H : ∀ a b, isK .u8 32 (g a b) = true ∧ PCalls RX f [.agg (N32 a), .agg (N32 b)] fun r => r = .ret (.agg (g a b))) {args : List V} {v : V} (h : bi1 g args = some v) : PCalls RX f args fun r => r = .ret v := by
  unfold bi1 at h
  split at h
  · rename_i a b
    split at h
    · rename_i h1
      split at h
      · rename_i h2; cases h
        have := H a b
        rw [N32_id h1, N32_id h2] at this
        rw [N32_id this.1]; exact this.2
      · cases h
    · cases h
  · cases h
theorem xP_ok : ∀ g args v, xP g args = some v → PCalls RX g args fun r => r = .ret v := by
  intro g args v h
  unfold xP at h
  split at h
  · rename_i hb; have := Nat.eq_of_beq_eq_true hb; subst this; exact bi1_okR (fun a b => pc_of (X_ex a b)) h
  · cases h
def CX1 : K.Tb := RX.T xP fun _ _ _ => none
theorem CX1.ok : K.TbOk RX CX1 := RX.tok xP _ xP_ok fun g args h r h' he => by cases he
theorem pub_ex (k : List V) : ∃ r, okA .u8 32 r = true ∧ PCalls RX 9 [.agg (N32 k)] fun b => b = r := ex_of RX.ok RX.low CX1.ok (n := 3000) (by kernel_rfl)
/-- An array of 32 bytes, and whether. -/
def okAB : Res → Bool
  | .ret (.tup [.agg a, .bool _]) => isK .u8 32 a
  | _ => false
theorem shared_ex (k u : List V) : ∃ r, okAB r = true ∧ PCalls RX 10 [.agg (N32 k), .agg (N32 u)] fun b => b = r := ex_of RX.ok RX.low CX1.ok (n := 3000) (by kernel_rfl)
end
end Go.Proofs.YtfinnljkcgglfaaGreatDoor
