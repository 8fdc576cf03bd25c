/- X, Pub, Shared: one answer each. -/
import Derived.Test.YtfinnljkcgglfaaDoorZjBJ
namespace Go.Proofs.YtfinnljkcgglfaaDoor
open Go Go.Vs
set_option maxRecDepth 100000
noncomputable section
theorem X_ex (z : List V) (k u : List V) : ∃ r, okA .u8 32 r = true ∧ PCalls (RX z) 86 [.agg (N32 k), .agg (N32 u)] fun b => b = r := ex_of (RX.ok z) (RX.low z) (CLL.ok z) (n := 3000) (by kernel_rfl)
def xF (z : List V) (k u : List V) : List V := aggOf (Classical.choose ((X_ex z) k u))
def xP (z : List V) (f : FuncId) (args : List V) : Option V := match Nat.beq f 86 with
  | true => bi1 (xF z) args
  | false => none
theorem bi1_okR (z : List V) {f : FuncId} {g : List V → List V → List V} (H : ∀ a b, isK .u8 32 (g a b) = true ∧ PCalls (RX z) f [.agg (N32 a), .agg (N32 b)] fun r => r = .ret (.agg (g a b))) {args : List V} {v : V} (h : bi1 g args = some v) : PCalls (RX z) f args fun r => r = .ret v := by
  unfold bi1 at h
  split at h
  · rename_i a b
    split at h
    · rename_i h1
      split at h
      · rename_i h2; cases h
        have := H a b
        rw [N32_id h1, N32_id h2] at this
        rw [N32_id this.1]; exact this.2
      · cases h
    · cases h
  · cases h
theorem xP_ok (z : List V) : ∀ g args v, (xP z) g args = some v → PCalls (RX z) g args fun r => r = .ret v := by
  intro g args v h
  unfold xP at h
  split at h
  · rename_i hb; have := Nat.eq_of_beq_eq_true hb; subst this; exact (bi1_okR z) (fun a b => pc_of ((X_ex z) a b)) h
  · cases h
def CX1 (z : List V) : K.Tb := RX.T (xP z) fun _ _ _ => none
theorem CX1.ok (z : List V) : K.TbOk (RX z) (CX1 z) := (RX.tok z) (xP z) _ (xP_ok z) fun g args h r h' he => by cases he
theorem pub_ex (z : List V) (k : List V) : ∃ r, okA .u8 32 r = true ∧ PCalls (RX z) 82 [.agg (N32 k)] fun b => b = r := ex_of (RX.ok z) (RX.low z) (CX1.ok z) (n := 3000) (by kernel_rfl)
end
end Go.Proofs.YtfinnljkcgglfaaDoor
