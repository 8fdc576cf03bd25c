/- Joined texts. -/
import Derived.Test.YtbabpibaccngnaaGreatZk
import Derived.Test.YtbabpibaccngnaaGreatZv6
namespace Go.Proofs.YtbabpibaccngnaaGreat
open Go.Vs
set_option maxRecDepth 100000
theorem alive19 : PCalls CX 11 [] fun r => r = .ret (.bool true) := K.pure_ok CX.ok CX.low CT.ok (n := 1000) (by kernel_rfl)
/-- .. with the answers that the document fixes. -/
def knownA (f : FuncId) (args : List V) : Option V := match Nat.beq f 11 with
  | true => match args with
    | [] => some (.bool true)
    | _ => none
  | false => known f args
theorem knownA_ok : ∀ g args v, knownA g args = some v → PCalls CX g args fun r => r = .ret v := by
  intro g args v h
  unfold knownA at h
  split at h
  · rename_i hb
    have := Nat.eq_of_beq_eq_true hb
    subst this
    split at h
    · cases h; exact alive19
    · cases h
  · exact known_ok g args v h
noncomputable def CA (fs : List FuncId) (l : List K.Stp) : K.Tb := CX.T knownA (K.stepF fs l)
theorem CA.ok (fs : List FuncId) {l : List K.Stp} (hl : ∀ s ∈ l, s.ok CX) : K.TbOk CX (CA fs l) := CX.tok knownA _ knownA_ok (K.stepF_ok hl)
end Go.Proofs.YtbabpibaccngnaaGreat
