/- Printed by wip/tools/Steps.lean. -/
import Derived.Test.YtbabpibaccngnaaGreatZaD
import Derived.KernelRfl
namespace Go.Proofs.YtbabpibaccngnaaGreat
open Go.Vs
set_option maxRecDepth 100000
namespace Za
theorem s4_ok : s4.ok CX := K.step_ok CX.ok CX.low CT.ok (n := 1000) (by kernel_rfl)
theorem s5_ok : s5.ok CX := K.step_ok CX.ok CX.low CT.ok (n := 1000) (by kernel_rfl)
theorem s6_ok : s6.ok CX := K.step_ok CX.ok CX.low CT.ok (n := 1000) (by kernel_rfl)
theorem s7_ok : s7.ok CX := K.step_ok CX.ok CX.low CT.ok (n := 1000) (by kernel_rfl)
end Za
end Go.Proofs.YtbabpibaccngnaaGreat
