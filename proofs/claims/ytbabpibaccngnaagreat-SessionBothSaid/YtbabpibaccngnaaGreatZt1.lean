/- Printed by wip/tools/Steps.lean. -/
import Derived.Test.YtbabpibaccngnaaGreatZtD
import Derived.KernelRfl
namespace Go.Proofs.YtbabpibaccngnaaGreat
open Go.Vs
set_option maxRecDepth 100000
namespace SB
theorem s0_ok : s0.ok CX := K.step_ok CX.ok CX.low CT.ok (n := 1000) (by kernel_rfl)
theorem s1_ok : s1.ok CX := K.step_ok CX.ok CX.low CT.ok (n := 1000) (by kernel_rfl)
theorem s2_ok : s2.ok CX := K.step_ok CX.ok CX.low CT.ok (n := 1000) (by kernel_rfl)
theorem s3_ok : s3.ok CX := K.step_ok CX.ok CX.low CT.ok (n := 1000) (by kernel_rfl)
theorem s4_ok : s4.ok CX := K.step_ok CX.ok CX.low CT.ok (n := 1000) (by kernel_rfl)
theorem s5_ok : s5.ok CX := K.step_ok CX.ok CX.low CT.ok (n := 1000) (by kernel_rfl)
theorem s6_ok : s6.ok CX := K.step_ok CX.ok CX.low CT.ok (n := 1000) (by kernel_rfl)
theorem s7_ok : s7.ok CX := K.step_ok CX.ok CX.low CT.ok (n := 1000) (by kernel_rfl)
theorem s8_ok : s8.ok CX := K.step_ok CX.ok CX.low CT.ok (n := 1000) (by kernel_rfl)
end SB
end Go.Proofs.YtbabpibaccngnaaGreat
