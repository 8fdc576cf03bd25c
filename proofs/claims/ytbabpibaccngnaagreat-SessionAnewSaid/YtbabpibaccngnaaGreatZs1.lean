/- Printed by wip/tools/Steps.lean. -/
import Derived.Test.YtbabpibaccngnaaGreatZsD
import Derived.KernelRfl
namespace Go.Proofs.YtbabpibaccngnaaGreat
open Go.Vs
set_option maxRecDepth 100000
namespace S
theorem s0_ok : s0.ok CX := K.step_ok CX.ok CX.low CT.ok (n := 1000) (by kernel_rfl)
theorem s1_ok : s1.ok CX := K.step_ok CX.ok CX.low CT.ok (n := 1000) (by kernel_rfl)
theorem s2_ok : s2.ok CX := K.step_ok CX.ok CX.low CT.ok (n := 1000) (by kernel_rfl)
theorem s3_ok : s3.ok CX := K.step_ok CX.ok CX.low CT.ok (n := 1000) (by kernel_rfl)
theorem s4_ok : s4.ok CX := K.step_ok CX.ok CX.low CT.ok (n := 1000) (by kernel_rfl)
theorem s5_ok : s5.ok CX := K.step_ok CX.ok CX.low CT.ok (n := 1000) (by kernel_rfl)
theorem s6_ok : s6.ok CX := K.step_ok CX.ok CX.low CT.ok (n := 1000) (by kernel_rfl)
theorem s7_ok : s7.ok CX := K.step_ok CX.ok CX.low CT.ok (n := 1000) (by kernel_rfl)
theorem s8_ok : s8.ok CX := K.step_ok CX.ok CX.low CT.ok (n := 1000) (by kernel_rfl)
theorem s9_ok : s9.ok CX := K.step_ok CX.ok CX.low CT.ok (n := 1000) (by kernel_rfl)
theorem s10_ok : s10.ok CX := K.step_ok CX.ok CX.low CT.ok (n := 1000) (by kernel_rfl)
theorem s11_ok : s11.ok CX := K.step_ok CX.ok CX.low CT.ok (n := 1000) (by kernel_rfl)
end S
end Go.Proofs.YtbabpibaccngnaaGreat
