/- Printed by wip/tools/Steps.lean. -/
import Derived.Test.YtbabpibaccngnaaGreatZsD
import Derived.KernelRfl
namespace Go.Proofs.YtbabpibaccngnaaGreat
open Go.Vs
set_option maxRecDepth 100000
namespace S
theorem s24_ok : s24.ok CX := K.step_ok CX.ok CX.low CT.ok (n := 1000) (by kernel_rfl)
theorem s25_ok : s25.ok CX := K.step_ok CX.ok CX.low CT.ok (n := 1000) (by kernel_rfl)
theorem s26_ok : s26.ok CX := K.step_ok CX.ok CX.low CT.ok (n := 1000) (by kernel_rfl)
theorem s27_ok : s27.ok CX := K.step_ok CX.ok CX.low CT.ok (n := 1000) (by kernel_rfl)
theorem s28_ok : s28.ok CX := K.step_ok CX.ok CX.low CT.ok (n := 1000) (by kernel_rfl)
theorem s29_ok : s29.ok CX := K.step_ok CX.ok CX.low CT.ok (n := 1000) (by kernel_rfl)
theorem s30_ok : s30.ok CX := K.step_ok CX.ok CX.low CT.ok (n := 1000) (by kernel_rfl)
theorem s31_ok : s31.ok CX := K.step_ok CX.ok CX.low CT.ok (n := 1000) (by kernel_rfl)
theorem s32_ok : s32.ok CX := K.step_ok CX.ok CX.low CT.ok (n := 1000) (by kernel_rfl)
theorem s33_ok : s33.ok CX := K.step_ok CX.ok CX.low CT.ok (n := 1000) (by kernel_rfl)
theorem s34_ok : s34.ok CX := K.step_ok CX.ok CX.low CT.ok (n := 1000) (by kernel_rfl)
theorem s35_ok : s35.ok CX := K.step_ok CX.ok CX.low CT.ok (n := 1000) (by kernel_rfl)
end S
end Go.Proofs.YtbabpibaccngnaaGreat
