/- Printed by wip/tools/Steps.lean. -/
import Derived.Test.YtbabpibaccngnaaGreatZsD
import Derived.KernelRfl
namespace Go.Proofs.YtbabpibaccngnaaGreat
open Go.Vs
set_option maxRecDepth 100000
namespace S
theorem s36_ok : s36.ok CX := K.step_ok CX.ok CX.low CT.ok (n := 1000) (by kernel_rfl)
theorem s37_ok : s37.ok CX := K.step_ok CX.ok CX.low CT.ok (n := 1000) (by kernel_rfl)
theorem s38_ok : s38.ok CX := K.step_ok CX.ok CX.low CT.ok (n := 1000) (by kernel_rfl)
theorem s39_ok : s39.ok CX := K.step_ok CX.ok CX.low CT.ok (n := 1000) (by kernel_rfl)
theorem s40_ok : s40.ok CX := K.step_ok CX.ok CX.low CT.ok (n := 1000) (by kernel_rfl)
theorem s41_ok : s41.ok CX := K.step_ok CX.ok CX.low CT.ok (n := 1000) (by kernel_rfl)
theorem s42_ok : s42.ok CX := K.step_ok CX.ok CX.low CT.ok (n := 1000) (by kernel_rfl)
theorem s43_ok : s43.ok CX := K.step_ok CX.ok CX.low CT.ok (n := 1000) (by kernel_rfl)
theorem s44_ok : s44.ok CX := K.step_ok CX.ok CX.low CT.ok (n := 1000) (by kernel_rfl)
theorem s45_ok : s45.ok CX := K.step_ok CX.ok CX.low CT.ok (n := 1000) (by kernel_rfl)
theorem s46_ok : s46.ok CX := K.step_ok CX.ok CX.low CT.ok (n := 1000) (by kernel_rfl)
theorem s47_ok : s47.ok CX := K.step_ok CX.ok CX.low CT.ok (n := 1000) (by kernel_rfl)
end S
end Go.Proofs.YtbabpibaccngnaaGreat
