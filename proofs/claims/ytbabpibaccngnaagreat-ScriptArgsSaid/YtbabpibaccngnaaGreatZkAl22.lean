/- Joined texts. -/
import Derived.Test.YtbabpibaccngnaaGreatZkDec3
import Derived.KernelRfl
namespace Go.Proofs.YtbabpibaccngnaaGreat
open Go Go.Vs Go.RowKit
set_option maxRecDepth 100000
theorem alive22 : PCalls CX 27 [] fun r => r = .ret (.bool true) := K.pure_ok CX.ok CX.low (CD.ok [] (l := []) (fun s h => by cases h)) (n := 1000) (by kernel_rfl)
end Go.Proofs.YtbabpibaccngnaaGreat
