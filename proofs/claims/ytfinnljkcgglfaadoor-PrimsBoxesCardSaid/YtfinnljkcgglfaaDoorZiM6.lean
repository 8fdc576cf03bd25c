/- Blocks that alive takes, each reckoned (printed by wip/tools/mkmix.py). -/
import Derived.Test.YtfinnljkcgglfaaDoorZiTurn
import Derived.KernelRfl
namespace Go.Proofs.YtfinnljkcgglfaaDoor
open Go.Vs
set_option maxRecDepth 100000
def mixS10 : List V := [.int .u32 2021827106, .int .u32 1748437736, .int .u32 92322522, .int .u32 450920677, .int .u32 3625426214, .int .u32 4228205771, .int .u32 1131070533, .int .u32 844736147]
def mixB10 : List V := [.int .u8 214, .int .u8 17, .int .u8 135, .int .u8 78, .int .u8 155, .int .u8 151, .int .u8 88, .int .u8 9, .int .u8 195, .int .u8 97, .int .u8 160, .int .u8 46, .int .u8 225, .int .u8 3, .int .u8 151, .int .u8 238, .int .u8 58, .int .u8 118, .int .u8 171, .int .u8 98, .int .u8 63, .int .u8 81, .int .u8 22, .int .u8 225, .int .u8 3, .int .u8 89, .int .u8 60, .int .u8 125, .int .u8 112, .int .u8 241, .int .u8 224, .int .u8 11, .int .u8 128, .int .u8 0, .int .u8 0, .int .u8 0, .int .u8 0, .int .u8 0, .int .u8 0, .int .u8 0, .int .u8 0, .int .u8 0, .int .u8 0, .int .u8 0, .int .u8 0, .int .u8 0, .int .u8 0, .int .u8 0, .int .u8 0, .int .u8 0, .int .u8 0, .int .u8 0, .int .u8 0, .int .u8 0, .int .u8 0, .int .u8 0, .int .u8 0, .int .u8 0, .int .u8 0, .int .u8 0, .int .u8 0, .int .u8 0, .int .u8 3, .int .u8 0]
def mixO10 : List V := [.int .u32 1982868395, .int .u32 4003275138, .int .u32 650984780, .int .u32 361430923, .int .u32 1483844554, .int .u32 3092097813, .int .u32 1046720241, .int .u32 2815844303]
theorem mix10 : PCalls DX 25 [.agg mixS10, .lst false mixB10] fun r => r = .ret (.agg mixO10) := K.pure_ok DX.ok DX.low CTT.ok (n := 2000) (by kernel_rfl)
end Go.Proofs.YtfinnljkcgglfaaDoor
