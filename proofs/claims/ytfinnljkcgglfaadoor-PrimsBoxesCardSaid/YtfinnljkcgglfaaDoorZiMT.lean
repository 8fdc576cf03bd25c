/- The table of the blocks that alive takes (printed by wip/tools/mkmix.py). -/
import Derived.Test.YtfinnljkcgglfaaDoorZiM1
import Derived.Test.YtfinnljkcgglfaaDoorZiM2
import Derived.Test.YtfinnljkcgglfaaDoorZiM3
import Derived.Test.YtfinnljkcgglfaaDoorZiM4
import Derived.Test.YtfinnljkcgglfaaDoorZiM5
import Derived.Test.YtfinnljkcgglfaaDoorZiM6
import Derived.Test.YtfinnljkcgglfaaDoorZv6
namespace Go.Proofs.YtfinnljkcgglfaaDoor
open Go.Vs
set_option maxRecDepth 100000
def mixTab : List (List V × List V × List V) := [(mixS0, mixB0, mixO0), (mixS1, mixB1, mixO1), (mixS2, mixB2, mixO2), (mixS3, mixB3, mixO3), (mixS4, mixB4, mixO4), (mixS5, mixB5, mixO5), (mixS6, mixB6, mixO6), (mixS7, mixB7, mixO7), (mixS8, mixB8, mixO8), (mixS9, mixB9, mixO9), (mixS10, mixB10, mixO10)]
theorem mixTab_ok : ∀ e ∈ mixTab, PCalls DX 25 [.agg e.1, .lst false e.2.1] fun r => r = .ret (.agg e.2.2) := by
  intro e he
  simp only [mixTab, List.mem_cons, List.not_mem_nil, or_false] at he
  rcases he with rfl | rfl | rfl | rfl | rfl | rfl | rfl | rfl | rfl | rfl | rfl
  · exact mix0
  · exact mix1
  · exact mix2
  · exact mix3
  · exact mix4
  · exact mix5
  · exact mix6
  · exact mix7
  · exact mix8
  · exact mix9
  · exact mix10
def shaAbc : List V := [.int .u8 186, .int .u8 120, .int .u8 22, .int .u8 191, .int .u8 143, .int .u8 1, .int .u8 207, .int .u8 234, .int .u8 65, .int .u8 65, .int .u8 64, .int .u8 222, .int .u8 93, .int .u8 174, .int .u8 34, .int .u8 35, .int .u8 176, .int .u8 3, .int .u8 97, .int .u8 163, .int .u8 150, .int .u8 23, .int .u8 122, .int .u8 156, .int .u8 180, .int .u8 16, .int .u8 255, .int .u8 97, .int .u8 242, .int .u8 0, .int .u8 21, .int .u8 173]
def extV0 : List V := [.int .u8 180, .int .u8 221, .int .u8 252, .int .u8 77, .int .u8 243, .int .u8 88, .int .u8 219, .int .u8 177, .int .u8 23, .int .u8 60, .int .u8 106, .int .u8 74, .int .u8 161, .int .u8 248, .int .u8 126, .int .u8 202, .int .u8 213, .int .u8 143, .int .u8 218, .int .u8 99, .int .u8 100, .int .u8 129, .int .u8 6, .int .u8 117, .int .u8 88, .int .u8 114, .int .u8 147, .int .u8 228, .int .u8 183, .int .u8 88, .int .u8 39, .int .u8 181]
def expV0 : List UInt8 := [156, 176, 8, 189, 11, 41, 102, 19, 149, 161, 114, 211, 91, 143, 168, 187, 197, 69, 23, 74, 147, 244, 161, 193, 166, 1, 97, 156, 142, 138, 229, 16, 118, 48, 43, 171, 238, 157, 33, 130, 38, 205, 61, 76, 21, 138, 255, 139, 88, 113, 171, 202, 184, 77, 171, 21, 62, 99, 174, 241, 167, 214, 95, 207]
end Go.Proofs.YtfinnljkcgglfaaDoor
