/- The code of the functions, as it is told, and that it is told rightly (1). -/
import Derived.Test.YtfinnljkcgglfaaGreatDoorProg
import Derived.Test.YtfinnljkcgglfaaGreatDoorZv6
import Derived.KernelRfl
namespace Go.Proofs.YtfinnljkcgglfaaGreatDoor
open Go.Vs
set_option maxRecDepth 100000

/-- 3: signetring/signetringlaw11.PrimsReal -/
def F3 : Fun :=
 ⟨146, 2, [.t 4],
 (.seq (.reg [⟨some 2, .box none (.t 0), none⟩,
 ⟨some 4, .mov (.k (.bool false)), none⟩])
 (.seq (.seq (.reg [⟨some 22, .call (.k (.fn (.func 5) [] [])) [], none⟩,
 ⟨some 23, .un .not (.t 22), none⟩])
 (.cond (.t 23)
 (.seq (.reg [⟨some 4, .mov (.k (.bool false)), none⟩])
 .ret)
 .skip))
 (.seq (.reg [⟨some 24, .call (.k (.fn (.func 6) [] [])) [], none⟩,
 ⟨some 5, .mov (.t 24), none⟩])
 (.seq (.seq (.reg [⟨some 25, .mov (.t 5), none⟩,
 ⟨some 26, .bin .eql .ifc (.t 25) (.k .nifc), none⟩,
 ⟨some 27, .mov (.t 26), none⟩,
 ⟨some 28, .load 5 true (.t 2), some (27, false)⟩,
 ⟨some 29, .call (.k (.fn (.func 7) [] [])) [(.t 28)], some (27, false)⟩,
 ⟨some 30, .un .not (.t 29), some (27, false)⟩,
 ⟨some 31, .pick (.t 27) (.k (.bool true)) (.t 30), none⟩])
 (.cond (.t 31)
 (.seq (.reg [⟨some 32, .mov (.t 5), none⟩,
 ⟨some 33, .bin .neq .ifc (.t 32) (.k .nifc), none⟩,
 ⟨some 4, .mov (.t 33), none⟩])
 .ret)
 .skip))
 (.seq (.reg [⟨some 35, .fad 0 (.t 2), none⟩,
 ⟨some 36, .load 1 false (.t 35), none⟩,
 ⟨some 37, .call (.k (.fn (.func 8) [] [])) [(.t 36)], none⟩,
 ⟨some 34, .mov (.t 37), none⟩,
 ⟨some 38, .ext (.t 34) 0, none⟩,
 ⟨some 39, .ext (.t 34) 1, none⟩,
 ⟨some 6, .new [.int .u8 0, .int .u8 0, .int .u8 0, .int .u8 0, .int .u8 0, .int .u8 0, .int .u8 0, .int .u8 0, .int .u8 0, .int .u8 0, .int .u8 0, .int .u8 0, .int .u8 0, .int .u8 0, .int .u8 0, .int .u8 0, .int .u8 0, .int .u8 0, .int .u8 0, .int .u8 0, .int .u8 0, .int .u8 0, .int .u8 0, .int .u8 0, .int .u8 0, .int .u8 0, .int .u8 0, .int .u8 0, .int .u8 0, .int .u8 0, .int .u8 0, .int .u8 0] none, none⟩,
 ⟨none, .store 32 (.t 6) (.t 38), none⟩,
 ⟨some 7, .mov (.t 39), none⟩])
 (.seq (.reg [⟨some 41, .fad 1 (.t 2), none⟩,
 ⟨some 42, .load 1 false (.t 41), none⟩,
 ⟨some 43, .call (.k (.fn (.func 8) [] [])) [(.t 42)], none⟩,
 ⟨some 40, .mov (.t 43), none⟩,
 ⟨some 44, .ext (.t 40) 0, none⟩,
 ⟨some 45, .ext (.t 40) 1, none⟩,
 ⟨some 8, .new [.int .u8 0, .int .u8 0, .int .u8 0, .int .u8 0, .int .u8 0, .int .u8 0, .int .u8 0, .int .u8 0, .int .u8 0, .int .u8 0, .int .u8 0, .int .u8 0, .int .u8 0, .int .u8 0, .int .u8 0, .int .u8 0, .int .u8 0, .int .u8 0, .int .u8 0, .int .u8 0, .int .u8 0, .int .u8 0, .int .u8 0, .int .u8 0, .int .u8 0, .int .u8 0, .int .u8 0, .int .u8 0, .int .u8 0, .int .u8 0, .int .u8 0, .int .u8 0] none, none⟩,
 ⟨none, .store 32 (.t 8) (.t 44), none⟩,
 ⟨some 9, .mov (.t 45), none⟩])
 (.seq (.reg [⟨some 10, .mov (.k (.str [])), none⟩])
 (.seq (.seq (.reg [⟨some 46, .mov (.t 7), none⟩])
 (.cond (.t 46)
 (.seq (.reg [⟨some 47, .load 32 true (.t 6), none⟩,
 ⟨some 48, .call (.k (.fn (.func 9) [] [])) [(.t 47)], none⟩,
 ⟨some 11, .new [.int .u8 0, .int .u8 0, .int .u8 0, .int .u8 0, .int .u8 0, .int .u8 0, .int .u8 0, .int .u8 0, .int .u8 0, .int .u8 0, .int .u8 0, .int .u8 0, .int .u8 0, .int .u8 0, .int .u8 0, .int .u8 0, .int .u8 0, .int .u8 0, .int .u8 0, .int .u8 0, .int .u8 0, .int .u8 0, .int .u8 0, .int .u8 0, .int .u8 0, .int .u8 0, .int .u8 0, .int .u8 0, .int .u8 0, .int .u8 0, .int .u8 0, .int .u8 0] none, none⟩,
 ⟨none, .store 32 (.t 11) (.t 48), none⟩])
 (.reg [⟨some 49, .slca 32 1 false (.t 11) none none none, none⟩,
 ⟨some 50, .b2s (.t 49), none⟩,
 ⟨some 10, .mov (.t 50), none⟩]))
 .skip))
 (.seq (.seq (.reg [⟨some 51, .mov (.t 5), none⟩,
 ⟨some 52, .fad 0 (.t 2), none⟩,
 ⟨some 53, .load 1 false (.t 52), none⟩,
 ⟨some 54, .inv (.t 51) "Pub" [(.t 53)], none⟩,
 ⟨some 55, .mov (.t 10), none⟩,
 ⟨some 56, .bin .neq .str (.t 54) (.t 55), none⟩])
 (.cond (.t 56)
 (.seq (.reg [⟨some 4, .mov (.k (.bool false)), none⟩])
 .ret)
 .skip))
 (.seq (.reg [⟨some 10, .mov (.k (.str [])), none⟩,
 ⟨some 12, .mov (.k (.bool false)), none⟩])
 (.seq (.seq (.reg [⟨some 57, .mov (.t 7), none⟩,
 ⟨some 58, .mov (.t 57), none⟩,
 ⟨some 59, .mov (.t 9), some (58, true)⟩,
 ⟨some 60, .pick (.t 58) (.t 59) (.k (.bool false)), none⟩])
 (.cond (.t 60)
 (.seq (.reg [⟨some 62, .load 32 true (.t 6), none⟩,
 ⟨some 63, .load 32 true (.t 8), none⟩,
 ⟨some 64, .call (.k (.fn (.func 10) [] [])) [(.t 62), (.t 63)], none⟩,
 ⟨some 61, .mov (.t 64), none⟩,
 ⟨some 65, .ext (.t 61) 0, none⟩,
 ⟨some 66, .ext (.t 61) 1, none⟩,
 ⟨some 13, .new [.int .u8 0, .int .u8 0, .int .u8 0, .int .u8 0, .int .u8 0, .int .u8 0, .int .u8 0, .int .u8 0, .int .u8 0, .int .u8 0, .int .u8 0, .int .u8 0, .int .u8 0, .int .u8 0, .int .u8 0, .int .u8 0, .int .u8 0, .int .u8 0, .int .u8 0, .int .u8 0, .int .u8 0, .int .u8 0, .int .u8 0, .int .u8 0, .int .u8 0, .int .u8 0, .int .u8 0, .int .u8 0, .int .u8 0, .int .u8 0, .int .u8 0, .int .u8 0] none, none⟩,
 ⟨none, .store 32 (.t 13) (.t 65), none⟩,
 ⟨some 14, .mov (.t 66), none⟩])
 (.seq (.reg [⟨some 67, .mov (.t 14), none⟩])
 (.cond (.t 67)
 (.reg [⟨some 68, .slca 32 1 false (.t 13) none none none, none⟩,
 ⟨some 69, .b2s (.t 68), none⟩,
 ⟨some 10, .mov (.t 69), none⟩,
 ⟨some 12, .mov (.k (.bool true)), none⟩])
 .skip)))
 .skip))
 (.seq (.seq (.reg [⟨some 71, .mov (.t 5), none⟩,
 ⟨some 72, .fad 0 (.t 2), none⟩,
 ⟨some 73, .load 1 false (.t 72), none⟩,
 ⟨some 74, .fad 1 (.t 2), none⟩,
 ⟨some 75, .load 1 false (.t 74), none⟩,
 ⟨some 76, .inv (.t 71) "Dh" [(.t 73), (.t 75)], none⟩,
 ⟨some 70, .mov (.t 76), none⟩,
 ⟨some 77, .ext (.t 70) 0, none⟩,
 ⟨some 78, .ext (.t 70) 1, none⟩,
 ⟨some 15, .mov (.t 77), none⟩,
 ⟨some 16, .mov (.t 78), none⟩])
 (.seq (.reg [⟨some 79, .mov (.t 15), none⟩,
 ⟨some 80, .mov (.t 10), none⟩,
 ⟨some 81, .bin .neq .str (.t 79) (.t 80), none⟩,
 ⟨some 82, .mov (.t 81), none⟩,
 ⟨some 83, .mov (.t 16), some (82, false)⟩,
 ⟨some 84, .mov (.t 12), some (82, false)⟩,
 ⟨some 85, .bin .neq .bool (.t 83) (.t 84), some (82, false)⟩,
 ⟨some 86, .pick (.t 82) (.k (.bool true)) (.t 85), none⟩])
 (.cond (.t 86)
 (.seq (.reg [⟨some 4, .mov (.k (.bool false)), none⟩])
 .ret)
 .skip)))
 (.seq (.reg [⟨some 88, .load 32 true (.t 6), none⟩,
 ⟨some 89, .fad 4 (.t 2), none⟩,
 ⟨some 90, .load 1 false (.t 89), none⟩,
 ⟨some 91, .s2b true (.t 90), none⟩,
 ⟨some 92, .mov (.t 1), none⟩,
 ⟨some 93, .call (.k (.fn (.func 11) [] [])) [(.t 88), (.t 91), (.t 92)], none⟩,
 ⟨some 87, .mov (.t 93), none⟩,
 ⟨some 94, .ext (.t 87) 0, none⟩,
 ⟨some 95, .ext (.t 87) 1, none⟩,
 ⟨some 17, .mov (.t 94), none⟩,
 ⟨some 18, .mov (.t 95), none⟩])
 (.seq (.reg [⟨some 96, .mov (.t 5), none⟩,
 ⟨some 97, .fad 0 (.t 2), none⟩,
 ⟨some 98, .load 1 false (.t 97), none⟩,
 ⟨some 99, .fad 4 (.t 2), none⟩,
 ⟨some 100, .load 1 false (.t 99), none⟩,
 ⟨some 101, .mov (.t 1), none⟩,
 ⟨some 102, .inv (.t 96) "Keys" [(.t 98), (.t 100), (.t 101)], none⟩,
 ⟨some 19, .mov (.t 102), none⟩])
 (.seq (.seq (.reg [⟨some 103, .mov (.t 7), none⟩,
 ⟨some 104, .un .not (.t 103), none⟩,
 ⟨some 105, .mov (.t 104), none⟩,
 ⟨some 106, .mov (.t 18), some (105, false)⟩,
 ⟨some 107, .bin .neq .num (.t 106) (.k (.int .i64 0)), some (105, false)⟩,
 ⟨some 108, .pick (.t 105) (.k (.bool true)) (.t 107), none⟩])
 (.cond (.t 108)
 (.reg [⟨some 17, .mov (.k .nsl), none⟩])
 .skip))
 (.seq (.seq (.reg [⟨some 109, .mov (.t 19), none⟩,
 ⟨some 110, .len .slc (.t 109), none⟩,
 ⟨some 111, .mov (.t 17), none⟩,
 ⟨some 112, .len .slc (.t 111), none⟩,
 ⟨some 113, .bin .neq .num (.t 110) (.t 112), none⟩])
 (.cond (.t 113)
 (.seq (.reg [⟨some 4, .mov (.k (.bool false)), none⟩])
 .ret)
 .skip))
 (.seq (.seq (.reg [⟨some 114, .mov (.t 19), none⟩,
 ⟨some 115, .len .slc (.t 114), none⟩,
 ⟨some 116, .mov (.k (.int .i64 0)), none⟩])
 (.block 0
 (.loop
 (.seq (.reg [⟨some 117, .bin .lss .num (.t 116) (.t 115), none⟩])
 (.seq (.cond (.t 117)
 .skip
 (.exit 0))
 (.seq (.block 1
 (.seq (.reg [⟨some 118, .mov (.t 116), none⟩,
 ⟨some 20, .mov (.t 118), none⟩])
 (.seq (.dreg [⟨some 119, .mov (.t 19), none⟩,
 ⟨some 120, .mov (.t 20), none⟩,
 ⟨some 121, .iad 1 (.t 119) (.t 120), none⟩,
 ⟨some 122, .load 1 false (.t 121), none⟩,
 ⟨some 123, .mov (.t 17), none⟩,
 ⟨some 124, .mov (.t 20), none⟩,
 ⟨some 125, .iad 32 (.t 123) (.t 124), none⟩,
 ⟨some 126, .slca 32 1 false (.t 125) none none none, none⟩,
 ⟨some 127, .b2s (.t 126), none⟩,
 ⟨some 128, .bin .neq .str (.t 122) (.t 127), none⟩] (.lin [] [(0, none), (1, none), (2, none), (3, none), (4, none), (5, none), (6, none), (7, none), (8, none), (9, none)]))
 (.cond (.t 128)
 (.seq (.reg [⟨some 4, .mov (.k (.bool false)), none⟩])
 .ret)
 .skip))))
 (.reg [⟨some 129, .bin .add .num (.t 116) (.k (.int .i64 1)), none⟩,
 ⟨some 116, .mov (.t 129), none⟩])))))))
 (.seq (.reg [⟨some 130, .fad 0 (.t 2), none⟩,
 ⟨some 131, .load 1 false (.t 130), none⟩,
 ⟨some 132, .fad 1 (.t 2), none⟩,
 ⟨some 133, .load 1 false (.t 132), none⟩,
 ⟨some 134, .bin .add .str (.t 131) (.t 133), none⟩,
 ⟨some 135, .s2b true (.t 134), none⟩,
 ⟨some 136, .call (.k (.fn (.func 12) [] [])) [(.t 135)], none⟩,
 ⟨some 21, .new [.int .u8 0, .int .u8 0, .int .u8 0, .int .u8 0, .int .u8 0, .int .u8 0, .int .u8 0, .int .u8 0, .int .u8 0, .int .u8 0, .int .u8 0, .int .u8 0, .int .u8 0, .int .u8 0, .int .u8 0, .int .u8 0, .int .u8 0, .int .u8 0, .int .u8 0, .int .u8 0, .int .u8 0, .int .u8 0, .int .u8 0, .int .u8 0, .int .u8 0, .int .u8 0, .int .u8 0, .int .u8 0, .int .u8 0, .int .u8 0, .int .u8 0, .int .u8 0] none, none⟩,
 ⟨none, .store 32 (.t 21) (.t 136), none⟩])
 (.seq (.dreg [⟨some 137, .mov (.t 5), none⟩,
 ⟨some 138, .fad 0 (.t 2), none⟩,
 ⟨some 139, .load 1 false (.t 138), none⟩,
 ⟨some 140, .fad 1 (.t 2), none⟩,
 ⟨some 141, .load 1 false (.t 140), none⟩,
 ⟨some 142, .inv (.t 137) "Hash" [(.t 139), (.t 141)], none⟩,
 ⟨some 143, .slca 32 1 false (.t 21) none none none, none⟩,
 ⟨some 144, .b2s (.t 143), none⟩,
 ⟨some 145, .bin .eql .str (.t 142) (.t 144), none⟩,
 ⟨some 4, .mov (.t 145), none⟩] (.lin [] [(0, none), (1, none), (2, none), (3, none), (4, none), (6, none), (7, none), (5, some [6, 7]), (8, none), (9, none)]))
 .ret)))))))))))))))))))⟩

/-- 5: signetring/signetringlaw11.alive -/
def F5 : Fun :=
 ⟨61, 0, [.t 0],
 (.seq (.reg [⟨some 0, .mov (.k (.bool false)), none⟩])
 (.seq (.reg [⟨some 4, .call (.k (.fn (.func 6) [] [])) [], none⟩,
 ⟨some 5, .call (.k (.fn (.func 13) [] [])) [], none⟩,
 ⟨some 6, .call (.k (.fn (.func 14) [] [])) [(.t 5)], none⟩,
 ⟨some 1, .mov (.t 4), none⟩,
 ⟨some 2, .mov (.t 6), none⟩])
 (.seq (.seq (.reg [⟨some 7, .mov (.t 1), none⟩,
 ⟨some 8, .bin .eql .ifc (.t 7) (.k .nifc), none⟩,
 ⟨some 9, .mov (.t 8), none⟩,
 ⟨some 10, .mov (.t 2), some (9, false)⟩,
 ⟨some 11, .bin .eql .ifc (.t 10) (.k .nifc), some (9, false)⟩,
 ⟨some 12, .pick (.t 9) (.k (.bool true)) (.t 11), none⟩,
 ⟨some 13, .mov (.t 12), none⟩,
 ⟨some 14, .call (.k (.fn (.func 14) [] [])) [(.k .nptr)], some (13, false)⟩,
 ⟨some 15, .bin .neq .ifc (.t 14) (.k .nifc), some (13, false)⟩,
 ⟨some 16, .pick (.t 13) (.k (.bool true)) (.t 15), none⟩])
 (.cond (.t 16)
 (.seq (.reg [⟨some 0, .mov (.k (.bool false)), none⟩])
 .ret)
 .skip))
 (.seq (.reg [⟨some 17, .j (.mkt 1 [.int .u8 0, .int .u8 0, .int .u8 0] 3 [(0, (.k (.int .u8 97))), (1, (.k (.int .u8 98))), (2, (.k (.int .u8 99)))] 5), none⟩,
 ⟨some 18, .j (.cvb 5 (.t 17)), none⟩,
 ⟨some 19, .call (.k (.fn (.func 12) [] [])) [(.t 18)], none⟩,
 ⟨some 3, .new [.int .u8 0, .int .u8 0, .int .u8 0, .int .u8 0, .int .u8 0, .int .u8 0, .int .u8 0, .int .u8 0, .int .u8 0, .int .u8 0, .int .u8 0, .int .u8 0, .int .u8 0, .int .u8 0, .int .u8 0, .int .u8 0, .int .u8 0, .int .u8 0, .int .u8 0, .int .u8 0, .int .u8 0, .int .u8 0, .int .u8 0, .int .u8 0, .int .u8 0, .int .u8 0, .int .u8 0, .int .u8 0, .int .u8 0, .int .u8 0, .int .u8 0, .int .u8 0] none, none⟩,
 ⟨none, .store 32 (.t 3) (.t 19), none⟩])
 (.seq (.dreg [⟨some 20, .mov (.t 1), none⟩,
 ⟨some 21, .inv (.t 20) "Hash" [(.k (.str [97])), (.k (.str [98, 99]))], none⟩,
 ⟨some 22, .slca 32 1 false (.t 3) none none none, none⟩,
 ⟨some 23, .b2s (.t 22), none⟩,
 ⟨some 24, .bin .eql .str (.t 21) (.t 23), none⟩,
 ⟨some 25, .mov (.t 24), none⟩,
 ⟨some 26, .mov (.t 1), some (25, true)⟩,
 ⟨some 27, .inv (.t 26) "Hash" [(.k (.str [97, 98])), (.k (.str [99]))], some (25, true)⟩,
 ⟨some 28, .slca 32 1 false (.t 3) none none none, some (25, true)⟩,
 ⟨some 29, .b2s (.t 28), some (25, true)⟩,
 ⟨some 30, .bin .eql .str (.t 27) (.t 29), some (25, true)⟩,
 ⟨some 31, .pick (.t 25) (.t 30) (.k (.bool false)), none⟩,
 ⟨some 32, .mov (.t 31), none⟩,
 ⟨some 33, .mov (.t 2), some (32, true)⟩,
 ⟨some 34, .inv (.t 33) "Hash" [(.k (.str [97])), (.k (.str [98, 99]))], some (32, true)⟩,
 ⟨some 35, .mov (.t 2), some (32, true)⟩,
 ⟨some 36, .inv (.t 35) "Hash" [(.k (.str [97, 98])), (.k (.str [99]))], some (32, true)⟩,
 ⟨some 37, .bin .neq .str (.t 34) (.t 36), some (32, true)⟩,
 ⟨some 38, .pick (.t 32) (.t 37) (.k (.bool false)), none⟩,
 ⟨some 39, .mov (.t 38), none⟩,
 ⟨some 40, .mov (.t 2), some (39, true)⟩,
 ⟨some 41, .inv (.t 40) "Hash" [(.k (.str [97])), (.k (.str [98, 99]))], some (39, true)⟩,
 ⟨some 42, .len .str (.t 41), some (39, true)⟩,
 ⟨some 43, .bin .eql .num (.t 42) (.k (.int .i64 32)), some (39, true)⟩,
 ⟨some 44, .pick (.t 39) (.t 43) (.k (.bool false)), none⟩,
 ⟨some 45, .mov (.t 44), none⟩,
 ⟨some 46, .mov (.t 1), some (45, true)⟩,
 ⟨some 47, .slca 32 1 false (.t 3) none none none, some (45, true)⟩,
 ⟨some 48, .b2s (.t 47), some (45, true)⟩,
 ⟨some 49, .mkf (.method "Keys") [(.t 46)] [], some (45, true)⟩,
 ⟨some 50, .nilck (.t 49), some (45, true)⟩,
 ⟨some 51, .mov (.t 46), some (45, true)⟩,
 ⟨some 52, .inv (.t 51) "Keys" [(.t 48), (.k (.str [])), (.k (.int .i64 2))], some (45, true)⟩,
 ⟨some 53, .len .slc (.t 52), some (45, true)⟩,
 ⟨some 54, .bin .eql .num (.t 53) (.k (.int .i64 2)), some (45, true)⟩,
 ⟨some 55, .pick (.t 45) (.t 54) (.k (.bool false)), none⟩,
 ⟨some 56, .mov (.t 55), none⟩,
 ⟨some 57, .mov (.t 1), some (56, true)⟩,
 ⟨some 58, .inv (.t 57) "Pub" [(.k (.str [115, 104, 111, 114, 116]))], some (56, true)⟩,
 ⟨some 59, .bin .eql .str (.t 58) (.k (.str [])), some (56, true)⟩,
 ⟨some 60, .pick (.t 56) (.t 59) (.k (.bool false)), none⟩,
 ⟨some 0, .mov (.t 60), none⟩] (.lin [] [(0, none), (2, none), (3, none), (1, some [2, 3]), (4, none), (5, none), (6, none), (8, none), (9, none), (7, some [8, 9]), (10, none), (11, none), (12, none), (13, none), (15, none), (14, some [15]), (16, some []), (17, none), (18, none), (19, none), (20, none), (21, some []), (22, none), (23, none), (24, none), (25, none), (26, none), (27, none), (28, none), (29, none), (30, none), (31, none), (32, some []), (33, none), (34, none), (35, none), (36, none), (37, none), (38, some []), (39, none), (40, none), (41, none)]))
 .ret)))))⟩

/-- 6: signetring/prims.Real -/
def F6 : Fun :=
 ⟨3, 0, [.t 0],
 (.seq (.reg [⟨some 0, .mov (.k .nifc), none⟩])
 (.seq (.reg [⟨some 1, .build [] [], none⟩,
 ⟨some 2, .mki 57 (.t 1), none⟩,
 ⟨some 0, .mov (.t 2), none⟩])
 .ret))⟩

/-- 7: signetring/signetringlaw11.few -/
def F7 : Fun :=
 ⟨25, 1, [.t 2],
 (.seq (.reg [⟨some 1, .box none (.t 0), none⟩,
 ⟨some 2, .mov (.k (.bool false)), none⟩])
 (.seq (.reg [⟨some 3, .fad 0 (.t 1), none⟩,
 ⟨some 4, .load 1 false (.t 3), none⟩,
 ⟨some 5, .len .str (.t 4), none⟩,
 ⟨some 6, .bin .leq .num (.t 5) (.k (.int .i64 1000)), none⟩,
 ⟨some 7, .mov (.t 6), none⟩,
 ⟨some 8, .fad 1 (.t 1), some (7, true)⟩,
 ⟨some 9, .load 1 false (.t 8), some (7, true)⟩,
 ⟨some 10, .len .str (.t 9), some (7, true)⟩,
 ⟨some 11, .bin .leq .num (.t 10) (.k (.int .i64 1000)), some (7, true)⟩,
 ⟨some 12, .pick (.t 7) (.t 11) (.k (.bool false)), none⟩,
 ⟨some 13, .mov (.t 12), none⟩,
 ⟨some 14, .fad 3 (.t 1), some (13, true)⟩,
 ⟨some 15, .load 1 false (.t 14), some (13, true)⟩,
 ⟨some 16, .len .str (.t 15), some (13, true)⟩,
 ⟨some 17, .bin .leq .num (.t 16) (.k (.int .i64 1000)), some (13, true)⟩,
 ⟨some 18, .pick (.t 13) (.t 17) (.k (.bool false)), none⟩,
 ⟨some 19, .mov (.t 18), none⟩,
 ⟨some 20, .fad 4 (.t 1), some (19, true)⟩,
 ⟨some 21, .load 1 false (.t 20), some (19, true)⟩,
 ⟨some 22, .len .str (.t 21), some (19, true)⟩,
 ⟨some 23, .bin .leq .num (.t 22) (.k (.int .i64 1000)), some (19, true)⟩,
 ⟨some 24, .pick (.t 19) (.t 23) (.k (.bool false)), none⟩,
 ⟨some 2, .mov (.t 24), none⟩])
 .ret))⟩

/-- 8: signetring/signetringlaw11.key -/
def F8 : Fun :=
 ⟨12, 1, [.c 2 32 true, .t 3],
 (.seq (.reg [⟨some 2, .new [.int .u8 0, .int .u8 0, .int .u8 0, .int .u8 0, .int .u8 0, .int .u8 0, .int .u8 0, .int .u8 0, .int .u8 0, .int .u8 0, .int .u8 0, .int .u8 0, .int .u8 0, .int .u8 0, .int .u8 0, .int .u8 0, .int .u8 0, .int .u8 0, .int .u8 0, .int .u8 0, .int .u8 0, .int .u8 0, .int .u8 0, .int .u8 0, .int .u8 0, .int .u8 0, .int .u8 0, .int .u8 0, .int .u8 0, .int .u8 0, .int .u8 0, .int .u8 0] none, none⟩,
 ⟨some 3, .mov (.k (.bool false)), none⟩])
 (.seq (.reg [⟨some 4, .new [.int .u8 0, .int .u8 0, .int .u8 0, .int .u8 0, .int .u8 0, .int .u8 0, .int .u8 0, .int .u8 0, .int .u8 0, .int .u8 0, .int .u8 0, .int .u8 0, .int .u8 0, .int .u8 0, .int .u8 0, .int .u8 0, .int .u8 0, .int .u8 0, .int .u8 0, .int .u8 0, .int .u8 0, .int .u8 0, .int .u8 0, .int .u8 0, .int .u8 0, .int .u8 0, .int .u8 0, .int .u8 0, .int .u8 0, .int .u8 0, .int .u8 0, .int .u8 0] none, none⟩])
 (.seq (.reg [⟨some 5, .slca 32 1 false (.t 4) none none none, none⟩,
 ⟨some 6, .mov (.t 0), none⟩,
 ⟨some 7, .cpy 1 (.t 5) (.t 6), none⟩])
 (.seq (.reg [⟨some 8, .load 32 true (.t 4), none⟩,
 ⟨some 9, .mov (.t 0), none⟩,
 ⟨some 10, .len .str (.t 9), none⟩,
 ⟨some 11, .bin .eql .num (.t 10) (.k (.int .i64 32)), none⟩,
 ⟨none, .store 32 (.t 2) (.t 8), none⟩,
 ⟨some 3, .mov (.t 11), none⟩])
 .ret))))⟩

/-- 9: signetring/ladder.Pub -/
def F9 : Fun :=
 ⟨6, 1, [.c 2 32 true],
 (.seq (.reg [⟨some 1, .box none (.t 0), none⟩,
 ⟨some 2, .new [.int .u8 0, .int .u8 0, .int .u8 0, .int .u8 0, .int .u8 0, .int .u8 0, .int .u8 0, .int .u8 0, .int .u8 0, .int .u8 0, .int .u8 0, .int .u8 0, .int .u8 0, .int .u8 0, .int .u8 0, .int .u8 0, .int .u8 0, .int .u8 0, .int .u8 0, .int .u8 0, .int .u8 0, .int .u8 0, .int .u8 0, .int .u8 0, .int .u8 0, .int .u8 0, .int .u8 0, .int .u8 0, .int .u8 0, .int .u8 0, .int .u8 0, .int .u8 0] none, none⟩])
 (.seq (.reg [⟨some 3, .load 32 true (.t 1), none⟩,
 ⟨some 4, .build [.int .u8 0, .int .u8 0, .int .u8 0, .int .u8 0, .int .u8 0, .int .u8 0, .int .u8 0, .int .u8 0, .int .u8 0, .int .u8 0, .int .u8 0, .int .u8 0, .int .u8 0, .int .u8 0, .int .u8 0, .int .u8 0, .int .u8 0, .int .u8 0, .int .u8 0, .int .u8 0, .int .u8 0, .int .u8 0, .int .u8 0, .int .u8 0, .int .u8 0, .int .u8 0, .int .u8 0, .int .u8 0, .int .u8 0, .int .u8 0, .int .u8 0, .int .u8 0] [(0, 1, (.k (.int .u8 9)))], none⟩,
 ⟨some 5, .call (.k (.fn (.func 21) [] [])) [(.t 3), (.t 4)], none⟩,
 ⟨none, .store 32 (.t 2) (.t 5), none⟩])
 .ret))⟩

/-- 10: signetring/ladder.Shared -/
def F10 : Fun :=
 ⟨24, 2, [.c 4 32 true, .t 5],
 (.seq (.reg [⟨some 2, .box none (.t 0), none⟩,
 ⟨some 3, .box none (.t 1), none⟩,
 ⟨some 4, .new [.int .u8 0, .int .u8 0, .int .u8 0, .int .u8 0, .int .u8 0, .int .u8 0, .int .u8 0, .int .u8 0, .int .u8 0, .int .u8 0, .int .u8 0, .int .u8 0, .int .u8 0, .int .u8 0, .int .u8 0, .int .u8 0, .int .u8 0, .int .u8 0, .int .u8 0, .int .u8 0, .int .u8 0, .int .u8 0, .int .u8 0, .int .u8 0, .int .u8 0, .int .u8 0, .int .u8 0, .int .u8 0, .int .u8 0, .int .u8 0, .int .u8 0, .int .u8 0] none, none⟩,
 ⟨some 5, .mov (.k (.bool false)), none⟩])
 (.seq (.reg [⟨some 10, .load 32 true (.t 2), none⟩,
 ⟨some 11, .load 32 true (.t 3), none⟩,
 ⟨some 12, .call (.k (.fn (.func 21) [] [])) [(.t 10), (.t 11)], none⟩,
 ⟨some 6, .new [.int .u8 0, .int .u8 0, .int .u8 0, .int .u8 0, .int .u8 0, .int .u8 0, .int .u8 0, .int .u8 0, .int .u8 0, .int .u8 0, .int .u8 0, .int .u8 0, .int .u8 0, .int .u8 0, .int .u8 0, .int .u8 0, .int .u8 0, .int .u8 0, .int .u8 0, .int .u8 0, .int .u8 0, .int .u8 0, .int .u8 0, .int .u8 0, .int .u8 0, .int .u8 0, .int .u8 0, .int .u8 0, .int .u8 0, .int .u8 0, .int .u8 0, .int .u8 0] none, none⟩,
 ⟨none, .store 32 (.t 6) (.t 12), none⟩])
 (.seq (.reg [⟨some 7, .mov (.k (.int .u8 0)), none⟩])
 (.seq (.seq (.reg [⟨some 13, .load 32 true (.t 6), none⟩,
 ⟨some 14, .mov (.k (.int .i64 0)), none⟩])
 (.block 0
 (.loop
 (.seq (.reg [⟨some 15, .bin .lss .num (.t 14) (.k (.int .i64 32)), none⟩])
 (.seq (.cond (.t 15)
 .skip
 (.exit 0))
 (.seq (.block 1
 (.seq (.reg [⟨some 16, .idxa 32 1 false (.t 13) (.t 14), none⟩,
 ⟨some 9, .mov (.t 16), none⟩])
 (.reg [⟨some 17, .mov (.t 7), none⟩,
 ⟨some 18, .mov (.t 9), none⟩,
 ⟨some 19, .bin .or .num (.t 17) (.t 18), none⟩,
 ⟨some 7, .mov (.t 19), none⟩])))
 (.reg [⟨some 20, .bin .add .num (.t 14) (.k (.int .i64 1)), none⟩,
 ⟨some 14, .mov (.t 20), none⟩])))))))
 (.seq (.reg [⟨some 21, .load 32 true (.t 6), none⟩,
 ⟨some 22, .mov (.t 7), none⟩,
 ⟨some 23, .bin .neq .num (.t 22) (.k (.int .u8 0)), none⟩,
 ⟨none, .store 32 (.t 4) (.t 21), none⟩,
 ⟨some 5, .mov (.t 23), none⟩])
 .ret)))))⟩

/-- 11: signetring/mac.Keys -/
def F11 : Fun :=
 ⟨38, 3, [.t 6, .t 7],
 (.seq (.reg [⟨some 3, .box none (.t 0), none⟩,
 ⟨some 6, .mov (.k .nsl), none⟩,
 ⟨some 7, .mov (.k (.int .i64 0)), none⟩])
 (.seq (.seq (.reg [⟨some 12, .mov (.t 2), none⟩,
 ⟨some 13, .bin .lss .num (.t 12) (.k (.int .i64 1)), none⟩,
 ⟨some 14, .mov (.t 13), none⟩,
 ⟨some 15, .mov (.t 2), some (14, false)⟩,
 ⟨some 16, .bin .gtr .num (.t 15) (.k (.int .i64 3)), some (14, false)⟩,
 ⟨some 17, .pick (.t 14) (.k (.bool true)) (.t 16), none⟩])
 (.cond (.t 17)
 (.seq (.reg [⟨some 6, .mov (.k .nsl), none⟩,
 ⟨some 7, .mov (.k (.int .i64 2)), none⟩])
 .ret)
 .skip))
 (.seq (.reg [⟨some 19, .slca 32 1 false (.t 3) none none none, none⟩,
 ⟨some 20, .mov (.t 1), none⟩,
 ⟨some 21, .call (.k (.fn (.func 23) [] [])) [(.t 19), (.t 20)], none⟩,
 ⟨some 22, .mov (.t 2), none⟩,
 ⟨some 23, .bin .mul .num (.t 22) (.k (.int .i64 32)), none⟩,
 ⟨some 24, .call (.k (.fn (.func 22) [] [])) [(.t 21), (.k .nsl), (.t 23)], none⟩,
 ⟨some 18, .mov (.t 24), none⟩,
 ⟨some 25, .ext (.t 18) 0, none⟩,
 ⟨some 26, .ext (.t 18) 1, none⟩,
 ⟨some 8, .mov (.t 25), none⟩,
 ⟨some 9, .mov (.t 26), none⟩])
 (.seq (.reg [⟨some 10, .new [.nsl] none, none⟩])
 (.seq (.seq (.reg [⟨some 27, .mov (.t 8), none⟩,
 ⟨some 28, .call (.k (.fn (.func 24) [] [])) [(.t 27), (.k (.int .i64 32))], none⟩])
 (.block 0
 .no))
 (.seq (.reg [⟨some 36, .load 1 false (.t 10), none⟩,
 ⟨some 37, .mov (.t 9), none⟩,
 ⟨some 6, .mov (.t 36), none⟩,
 ⟨some 7, .mov (.t 37), none⟩])
 .ret))))))⟩

/-- 12: signetring/sha.Sum -/
def F12 : Fun :=
 ⟨7, 1, [.c 2 32 true],
 (.seq (.reg [⟨some 2, .new [.int .u8 0, .int .u8 0, .int .u8 0, .int .u8 0, .int .u8 0, .int .u8 0, .int .u8 0, .int .u8 0, .int .u8 0, .int .u8 0, .int .u8 0, .int .u8 0, .int .u8 0, .int .u8 0, .int .u8 0, .int .u8 0, .int .u8 0, .int .u8 0, .int .u8 0, .int .u8 0, .int .u8 0, .int .u8 0, .int .u8 0, .int .u8 0, .int .u8 0, .int .u8 0, .int .u8 0, .int .u8 0, .int .u8 0, .int .u8 0, .int .u8 0, .int .u8 0] none, none⟩])
 (.seq (.reg [⟨some 3, .build [.int .u32 0, .int .u32 0, .int .u32 0, .int .u32 0, .int .u32 0, .int .u32 0, .int .u32 0, .int .u32 0, .nsl, .int .u64 0] [], none⟩,
 ⟨some 4, .mov (.t 0), none⟩,
 ⟨some 5, .call (.k (.fn (.func 25) [] [])) [(.t 3), (.t 4)], none⟩,
 ⟨some 6, .call (.k (.fn (.func 26) [] [])) [(.t 5)], none⟩,
 ⟨none, .store 32 (.t 2) (.t 6), none⟩])
 .ret))⟩

/-- 13: signetring/term.New -/
def F13 : Fun :=
 ⟨5, 0, [.t 0],
 (.seq (.reg [⟨some 0, .mov (.k .nptr), none⟩])
 (.seq (.reg [⟨(some 1), .mkm, none⟩,
 ⟨(some 2), .mkm, none⟩,
 ⟨some 3, .build [.nmap, .nmap, .nsl] [(0, 1, (.t 1)), (1, 1, (.t 2))], none⟩,
 ⟨some 4, .box none (.t 3), none⟩,
 ⟨some 0, .mov (.t 4), none⟩])
 .ret))⟩

/-- 14: signetring/prims.Symbol -/
def F14 : Fun :=
 ⟨8, 1, [.t 2],
 (.seq (.reg [⟨some 2, .mov (.k .nifc), none⟩])
 (.seq (.seq (.reg [⟨some 3, .mov (.t 0), none⟩,
 ⟨some 4, .bin .eql .ptr (.t 3) (.k .nptr), none⟩])
 (.cond (.t 4)
 (.seq (.reg [⟨some 2, .mov (.k .nifc), none⟩])
 .ret)
 .skip))
 (.seq (.reg [⟨some 5, .mov (.t 0), none⟩,
 ⟨some 6, .build [.nptr] [(0, 1, (.t 5))], none⟩,
 ⟨some 7, .mki 75 (.t 6), none⟩,
 ⟨some 2, .mov (.t 7), none⟩])
 .ret)))⟩

/-- 16: (*signetring/term.Table).Pub -/
def F16 : Fun :=
 ⟨9, 2, [.t 4],
 (.seq (.reg [⟨some 4, .mov (.k (.str [])), none⟩])
 (.seq (.reg [⟨some 5, .mov (.t 0), none⟩,
 ⟨some 6, .mov (.t 1), none⟩,
 ⟨some 7, .mks true 1 16 false [(.str [])] 1 [(0, (.t 6))], none⟩,
 ⟨some 8, .call (.k (.fn (.func 28) [] [])) [(.t 5), (.k (.int .u8 2)), (.t 7)], none⟩,
 ⟨some 4, .mov (.t 8), none⟩])
 .ret))⟩

/-- 17: (*signetring/term.Table).Hash -/
def F17 : Fun :=
 ⟨8, 2, [.t 4],
 (.seq (.reg [⟨some 4, .mov (.k (.str [])), none⟩])
 (.seq (.reg [⟨some 5, .mov (.t 0), none⟩,
 ⟨some 6, .mov (.t 1), none⟩,
 ⟨some 7, .call (.k (.fn (.func 28) [] [])) [(.t 5), (.k (.int .u8 4)), (.t 6)], none⟩,
 ⟨some 4, .mov (.t 7), none⟩])
 .ret))⟩

/-- 20: signetring/codec.Num -/
def F20 : Fun :=
 ⟨27, 1, [.t 2],
 (.seq (.reg [⟨some 2, .mov (.k (.str [])), none⟩])
 (.seq (.reg [⟨some 3, .mov (.k .nsl), none⟩])
 (.seq (.seq (.reg [⟨some 4, .mov (.k (.int .i64 56)), none⟩])
 (.block 0
 (.loop
 (.seq (.seq (.reg [⟨some 6, .mov (.t 4), none⟩,
 ⟨some 7, .bin .geq .num (.t 6) (.k (.int .i64 0)), none⟩])
 (.cond (.t 7)
 .skip
 (.exit 0)))
 (.seq (.block 1
 (.seq (.reg [⟨some 10, .mov (.t 0), none⟩,
 ⟨some 11, .mov (.t 4), none⟩,
 ⟨some 12, .bin .shr .num (.t 10) (.t 11), none⟩,
 ⟨some 13, .cvi .u8 (.t 12), none⟩,
 ⟨some 5, .mov (.t 13), none⟩])
 (.seq (.reg [⟨some 14, .mov (.t 5), none⟩,
 ⟨some 15, .bin .neq .num (.t 14) (.k (.int .u8 0)), none⟩,
 ⟨some 16, .mov (.t 15), none⟩,
 ⟨some 17, .mov (.t 3), some (16, false)⟩,
 ⟨some 18, .len .slc (.t 17), some (16, false)⟩,
 ⟨some 19, .bin .gtr .num (.t 18) (.k (.int .i64 0)), some (16, false)⟩,
 ⟨some 20, .pick (.t 16) (.k (.bool true)) (.t 19), none⟩])
 (.cond (.t 20)
 (.reg [⟨some 21, .mov (.t 3), none⟩,
 ⟨some 22, .mov (.t 5), none⟩,
 ⟨some 23, .mks true 1 1 false [.int .u8 0] 1 [(0, (.t 22))], none⟩,
 ⟨some 24, .app 1 1 false none (.t 21) (.t 23), none⟩,
 ⟨some 3, .mov (.t 24), none⟩])
 .skip))))
 (.reg [⟨some 8, .mov (.t 4), none⟩,
 ⟨some 9, .bin .sub .num (.t 8) (.k (.int .i64 8)), none⟩,
 ⟨some 4, .mov (.t 9), none⟩]))))))
 (.seq (.reg [⟨some 25, .mov (.t 3), none⟩,
 ⟨some 26, .b2s (.t 25), none⟩,
 ⟨some 2, .mov (.t 26), none⟩])
 .ret))))⟩

/-- 21: signetring/ladder.X -/
def F21 : Fun :=
 ⟨58, 2, [.c 4 32 true],
 (.seq (.reg [⟨some 2, .box none (.t 0), none⟩,
 ⟨some 3, .box none (.t 1), none⟩,
 ⟨some 4, .new [.int .u8 0, .int .u8 0, .int .u8 0, .int .u8 0, .int .u8 0, .int .u8 0, .int .u8 0, .int .u8 0, .int .u8 0, .int .u8 0, .int .u8 0, .int .u8 0, .int .u8 0, .int .u8 0, .int .u8 0, .int .u8 0, .int .u8 0, .int .u8 0, .int .u8 0, .int .u8 0, .int .u8 0, .int .u8 0, .int .u8 0, .int .u8 0, .int .u8 0, .int .u8 0, .int .u8 0, .int .u8 0, .int .u8 0, .int .u8 0, .int .u8 0, .int .u8 0] none, none⟩])
 (.seq (.reg [⟨some 10, .load 32 true (.t 2), none⟩,
 ⟨some 11, .call (.k (.fn (.func 31) [] [])) [(.t 10)], none⟩,
 ⟨none, .store 32 (.t 2) (.t 11), none⟩])
 (.seq (.reg [⟨some 12, .iada 32 1 (.t 3) (.k (.int .i64 31)), none⟩,
 ⟨some 13, .load 1 false (.t 12), none⟩,
 ⟨some 14, .bin .and .num (.t 13) (.k (.int .u8 127)), none⟩,
 ⟨some 15, .iada 32 1 (.t 3) (.k (.int .i64 31)), none⟩,
 ⟨none, .store 1 (.t 15) (.t 14), none⟩])
 (.seq (.reg [⟨some 16, .load 32 true (.t 3), none⟩,
 ⟨some 17, .call (.k (.fn (.func 32) [] [])) [(.t 16)], none⟩,
 ⟨some 5, .new [.int .u8 0, .int .u8 0, .int .u8 0, .int .u8 0, .int .u8 0, .int .u8 0, .int .u8 0, .int .u8 0, .int .u8 0, .int .u8 0, .int .u8 0, .int .u8 0, .int .u8 0, .int .u8 0, .int .u8 0, .int .u8 0, .int .u8 0, .int .u8 0, .int .u8 0, .int .u8 0, .int .u8 0, .int .u8 0, .int .u8 0, .int .u8 0, .int .u8 0, .int .u8 0, .int .u8 0, .int .u8 0, .int .u8 0, .int .u8 0, .int .u8 0, .int .u8 0] none, none⟩,
 ⟨none, .store 32 (.t 5) (.t 17), none⟩])
 (.seq (.reg [⟨some 18, .build [.int .u8 0, .int .u8 0, .int .u8 0, .int .u8 0, .int .u8 0, .int .u8 0, .int .u8 0, .int .u8 0, .int .u8 0, .int .u8 0, .int .u8 0, .int .u8 0, .int .u8 0, .int .u8 0, .int .u8 0, .int .u8 0, .int .u8 0, .int .u8 0, .int .u8 0, .int .u8 0, .int .u8 0, .int .u8 0, .int .u8 0, .int .u8 0, .int .u8 0, .int .u8 0, .int .u8 0, .int .u8 0, .int .u8 0, .int .u8 0, .int .u8 0, .int .u8 0] [(0, 1, (.k (.int .u8 1)))], none⟩,
 ⟨some 19, .load 32 true (.t 5), none⟩,
 ⟨some 20, .build [.int .u8 0, .int .u8 0, .int .u8 0, .int .u8 0, .int .u8 0, .int .u8 0, .int .u8 0, .int .u8 0, .int .u8 0, .int .u8 0, .int .u8 0, .int .u8 0, .int .u8 0, .int .u8 0, .int .u8 0, .int .u8 0, .int .u8 0, .int .u8 0, .int .u8 0, .int .u8 0, .int .u8 0, .int .u8 0, .int .u8 0, .int .u8 0, .int .u8 0, .int .u8 0, .int .u8 0, .int .u8 0, .int .u8 0, .int .u8 0, .int .u8 0, .int .u8 0] [(0, 1, (.k (.int .u8 1)))], none⟩,
 ⟨some 21, .build [.int .u8 0, .int .u8 0, .int .u8 0, .int .u8 0, .int .u8 0, .int .u8 0, .int .u8 0, .int .u8 0, .int .u8 0, .int .u8 0, .int .u8 0, .int .u8 0, .int .u8 0, .int .u8 0, .int .u8 0, .int .u8 0, .int .u8 0, .int .u8 0, .int .u8 0, .int .u8 0, .int .u8 0, .int .u8 0, .int .u8 0, .int .u8 0, .int .u8 0, .int .u8 0, .int .u8 0, .int .u8 0, .int .u8 0, .int .u8 0, .int .u8 0, .int .u8 0, .int .u8 0, .int .u8 0, .int .u8 0, .int .u8 0, .int .u8 0, .int .u8 0, .int .u8 0, .int .u8 0, .int .u8 0, .int .u8 0, .int .u8 0, .int .u8 0, .int .u8 0, .int .u8 0, .int .u8 0, .int .u8 0, .int .u8 0, .int .u8 0, .int .u8 0, .int .u8 0, .int .u8 0, .int .u8 0, .int .u8 0, .int .u8 0, .int .u8 0, .int .u8 0, .int .u8 0, .int .u8 0, .int .u8 0, .int .u8 0, .int .u8 0, .int .u8 0, .int .u8 0, .int .u8 0, .int .u8 0, .int .u8 0, .int .u8 0, .int .u8 0, .int .u8 0, .int .u8 0, .int .u8 0, .int .u8 0, .int .u8 0, .int .u8 0, .int .u8 0, .int .u8 0, .int .u8 0, .int .u8 0, .int .u8 0, .int .u8 0, .int .u8 0, .int .u8 0, .int .u8 0, .int .u8 0, .int .u8 0, .int .u8 0, .int .u8 0, .int .u8 0, .int .u8 0, .int .u8 0, .int .u8 0, .int .u8 0, .int .u8 0, .int .u8 0, .int .u8 0, .int .u8 0, .int .u8 0, .int .u8 0, .int .u8 0, .int .u8 0, .int .u8 0, .int .u8 0, .int .u8 0, .int .u8 0, .int .u8 0, .int .u8 0, .int .u8 0, .int .u8 0, .int .u8 0, .int .u8 0, .int .u8 0, .int .u8 0, .int .u8 0, .int .u8 0, .int .u8 0, .int .u8 0, .int .u8 0, .int .u8 0, .int .u8 0, .int .u8 0, .int .u8 0, .int .u8 0, .int .u8 0, .int .u8 0, .int .u8 0, .int .u8 0] [(0, 32, (.t 18)), (64, 32, (.t 19)), (96, 32, (.t 20))], none⟩,
 ⟨some 22, .box none (.t 21), none⟩,
 ⟨some 6, .mov (.t 22), none⟩])
 (.seq (.reg [⟨some 7, .mov (.k (.bool false)), none⟩])
 (.seq (.seq (.reg [⟨some 8, .mov (.k (.int .i64 254)), none⟩])
 (.block 0
 (.loop
 (.seq (.seq (.reg [⟨some 23, .mov (.t 8), none⟩,
 ⟨some 24, .bin .geq .num (.t 23) (.k (.int .i64 0)), none⟩])
 (.cond (.t 24)
 .skip
 (.exit 0)))
 (.seq (.block 1
 (.seq (.reg [⟨some 27, .mov (.t 8), none⟩,
 ⟨some 28, .bin .quo .num (.t 27) (.k (.int .i64 8)), none⟩,
 ⟨some 29, .iada 32 1 (.t 2) (.t 28), none⟩,
 ⟨some 30, .load 1 false (.t 29), none⟩,
 ⟨some 31, .mov (.t 8), none⟩,
 ⟨some 32, .bin .rem .num (.t 31) (.k (.int .i64 8)), none⟩,
 ⟨some 33, .bin .shr .num (.t 30) (.t 32), none⟩,
 ⟨some 34, .bin .and .num (.t 33) (.k (.int .u8 1)), none⟩,
 ⟨some 35, .bin .eql .num (.t 34) (.k (.int .u8 1)), none⟩,
 ⟨some 9, .mov (.t 35), none⟩])
 (.seq (.reg [⟨some 36, .mov (.t 6), none⟩,
 ⟨some 37, .mov (.t 9), none⟩,
 ⟨some 38, .mov (.t 7), none⟩,
 ⟨some 39, .bin .neq .bool (.t 37) (.t 38), none⟩,
 ⟨some 40, .call (.k (.fn (.func 33) [] [])) [(.t 36), (.t 39)], none⟩])
 (.seq (.reg [⟨some 41, .mov (.t 9), none⟩,
 ⟨some 7, .mov (.t 41), none⟩])
 (.reg [⟨some 42, .mov (.t 6), none⟩,
 ⟨some 43, .load 32 true (.t 5), none⟩,
 ⟨some 44, .call (.k (.fn (.func 34) [] [])) [(.t 42), (.t 43)], none⟩])))))
 (.reg [⟨some 25, .mov (.t 8), none⟩,
 ⟨some 26, .bin .sub .num (.t 25) (.k (.int .i64 1)), none⟩,
 ⟨some 8, .mov (.t 26), none⟩]))))))
 (.seq (.reg [⟨some 45, .mov (.t 6), none⟩,
 ⟨some 46, .mov (.t 7), none⟩,
 ⟨some 47, .call (.k (.fn (.func 33) [] [])) [(.t 45), (.t 46)], none⟩])
 (.seq (.dreg [⟨some 48, .mov (.t 6), none⟩,
 ⟨some 49, .nilck (.t 48), none⟩,
 ⟨some 50, .fad 0 (.t 49), none⟩,
 ⟨some 51, .load 32 true (.t 50), none⟩,
 ⟨some 52, .mov (.t 6), none⟩,
 ⟨some 53, .nilck (.t 52), none⟩,
 ⟨some 54, .fad 32 (.t 53), none⟩,
 ⟨some 55, .load 32 true (.t 54), none⟩,
 ⟨some 56, .call (.k (.fn (.func 36) [] [])) [(.t 55)], none⟩,
 ⟨some 57, .call (.k (.fn (.func 35) [] [])) [(.t 51), (.t 56)], none⟩,
 ⟨none, .store 32 (.t 4) (.t 57), none⟩] (.lin [] [(0, none), (1, none), (2, none), (3, none), (4, none), (5, none), (6, none), (7, none), (8, some [0, 1, 2, 3]), (9, some []), (10, some [])]))
 .ret)))))))))⟩

/-- 22: signetring/mac.Expand -/
def F22 : Fun :=
 ⟨39, 3, [.t 6, .t 7],
 (.seq (.reg [⟨some 3, .box none (.t 0), none⟩,
 ⟨some 6, .mov (.k .nsl), none⟩,
 ⟨some 7, .mov (.k (.int .i64 0)), none⟩])
 (.seq (.seq (.reg [⟨some 12, .mov (.t 2), none⟩,
 ⟨some 13, .bin .lss .num (.t 12) (.k (.int .i64 0)), none⟩,
 ⟨some 14, .mov (.t 13), none⟩,
 ⟨some 15, .mov (.t 2), some (14, false)⟩,
 ⟨some 16, .bin .gtr .num (.t 15) (.k (.int .i64 8160)), some (14, false)⟩,
 ⟨some 17, .pick (.t 14) (.k (.bool true)) (.t 16), none⟩])
 (.cond (.t 17)
 (.seq (.reg [⟨some 6, .mov (.k .nsl), none⟩,
 ⟨some 7, .mov (.k (.int .i64 2)), none⟩])
 .ret)
 .skip))
 (.seq (.reg [⟨some 8, .mov (.k .nsl), none⟩,
 ⟨some 9, .mov (.k .nsl), none⟩])
 (.seq (.seq (.reg [⟨some 10, .mov (.k (.int .u8 1)), none⟩])
 (.block 0
 (.loop
 (.seq (.seq (.reg [⟨some 18, .mov (.t 8), none⟩,
 ⟨some 19, .len .slc (.t 18), none⟩,
 ⟨some 20, .mov (.t 2), none⟩,
 ⟨some 21, .bin .lss .num (.t 19) (.t 20), none⟩])
 (.cond (.t 21)
 .skip
 (.exit 0)))
 (.seq (.block 1
 (.seq (.dreg [⟨some 24, .slca 32 1 false (.t 3) none none none, none⟩,
 ⟨some 25, .mov (.t 9), none⟩,
 ⟨some 26, .mov (.t 1), none⟩,
 ⟨some 27, .mov (.t 10), none⟩,
 ⟨some 28, .mks true 1 1 false [.int .u8 0] 1 [(0, (.t 27))], none⟩,
 ⟨some 29, .mks true 1 24 false [.nsl, .nsl, .nsl] 3 [(0, (.t 25)), (1, (.t 26)), (2, (.t 28))], none⟩,
 ⟨some 30, .call (.k (.fn (.func 38) [] [])) [(.t 29)], none⟩,
 ⟨some 31, .call (.k (.fn (.func 37) [] [])) [(.t 24), (.t 30)], none⟩,
 ⟨some 11, .new [.int .u8 0, .int .u8 0, .int .u8 0, .int .u8 0, .int .u8 0, .int .u8 0, .int .u8 0, .int .u8 0, .int .u8 0, .int .u8 0, .int .u8 0, .int .u8 0, .int .u8 0, .int .u8 0, .int .u8 0, .int .u8 0, .int .u8 0, .int .u8 0, .int .u8 0, .int .u8 0, .int .u8 0, .int .u8 0, .int .u8 0, .int .u8 0, .int .u8 0, .int .u8 0, .int .u8 0, .int .u8 0, .int .u8 0, .int .u8 0, .int .u8 0, .int .u8 0] none, none⟩,
 ⟨none, .store 32 (.t 11) (.t 31), none⟩] (.lin [8] [(0, none), (1, none), (2, none), (3, none), (4, none), (5, none), (6, some [0]), (7, some []), (9, some [])]))
 (.seq (.reg [⟨some 32, .slca 32 1 false (.t 11) none none none, none⟩,
 ⟨some 9, .mov (.t 32), none⟩])
 (.reg [⟨some 33, .mov (.t 8), none⟩,
 ⟨some 34, .mov (.t 9), none⟩,
 ⟨some 35, .app 1 1 false none (.t 33) (.t 34), none⟩,
 ⟨some 8, .mov (.t 35), none⟩]))))
 (.reg [⟨some 22, .mov (.t 10), none⟩,
 ⟨some 23, .bin .add .num (.t 22) (.k (.int .u8 1)), none⟩,
 ⟨some 10, .mov (.t 23), none⟩]))))))
 (.seq (.reg [⟨some 36, .mov (.t 8), none⟩,
 ⟨some 37, .mov (.t 2), none⟩,
 ⟨some 38, .slc false 1 (.t 36) none (some (.t 37)) none, none⟩,
 ⟨some 6, .mov (.t 38), none⟩,
 ⟨some 7, .mov (.k (.int .i64 0)), none⟩])
 .ret)))))⟩

/-- 23: signetring/mac.Extract -/
def F23 : Fun :=
 ⟨8, 2, [.c 4 32 true],
 (.seq (.reg [⟨some 4, .new [.int .u8 0, .int .u8 0, .int .u8 0, .int .u8 0, .int .u8 0, .int .u8 0, .int .u8 0, .int .u8 0, .int .u8 0, .int .u8 0, .int .u8 0, .int .u8 0, .int .u8 0, .int .u8 0, .int .u8 0, .int .u8 0, .int .u8 0, .int .u8 0, .int .u8 0, .int .u8 0, .int .u8 0, .int .u8 0, .int .u8 0, .int .u8 0, .int .u8 0, .int .u8 0, .int .u8 0, .int .u8 0, .int .u8 0, .int .u8 0, .int .u8 0, .int .u8 0] none, none⟩])
 (.seq (.reg [⟨some 5, .mov (.t 0), none⟩,
 ⟨some 6, .mov (.t 1), none⟩,
 ⟨some 7, .call (.k (.fn (.func 37) [] [])) [(.t 5), (.t 6)], none⟩,
 ⟨none, .store 32 (.t 4) (.t 7), none⟩])
 .ret))⟩

/-- 24: slices.Chunk[[]byte,byte] -/
def F24 : Fun :=
 ⟨9, 2, [.t 4],
 (.seq (.reg [⟨some 2, .box none (.t 0), none⟩,
 ⟨some 3, .box none (.t 1), none⟩,
 ⟨some 4, .mov (.k .nfn), none⟩])
 (.seq (.seq (.reg [⟨some 5, .load 1 false (.t 3), none⟩,
 ⟨some 6, .bin .lss .num (.t 5) (.k (.int .i64 1)), none⟩])
 (.cond (.t 6)
 (.reg [⟨some 7, .mki 9 (.k (.str [99, 97, 110, 110, 111, 116, 32, 98, 101, 32, 108, 101, 115, 115, 32, 116, 104, 97, 110, 32, 49])), none⟩,
 ⟨none, .pan (.t 7), none⟩])
 .skip))
 (.seq (.reg [⟨some 8, .mkf (.func 39) [] [(.t 2), (.t 3)], none⟩,
 ⟨some 4, .mov (.t 8), none⟩])
 .ret)))⟩

/-- 25: (signetring/sha.Digest).Write -/
def F25 : Fun :=
 ⟨64, 2, [.c 4 10 true],
 (.seq (.reg [⟨some 2, .box none (.t 0), none⟩,
 ⟨some 4, .new [.int .u32 0, .int .u32 0, .int .u32 0, .int .u32 0, .int .u32 0, .int .u32 0, .int .u32 0, .int .u32 0, .nsl, .int .u64 0] none, none⟩])
 (.seq (.reg [⟨some 10, .fad 9 (.t 2), none⟩,
 ⟨some 11, .load 1 false (.t 10), none⟩,
 ⟨some 12, .mov (.t 1), none⟩,
 ⟨some 13, .len .slc (.t 12), none⟩,
 ⟨some 14, .cvi .u64 (.t 13), none⟩,
 ⟨some 15, .bin .add .num (.t 11) (.t 14), none⟩,
 ⟨some 16, .fad 9 (.t 2), none⟩,
 ⟨none, .store 1 (.t 16) (.t 15), none⟩])
 (.seq (.reg [⟨some 17, .fad 8 (.t 2), none⟩,
 ⟨some 18, .load 1 false (.t 17), none⟩,
 ⟨some 19, .mov (.t 1), none⟩,
 ⟨some 20, .mks true 1 24 false [.nsl, .nsl] 2 [(0, (.t 18)), (1, (.t 19))], none⟩,
 ⟨some 21, .call (.k (.fn (.func 38) [] [])) [(.t 20)], none⟩,
 ⟨some 5, .mov (.t 21), none⟩])
 (.seq (.seq (.reg [⟨some 22, .load 8 true (.g 0), none⟩,
 ⟨some 23, .mov (.k (.int .i64 0)), none⟩])
 (.block 0
 (.loop
 (.seq (.reg [⟨some 24, .bin .lss .num (.t 23) (.k (.int .i64 8)), none⟩])
 (.seq (.cond (.t 24)
 .skip
 (.exit 0))
 (.seq (.block 1
 (.seq (.reg [⟨some 25, .mov (.t 23), none⟩,
 ⟨some 26, .idxa 8 1 false (.t 22) (.t 23), none⟩,
 ⟨some 6, .mov (.t 25), none⟩,
 ⟨some 7, .mov (.t 26), none⟩])
 (.reg [⟨some 27, .mov (.t 6), none⟩,
 ⟨some 28, .fad 0 (.t 2), none⟩,
 ⟨some 29, .iada 8 1 (.t 28) (.t 27), none⟩,
 ⟨some 30, .load 1 false (.t 29), none⟩,
 ⟨some 31, .mov (.t 7), none⟩,
 ⟨some 32, .bin .add .num (.t 30) (.t 31), none⟩,
 ⟨some 33, .fad 0 (.t 2), none⟩,
 ⟨some 34, .iada 8 1 (.t 33) (.t 27), none⟩,
 ⟨none, .store 1 (.t 34) (.t 32), none⟩])))
 (.reg [⟨some 35, .bin .add .num (.t 23) (.k (.int .i64 1)), none⟩,
 ⟨some 23, .mov (.t 35), none⟩])))))))
 (.seq (.block 2
 (.loop
 (.seq (.seq (.reg [⟨some 36, .mov (.t 5), none⟩,
 ⟨some 37, .len .slc (.t 36), none⟩,
 ⟨some 38, .bin .geq .num (.t 37) (.k (.int .i64 64)), none⟩])
 (.cond (.t 38)
 .skip
 (.exit 2)))
 (.block 3
 (.seq (.dreg [⟨some 39, .fad 0 (.t 2), none⟩,
 ⟨some 40, .load 8 true (.t 39), none⟩,
 ⟨some 41, .mov (.t 5), none⟩,
 ⟨some 42, .slc false 1 (.t 41) none (some (.k (.int .i64 64))) none, none⟩,
 ⟨some 43, .call (.k (.fn (.func 40) [] [])) [(.t 40), (.t 42)], none⟩,
 ⟨some 44, .fad 0 (.t 2), none⟩,
 ⟨none, .store 8 (.t 44) (.t 43), none⟩] (.lin [] [(0, none), (1, none), (2, none), (3, none), (4, some []), (5, none), (6, some [])]))
 (.reg [⟨some 45, .mov (.t 5), none⟩,
 ⟨some 46, .slc false 1 (.t 45) (some (.k (.int .i64 64))) none none, none⟩,
 ⟨some 5, .mov (.t 46), none⟩]))))))
 (.seq (.seq (.reg [⟨some 47, .load 8 true (.g 0), none⟩,
 ⟨some 48, .mov (.k (.int .i64 0)), none⟩])
 (.block 4
 (.loop
 (.seq (.reg [⟨some 49, .bin .lss .num (.t 48) (.k (.int .i64 8)), none⟩])
 (.seq (.cond (.t 49)
 .skip
 (.exit 4))
 (.seq (.block 5
 (.seq (.reg [⟨some 50, .mov (.t 48), none⟩,
 ⟨some 51, .idxa 8 1 false (.t 47) (.t 48), none⟩,
 ⟨some 8, .mov (.t 50), none⟩,
 ⟨some 9, .mov (.t 51), none⟩])
 (.reg [⟨some 52, .mov (.t 8), none⟩,
 ⟨some 53, .fad 0 (.t 2), none⟩,
 ⟨some 54, .iada 8 1 (.t 53) (.t 52), none⟩,
 ⟨some 55, .load 1 false (.t 54), none⟩,
 ⟨some 56, .mov (.t 9), none⟩,
 ⟨some 57, .bin .sub .num (.t 55) (.t 56), none⟩,
 ⟨some 58, .fad 0 (.t 2), none⟩,
 ⟨some 59, .iada 8 1 (.t 58) (.t 52), none⟩,
 ⟨none, .store 1 (.t 59) (.t 57), none⟩])))
 (.reg [⟨some 60, .bin .add .num (.t 48) (.k (.int .i64 1)), none⟩,
 ⟨some 48, .mov (.t 60), none⟩])))))))
 (.seq (.reg [⟨some 61, .mov (.t 5), none⟩,
 ⟨some 62, .fad 8 (.t 2), none⟩,
 ⟨none, .store 1 (.t 62) (.t 61), none⟩])
 (.seq (.reg [⟨some 63, .load 10 true (.t 2), none⟩,
 ⟨none, .store 10 (.t 4) (.t 63), none⟩])
 .ret))))))))⟩

/-- 26: (signetring/sha.Digest).Sum -/
def F26 : Fun :=
 ⟨77, 1, [.c 2 32 true],
 (.seq (.reg [⟨some 1, .box none (.t 0), none⟩,
 ⟨some 2, .new [.int .u8 0, .int .u8 0, .int .u8 0, .int .u8 0, .int .u8 0, .int .u8 0, .int .u8 0, .int .u8 0, .int .u8 0, .int .u8 0, .int .u8 0, .int .u8 0, .int .u8 0, .int .u8 0, .int .u8 0, .int .u8 0, .int .u8 0, .int .u8 0, .int .u8 0, .int .u8 0, .int .u8 0, .int .u8 0, .int .u8 0, .int .u8 0, .int .u8 0, .int .u8 0, .int .u8 0, .int .u8 0, .int .u8 0, .int .u8 0, .int .u8 0, .int .u8 0] none, none⟩])
 (.seq (.reg [⟨some 9, .fad 9 (.t 1), none⟩,
 ⟨some 10, .load 1 false (.t 9), none⟩,
 ⟨some 11, .bin .mul .num (.k (.int .u64 8)) (.t 10), none⟩,
 ⟨some 3, .mov (.t 11), none⟩])
 (.seq (.reg [⟨some 12, .mks true 1 1 false [.int .u8 0] 1 [(0, (.k (.int .u8 128)))], none⟩,
 ⟨some 4, .mov (.t 12), none⟩])
 (.seq (.block 0
 (.loop
 (.seq (.seq (.reg [⟨some 13, .fad 8 (.t 1), none⟩,
 ⟨some 14, .load 1 false (.t 13), none⟩,
 ⟨some 15, .len .slc (.t 14), none⟩,
 ⟨some 16, .mov (.t 4), none⟩,
 ⟨some 17, .len .slc (.t 16), none⟩,
 ⟨some 18, .bin .add .num (.t 15) (.t 17), none⟩,
 ⟨some 19, .bin .rem .num (.t 18) (.k (.int .i64 64)), none⟩,
 ⟨some 20, .bin .neq .num (.t 19) (.k (.int .i64 56)), none⟩])
 (.cond (.t 20)
 .skip
 (.exit 0)))
 (.block 1
 (.reg [⟨some 21, .mov (.t 4), none⟩,
 ⟨some 22, .mks true 1 1 false [.int .u8 0] 1 [(0, (.k (.int .u8 0)))], none⟩,
 ⟨some 23, .app 1 1 false none (.t 21) (.t 22), none⟩,
 ⟨some 4, .mov (.t 23), none⟩])))))
 (.seq (.seq (.reg [⟨some 5, .mov (.k (.int .i64 56)), none⟩])
 (.block 2
 (.loop
 (.seq (.seq (.reg [⟨some 24, .mov (.t 5), none⟩,
 ⟨some 25, .bin .geq .num (.t 24) (.k (.int .i64 0)), none⟩])
 (.cond (.t 25)
 .skip
 (.exit 2)))
 (.seq (.block 3
 (.reg [⟨some 28, .mov (.t 4), none⟩,
 ⟨some 29, .mov (.t 3), none⟩,
 ⟨some 30, .mov (.t 5), none⟩,
 ⟨some 31, .bin .shr .num (.t 29) (.t 30), none⟩,
 ⟨some 32, .cvi .u8 (.t 31), none⟩,
 ⟨some 33, .mks true 1 1 false [.int .u8 0] 1 [(0, (.t 32))], none⟩,
 ⟨some 34, .app 1 1 false none (.t 28) (.t 33), none⟩,
 ⟨some 4, .mov (.t 34), none⟩]))
 (.reg [⟨some 26, .mov (.t 5), none⟩,
 ⟨some 27, .bin .sub .num (.t 26) (.k (.int .i64 8)), none⟩,
 ⟨some 5, .mov (.t 27), none⟩]))))))
 (.seq (.reg [⟨some 35, .load 10 true (.t 1), none⟩,
 ⟨some 36, .mov (.t 4), none⟩,
 ⟨some 37, .call (.k (.fn (.func 25) [] [])) [(.t 35), (.t 36)], none⟩,
 ⟨none, .store 10 (.t 1) (.t 37), none⟩])
 (.seq (.reg [⟨some 6, .new [.int .u8 0, .int .u8 0, .int .u8 0, .int .u8 0, .int .u8 0, .int .u8 0, .int .u8 0, .int .u8 0, .int .u8 0, .int .u8 0, .int .u8 0, .int .u8 0, .int .u8 0, .int .u8 0, .int .u8 0, .int .u8 0, .int .u8 0, .int .u8 0, .int .u8 0, .int .u8 0, .int .u8 0, .int .u8 0, .int .u8 0, .int .u8 0, .int .u8 0, .int .u8 0, .int .u8 0, .int .u8 0, .int .u8 0, .int .u8 0, .int .u8 0, .int .u8 0] none, none⟩])
 (.seq (.seq (.reg [⟨some 38, .fad 0 (.t 1), none⟩,
 ⟨some 39, .load 8 true (.t 38), none⟩,
 ⟨some 40, .mov (.k (.int .i64 0)), none⟩])
 (.block 4
 (.loop
 (.seq (.reg [⟨some 41, .bin .lss .num (.t 40) (.k (.int .i64 8)), none⟩])
 (.seq (.cond (.t 41)
 .skip
 (.exit 4))
 (.seq (.block 5
 (.seq (.reg [⟨some 42, .mov (.t 40), none⟩,
 ⟨some 43, .idxa 8 1 false (.t 39) (.t 40), none⟩,
 ⟨some 7, .mov (.t 42), none⟩,
 ⟨some 8, .mov (.t 43), none⟩])
 (.seq (.reg [⟨some 44, .mov (.t 8), none⟩,
 ⟨some 45, .mov (.t 7), none⟩,
 ⟨some 46, .iada 8 1 (.g 0) (.t 45), none⟩,
 ⟨some 47, .load 1 false (.t 46), none⟩,
 ⟨some 48, .bin .add .num (.t 44) (.t 47), none⟩,
 ⟨some 8, .mov (.t 48), none⟩])
 (.reg [⟨some 49, .mov (.t 7), none⟩,
 ⟨some 50, .bin .mul .num (.k (.int .i64 4)) (.t 49), none⟩,
 ⟨some 51, .mov (.t 7), none⟩,
 ⟨some 52, .bin .mul .num (.k (.int .i64 4)) (.t 51), none⟩,
 ⟨some 53, .bin .add .num (.t 52) (.k (.int .i64 1)), none⟩,
 ⟨some 54, .mov (.t 7), none⟩,
 ⟨some 55, .bin .mul .num (.k (.int .i64 4)) (.t 54), none⟩,
 ⟨some 56, .bin .add .num (.t 55) (.k (.int .i64 2)), none⟩,
 ⟨some 57, .mov (.t 7), none⟩,
 ⟨some 58, .bin .mul .num (.k (.int .i64 4)) (.t 57), none⟩,
 ⟨some 59, .bin .add .num (.t 58) (.k (.int .i64 3)), none⟩,
 ⟨some 60, .mov (.t 8), none⟩,
 ⟨some 61, .bin .shr .num (.t 60) (.k (.int .u64 24)), none⟩,
 ⟨some 62, .cvi .u8 (.t 61), none⟩,
 ⟨some 63, .mov (.t 8), none⟩,
 ⟨some 64, .bin .shr .num (.t 63) (.k (.int .u64 16)), none⟩,
 ⟨some 65, .cvi .u8 (.t 64), none⟩,
 ⟨some 66, .mov (.t 8), none⟩,
 ⟨some 67, .bin .shr .num (.t 66) (.k (.int .u64 8)), none⟩,
 ⟨some 68, .cvi .u8 (.t 67), none⟩,
 ⟨some 69, .mov (.t 8), none⟩,
 ⟨some 70, .cvi .u8 (.t 69), none⟩,
 ⟨some 71, .iada 32 1 (.t 6) (.t 50), none⟩,
 ⟨none, .store 1 (.t 71) (.t 62), none⟩,
 ⟨some 72, .iada 32 1 (.t 6) (.t 53), none⟩,
 ⟨none, .store 1 (.t 72) (.t 65), none⟩,
 ⟨some 73, .iada 32 1 (.t 6) (.t 56), none⟩,
 ⟨none, .store 1 (.t 73) (.t 68), none⟩,
 ⟨some 74, .iada 32 1 (.t 6) (.t 59), none⟩,
 ⟨none, .store 1 (.t 74) (.t 70), none⟩]))))
 (.reg [⟨some 75, .bin .add .num (.t 40) (.k (.int .i64 1)), none⟩,
 ⟨some 40, .mov (.t 75), none⟩])))))))
 (.seq (.reg [⟨some 76, .load 32 true (.t 6), none⟩,
 ⟨none, .store 32 (.t 2) (.t 76), none⟩])
 .ret)))))))))⟩

/-- 28: (*signetring/term.Table).put -/
def F28 : Fun :=
 ⟨70, 3, [.t 6],
 (.seq (.reg [⟨some 6, .mov (.k (.str [])), none⟩])
 (.seq (.reg [⟨some 13, .mov (.t 1), none⟩,
 ⟨some 14, .mov (.t 2), none⟩,
 ⟨some 15, .call (.k (.fn (.func 43) [] [])) [(.t 13), (.t 14)], none⟩,
 ⟨some 12, .mov (.t 15), none⟩,
 ⟨some 16, .ext (.t 12) 0, none⟩,
 ⟨some 17, .ext (.t 12) 1, none⟩,
 ⟨some 7, .mov (.t 16), none⟩,
 ⟨some 8, .mov (.t 17), none⟩])
 (.seq (.seq (.reg [⟨some 18, .mov (.t 0), none⟩,
 ⟨some 19, .call (.k (.fn (.func 29) [] [])) [(.t 18)], none⟩,
 ⟨some 20, .un .not (.t 19), none⟩,
 ⟨some 21, .mov (.t 20), none⟩,
 ⟨some 22, .mov (.t 8), some (21, false)⟩,
 ⟨some 23, .bin .neq .num (.t 22) (.k (.int .i64 0)), some (21, false)⟩,
 ⟨some 24, .pick (.t 21) (.k (.bool true)) (.t 23), none⟩])
 (.cond (.t 24)
 (.seq (.reg [⟨some 6, .mov (.k (.str [])), none⟩])
 .ret)
 .skip))
 (.seq (.seq (.reg [⟨some 26, .mov (.t 0), none⟩,
 ⟨some 27, .nilck (.t 26), none⟩,
 ⟨some 28, .fad 0 (.t 27), none⟩,
 ⟨some 29, .load 1 false (.t 28), none⟩,
 ⟨some 30, .mov (.t 7), none⟩,
 ⟨some 31, .look .str (.str []) (.t 29) (.t 30) true, none⟩,
 ⟨some 25, .mov (.t 31), none⟩,
 ⟨some 32, .ext (.t 25) 0, none⟩,
 ⟨some 33, .ext (.t 25) 1, none⟩,
 ⟨some 9, .mov (.t 32), none⟩,
 ⟨some 10, .mov (.t 33), none⟩])
 (.seq (.reg [⟨some 34, .mov (.t 10), none⟩])
 (.cond (.t 34)
 (.seq (.reg [⟨some 35, .mov (.t 9), none⟩,
 ⟨some 6, .mov (.t 35), none⟩])
 .ret)
 .skip)))
 (.seq (.reg [⟨some 36, .mov (.t 0), none⟩,
 ⟨some 37, .nilck (.t 36), none⟩,
 ⟨some 38, .fad 2 (.t 37), none⟩,
 ⟨some 39, .load 1 false (.t 38), none⟩,
 ⟨some 40, .len .slc (.t 39), none⟩,
 ⟨some 41, .bin .add .num (.t 40) (.k (.int .i64 1)), none⟩,
 ⟨some 42, .call (.k (.fn (.func 44) [] [])) [(.t 41)], none⟩,
 ⟨some 11, .mov (.t 42), none⟩])
 (.seq (.dreg [⟨some 43, .mov (.t 0), none⟩,
 ⟨some 44, .nilck (.t 43), none⟩,
 ⟨some 45, .fad 0 (.t 44), none⟩,
 ⟨some 46, .load 1 false (.t 45), none⟩,
 ⟨some 47, .mov (.t 7), none⟩,
 ⟨some 48, .mov (.t 0), none⟩,
 ⟨some 49, .nilck (.t 48), none⟩,
 ⟨some 50, .fad 1 (.t 49), none⟩,
 ⟨some 51, .load 1 false (.t 50), none⟩,
 ⟨some 52, .mov (.t 11), none⟩,
 ⟨some 53, .mov (.t 11), none⟩,
 ⟨some 54, .mov (.t 7), none⟩,
 ⟨some 55, .ment .str (.str []) (.t 46) (.t 47), none⟩,
 ⟨some 56, .ext (.t 55) 1, none⟩,
 ⟨none, .ests (.t 46) (.t 56) (.t 53), none⟩,
 ⟨some 57, .ment .str (.str []) (.t 51) (.t 52), none⟩,
 ⟨some 58, .ext (.t 57) 1, none⟩,
 ⟨none, .ests (.t 51) (.t 58) (.t 54), none⟩] (.lin [] [(0, none), (1, none), (2, none), (3, none), (4, none), (5, none), (6, none), (7, none), (8, none), (9, none), (10, none), (11, none), (12, some [9, 10, 11]), (13, none), (14, some [9, 11]), (15, some [11]), (16, none), (17, some [])]))
 (.seq (.reg [⟨some 59, .mov (.t 0), none⟩,
 ⟨some 60, .mov (.t 0), none⟩,
 ⟨some 61, .nilck (.t 60), none⟩,
 ⟨some 62, .fad 2 (.t 61), none⟩,
 ⟨some 63, .load 1 false (.t 62), none⟩,
 ⟨some 64, .mov (.t 11), none⟩,
 ⟨some 65, .mks true 1 16 false [(.str [])] 1 [(0, (.t 64))], none⟩,
 ⟨some 66, .app 1 16 false none (.t 63) (.t 65), none⟩,
 ⟨some 67, .nilck (.t 59), none⟩,
 ⟨some 68, .fad 2 (.t 67), none⟩,
 ⟨none, .store 1 (.t 68) (.t 66), none⟩])
 (.seq (.reg [⟨some 69, .mov (.t 11), none⟩,
 ⟨some 6, .mov (.t 69), none⟩])
 .ret))))))))⟩

/-- 29: (*signetring/term.Table).good -/
def F29 : Fun :=
 ⟨12, 1, [.t 2],
 (.seq (.reg [⟨some 2, .mov (.k (.bool false)), none⟩])
 (.seq (.reg [⟨some 3, .mov (.t 0), none⟩,
 ⟨some 4, .bin .neq .ptr (.t 3) (.k .nptr), none⟩,
 ⟨some 5, .mov (.t 4), none⟩,
 ⟨some 6, .mov (.t 0), some (5, true)⟩,
 ⟨some 7, .nilck (.t 6), some (5, true)⟩,
 ⟨some 8, .fad 0 (.t 7), some (5, true)⟩,
 ⟨some 9, .load 1 false (.t 8), some (5, true)⟩,
 ⟨some 10, .bin .neq .map (.t 9) (.k .nmap), some (5, true)⟩,
 ⟨some 11, .pick (.t 5) (.t 10) (.k (.bool false)), none⟩,
 ⟨some 2, .mov (.t 11), none⟩])
 .ret))⟩

/-- 30: signetring/codec.Split -/
def F30 : Fun :=
 ⟨19, 1, [.t 2, .t 3, .t 4],
 (.seq (.reg [⟨some 2, .mov (.k (.int .u8 0)), none⟩,
 ⟨some 3, .mov (.k .nsl), none⟩,
 ⟨some 4, .mov (.k (.int .i64 0)), none⟩])
 (.seq (.reg [⟨some 9, .mov (.t 0), none⟩,
 ⟨some 10, .call (.k (.fn (.func 45) [] [])) [(.t 9)], none⟩,
 ⟨some 8, .mov (.t 10), none⟩,
 ⟨some 11, .ext (.t 8) 0, none⟩,
 ⟨some 12, .ext (.t 8) 1, none⟩,
 ⟨some 13, .ext (.t 8) 2, none⟩,
 ⟨some 5, .mov (.t 11), none⟩,
 ⟨some 6, .mov (.t 12), none⟩,
 ⟨some 7, .mov (.t 13), none⟩])
 (.seq (.seq (.reg [⟨some 14, .mov (.t 7), none⟩,
 ⟨some 15, .bin .neq .num (.t 14) (.k (.int .i64 0)), none⟩])
 (.cond (.t 15)
 (.seq (.reg [⟨some 16, .mov (.t 7), none⟩,
 ⟨some 2, .mov (.k (.int .u8 0)), none⟩,
 ⟨some 3, .mov (.k .nsl), none⟩,
 ⟨some 4, .mov (.t 16), none⟩])
 .ret)
 .skip))
 (.seq (.reg [⟨some 17, .mov (.t 5), none⟩,
 ⟨some 18, .mov (.t 6), none⟩,
 ⟨some 2, .mov (.t 17), none⟩,
 ⟨some 3, .mov (.t 18), none⟩,
 ⟨some 4, .mov (.k (.int .i64 0)), none⟩])
 .ret))))⟩

/-- 31: signetring/ladder.Clamp -/
def F31 : Fun :=
 ⟨13, 1, [.c 2 32 true],
 (.seq (.reg [⟨some 1, .box none (.t 0), none⟩,
 ⟨some 2, .new [.int .u8 0, .int .u8 0, .int .u8 0, .int .u8 0, .int .u8 0, .int .u8 0, .int .u8 0, .int .u8 0, .int .u8 0, .int .u8 0, .int .u8 0, .int .u8 0, .int .u8 0, .int .u8 0, .int .u8 0, .int .u8 0, .int .u8 0, .int .u8 0, .int .u8 0, .int .u8 0, .int .u8 0, .int .u8 0, .int .u8 0, .int .u8 0, .int .u8 0, .int .u8 0, .int .u8 0, .int .u8 0, .int .u8 0, .int .u8 0, .int .u8 0, .int .u8 0] none, none⟩])
 (.seq (.reg [⟨some 3, .iada 32 1 (.t 1) (.k (.int .i64 0)), none⟩,
 ⟨some 4, .load 1 false (.t 3), none⟩,
 ⟨some 5, .bin .and .num (.t 4) (.k (.int .u8 248)), none⟩,
 ⟨some 6, .iada 32 1 (.t 1) (.k (.int .i64 0)), none⟩,
 ⟨none, .store 1 (.t 6) (.t 5), none⟩])
 (.seq (.reg [⟨some 7, .iada 32 1 (.t 1) (.k (.int .i64 31)), none⟩,
 ⟨some 8, .load 1 false (.t 7), none⟩,
 ⟨some 9, .bin .and .num (.t 8) (.k (.int .u8 63)), none⟩,
 ⟨some 10, .bin .or .num (.t 9) (.k (.int .u8 64)), none⟩,
 ⟨some 11, .iada 32 1 (.t 1) (.k (.int .i64 31)), none⟩,
 ⟨none, .store 1 (.t 11) (.t 10), none⟩])
 (.seq (.reg [⟨some 12, .load 32 true (.t 1), none⟩,
 ⟨none, .store 32 (.t 2) (.t 12), none⟩])
 .ret))))⟩

/-- 32: signetring/limb.Reduce -/
def F32 : Fun :=
 ⟨6, 1, [.c 2 32 true],
 (.seq (.reg [⟨some 1, .box none (.t 0), none⟩,
 ⟨some 2, .new [.int .u8 0, .int .u8 0, .int .u8 0, .int .u8 0, .int .u8 0, .int .u8 0, .int .u8 0, .int .u8 0, .int .u8 0, .int .u8 0, .int .u8 0, .int .u8 0, .int .u8 0, .int .u8 0, .int .u8 0, .int .u8 0, .int .u8 0, .int .u8 0, .int .u8 0, .int .u8 0, .int .u8 0, .int .u8 0, .int .u8 0, .int .u8 0, .int .u8 0, .int .u8 0, .int .u8 0, .int .u8 0, .int .u8 0, .int .u8 0, .int .u8 0, .int .u8 0] none, none⟩])
 (.seq (.reg [⟨some 3, .load 32 true (.t 1), none⟩,
 ⟨some 4, .call (.k (.fn (.func 46) [] [])) [(.t 3)], none⟩,
 ⟨some 5, .call (.k (.fn (.func 47) [] [])) [(.t 4)], none⟩,
 ⟨none, .store 32 (.t 2) (.t 5), none⟩])
 .ret))⟩

/-- 33: (*signetring/ladder.point).swap -/
def F33 : Fun :=
 ⟨42, 2, [],
 (.seq (.dreg [⟨some 5, .mov (.t 0), none⟩,
 ⟨some 6, .mov (.t 0), none⟩,
 ⟨some 7, .mov (.t 1), none⟩,
 ⟨some 8, .mov (.t 0), none⟩,
 ⟨some 9, .nilck (.t 8), none⟩,
 ⟨some 10, .fad 0 (.t 9), none⟩,
 ⟨some 11, .load 32 true (.t 10), none⟩,
 ⟨some 12, .mov (.t 0), none⟩,
 ⟨some 13, .nilck (.t 12), none⟩,
 ⟨some 14, .fad 64 (.t 13), none⟩,
 ⟨some 15, .load 32 true (.t 14), none⟩,
 ⟨some 16, .call (.k (.fn (.func 48) [] [])) [(.t 7), (.t 11), (.t 15)], none⟩,
 ⟨some 4, .mov (.t 16), none⟩,
 ⟨some 17, .ext (.t 4) 0, none⟩,
 ⟨some 18, .ext (.t 4) 1, none⟩,
 ⟨some 19, .nilck (.t 5), none⟩,
 ⟨some 20, .fad 0 (.t 19), none⟩,
 ⟨none, .store 32 (.t 20) (.t 17), none⟩,
 ⟨some 21, .nilck (.t 6), none⟩,
 ⟨some 22, .fad 64 (.t 21), none⟩,
 ⟨none, .store 32 (.t 22) (.t 18), none⟩] (.lin [] [(0, none), (1, none), (2, none), (3, none), (4, none), (5, none), (6, none), (7, none), (8, none), (9, none), (10, none), (11, some [0, 1]), (12, none), (13, none), (14, none), (15, none), (16, none), (17, some [1, 14]), (18, none), (19, none), (20, some [])]))
 (.dreg [⟨some 24, .mov (.t 0), none⟩,
 ⟨some 25, .mov (.t 0), none⟩,
 ⟨some 26, .mov (.t 1), none⟩,
 ⟨some 27, .mov (.t 0), none⟩,
 ⟨some 28, .nilck (.t 27), none⟩,
 ⟨some 29, .fad 32 (.t 28), none⟩,
 ⟨some 30, .load 32 true (.t 29), none⟩,
 ⟨some 31, .mov (.t 0), none⟩,
 ⟨some 32, .nilck (.t 31), none⟩,
 ⟨some 33, .fad 96 (.t 32), none⟩,
 ⟨some 34, .load 32 true (.t 33), none⟩,
 ⟨some 35, .call (.k (.fn (.func 48) [] [])) [(.t 26), (.t 30), (.t 34)], none⟩,
 ⟨some 23, .mov (.t 35), none⟩,
 ⟨some 36, .ext (.t 23) 0, none⟩,
 ⟨some 37, .ext (.t 23) 1, none⟩,
 ⟨some 38, .nilck (.t 24), none⟩,
 ⟨some 39, .fad 32 (.t 38), none⟩,
 ⟨none, .store 32 (.t 39) (.t 36), none⟩,
 ⟨some 40, .nilck (.t 25), none⟩,
 ⟨some 41, .fad 96 (.t 40), none⟩,
 ⟨none, .store 32 (.t 41) (.t 37), none⟩] (.lin [] [(0, none), (1, none), (2, none), (3, none), (4, none), (5, none), (6, none), (7, none), (8, none), (9, none), (10, none), (11, some [0, 1]), (12, none), (13, none), (14, none), (15, none), (16, none), (17, some [1, 14]), (18, none), (19, none), (20, some [])])))⟩

/-- 34: (*signetring/ladder.point).step -/
def F34 : Fun :=
 ⟨95, 2, [],
 (.seq (.reg [⟨some 3, .box none (.t 1), none⟩])
 (.seq (.reg [⟨some 4, .mov (.k (.fn (.func 49) [] [])), none⟩])
 (.seq (.dreg [⟨some 12, .mov (.t 0), none⟩,
 ⟨some 13, .nilck (.t 12), none⟩,
 ⟨some 14, .fad 0 (.t 13), none⟩,
 ⟨some 15, .load 32 true (.t 14), none⟩,
 ⟨some 16, .mov (.t 0), none⟩,
 ⟨some 17, .nilck (.t 16), none⟩,
 ⟨some 18, .fad 32 (.t 17), none⟩,
 ⟨some 19, .load 32 true (.t 18), none⟩,
 ⟨some 20, .call (.k (.fn (.func 50) [] [])) [(.t 15), (.t 19)], none⟩,
 ⟨some 21, .mov (.t 0), none⟩,
 ⟨some 22, .nilck (.t 21), none⟩,
 ⟨some 23, .fad 0 (.t 22), none⟩,
 ⟨some 24, .load 32 true (.t 23), none⟩,
 ⟨some 25, .mov (.t 0), none⟩,
 ⟨some 26, .nilck (.t 25), none⟩,
 ⟨some 27, .fad 32 (.t 26), none⟩,
 ⟨some 28, .load 32 true (.t 27), none⟩,
 ⟨some 29, .call (.k (.fn (.func 51) [] [])) [(.t 24), (.t 28)], none⟩,
 ⟨some 5, .new [.int .u8 0, .int .u8 0, .int .u8 0, .int .u8 0, .int .u8 0, .int .u8 0, .int .u8 0, .int .u8 0, .int .u8 0, .int .u8 0, .int .u8 0, .int .u8 0, .int .u8 0, .int .u8 0, .int .u8 0, .int .u8 0, .int .u8 0, .int .u8 0, .int .u8 0, .int .u8 0, .int .u8 0, .int .u8 0, .int .u8 0, .int .u8 0, .int .u8 0, .int .u8 0, .int .u8 0, .int .u8 0, .int .u8 0, .int .u8 0, .int .u8 0, .int .u8 0] none, none⟩,
 ⟨some 6, .new [.int .u8 0, .int .u8 0, .int .u8 0, .int .u8 0, .int .u8 0, .int .u8 0, .int .u8 0, .int .u8 0, .int .u8 0, .int .u8 0, .int .u8 0, .int .u8 0, .int .u8 0, .int .u8 0, .int .u8 0, .int .u8 0, .int .u8 0, .int .u8 0, .int .u8 0, .int .u8 0, .int .u8 0, .int .u8 0, .int .u8 0, .int .u8 0, .int .u8 0, .int .u8 0, .int .u8 0, .int .u8 0, .int .u8 0, .int .u8 0, .int .u8 0, .int .u8 0] none, none⟩,
 ⟨none, .store 32 (.t 5) (.t 20), none⟩,
 ⟨none, .store 32 (.t 6) (.t 29), none⟩] (.lin [18, 19] [(0, none), (1, none), (2, none), (3, none), (4, none), (5, none), (6, none), (7, none), (9, none), (10, none), (11, none), (12, none), (13, none), (14, none), (15, none), (16, none), (8, some [9, 10, 11, 12, 13, 14, 15, 16]), (17, some []), (20, some []), (21, some [])]))
 (.seq (.dreg [⟨some 30, .mov (.t 0), none⟩,
 ⟨some 31, .nilck (.t 30), none⟩,
 ⟨some 32, .fad 64 (.t 31), none⟩,
 ⟨some 33, .load 32 true (.t 32), none⟩,
 ⟨some 34, .mov (.t 0), none⟩,
 ⟨some 35, .nilck (.t 34), none⟩,
 ⟨some 36, .fad 96 (.t 35), none⟩,
 ⟨some 37, .load 32 true (.t 36), none⟩,
 ⟨some 38, .call (.k (.fn (.func 50) [] [])) [(.t 33), (.t 37)], none⟩,
 ⟨some 39, .load 32 true (.t 6), none⟩,
 ⟨some 40, .call (.k (.fn (.func 35) [] [])) [(.t 38), (.t 39)], none⟩,
 ⟨some 41, .mov (.t 0), none⟩,
 ⟨some 42, .nilck (.t 41), none⟩,
 ⟨some 43, .fad 64 (.t 42), none⟩,
 ⟨some 44, .load 32 true (.t 43), none⟩,
 ⟨some 45, .mov (.t 0), none⟩,
 ⟨some 46, .nilck (.t 45), none⟩,
 ⟨some 47, .fad 96 (.t 46), none⟩,
 ⟨some 48, .load 32 true (.t 47), none⟩,
 ⟨some 49, .call (.k (.fn (.func 51) [] [])) [(.t 44), (.t 48)], none⟩,
 ⟨some 50, .load 32 true (.t 5), none⟩,
 ⟨some 51, .call (.k (.fn (.func 35) [] [])) [(.t 49), (.t 50)], none⟩,
 ⟨some 7, .new [.int .u8 0, .int .u8 0, .int .u8 0, .int .u8 0, .int .u8 0, .int .u8 0, .int .u8 0, .int .u8 0, .int .u8 0, .int .u8 0, .int .u8 0, .int .u8 0, .int .u8 0, .int .u8 0, .int .u8 0, .int .u8 0, .int .u8 0, .int .u8 0, .int .u8 0, .int .u8 0, .int .u8 0, .int .u8 0, .int .u8 0, .int .u8 0, .int .u8 0, .int .u8 0, .int .u8 0, .int .u8 0, .int .u8 0, .int .u8 0, .int .u8 0, .int .u8 0] none, none⟩,
 ⟨some 8, .new [.int .u8 0, .int .u8 0, .int .u8 0, .int .u8 0, .int .u8 0, .int .u8 0, .int .u8 0, .int .u8 0, .int .u8 0, .int .u8 0, .int .u8 0, .int .u8 0, .int .u8 0, .int .u8 0, .int .u8 0, .int .u8 0, .int .u8 0, .int .u8 0, .int .u8 0, .int .u8 0, .int .u8 0, .int .u8 0, .int .u8 0, .int .u8 0, .int .u8 0, .int .u8 0, .int .u8 0, .int .u8 0, .int .u8 0, .int .u8 0, .int .u8 0, .int .u8 0] none, none⟩,
 ⟨none, .store 32 (.t 7) (.t 40), none⟩,
 ⟨none, .store 32 (.t 8) (.t 51), none⟩] (.lin [22, 23] [(0, none), (1, none), (2, none), (3, none), (4, none), (5, none), (6, none), (7, none), (9, none), (11, none), (12, none), (13, none), (14, none), (15, none), (16, none), (17, none), (18, none), (20, none), (8, some [9, 11, 12, 13, 14, 15, 16, 17, 18, 20]), (10, some [11, 12, 13, 14, 15, 16, 17, 18, 20]), (19, some [20]), (21, some []), (24, some []), (25, some [])]))
 (.seq (.dreg [⟨some 52, .mov (.t 4), none⟩,
 ⟨some 53, .load 32 true (.t 5), none⟩,
 ⟨some 54, .call (.t 52) [(.t 53)], none⟩,
 ⟨some 55, .mov (.t 4), none⟩,
 ⟨some 56, .load 32 true (.t 6), none⟩,
 ⟨some 57, .call (.t 55) [(.t 56)], none⟩,
 ⟨some 9, .new [.int .u8 0, .int .u8 0, .int .u8 0, .int .u8 0, .int .u8 0, .int .u8 0, .int .u8 0, .int .u8 0, .int .u8 0, .int .u8 0, .int .u8 0, .int .u8 0, .int .u8 0, .int .u8 0, .int .u8 0, .int .u8 0, .int .u8 0, .int .u8 0, .int .u8 0, .int .u8 0, .int .u8 0, .int .u8 0, .int .u8 0, .int .u8 0, .int .u8 0, .int .u8 0, .int .u8 0, .int .u8 0, .int .u8 0, .int .u8 0, .int .u8 0, .int .u8 0] none, none⟩,
 ⟨some 10, .new [.int .u8 0, .int .u8 0, .int .u8 0, .int .u8 0, .int .u8 0, .int .u8 0, .int .u8 0, .int .u8 0, .int .u8 0, .int .u8 0, .int .u8 0, .int .u8 0, .int .u8 0, .int .u8 0, .int .u8 0, .int .u8 0, .int .u8 0, .int .u8 0, .int .u8 0, .int .u8 0, .int .u8 0, .int .u8 0, .int .u8 0, .int .u8 0, .int .u8 0, .int .u8 0, .int .u8 0, .int .u8 0, .int .u8 0, .int .u8 0, .int .u8 0, .int .u8 0] none, none⟩,
 ⟨none, .store 32 (.t 9) (.t 54), none⟩,
 ⟨none, .store 32 (.t 10) (.t 57), none⟩] (.lin [6, 7] [(0, none), (1, none), (3, none), (4, none), (2, some [3, 4]), (5, some []), (8, some []), (9, some [])]))
 (.seq (.reg [⟨some 58, .load 32 true (.t 9), none⟩,
 ⟨some 59, .load 32 true (.t 10), none⟩,
 ⟨some 60, .call (.k (.fn (.func 51) [] [])) [(.t 58), (.t 59)], none⟩,
 ⟨some 11, .new [.int .u8 0, .int .u8 0, .int .u8 0, .int .u8 0, .int .u8 0, .int .u8 0, .int .u8 0, .int .u8 0, .int .u8 0, .int .u8 0, .int .u8 0, .int .u8 0, .int .u8 0, .int .u8 0, .int .u8 0, .int .u8 0, .int .u8 0, .int .u8 0, .int .u8 0, .int .u8 0, .int .u8 0, .int .u8 0, .int .u8 0, .int .u8 0, .int .u8 0, .int .u8 0, .int .u8 0, .int .u8 0, .int .u8 0, .int .u8 0, .int .u8 0, .int .u8 0] none, none⟩,
 ⟨none, .store 32 (.t 11) (.t 60), none⟩])
 (.seq (.reg [⟨some 61, .mov (.t 0), none⟩,
 ⟨some 62, .load 32 true (.t 9), none⟩,
 ⟨some 63, .load 32 true (.t 10), none⟩,
 ⟨some 64, .call (.k (.fn (.func 35) [] [])) [(.t 62), (.t 63)], none⟩,
 ⟨some 65, .nilck (.t 61), none⟩,
 ⟨some 66, .fad 0 (.t 65), none⟩,
 ⟨none, .store 32 (.t 66) (.t 64), none⟩])
 (.seq (.dreg [⟨some 67, .mov (.t 0), none⟩,
 ⟨some 68, .load 32 true (.t 11), none⟩,
 ⟨some 69, .load 32 true (.t 9), none⟩,
 ⟨some 70, .load 32 true (.g 1), none⟩,
 ⟨some 71, .load 32 true (.t 11), none⟩,
 ⟨some 72, .call (.k (.fn (.func 35) [] [])) [(.t 70), (.t 71)], none⟩,
 ⟨some 73, .call (.k (.fn (.func 50) [] [])) [(.t 69), (.t 72)], none⟩,
 ⟨some 74, .call (.k (.fn (.func 35) [] [])) [(.t 68), (.t 73)], none⟩,
 ⟨some 75, .nilck (.t 67), none⟩,
 ⟨some 76, .fad 32 (.t 75), none⟩,
 ⟨none, .store 32 (.t 76) (.t 74), none⟩] (.lin [] [(0, none), (1, none), (2, none), (3, none), (4, none), (5, some [0, 1, 2]), (6, some [0, 1]), (7, some [0]), (8, none), (9, none), (10, some [])]))
 (.seq (.reg [⟨some 77, .mov (.t 0), none⟩,
 ⟨some 78, .mov (.t 4), none⟩,
 ⟨some 79, .load 32 true (.t 7), none⟩,
 ⟨some 80, .load 32 true (.t 8), none⟩,
 ⟨some 81, .call (.k (.fn (.func 50) [] [])) [(.t 79), (.t 80)], none⟩,
 ⟨some 82, .call (.t 78) [(.t 81)], none⟩,
 ⟨some 83, .nilck (.t 77), none⟩,
 ⟨some 84, .fad 64 (.t 83), none⟩,
 ⟨none, .store 32 (.t 84) (.t 82), none⟩])
 (.dreg [⟨some 85, .mov (.t 0), none⟩,
 ⟨some 86, .load 32 true (.t 3), none⟩,
 ⟨some 87, .mov (.t 4), none⟩,
 ⟨some 88, .load 32 true (.t 7), none⟩,
 ⟨some 89, .load 32 true (.t 8), none⟩,
 ⟨some 90, .call (.k (.fn (.func 51) [] [])) [(.t 88), (.t 89)], none⟩,
 ⟨some 91, .call (.t 87) [(.t 90)], none⟩,
 ⟨some 92, .call (.k (.fn (.func 35) [] [])) [(.t 86), (.t 91)], none⟩,
 ⟨some 93, .nilck (.t 85), none⟩,
 ⟨some 94, .fad 96 (.t 93), none⟩,
 ⟨none, .store 32 (.t 94) (.t 92), none⟩] (.lin [] [(0, none), (1, none), (2, none), (3, none), (4, none), (5, some [0, 1, 2]), (6, some [0, 1]), (7, some [0]), (8, none), (9, none), (10, some [])])))))))))))⟩

/-- 35: signetring/limb.Mul -/
def F35 : Fun :=
 ⟨11, 2, [.c 4 32 true],
 (.seq (.reg [⟨some 2, .box none (.t 0), none⟩,
 ⟨some 3, .box none (.t 1), none⟩,
 ⟨some 4, .new [.int .u8 0, .int .u8 0, .int .u8 0, .int .u8 0, .int .u8 0, .int .u8 0, .int .u8 0, .int .u8 0, .int .u8 0, .int .u8 0, .int .u8 0, .int .u8 0, .int .u8 0, .int .u8 0, .int .u8 0, .int .u8 0, .int .u8 0, .int .u8 0, .int .u8 0, .int .u8 0, .int .u8 0, .int .u8 0, .int .u8 0, .int .u8 0, .int .u8 0, .int .u8 0, .int .u8 0, .int .u8 0, .int .u8 0, .int .u8 0, .int .u8 0, .int .u8 0] none, none⟩])
 (.seq (.dreg [⟨some 5, .load 32 true (.t 2), none⟩,
 ⟨some 6, .call (.k (.fn (.func 46) [] [])) [(.t 5)], none⟩,
 ⟨some 7, .load 32 true (.t 3), none⟩,
 ⟨some 8, .call (.k (.fn (.func 46) [] [])) [(.t 7)], none⟩,
 ⟨some 9, .call (.k (.fn (.func 52) [] [])) [(.t 6), (.t 8)], none⟩,
 ⟨some 10, .call (.k (.fn (.func 47) [] [])) [(.t 9)], none⟩,
 ⟨none, .store 32 (.t 4) (.t 10), none⟩] (.lin [] [(0, none), (2, none), (1, some [2]), (3, some []), (4, some []), (5, some []), (6, some [])]))
 .ret))⟩

/-- 36: signetring/limb.Inv -/
def F36 : Fun :=
 ⟨27, 1, [.c 2 32 true],
 (.seq (.reg [⟨some 1, .box none (.t 0), none⟩,
 ⟨some 2, .new [.int .u8 0, .int .u8 0, .int .u8 0, .int .u8 0, .int .u8 0, .int .u8 0, .int .u8 0, .int .u8 0, .int .u8 0, .int .u8 0, .int .u8 0, .int .u8 0, .int .u8 0, .int .u8 0, .int .u8 0, .int .u8 0, .int .u8 0, .int .u8 0, .int .u8 0, .int .u8 0, .int .u8 0, .int .u8 0, .int .u8 0, .int .u8 0, .int .u8 0, .int .u8 0, .int .u8 0, .int .u8 0, .int .u8 0, .int .u8 0, .int .u8 0, .int .u8 0] none, none⟩])
 (.seq (.reg [⟨some 6, .load 32 true (.t 1), none⟩,
 ⟨some 7, .call (.k (.fn (.func 46) [] [])) [(.t 6)], none⟩,
 ⟨some 3, .new [.int .u64 0, .int .u64 0, .int .u64 0, .int .u64 0, .int .u64 0] none, none⟩,
 ⟨none, .store 5 (.t 3) (.t 7), none⟩])
 (.seq (.reg [⟨some 8, .build [.int .u64 0, .int .u64 0, .int .u64 0, .int .u64 0, .int .u64 0] [(0, 1, (.k (.int .u64 1)))], none⟩,
 ⟨some 4, .new [.int .u64 0, .int .u64 0, .int .u64 0, .int .u64 0, .int .u64 0] none, none⟩,
 ⟨none, .store 5 (.t 4) (.t 8), none⟩])
 (.seq (.seq (.reg [⟨some 5, .mov (.k (.int .i64 254)), none⟩])
 (.block 0
 (.loop
 (.seq (.seq (.reg [⟨some 9, .mov (.t 5), none⟩,
 ⟨some 10, .bin .geq .num (.t 9) (.k (.int .i64 0)), none⟩])
 (.cond (.t 10)
 .skip
 (.exit 0)))
 (.seq (.block 1
 (.seq (.reg [⟨some 13, .load 5 true (.t 4), none⟩,
 ⟨some 14, .load 5 true (.t 4), none⟩,
 ⟨some 15, .call (.k (.fn (.func 52) [] [])) [(.t 13), (.t 14)], none⟩,
 ⟨none, .store 5 (.t 4) (.t 15), none⟩])
 (.seq (.reg [⟨some 16, .mov (.t 5), none⟩,
 ⟨some 17, .bin .neq .num (.t 16) (.k (.int .i64 2)), none⟩,
 ⟨some 18, .mov (.t 17), none⟩,
 ⟨some 19, .mov (.t 5), some (18, true)⟩,
 ⟨some 20, .bin .neq .num (.t 19) (.k (.int .i64 4)), some (18, true)⟩,
 ⟨some 21, .pick (.t 18) (.t 20) (.k (.bool false)), none⟩])
 (.cond (.t 21)
 (.reg [⟨some 22, .load 5 true (.t 4), none⟩,
 ⟨some 23, .load 5 true (.t 3), none⟩,
 ⟨some 24, .call (.k (.fn (.func 52) [] [])) [(.t 22), (.t 23)], none⟩,
 ⟨none, .store 5 (.t 4) (.t 24), none⟩])
 .skip))))
 (.reg [⟨some 11, .mov (.t 5), none⟩,
 ⟨some 12, .bin .sub .num (.t 11) (.k (.int .i64 1)), none⟩,
 ⟨some 5, .mov (.t 12), none⟩]))))))
 (.seq (.reg [⟨some 25, .load 5 true (.t 4), none⟩,
 ⟨some 26, .call (.k (.fn (.func 47) [] [])) [(.t 25)], none⟩,
 ⟨none, .store 32 (.t 2) (.t 26), none⟩])
 .ret)))))⟩

/-- 37: signetring/mac.Sum -/
def F37 : Fun :=
 ⟨16, 2, [.c 4 32 true],
 (.seq (.reg [⟨some 4, .new [.int .u8 0, .int .u8 0, .int .u8 0, .int .u8 0, .int .u8 0, .int .u8 0, .int .u8 0, .int .u8 0, .int .u8 0, .int .u8 0, .int .u8 0, .int .u8 0, .int .u8 0, .int .u8 0, .int .u8 0, .int .u8 0, .int .u8 0, .int .u8 0, .int .u8 0, .int .u8 0, .int .u8 0, .int .u8 0, .int .u8 0, .int .u8 0, .int .u8 0, .int .u8 0, .int .u8 0, .int .u8 0, .int .u8 0, .int .u8 0, .int .u8 0, .int .u8 0] none, none⟩])
 (.seq (.reg [⟨some 6, .mov (.t 0), none⟩,
 ⟨some 7, .call (.k (.fn (.func 53) [] [])) [(.t 6), (.k (.int .u8 54))], none⟩,
 ⟨some 8, .mov (.t 1), none⟩,
 ⟨some 9, .call (.k (.fn (.func 25) [] [])) [(.t 7), (.t 8)], none⟩,
 ⟨some 10, .call (.k (.fn (.func 26) [] [])) [(.t 9)], none⟩,
 ⟨some 5, .new [.int .u8 0, .int .u8 0, .int .u8 0, .int .u8 0, .int .u8 0, .int .u8 0, .int .u8 0, .int .u8 0, .int .u8 0, .int .u8 0, .int .u8 0, .int .u8 0, .int .u8 0, .int .u8 0, .int .u8 0, .int .u8 0, .int .u8 0, .int .u8 0, .int .u8 0, .int .u8 0, .int .u8 0, .int .u8 0, .int .u8 0, .int .u8 0, .int .u8 0, .int .u8 0, .int .u8 0, .int .u8 0, .int .u8 0, .int .u8 0, .int .u8 0, .int .u8 0] none, none⟩,
 ⟨none, .store 32 (.t 5) (.t 10), none⟩])
 (.seq (.dreg [⟨some 11, .mov (.t 0), none⟩,
 ⟨some 12, .call (.k (.fn (.func 53) [] [])) [(.t 11), (.k (.int .u8 92))], none⟩,
 ⟨some 13, .slca 32 1 false (.t 5) none none none, none⟩,
 ⟨some 14, .call (.k (.fn (.func 25) [] [])) [(.t 12), (.t 13)], none⟩,
 ⟨some 15, .call (.k (.fn (.func 26) [] [])) [(.t 14)], none⟩,
 ⟨none, .store 32 (.t 4) (.t 15), none⟩] (.lin [] [(0, none), (2, none), (1, some [2]), (3, some []), (4, some []), (5, some [])]))
 .ret)))⟩

/-- 38: slices.Concat[[]byte,byte] -/
def F38 : Fun :=
 ⟨36, 1, [.t 2],
 (.seq (.reg [⟨some 2, .mov (.k .nsl), none⟩])
 (.seq (.reg [⟨some 3, .mov (.k (.int .i64 0)), none⟩])
 (.seq (.seq (.reg [⟨some 9, .mov (.t 0), none⟩,
 ⟨some 10, .len .slc (.t 9), none⟩,
 ⟨some 11, .mov (.k (.int .i64 0)), none⟩])
 (.block 0
 (.loop
 (.seq (.reg [⟨some 12, .bin .lss .num (.t 11) (.t 10), none⟩])
 (.seq (.cond (.t 12)
 .skip
 (.exit 0))
 (.seq (.block 1
 (.seq (.reg [⟨some 13, .iad 1 (.t 9) (.t 11), none⟩,
 ⟨some 14, .load 1 false (.t 13), none⟩,
 ⟨some 5, .mov (.t 14), none⟩])
 (.seq (.reg [⟨some 15, .mov (.t 3), none⟩,
 ⟨some 16, .mov (.t 5), none⟩,
 ⟨some 17, .len .slc (.t 16), none⟩,
 ⟨some 18, .bin .add .num (.t 15) (.t 17), none⟩,
 ⟨some 3, .mov (.t 18), none⟩])
 (.seq (.reg [⟨some 19, .mov (.t 3), none⟩,
 ⟨some 20, .bin .lss .num (.t 19) (.k (.int .i64 0)), none⟩])
 (.cond (.t 20)
 (.reg [⟨some 21, .mki 9 (.k (.str [108, 101, 110, 32, 111, 117, 116, 32, 111, 102, 32, 114, 97, 110, 103, 101])), none⟩,
 ⟨none, .pan (.t 21), none⟩])
 .skip)))))
 (.reg [⟨some 22, .bin .add .num (.t 11) (.k (.int .i64 1)), none⟩,
 ⟨some 11, .mov (.t 22), none⟩])))))))
 (.seq (.reg [⟨some 23, .mov (.t 3), none⟩,
 ⟨some 24, .call (.k (.fn (.func 54) [] [])) [(.k .nsl), (.t 23)], none⟩,
 ⟨some 6, .mov (.t 24), none⟩])
 (.seq (.seq (.reg [⟨some 25, .mov (.t 0), none⟩,
 ⟨some 26, .len .slc (.t 25), none⟩,
 ⟨some 27, .mov (.k (.int .i64 0)), none⟩])
 (.block 2
 (.loop
 (.seq (.reg [⟨some 28, .bin .lss .num (.t 27) (.t 26), none⟩])
 (.seq (.cond (.t 28)
 .skip
 (.exit 2))
 (.seq (.block 3
 (.seq (.reg [⟨some 29, .iad 1 (.t 25) (.t 27), none⟩,
 ⟨some 30, .load 1 false (.t 29), none⟩,
 ⟨some 8, .mov (.t 30), none⟩])
 (.reg [⟨some 31, .mov (.t 6), none⟩,
 ⟨some 32, .mov (.t 8), none⟩,
 ⟨some 33, .app 1 1 false none (.t 31) (.t 32), none⟩,
 ⟨some 6, .mov (.t 33), none⟩])))
 (.reg [⟨some 34, .bin .add .num (.t 27) (.k (.int .i64 1)), none⟩,
 ⟨some 27, .mov (.t 34), none⟩])))))))
 (.seq (.reg [⟨some 35, .mov (.t 6), none⟩,
 ⟨some 2, .mov (.t 35), none⟩])
 .ret))))))⟩

/-- 39: slices.Chunk[[]byte,byte]$1 -/
def F39 : Fun :=
 ⟨31, 3, [],
 (.seq (.reg [⟨some 4, .mov (.k (.int .i64 0)), none⟩])
 (.block 0
 (.loop
 (.seq (.seq (.reg [⟨some 6, .mov (.t 4), none⟩,
 ⟨some 7, .load 1 false (.t 1), none⟩,
 ⟨some 8, .len .slc (.t 7), none⟩,
 ⟨some 9, .bin .lss .num (.t 6) (.t 8), none⟩])
 (.cond (.t 9)
 .skip
 (.exit 0)))
 (.seq (.block 1
 (.seq (.dreg [⟨some 13, .load 1 false (.t 2), none⟩,
 ⟨some 14, .load 1 false (.t 1), none⟩,
 ⟨some 15, .mov (.t 4), none⟩,
 ⟨some 16, .slc false 1 (.t 14) (some (.t 15)) none none, none⟩,
 ⟨some 17, .len .slc (.t 16), none⟩,
 ⟨some 18, .min (.t 13) (.t 17), none⟩,
 ⟨some 5, .mov (.t 18), none⟩] (.lin [] [(0, none), (1, none), (2, none), (3, none), (4, none), (5, none), (6, none)]))
 (.seq (.reg [⟨some 19, .mov (.t 0), none⟩,
 ⟨some 20, .load 1 false (.t 1), none⟩,
 ⟨some 21, .mov (.t 4), none⟩,
 ⟨some 22, .mov (.t 4), none⟩,
 ⟨some 23, .mov (.t 5), none⟩,
 ⟨some 24, .bin .add .num (.t 22) (.t 23), none⟩,
 ⟨some 25, .mov (.t 4), none⟩,
 ⟨some 26, .mov (.t 5), none⟩,
 ⟨some 27, .bin .add .num (.t 25) (.t 26), none⟩,
 ⟨some 28, .slc false 1 (.t 20) (some (.t 21)) (some (.t 24)) (some (.t 27)), none⟩,
 ⟨some 29, .call (.t 19) [(.t 28)], none⟩,
 ⟨some 30, .un .not (.t 29), none⟩])
 (.cond (.t 30)
 .ret
 .skip))))
 (.reg [⟨some 10, .mov (.t 4), none⟩,
 ⟨some 11, .load 1 false (.t 2), none⟩,
 ⟨some 12, .bin .add .num (.t 10) (.t 11), none⟩,
 ⟨some 4, .mov (.t 12), none⟩]))))))⟩

/-- 40: signetring/sha.mixed -/
def F40 : Fun :=
 ⟨169, 2, [.c 4 8 true],
 (.seq (.reg [⟨some 2, .box none (.t 0), none⟩,
 ⟨some 4, .new [.int .u32 0, .int .u32 0, .int .u32 0, .int .u32 0, .int .u32 0, .int .u32 0, .int .u32 0, .int .u32 0] none, none⟩])
 (.seq (.reg [⟨some 5, .new [.int .u32 0, .int .u32 0, .int .u32 0, .int .u32 0, .int .u32 0, .int .u32 0, .int .u32 0, .int .u32 0, .int .u32 0, .int .u32 0, .int .u32 0, .int .u32 0, .int .u32 0, .int .u32 0, .int .u32 0, .int .u32 0, .int .u32 0, .int .u32 0, .int .u32 0, .int .u32 0, .int .u32 0, .int .u32 0, .int .u32 0, .int .u32 0, .int .u32 0, .int .u32 0, .int .u32 0, .int .u32 0, .int .u32 0, .int .u32 0, .int .u32 0, .int .u32 0, .int .u32 0, .int .u32 0, .int .u32 0, .int .u32 0, .int .u32 0, .int .u32 0, .int .u32 0, .int .u32 0, .int .u32 0, .int .u32 0, .int .u32 0, .int .u32 0, .int .u32 0, .int .u32 0, .int .u32 0, .int .u32 0, .int .u32 0, .int .u32 0, .int .u32 0, .int .u32 0, .int .u32 0, .int .u32 0, .int .u32 0, .int .u32 0, .int .u32 0, .int .u32 0, .int .u32 0, .int .u32 0, .int .u32 0, .int .u32 0, .int .u32 0, .int .u32 0] none, none⟩])
 (.seq (.seq (.reg [⟨some 15, .mov (.k (.int .i64 0)), none⟩])
 (.block 0
 (.loop
 (.seq (.reg [⟨some 16, .bin .lss .num (.t 15) (.k (.int .i64 64)), none⟩])
 (.seq (.cond (.t 16)
 .skip
 (.exit 0))
 (.seq (.block 1
 (.seq (.reg [⟨some 17, .mov (.t 15), none⟩,
 ⟨some 6, .mov (.t 17), none⟩])
 (.seq (.seq (.reg [⟨some 18, .mov (.t 6), none⟩,
 ⟨some 19, .bin .lss .num (.t 18) (.k (.int .i64 16)), none⟩])
 (.cond (.t 19)
 (.seq (.dreg [⟨some 20, .mov (.t 6), none⟩,
 ⟨some 21, .mov (.t 1), none⟩,
 ⟨some 22, .mov (.t 6), none⟩,
 ⟨some 23, .bin .mul .num (.k (.int .i64 4)) (.t 22), none⟩,
 ⟨some 24, .iad 1 (.t 21) (.t 23), none⟩,
 ⟨some 25, .load 1 false (.t 24), none⟩,
 ⟨some 26, .cvi .u32 (.t 25), none⟩,
 ⟨some 27, .bin .shl .num (.t 26) (.k (.int .u64 24)), none⟩,
 ⟨some 28, .mov (.t 1), none⟩,
 ⟨some 29, .mov (.t 6), none⟩,
 ⟨some 30, .bin .mul .num (.k (.int .i64 4)) (.t 29), none⟩,
 ⟨some 31, .bin .add .num (.t 30) (.k (.int .i64 1)), none⟩,
 ⟨some 32, .iad 1 (.t 28) (.t 31), none⟩,
 ⟨some 33, .load 1 false (.t 32), none⟩,
 ⟨some 34, .cvi .u32 (.t 33), none⟩,
 ⟨some 35, .bin .shl .num (.t 34) (.k (.int .u64 16)), none⟩,
 ⟨some 36, .bin .or .num (.t 27) (.t 35), none⟩,
 ⟨some 37, .mov (.t 1), none⟩,
 ⟨some 38, .mov (.t 6), none⟩,
 ⟨some 39, .bin .mul .num (.k (.int .i64 4)) (.t 38), none⟩,
 ⟨some 40, .bin .add .num (.t 39) (.k (.int .i64 2)), none⟩,
 ⟨some 41, .iad 1 (.t 37) (.t 40), none⟩,
 ⟨some 42, .load 1 false (.t 41), none⟩,
 ⟨some 43, .cvi .u32 (.t 42), none⟩,
 ⟨some 44, .bin .shl .num (.t 43) (.k (.int .u64 8)), none⟩,
 ⟨some 45, .bin .or .num (.t 36) (.t 44), none⟩,
 ⟨some 46, .mov (.t 1), none⟩,
 ⟨some 47, .mov (.t 6), none⟩,
 ⟨some 48, .bin .mul .num (.k (.int .i64 4)) (.t 47), none⟩,
 ⟨some 49, .bin .add .num (.t 48) (.k (.int .i64 3)), none⟩,
 ⟨some 50, .iad 1 (.t 46) (.t 49), none⟩,
 ⟨some 51, .load 1 false (.t 50), none⟩,
 ⟨some 52, .cvi .u32 (.t 51), none⟩,
 ⟨some 53, .bin .or .num (.t 45) (.t 52), none⟩,
 ⟨some 54, .iada 64 1 (.t 5) (.t 20), none⟩,
 ⟨none, .store 1 (.t 54) (.t 53), none⟩] (.lin [] [(0, none), (1, none), (2, none), (3, none), (4, none), (5, none), (6, none), (7, none), (8, none), (9, none), (10, none), (11, none), (12, none), (13, none), (14, none), (15, none), (16, none), (17, none), (18, none), (19, none), (20, none), (21, none), (22, none), (23, none), (24, none), (25, none), (26, none), (27, none), (28, none), (29, none), (30, none), (31, none), (32, none), (33, none), (34, none), (35, some [])]))
 (.exit 1))
 .skip))
 (.seq (.dreg [⟨some 55, .mov (.t 6), none⟩,
 ⟨some 56, .bin .sub .num (.t 55) (.k (.int .i64 2)), none⟩,
 ⟨some 57, .iada 64 1 (.t 5) (.t 56), none⟩,
 ⟨some 58, .load 1 false (.t 57), none⟩,
 ⟨some 59, .mov (.t 6), none⟩,
 ⟨some 60, .bin .sub .num (.t 59) (.k (.int .i64 15)), none⟩,
 ⟨some 61, .iada 64 1 (.t 5) (.t 60), none⟩,
 ⟨some 62, .load 1 false (.t 61), none⟩,
 ⟨some 7, .mov (.t 58), none⟩,
 ⟨some 8, .mov (.t 62), none⟩] (.lin [] [(0, none), (1, none), (2, none), (3, none), (4, none), (5, none), (6, none), (7, none), (8, none), (9, none)]))
 (.dreg [⟨some 63, .mov (.t 6), none⟩,
 ⟨some 64, .mov (.t 7), none⟩,
 ⟨some 65, .mks true 1 8 false [.int .i64 0, .int .i64 0] 2 [(0, (.k (.int .i64 17))), (1, (.k (.int .i64 19)))], none⟩,
 ⟨some 66, .call (.k (.fn (.func 55) [] [])) [(.t 64), (.t 65)], none⟩,
 ⟨some 67, .mov (.t 7), none⟩,
 ⟨some 68, .bin .shr .num (.t 67) (.k (.int .u64 10)), none⟩,
 ⟨some 69, .bin .xor .num (.t 66) (.t 68), none⟩,
 ⟨some 70, .mov (.t 6), none⟩,
 ⟨some 71, .bin .sub .num (.t 70) (.k (.int .i64 7)), none⟩,
 ⟨some 72, .iada 64 1 (.t 5) (.t 71), none⟩,
 ⟨some 73, .load 1 false (.t 72), none⟩,
 ⟨some 74, .bin .add .num (.t 69) (.t 73), none⟩,
 ⟨some 75, .mov (.t 8), none⟩,
 ⟨some 76, .mks true 1 8 false [.int .i64 0, .int .i64 0] 2 [(0, (.k (.int .i64 7))), (1, (.k (.int .i64 18)))], none⟩,
 ⟨some 77, .call (.k (.fn (.func 55) [] [])) [(.t 75), (.t 76)], none⟩,
 ⟨some 78, .mov (.t 8), none⟩,
 ⟨some 79, .bin .shr .num (.t 78) (.k (.int .u64 3)), none⟩,
 ⟨some 80, .bin .xor .num (.t 77) (.t 79), none⟩,
 ⟨some 81, .bin .add .num (.t 74) (.t 80), none⟩,
 ⟨some 82, .mov (.t 6), none⟩,
 ⟨some 83, .bin .sub .num (.t 82) (.k (.int .i64 16)), none⟩,
 ⟨some 84, .iada 64 1 (.t 5) (.t 83), none⟩,
 ⟨some 85, .load 1 false (.t 84), none⟩,
 ⟨some 86, .bin .add .num (.t 81) (.t 85), none⟩,
 ⟨some 87, .iada 64 1 (.t 5) (.t 63), none⟩,
 ⟨none, .store 1 (.t 87) (.t 86), none⟩] (.lin [] [(0, none), (1, none), (2, none), (4, none), (5, none), (7, none), (8, none), (9, none), (10, none), (12, none), (13, none), (15, none), (16, none), (19, none), (20, none), (21, none), (22, none), (3, some [0, 4, 5, 7, 8, 9, 10, 12, 13, 15, 16, 19, 20, 21, 22]), (6, none), (11, none), (14, some [0, 4, 5, 7, 8, 9, 10, 15, 16, 19, 20, 21, 22, 6, 11]), (17, none), (18, none), (23, none), (24, none), (25, some [])]))))))
 (.reg [⟨some 88, .bin .add .num (.t 15) (.k (.int .i64 1)), none⟩,
 ⟨some 15, .mov (.t 88), none⟩])))))))
 (.seq (.reg [⟨some 89, .load 8 true (.t 2), none⟩,
 ⟨some 9, .new [.int .u32 0, .int .u32 0, .int .u32 0, .int .u32 0, .int .u32 0, .int .u32 0, .int .u32 0, .int .u32 0] none, none⟩,
 ⟨none, .store 8 (.t 9) (.t 89), none⟩])
 (.seq (.seq (.reg [⟨some 90, .load 64 true (.g 2), none⟩,
 ⟨some 91, .mov (.k (.int .i64 0)), none⟩])
 (.block 2
 (.loop
 (.seq (.reg [⟨some 92, .bin .lss .num (.t 91) (.k (.int .i64 64)), none⟩])
 (.seq (.cond (.t 92)
 .skip
 (.exit 2))
 (.seq (.block 3
 (.seq (.reg [⟨some 93, .mov (.t 91), none⟩,
 ⟨some 94, .idxa 64 1 false (.t 90) (.t 91), none⟩,
 ⟨some 10, .mov (.t 93), none⟩,
 ⟨some 11, .mov (.t 94), none⟩])
 (.seq (.dreg [⟨some 95, .iada 8 1 (.t 9) (.k (.int .i64 7)), none⟩,
 ⟨some 96, .load 1 false (.t 95), none⟩,
 ⟨some 97, .iada 8 1 (.t 9) (.k (.int .i64 4)), none⟩,
 ⟨some 98, .load 1 false (.t 97), none⟩,
 ⟨some 99, .mks true 1 8 false [.int .i64 0, .int .i64 0, .int .i64 0] 3 [(0, (.k (.int .i64 6))), (1, (.k (.int .i64 11))), (2, (.k (.int .i64 25)))], none⟩,
 ⟨some 100, .call (.k (.fn (.func 55) [] [])) [(.t 98), (.t 99)], none⟩,
 ⟨some 101, .bin .add .num (.t 96) (.t 100), none⟩,
 ⟨some 102, .iada 8 1 (.t 9) (.k (.int .i64 4)), none⟩,
 ⟨some 103, .load 1 false (.t 102), none⟩,
 ⟨some 104, .iada 8 1 (.t 9) (.k (.int .i64 5)), none⟩,
 ⟨some 105, .load 1 false (.t 104), none⟩,
 ⟨some 106, .bin .and .num (.t 103) (.t 105), none⟩,
 ⟨some 107, .iada 8 1 (.t 9) (.k (.int .i64 4)), none⟩,
 ⟨some 108, .load 1 false (.t 107), none⟩,
 ⟨some 109, .un .xor (.t 108), none⟩,
 ⟨some 110, .iada 8 1 (.t 9) (.k (.int .i64 6)), none⟩,
 ⟨some 111, .load 1 false (.t 110), none⟩,
 ⟨some 112, .bin .and .num (.t 109) (.t 111), none⟩,
 ⟨some 113, .bin .xor .num (.t 106) (.t 112), none⟩,
 ⟨some 114, .bin .add .num (.t 101) (.t 113), none⟩,
 ⟨some 115, .mov (.t 11), none⟩,
 ⟨some 116, .bin .add .num (.t 114) (.t 115), none⟩,
 ⟨some 117, .mov (.t 10), none⟩,
 ⟨some 118, .iada 64 1 (.t 5) (.t 117), none⟩,
 ⟨some 119, .load 1 false (.t 118), none⟩,
 ⟨some 120, .bin .add .num (.t 116) (.t 119), none⟩,
 ⟨some 12, .mov (.t 120), none⟩] (.lin [] [(0, none), (1, none), (2, none), (3, none), (4, none), (7, none), (8, none), (9, none), (10, none), (11, none), (12, none), (13, none), (14, none), (15, none), (16, none), (17, none), (18, none), (20, none), (22, none), (23, none), (24, none), (5, some [0, 1, 7, 8, 9, 10, 11, 12, 13, 14, 15, 16, 17, 18, 20, 22, 23, 24]), (6, none), (19, none), (21, none), (25, none), (26, none)]))
 (.seq (.dreg [⟨some 121, .iada 8 1 (.t 9) (.k (.int .i64 0)), none⟩,
 ⟨some 122, .load 1 false (.t 121), none⟩,
 ⟨some 123, .mks true 1 8 false [.int .i64 0, .int .i64 0, .int .i64 0] 3 [(0, (.k (.int .i64 2))), (1, (.k (.int .i64 13))), (2, (.k (.int .i64 22)))], none⟩,
 ⟨some 124, .call (.k (.fn (.func 55) [] [])) [(.t 122), (.t 123)], none⟩,
 ⟨some 125, .iada 8 1 (.t 9) (.k (.int .i64 0)), none⟩,
 ⟨some 126, .load 1 false (.t 125), none⟩,
 ⟨some 127, .iada 8 1 (.t 9) (.k (.int .i64 1)), none⟩,
 ⟨some 128, .load 1 false (.t 127), none⟩,
 ⟨some 129, .bin .and .num (.t 126) (.t 128), none⟩,
 ⟨some 130, .iada 8 1 (.t 9) (.k (.int .i64 0)), none⟩,
 ⟨some 131, .load 1 false (.t 130), none⟩,
 ⟨some 132, .iada 8 1 (.t 9) (.k (.int .i64 2)), none⟩,
 ⟨some 133, .load 1 false (.t 132), none⟩,
 ⟨some 134, .bin .and .num (.t 131) (.t 133), none⟩,
 ⟨some 135, .bin .xor .num (.t 129) (.t 134), none⟩,
 ⟨some 136, .iada 8 1 (.t 9) (.k (.int .i64 1)), none⟩,
 ⟨some 137, .load 1 false (.t 136), none⟩,
 ⟨some 138, .iada 8 1 (.t 9) (.k (.int .i64 2)), none⟩,
 ⟨some 139, .load 1 false (.t 138), none⟩,
 ⟨some 140, .bin .and .num (.t 137) (.t 139), none⟩,
 ⟨some 141, .bin .xor .num (.t 135) (.t 140), none⟩,
 ⟨some 142, .bin .add .num (.t 124) (.t 141), none⟩,
 ⟨some 13, .mov (.t 142), none⟩] (.lin [] [(0, none), (1, none), (2, none), (4, none), (5, none), (6, none), (7, none), (8, none), (9, none), (10, none), (11, none), (12, none), (13, none), (14, none), (15, none), (16, none), (17, none), (18, none), (19, none), (20, none), (3, some [4, 5, 6, 7, 8, 9, 10, 11, 12, 13, 14, 15, 16, 17, 18, 19, 20]), (21, none), (22, none)]))
 (.seq (.dreg [⟨some 143, .slca 8 1 false (.t 9) (some (.k (.int .i64 1))) none none, none⟩,
 ⟨some 144, .slca 8 1 false (.t 9) none (some (.k (.int .i64 7))) none, none⟩,
 ⟨some 145, .cpy 1 (.t 143) (.t 144), none⟩] (.lin [] [(0, none), (1, none), (2, some [])]))
 (.seq (.reg [⟨some 146, .iada 8 1 (.t 9) (.k (.int .i64 4)), none⟩,
 ⟨some 147, .load 1 false (.t 146), none⟩,
 ⟨some 148, .mov (.t 12), none⟩,
 ⟨some 149, .bin .add .num (.t 147) (.t 148), none⟩,
 ⟨some 150, .iada 8 1 (.t 9) (.k (.int .i64 4)), none⟩,
 ⟨none, .store 1 (.t 150) (.t 149), none⟩])
 (.reg [⟨some 151, .mov (.t 12), none⟩,
 ⟨some 152, .mov (.t 13), none⟩,
 ⟨some 153, .bin .add .num (.t 151) (.t 152), none⟩,
 ⟨some 154, .iada 8 1 (.t 9) (.k (.int .i64 0)), none⟩,
 ⟨none, .store 1 (.t 154) (.t 153), none⟩])))))))
 (.reg [⟨some 155, .bin .add .num (.t 91) (.k (.int .i64 1)), none⟩,
 ⟨some 91, .mov (.t 155), none⟩])))))))
 (.seq (.seq (.reg [⟨some 156, .mov (.k (.int .i64 0)), none⟩])
 (.block 4
 (.loop
 (.seq (.reg [⟨some 157, .bin .lss .num (.t 156) (.k (.int .i64 8)), none⟩])
 (.seq (.cond (.t 157)
 .skip
 (.exit 4))
 (.seq (.block 5
 (.seq (.reg [⟨some 158, .mov (.t 156), none⟩,
 ⟨some 14, .mov (.t 158), none⟩])
 (.dreg [⟨some 159, .mov (.t 14), none⟩,
 ⟨some 160, .iada 8 1 (.t 2) (.t 159), none⟩,
 ⟨some 161, .load 1 false (.t 160), none⟩,
 ⟨some 162, .mov (.t 14), none⟩,
 ⟨some 163, .iada 8 1 (.t 9) (.t 162), none⟩,
 ⟨some 164, .load 1 false (.t 163), none⟩,
 ⟨some 165, .bin .add .num (.t 161) (.t 164), none⟩,
 ⟨some 166, .iada 8 1 (.t 2) (.t 159), none⟩,
 ⟨none, .store 1 (.t 166) (.t 165), none⟩] (.lin [] [(0, none), (1, none), (2, none), (3, none), (4, none), (5, none), (6, none), (7, none), (8, some [])]))))
 (.reg [⟨some 167, .bin .add .num (.t 156) (.k (.int .i64 1)), none⟩,
 ⟨some 156, .mov (.t 167), none⟩])))))))
 (.seq (.reg [⟨some 168, .load 8 true (.t 2), none⟩,
 ⟨none, .store 8 (.t 4) (.t 168), none⟩])
 .ret)))))))⟩

/-- 43: signetring/codec.Join -/
def F43 : Fun :=
 ⟨49, 2, [.t 4, .t 5],
 (.seq (.reg [⟨some 4, .mov (.k (.str [])), none⟩,
 ⟨some 5, .mov (.k (.int .i64 0)), none⟩])
 (.seq (.seq (.reg [⟨some 9, .mov (.t 1), none⟩,
 ⟨some 10, .len .slc (.t 9), none⟩,
 ⟨some 11, .bin .gtr .num (.t 10) (.k (.int .i64 255)), none⟩])
 (.cond (.t 11)
 (.seq (.reg [⟨some 4, .mov (.k (.str [])), none⟩,
 ⟨some 5, .mov (.k (.int .i64 3)), none⟩])
 .ret)
 .skip))
 (.seq (.reg [⟨some 12, .build [.nptr, .nsl] [], none⟩,
 ⟨some 13, .box (some 119) (.t 12), none⟩,
 ⟨some 6, .mov (.t 13), none⟩])
 (.seq (.reg [⟨some 14, .mov (.t 6), none⟩,
 ⟨some 15, .mov (.t 0), none⟩,
 ⟨some 16, .mov (.t 1), none⟩,
 ⟨some 17, .len .slc (.t 16), none⟩,
 ⟨some 18, .cvi .u8 (.t 17), none⟩,
 ⟨some 19, .mks true 1 1 false [.int .u8 0, .int .u8 0, .int .u8 0] 3 [(0, (.k (.int .u8 1))), (1, (.t 15)), (2, (.t 18))], none⟩,
 ⟨some 20, .call (.k (.fn (.func 67) [] [])) [(.t 14), (.t 19)], none⟩])
 (.seq (.seq (.reg [⟨some 21, .mov (.t 1), none⟩,
 ⟨some 22, .len .slc (.t 21), none⟩,
 ⟨some 23, .mov (.k (.int .i64 0)), none⟩])
 (.block 0
 (.loop
 (.seq (.reg [⟨some 24, .bin .lss .num (.t 23) (.t 22), none⟩])
 (.seq (.cond (.t 24)
 .skip
 (.exit 0))
 (.seq (.block 1
 (.seq (.reg [⟨some 25, .iad 1 (.t 21) (.t 23), none⟩,
 ⟨some 26, .load 1 false (.t 25), none⟩,
 ⟨some 8, .mov (.t 26), none⟩])
 (.seq (.seq (.reg [⟨some 27, .mov (.t 8), none⟩,
 ⟨some 28, .len .str (.t 27), none⟩,
 ⟨some 29, .bin .gtr .num (.t 28) (.k (.int .i64 4000)), none⟩])
 (.cond (.t 29)
 (.seq (.reg [⟨some 4, .mov (.k (.str [])), none⟩,
 ⟨some 5, .mov (.k (.int .i64 3)), none⟩])
 .ret)
 .skip))
 (.seq (.reg [⟨some 30, .mov (.t 6), none⟩,
 ⟨some 31, .mov (.t 8), none⟩,
 ⟨some 32, .len .str (.t 31), none⟩,
 ⟨some 33, .bin .shr .num (.t 32) (.k (.int .u64 8)), none⟩,
 ⟨some 34, .cvi .u8 (.t 33), none⟩,
 ⟨some 35, .mov (.t 8), none⟩,
 ⟨some 36, .len .str (.t 35), none⟩,
 ⟨some 37, .cvi .u8 (.t 36), none⟩,
 ⟨some 38, .mks true 1 1 false [.int .u8 0, .int .u8 0] 2 [(0, (.t 34)), (1, (.t 37))], none⟩,
 ⟨some 39, .call (.k (.fn (.func 67) [] [])) [(.t 30), (.t 38)], none⟩])
 (.reg [⟨some 40, .mov (.t 6), none⟩,
 ⟨some 41, .mov (.t 8), none⟩,
 ⟨some 42, .call (.k (.fn (.func 68) [] [])) [(.t 40), (.t 41)], none⟩])))))
 (.reg [⟨some 43, .bin .add .num (.t 23) (.k (.int .i64 1)), none⟩,
 ⟨some 23, .mov (.t 43), none⟩])))))))
 (.seq (.seq (.reg [⟨some 44, .mov (.t 6), none⟩,
 ⟨some 45, .call (.k (.fn (.func 69) [] [])) [(.t 44)], none⟩,
 ⟨some 46, .bin .gtr .num (.t 45) (.k (.int .i64 30000)), none⟩])
 (.cond (.t 46)
 (.seq (.reg [⟨some 4, .mov (.k (.str [])), none⟩,
 ⟨some 5, .mov (.k (.int .i64 3)), none⟩])
 .ret)
 .skip))
 (.seq (.reg [⟨some 47, .mov (.t 6), none⟩,
 ⟨some 48, .call (.k (.fn (.func 70) [] [])) [(.t 47)], none⟩,
 ⟨some 4, .mov (.t 48), none⟩,
 ⟨some 5, .mov (.k (.int .i64 0)), none⟩])
 .ret)))))))⟩

/-- 44: signetring/term.name -/
def F44 : Fun :=
 ⟨14, 1, [.t 2],
 (.seq (.reg [⟨some 2, .mov (.k (.str [])), none⟩])
 (.seq (.reg [⟨some 4, .mov (.t 0), none⟩,
 ⟨some 5, .cvi .u64 (.t 4), none⟩,
 ⟨some 6, .call (.k (.fn (.func 20) [] [])) [(.t 5)], none⟩,
 ⟨some 3, .mov (.t 6), none⟩])
 (.seq (.reg [⟨some 7, .mov (.t 3), none⟩,
 ⟨some 8, .len .str (.t 7), none⟩,
 ⟨some 9, .bin .sub .num (.k (.int .i64 28)) (.t 8), none⟩,
 ⟨some 10, .call (.k (.fn (.func 71) [] [])) [(.k (.str [0])), (.t 9)], none⟩,
 ⟨some 11, .bin .add .str (.k (.str [116, 101, 114, 109])) (.t 10), none⟩,
 ⟨some 12, .mov (.t 3), none⟩,
 ⟨some 13, .bin .add .str (.t 11) (.t 12), none⟩,
 ⟨some 2, .mov (.t 13), none⟩])
 .ret)))⟩

/-- 45: signetring/codec.read -/
def F45 : Fun :=
 ⟨50, 1, [.t 2, .t 3, .c 4 1 false],
 (.seq (.reg [⟨some 2, .mov (.k (.int .u8 0)), none⟩,
 ⟨some 3, .mov (.k .nsl), none⟩,
 ⟨some 4, .new [.int .i64 0] none, none⟩])
 (.seq (.reg [⟨none, .dfr (.k (.fn (.func 72) [] [])) [(.t 4)], none⟩])
 (.seq (.reg [⟨some 7, .mov (.t 0), none⟩,
 ⟨some 8, .len .str (.t 7), none⟩,
 ⟨some 9, .bin .leq .num (.t 8) (.k (.int .i64 30000)), none⟩,
 ⟨some 10, .call (.k (.fn (.func 73) [] [])) [(.t 9)], none⟩])
 (.seq (.reg [⟨some 11, .mov (.t 0), none⟩,
 ⟨some 12, .build [(.str [])] [(0, 1, (.t 11))], none⟩,
 ⟨some 13, .box none (.t 12), none⟩,
 ⟨some 5, .mov (.t 13), none⟩])
 (.seq (.reg [⟨some 14, .mov (.t 5), none⟩,
 ⟨some 15, .call (.k (.fn (.func 74) [] [])) [(.t 14)], none⟩,
 ⟨some 16, .bin .eql .num (.t 15) (.k (.int .i64 1)), none⟩,
 ⟨some 17, .call (.k (.fn (.func 73) [] [])) [(.t 16)], none⟩])
 (.seq (.reg [⟨some 18, .mov (.t 5), none⟩,
 ⟨some 19, .call (.k (.fn (.func 74) [] [])) [(.t 18)], none⟩,
 ⟨some 20, .cvi .u8 (.t 19), none⟩,
 ⟨some 2, .mov (.t 20), none⟩])
 (.seq (.seq (.reg [⟨some 21, .mov (.t 5), none⟩,
 ⟨some 22, .call (.k (.fn (.func 74) [] [])) [(.t 21)], none⟩,
 ⟨some 23, .mov (.k (.int .i64 0)), none⟩])
 (.block 0
 (.loop
 (.seq (.reg [⟨some 24, .bin .lss .num (.t 23) (.t 22), none⟩])
 (.seq (.cond (.t 24)
 .skip
 (.exit 0))
 (.seq (.block 1
 (.seq (.reg [⟨some 25, .mov (.t 5), none⟩,
 ⟨some 26, .call (.k (.fn (.func 74) [] [])) [(.t 25)], none⟩,
 ⟨some 27, .bin .shl .num (.t 26) (.k (.int .u64 8)), none⟩,
 ⟨some 6, .mov (.t 27), none⟩])
 (.seq (.reg [⟨some 28, .mov (.t 6), none⟩,
 ⟨some 29, .mov (.t 5), none⟩,
 ⟨some 30, .call (.k (.fn (.func 74) [] [])) [(.t 29)], none⟩,
 ⟨some 31, .bin .add .num (.t 28) (.t 30), none⟩,
 ⟨some 6, .mov (.t 31), none⟩])
 (.seq (.reg [⟨some 32, .mov (.t 6), none⟩,
 ⟨some 33, .bin .leq .num (.t 32) (.k (.int .i64 4000)), none⟩,
 ⟨some 34, .call (.k (.fn (.func 73) [] [])) [(.t 33)], none⟩])
 (.reg [⟨some 35, .mov (.t 3), none⟩,
 ⟨some 36, .mov (.t 5), none⟩,
 ⟨some 37, .mov (.t 6), none⟩,
 ⟨some 38, .call (.k (.fn (.func 75) [] [])) [(.t 36), (.t 37)], none⟩,
 ⟨some 39, .mks true 1 16 false [(.str [])] 1 [(0, (.t 38))], none⟩,
 ⟨some 40, .app 1 16 false none (.t 35) (.t 39), none⟩,
 ⟨some 3, .mov (.t 40), none⟩])))))
 (.reg [⟨some 41, .bin .add .num (.t 23) (.k (.int .i64 1)), none⟩,
 ⟨some 23, .mov (.t 41), none⟩])))))))
 (.seq (.reg [⟨some 42, .mov (.t 5), none⟩,
 ⟨some 43, .nilck (.t 42), none⟩,
 ⟨some 44, .fad 0 (.t 43), none⟩,
 ⟨some 45, .load 1 false (.t 44), none⟩,
 ⟨some 46, .bin .eql .str (.t 45) (.k (.str [])), none⟩,
 ⟨some 47, .call (.k (.fn (.func 73) [] [])) [(.t 46)], none⟩])
 (.seq (.reg [⟨some 48, .mov (.t 2), none⟩,
 ⟨some 49, .mov (.t 3), none⟩,
 ⟨some 2, .mov (.t 48), none⟩,
 ⟨some 3, .mov (.t 49), none⟩,
 ⟨none, .store 1 (.t 4) (.k (.int .i64 0)), none⟩])
 .ret)))))))))⟩

/-- 46: signetring/limb.load -/
def F46 : Fun :=
 ⟨59, 1, [.c 2 5 true],
 (.seq (.reg [⟨some 1, .box none (.t 0), none⟩,
 ⟨some 2, .new [.int .u64 0, .int .u64 0, .int .u64 0, .int .u64 0, .int .u64 0] none, none⟩])
 (.seq (.reg [⟨some 3, .new [.int .u64 0, .int .u64 0, .int .u64 0, .int .u64 0] none, none⟩])
 (.seq (.seq (.reg [⟨some 6, .mov (.k (.int .i64 0)), none⟩])
 (.block 0
 (.loop
 (.seq (.reg [⟨some 7, .bin .lss .num (.t 6) (.k (.int .i64 4)), none⟩])
 (.seq (.cond (.t 7)
 .skip
 (.exit 0))
 (.seq (.block 1
 (.seq (.reg [⟨some 8, .mov (.t 6), none⟩,
 ⟨some 4, .mov (.t 8), none⟩])
 (.seq (.reg [⟨some 5, .mov (.k (.int .i64 7)), none⟩])
 (.block 2
 (.loop
 (.seq (.seq (.reg [⟨some 9, .mov (.t 5), none⟩,
 ⟨some 10, .bin .geq .num (.t 9) (.k (.int .i64 0)), none⟩])
 (.cond (.t 10)
 .skip
 (.exit 2)))
 (.seq (.block 3
 (.dreg [⟨some 13, .mov (.t 4), none⟩,
 ⟨some 14, .mov (.t 4), none⟩,
 ⟨some 15, .iada 4 1 (.t 3) (.t 14), none⟩,
 ⟨some 16, .load 1 false (.t 15), none⟩,
 ⟨some 17, .bin .shl .num (.t 16) (.k (.int .u64 8)), none⟩,
 ⟨some 18, .mov (.t 4), none⟩,
 ⟨some 19, .bin .mul .num (.k (.int .i64 8)) (.t 18), none⟩,
 ⟨some 20, .mov (.t 5), none⟩,
 ⟨some 21, .bin .add .num (.t 19) (.t 20), none⟩,
 ⟨some 22, .iada 32 1 (.t 1) (.t 21), none⟩,
 ⟨some 23, .load 1 false (.t 22), none⟩,
 ⟨some 24, .cvi .u64 (.t 23), none⟩,
 ⟨some 25, .bin .or .num (.t 17) (.t 24), none⟩,
 ⟨some 26, .iada 4 1 (.t 3) (.t 13), none⟩,
 ⟨none, .store 1 (.t 26) (.t 25), none⟩] (.lin [] [(0, none), (1, none), (2, none), (3, none), (4, none), (5, none), (6, none), (7, none), (8, none), (9, none), (10, none), (11, none), (12, none), (13, none), (14, some [])])))
 (.reg [⟨some 11, .mov (.t 5), none⟩,
 ⟨some 12, .bin .sub .num (.t 11) (.k (.int .i64 1)), none⟩,
 ⟨some 5, .mov (.t 12), none⟩]))))))))
 (.reg [⟨some 27, .bin .add .num (.t 6) (.k (.int .i64 1)), none⟩,
 ⟨some 6, .mov (.t 27), none⟩])))))))
 (.seq (.reg [⟨some 28, .iada 4 1 (.t 3) (.k (.int .i64 0)), none⟩,
 ⟨some 29, .load 1 false (.t 28), none⟩,
 ⟨some 30, .bin .and .num (.t 29) (.k (.int .u64 2251799813685247)), none⟩,
 ⟨some 31, .iada 4 1 (.t 3) (.k (.int .i64 0)), none⟩,
 ⟨some 32, .load 1 false (.t 31), none⟩,
 ⟨some 33, .bin .shr .num (.t 32) (.k (.int .u64 51)), none⟩,
 ⟨some 34, .iada 4 1 (.t 3) (.k (.int .i64 1)), none⟩,
 ⟨some 35, .load 1 false (.t 34), none⟩,
 ⟨some 36, .bin .shl .num (.t 35) (.k (.int .u64 13)), none⟩,
 ⟨some 37, .bin .or .num (.t 33) (.t 36), none⟩,
 ⟨some 38, .bin .and .num (.t 37) (.k (.int .u64 2251799813685247)), none⟩,
 ⟨some 39, .iada 4 1 (.t 3) (.k (.int .i64 1)), none⟩,
 ⟨some 40, .load 1 false (.t 39), none⟩,
 ⟨some 41, .bin .shr .num (.t 40) (.k (.int .u64 38)), none⟩,
 ⟨some 42, .iada 4 1 (.t 3) (.k (.int .i64 2)), none⟩,
 ⟨some 43, .load 1 false (.t 42), none⟩,
 ⟨some 44, .bin .shl .num (.t 43) (.k (.int .u64 26)), none⟩,
 ⟨some 45, .bin .or .num (.t 41) (.t 44), none⟩,
 ⟨some 46, .bin .and .num (.t 45) (.k (.int .u64 2251799813685247)), none⟩,
 ⟨some 47, .iada 4 1 (.t 3) (.k (.int .i64 2)), none⟩,
 ⟨some 48, .load 1 false (.t 47), none⟩,
 ⟨some 49, .bin .shr .num (.t 48) (.k (.int .u64 25)), none⟩,
 ⟨some 50, .iada 4 1 (.t 3) (.k (.int .i64 3)), none⟩,
 ⟨some 51, .load 1 false (.t 50), none⟩,
 ⟨some 52, .bin .shl .num (.t 51) (.k (.int .u64 39)), none⟩,
 ⟨some 53, .bin .or .num (.t 49) (.t 52), none⟩,
 ⟨some 54, .bin .and .num (.t 53) (.k (.int .u64 2251799813685247)), none⟩,
 ⟨some 55, .iada 4 1 (.t 3) (.k (.int .i64 3)), none⟩,
 ⟨some 56, .load 1 false (.t 55), none⟩,
 ⟨some 57, .bin .shr .num (.t 56) (.k (.int .u64 12)), none⟩,
 ⟨some 58, .build [.int .u64 0, .int .u64 0, .int .u64 0, .int .u64 0, .int .u64 0] [(0, 1, (.t 30)), (1, 1, (.t 38)), (2, 1, (.t 46)), (3, 1, (.t 54)), (4, 1, (.t 57))], none⟩,
 ⟨none, .store 5 (.t 2) (.t 58), none⟩])
 .ret))))⟩

/-- 47: (signetring/limb.element).store -/
def F47 : Fun :=
 ⟨104, 1, [.c 2 32 true],
 (.seq (.reg [⟨some 1, .box none (.t 0), none⟩,
 ⟨some 2, .new [.int .u8 0, .int .u8 0, .int .u8 0, .int .u8 0, .int .u8 0, .int .u8 0, .int .u8 0, .int .u8 0, .int .u8 0, .int .u8 0, .int .u8 0, .int .u8 0, .int .u8 0, .int .u8 0, .int .u8 0, .int .u8 0, .int .u8 0, .int .u8 0, .int .u8 0, .int .u8 0, .int .u8 0, .int .u8 0, .int .u8 0, .int .u8 0, .int .u8 0, .int .u8 0, .int .u8 0, .int .u8 0, .int .u8 0, .int .u8 0, .int .u8 0, .int .u8 0] none, none⟩])
 (.seq (.reg [⟨some 10, .load 5 true (.t 1), none⟩,
 ⟨some 11, .call (.k (.fn (.func 76) [] [])) [(.t 10)], none⟩,
 ⟨some 12, .call (.k (.fn (.func 76) [] [])) [(.t 11)], none⟩,
 ⟨none, .store 5 (.t 1) (.t 12), none⟩])
 (.seq (.reg [⟨some 13, .iada 5 1 (.t 1) (.k (.int .i64 0)), none⟩,
 ⟨some 14, .load 1 false (.t 13), none⟩,
 ⟨some 15, .bin .add .num (.t 14) (.k (.int .u64 19)), none⟩,
 ⟨some 16, .bin .shr .num (.t 15) (.k (.int .u64 51)), none⟩,
 ⟨some 3, .mov (.t 16), none⟩])
 (.seq (.seq (.reg [⟨some 4, .mov (.k (.int .i64 1)), none⟩])
 (.block 0
 (.loop
 (.seq (.seq (.reg [⟨some 17, .mov (.t 4), none⟩,
 ⟨some 18, .bin .lss .num (.t 17) (.k (.int .i64 5)), none⟩])
 (.cond (.t 18)
 .skip
 (.exit 0)))
 (.seq (.block 1
 (.reg [⟨some 21, .mov (.t 4), none⟩,
 ⟨some 22, .iada 5 1 (.t 1) (.t 21), none⟩,
 ⟨some 23, .load 1 false (.t 22), none⟩,
 ⟨some 24, .mov (.t 3), none⟩,
 ⟨some 25, .bin .add .num (.t 23) (.t 24), none⟩,
 ⟨some 26, .bin .shr .num (.t 25) (.k (.int .u64 51)), none⟩,
 ⟨some 3, .mov (.t 26), none⟩]))
 (.reg [⟨some 19, .mov (.t 4), none⟩,
 ⟨some 20, .bin .add .num (.t 19) (.k (.int .i64 1)), none⟩,
 ⟨some 4, .mov (.t 20), none⟩]))))))
 (.seq (.reg [⟨some 27, .iada 5 1 (.t 1) (.k (.int .i64 0)), none⟩,
 ⟨some 28, .load 1 false (.t 27), none⟩,
 ⟨some 29, .mov (.t 3), none⟩,
 ⟨some 30, .bin .mul .num (.k (.int .u64 19)) (.t 29), none⟩,
 ⟨some 31, .bin .add .num (.t 28) (.t 30), none⟩,
 ⟨some 32, .iada 5 1 (.t 1) (.k (.int .i64 0)), none⟩,
 ⟨none, .store 1 (.t 32) (.t 31), none⟩])
 (.seq (.seq (.reg [⟨some 33, .mov (.k (.int .i64 0)), none⟩])
 (.block 2
 (.loop
 (.seq (.reg [⟨some 34, .bin .lss .num (.t 33) (.k (.int .i64 4)), none⟩])
 (.seq (.cond (.t 34)
 .skip
 (.exit 2))
 (.seq (.block 3
 (.seq (.reg [⟨some 35, .mov (.t 33), none⟩,
 ⟨some 5, .mov (.t 35), none⟩])
 (.seq (.dreg [⟨some 36, .mov (.t 5), none⟩,
 ⟨some 37, .bin .add .num (.t 36) (.k (.int .i64 1)), none⟩,
 ⟨some 38, .iada 5 1 (.t 1) (.t 37), none⟩,
 ⟨some 39, .load 1 false (.t 38), none⟩,
 ⟨some 40, .mov (.t 5), none⟩,
 ⟨some 41, .iada 5 1 (.t 1) (.t 40), none⟩,
 ⟨some 42, .load 1 false (.t 41), none⟩,
 ⟨some 43, .bin .shr .num (.t 42) (.k (.int .u64 51)), none⟩,
 ⟨some 44, .bin .add .num (.t 39) (.t 43), none⟩,
 ⟨some 45, .iada 5 1 (.t 1) (.t 37), none⟩,
 ⟨none, .store 1 (.t 45) (.t 44), none⟩] (.lin [] [(0, none), (1, none), (2, none), (3, none), (4, none), (5, none), (6, none), (7, none), (8, none), (9, none), (10, some [])]))
 (.reg [⟨some 46, .mov (.t 5), none⟩,
 ⟨some 47, .iada 5 1 (.t 1) (.t 46), none⟩,
 ⟨some 48, .load 1 false (.t 47), none⟩,
 ⟨some 49, .bin .and .num (.t 48) (.k (.int .u64 2251799813685247)), none⟩,
 ⟨some 50, .iada 5 1 (.t 1) (.t 46), none⟩,
 ⟨none, .store 1 (.t 50) (.t 49), none⟩]))))
 (.reg [⟨some 51, .bin .add .num (.t 33) (.k (.int .i64 1)), none⟩,
 ⟨some 33, .mov (.t 51), none⟩])))))))
 (.seq (.reg [⟨some 52, .iada 5 1 (.t 1) (.k (.int .i64 4)), none⟩,
 ⟨some 53, .load 1 false (.t 52), none⟩,
 ⟨some 54, .bin .and .num (.t 53) (.k (.int .u64 2251799813685247)), none⟩,
 ⟨some 55, .iada 5 1 (.t 1) (.k (.int .i64 4)), none⟩,
 ⟨none, .store 1 (.t 55) (.t 54), none⟩])
 (.seq (.reg [⟨some 6, .new [.int .u8 0, .int .u8 0, .int .u8 0, .int .u8 0, .int .u8 0, .int .u8 0, .int .u8 0, .int .u8 0, .int .u8 0, .int .u8 0, .int .u8 0, .int .u8 0, .int .u8 0, .int .u8 0, .int .u8 0, .int .u8 0, .int .u8 0, .int .u8 0, .int .u8 0, .int .u8 0, .int .u8 0, .int .u8 0, .int .u8 0, .int .u8 0, .int .u8 0, .int .u8 0, .int .u8 0, .int .u8 0, .int .u8 0, .int .u8 0, .int .u8 0, .int .u8 0] none, none⟩])
 (.seq (.seq (.reg [⟨some 56, .iada 5 1 (.t 1) (.k (.int .i64 0)), none⟩,
 ⟨some 57, .load 1 false (.t 56), none⟩,
 ⟨some 58, .iada 5 1 (.t 1) (.k (.int .i64 1)), none⟩,
 ⟨some 59, .load 1 false (.t 58), none⟩,
 ⟨some 60, .bin .shl .num (.t 59) (.k (.int .u64 51)), none⟩,
 ⟨some 61, .bin .or .num (.t 57) (.t 60), none⟩,
 ⟨some 62, .iada 5 1 (.t 1) (.k (.int .i64 1)), none⟩,
 ⟨some 63, .load 1 false (.t 62), none⟩,
 ⟨some 64, .bin .shr .num (.t 63) (.k (.int .u64 13)), none⟩,
 ⟨some 65, .iada 5 1 (.t 1) (.k (.int .i64 2)), none⟩,
 ⟨some 66, .load 1 false (.t 65), none⟩,
 ⟨some 67, .bin .shl .num (.t 66) (.k (.int .u64 38)), none⟩,
 ⟨some 68, .bin .or .num (.t 64) (.t 67), none⟩,
 ⟨some 69, .iada 5 1 (.t 1) (.k (.int .i64 2)), none⟩,
 ⟨some 70, .load 1 false (.t 69), none⟩,
 ⟨some 71, .bin .shr .num (.t 70) (.k (.int .u64 26)), none⟩,
 ⟨some 72, .iada 5 1 (.t 1) (.k (.int .i64 3)), none⟩,
 ⟨some 73, .load 1 false (.t 72), none⟩,
 ⟨some 74, .bin .shl .num (.t 73) (.k (.int .u64 25)), none⟩,
 ⟨some 75, .bin .or .num (.t 71) (.t 74), none⟩,
 ⟨some 76, .iada 5 1 (.t 1) (.k (.int .i64 3)), none⟩,
 ⟨some 77, .load 1 false (.t 76), none⟩,
 ⟨some 78, .bin .shr .num (.t 77) (.k (.int .u64 39)), none⟩,
 ⟨some 79, .iada 5 1 (.t 1) (.k (.int .i64 4)), none⟩,
 ⟨some 80, .load 1 false (.t 79), none⟩,
 ⟨some 81, .bin .shl .num (.t 80) (.k (.int .u64 12)), none⟩,
 ⟨some 82, .bin .or .num (.t 78) (.t 81), none⟩,
 ⟨some 83, .build [.int .u64 0, .int .u64 0, .int .u64 0, .int .u64 0] [(0, 1, (.t 61)), (1, 1, (.t 68)), (2, 1, (.t 75)), (3, 1, (.t 82))], none⟩,
 ⟨some 84, .mov (.k (.int .i64 0)), none⟩])
 (.block 4
 (.loop
 (.seq (.reg [⟨some 85, .bin .lss .num (.t 84) (.k (.int .i64 4)), none⟩])
 (.seq (.cond (.t 85)
 .skip
 (.exit 4))
 (.seq (.block 5
 (.seq (.reg [⟨some 86, .mov (.t 84), none⟩,
 ⟨some 87, .idxa 4 1 false (.t 83) (.t 84), none⟩,
 ⟨some 7, .mov (.t 86), none⟩,
 ⟨some 8, .mov (.t 87), none⟩])
 (.seq (.reg [⟨some 88, .mov (.k (.int .i64 0)), none⟩])
 (.block 6
 (.loop
 (.seq (.reg [⟨some 89, .bin .lss .num (.t 88) (.k (.int .i64 8)), none⟩])
 (.seq (.cond (.t 89)
 .skip
 (.exit 6))
 (.seq (.block 7
 (.seq (.reg [⟨some 90, .mov (.t 88), none⟩,
 ⟨some 9, .mov (.t 90), none⟩])
 (.reg [⟨some 91, .mov (.t 7), none⟩,
 ⟨some 92, .bin .mul .num (.k (.int .i64 8)) (.t 91), none⟩,
 ⟨some 93, .mov (.t 9), none⟩,
 ⟨some 94, .bin .add .num (.t 92) (.t 93), none⟩,
 ⟨some 95, .mov (.t 8), none⟩,
 ⟨some 96, .mov (.t 9), none⟩,
 ⟨some 97, .bin .mul .num (.k (.int .i64 8)) (.t 96), none⟩,
 ⟨some 98, .bin .shr .num (.t 95) (.t 97), none⟩,
 ⟨some 99, .cvi .u8 (.t 98), none⟩,
 ⟨some 100, .iada 32 1 (.t 6) (.t 94), none⟩,
 ⟨none, .store 1 (.t 100) (.t 99), none⟩])))
 (.reg [⟨some 101, .bin .add .num (.t 88) (.k (.int .i64 1)), none⟩,
 ⟨some 88, .mov (.t 101), none⟩])))))))))
 (.reg [⟨some 102, .bin .add .num (.t 84) (.k (.int .i64 1)), none⟩,
 ⟨some 84, .mov (.t 102), none⟩])))))))
 (.seq (.reg [⟨some 103, .load 32 true (.t 6), none⟩,
 ⟨none, .store 32 (.t 2) (.t 103), none⟩])
 .ret))))))))))⟩

/-- 48: signetring/limb.Swap -/
def F48 : Fun :=
 ⟨39, 3, [.c 6 32 true, .c 7 32 true],
 (.seq (.reg [⟨some 4, .box none (.t 1), none⟩,
 ⟨some 5, .box none (.t 2), none⟩,
 ⟨some 6, .new [.int .u8 0, .int .u8 0, .int .u8 0, .int .u8 0, .int .u8 0, .int .u8 0, .int .u8 0, .int .u8 0, .int .u8 0, .int .u8 0, .int .u8 0, .int .u8 0, .int .u8 0, .int .u8 0, .int .u8 0, .int .u8 0, .int .u8 0, .int .u8 0, .int .u8 0, .int .u8 0, .int .u8 0, .int .u8 0, .int .u8 0, .int .u8 0, .int .u8 0, .int .u8 0, .int .u8 0, .int .u8 0, .int .u8 0, .int .u8 0, .int .u8 0, .int .u8 0] none, none⟩,
 ⟨some 7, .new [.int .u8 0, .int .u8 0, .int .u8 0, .int .u8 0, .int .u8 0, .int .u8 0, .int .u8 0, .int .u8 0, .int .u8 0, .int .u8 0, .int .u8 0, .int .u8 0, .int .u8 0, .int .u8 0, .int .u8 0, .int .u8 0, .int .u8 0, .int .u8 0, .int .u8 0, .int .u8 0, .int .u8 0, .int .u8 0, .int .u8 0, .int .u8 0, .int .u8 0, .int .u8 0, .int .u8 0, .int .u8 0, .int .u8 0, .int .u8 0, .int .u8 0, .int .u8 0] none, none⟩])
 (.seq (.reg [⟨some 8, .mov (.k (.int .u8 0)), none⟩])
 (.seq (.seq (.reg [⟨some 11, .mov (.t 0), none⟩])
 (.cond (.t 11)
 (.reg [⟨some 8, .mov (.k (.int .u8 255)), none⟩])
 .skip))
 (.seq (.seq (.reg [⟨some 12, .mov (.k (.int .i64 0)), none⟩])
 (.block 0
 (.loop
 (.seq (.reg [⟨some 13, .bin .lss .num (.t 12) (.k (.int .i64 32)), none⟩])
 (.seq (.cond (.t 13)
 .skip
 (.exit 0))
 (.seq (.block 1
 (.seq (.reg [⟨some 14, .mov (.t 12), none⟩,
 ⟨some 9, .mov (.t 14), none⟩])
 (.seq (.dreg [⟨some 15, .mov (.t 8), none⟩,
 ⟨some 16, .mov (.t 9), none⟩,
 ⟨some 17, .iada 32 1 (.t 4) (.t 16), none⟩,
 ⟨some 18, .load 1 false (.t 17), none⟩,
 ⟨some 19, .mov (.t 9), none⟩,
 ⟨some 20, .iada 32 1 (.t 5) (.t 19), none⟩,
 ⟨some 21, .load 1 false (.t 20), none⟩,
 ⟨some 22, .bin .xor .num (.t 18) (.t 21), none⟩,
 ⟨some 23, .bin .and .num (.t 15) (.t 22), none⟩,
 ⟨some 10, .mov (.t 23), none⟩] (.lin [] [(0, none), (1, none), (2, none), (3, none), (4, none), (5, none), (6, none), (7, none), (8, none), (9, none)]))
 (.seq (.reg [⟨some 24, .mov (.t 9), none⟩,
 ⟨some 25, .iada 32 1 (.t 4) (.t 24), none⟩,
 ⟨some 26, .load 1 false (.t 25), none⟩,
 ⟨some 27, .mov (.t 10), none⟩,
 ⟨some 28, .bin .xor .num (.t 26) (.t 27), none⟩,
 ⟨some 29, .iada 32 1 (.t 4) (.t 24), none⟩,
 ⟨none, .store 1 (.t 29) (.t 28), none⟩])
 (.reg [⟨some 30, .mov (.t 9), none⟩,
 ⟨some 31, .iada 32 1 (.t 5) (.t 30), none⟩,
 ⟨some 32, .load 1 false (.t 31), none⟩,
 ⟨some 33, .mov (.t 10), none⟩,
 ⟨some 34, .bin .xor .num (.t 32) (.t 33), none⟩,
 ⟨some 35, .iada 32 1 (.t 5) (.t 30), none⟩,
 ⟨none, .store 1 (.t 35) (.t 34), none⟩])))))
 (.reg [⟨some 36, .bin .add .num (.t 12) (.k (.int .i64 1)), none⟩,
 ⟨some 12, .mov (.t 36), none⟩])))))))
 (.seq (.dreg [⟨some 37, .load 32 true (.t 4), none⟩,
 ⟨some 38, .load 32 true (.t 5), none⟩,
 ⟨none, .store 32 (.t 6) (.t 37), none⟩,
 ⟨none, .store 32 (.t 7) (.t 38), none⟩] (.lin [] [(0, none), (1, none), (2, some [1]), (3, some [])]))
 .ret)))))⟩

/-- 49: (*signetring/ladder.point).step$1 -/
def F49 : Fun :=
 ⟨6, 1, [.c 2 32 true],
 (.seq (.reg [⟨some 1, .box none (.t 0), none⟩,
 ⟨some 2, .new [.int .u8 0, .int .u8 0, .int .u8 0, .int .u8 0, .int .u8 0, .int .u8 0, .int .u8 0, .int .u8 0, .int .u8 0, .int .u8 0, .int .u8 0, .int .u8 0, .int .u8 0, .int .u8 0, .int .u8 0, .int .u8 0, .int .u8 0, .int .u8 0, .int .u8 0, .int .u8 0, .int .u8 0, .int .u8 0, .int .u8 0, .int .u8 0, .int .u8 0, .int .u8 0, .int .u8 0, .int .u8 0, .int .u8 0, .int .u8 0, .int .u8 0, .int .u8 0] none, none⟩])
 (.seq (.reg [⟨some 3, .load 32 true (.t 1), none⟩,
 ⟨some 4, .load 32 true (.t 1), none⟩,
 ⟨some 5, .call (.k (.fn (.func 35) [] [])) [(.t 3), (.t 4)], none⟩,
 ⟨none, .store 32 (.t 2) (.t 5), none⟩])
 .ret))⟩

/-- 50: signetring/limb.Add -/
def F50 : Fun :=
 ⟨26, 2, [.c 4 32 true],
 (.seq (.reg [⟨some 2, .box none (.t 0), none⟩,
 ⟨some 3, .box none (.t 1), none⟩,
 ⟨some 4, .new [.int .u8 0, .int .u8 0, .int .u8 0, .int .u8 0, .int .u8 0, .int .u8 0, .int .u8 0, .int .u8 0, .int .u8 0, .int .u8 0, .int .u8 0, .int .u8 0, .int .u8 0, .int .u8 0, .int .u8 0, .int .u8 0, .int .u8 0, .int .u8 0, .int .u8 0, .int .u8 0, .int .u8 0, .int .u8 0, .int .u8 0, .int .u8 0, .int .u8 0, .int .u8 0, .int .u8 0, .int .u8 0, .int .u8 0, .int .u8 0, .int .u8 0, .int .u8 0] none, none⟩])
 (.seq (.dreg [⟨some 8, .load 32 true (.t 2), none⟩,
 ⟨some 9, .call (.k (.fn (.func 46) [] [])) [(.t 8)], none⟩,
 ⟨some 10, .load 32 true (.t 3), none⟩,
 ⟨some 11, .call (.k (.fn (.func 46) [] [])) [(.t 10)], none⟩,
 ⟨some 5, .new [.int .u64 0, .int .u64 0, .int .u64 0, .int .u64 0, .int .u64 0] none, none⟩,
 ⟨some 6, .new [.int .u64 0, .int .u64 0, .int .u64 0, .int .u64 0, .int .u64 0] none, none⟩,
 ⟨none, .store 5 (.t 5) (.t 9), none⟩,
 ⟨none, .store 5 (.t 6) (.t 11), none⟩] (.lin [4, 5] [(0, none), (2, none), (1, some [2]), (3, some []), (6, some []), (7, some [])]))
 (.seq (.seq (.reg [⟨some 12, .mov (.k (.int .i64 0)), none⟩])
 (.block 0
 (.loop
 (.seq (.reg [⟨some 13, .bin .lss .num (.t 12) (.k (.int .i64 5)), none⟩])
 (.seq (.cond (.t 13)
 .skip
 (.exit 0))
 (.seq (.block 1
 (.seq (.reg [⟨some 14, .mov (.t 12), none⟩,
 ⟨some 7, .mov (.t 14), none⟩])
 (.dreg [⟨some 15, .mov (.t 7), none⟩,
 ⟨some 16, .iada 5 1 (.t 5) (.t 15), none⟩,
 ⟨some 17, .load 1 false (.t 16), none⟩,
 ⟨some 18, .mov (.t 7), none⟩,
 ⟨some 19, .iada 5 1 (.t 6) (.t 18), none⟩,
 ⟨some 20, .load 1 false (.t 19), none⟩,
 ⟨some 21, .bin .add .num (.t 17) (.t 20), none⟩,
 ⟨some 22, .iada 5 1 (.t 5) (.t 15), none⟩,
 ⟨none, .store 1 (.t 22) (.t 21), none⟩] (.lin [] [(0, none), (1, none), (2, none), (3, none), (4, none), (5, none), (6, none), (7, none), (8, some [])]))))
 (.reg [⟨some 23, .bin .add .num (.t 12) (.k (.int .i64 1)), none⟩,
 ⟨some 12, .mov (.t 23), none⟩])))))))
 (.seq (.reg [⟨some 24, .load 5 true (.t 5), none⟩,
 ⟨some 25, .call (.k (.fn (.func 47) [] [])) [(.t 24)], none⟩,
 ⟨none, .store 32 (.t 4) (.t 25), none⟩])
 .ret))))⟩

/-- 51: signetring/limb.Sub -/
def F51 : Fun :=
 ⟨31, 2, [.c 4 32 true],
 (.seq (.reg [⟨some 2, .box none (.t 0), none⟩,
 ⟨some 3, .box none (.t 1), none⟩,
 ⟨some 4, .new [.int .u8 0, .int .u8 0, .int .u8 0, .int .u8 0, .int .u8 0, .int .u8 0, .int .u8 0, .int .u8 0, .int .u8 0, .int .u8 0, .int .u8 0, .int .u8 0, .int .u8 0, .int .u8 0, .int .u8 0, .int .u8 0, .int .u8 0, .int .u8 0, .int .u8 0, .int .u8 0, .int .u8 0, .int .u8 0, .int .u8 0, .int .u8 0, .int .u8 0, .int .u8 0, .int .u8 0, .int .u8 0, .int .u8 0, .int .u8 0, .int .u8 0, .int .u8 0] none, none⟩])
 (.seq (.dreg [⟨some 9, .load 32 true (.t 2), none⟩,
 ⟨some 10, .call (.k (.fn (.func 46) [] [])) [(.t 9)], none⟩,
 ⟨some 11, .load 32 true (.t 3), none⟩,
 ⟨some 12, .call (.k (.fn (.func 46) [] [])) [(.t 11)], none⟩,
 ⟨some 5, .new [.int .u64 0, .int .u64 0, .int .u64 0, .int .u64 0, .int .u64 0] none, none⟩,
 ⟨some 6, .new [.int .u64 0, .int .u64 0, .int .u64 0, .int .u64 0, .int .u64 0] none, none⟩,
 ⟨none, .store 5 (.t 5) (.t 10), none⟩,
 ⟨none, .store 5 (.t 6) (.t 12), none⟩] (.lin [4, 5] [(0, none), (2, none), (1, some [2]), (3, some []), (6, some []), (7, some [])]))
 (.seq (.seq (.reg [⟨some 13, .mov (.k (.int .i64 0)), none⟩])
 (.block 0
 (.loop
 (.seq (.reg [⟨some 14, .bin .lss .num (.t 13) (.k (.int .i64 5)), none⟩])
 (.seq (.cond (.t 14)
 .skip
 (.exit 0))
 (.seq (.block 1
 (.seq (.reg [⟨some 15, .mov (.t 13), none⟩,
 ⟨some 7, .mov (.t 15), none⟩])
 (.seq (.reg [⟨some 8, .mov (.k (.int .u64 9007199254740988)), none⟩])
 (.seq (.seq (.reg [⟨some 16, .mov (.t 7), none⟩,
 ⟨some 17, .bin .eql .num (.t 16) (.k (.int .i64 0)), none⟩])
 (.cond (.t 17)
 (.reg [⟨some 8, .mov (.k (.int .u64 9007199254740916)), none⟩])
 .skip))
 (.dreg [⟨some 18, .mov (.t 7), none⟩,
 ⟨some 19, .iada 5 1 (.t 5) (.t 18), none⟩,
 ⟨some 20, .load 1 false (.t 19), none⟩,
 ⟨some 21, .mov (.t 8), none⟩,
 ⟨some 22, .mov (.t 7), none⟩,
 ⟨some 23, .iada 5 1 (.t 6) (.t 22), none⟩,
 ⟨some 24, .load 1 false (.t 23), none⟩,
 ⟨some 25, .bin .sub .num (.t 21) (.t 24), none⟩,
 ⟨some 26, .bin .add .num (.t 20) (.t 25), none⟩,
 ⟨some 27, .iada 5 1 (.t 5) (.t 18), none⟩,
 ⟨none, .store 1 (.t 27) (.t 26), none⟩] (.lin [] [(0, none), (1, none), (2, none), (3, none), (4, none), (5, none), (6, none), (7, none), (8, none), (9, none), (10, some [])]))))))
 (.reg [⟨some 28, .bin .add .num (.t 13) (.k (.int .i64 1)), none⟩,
 ⟨some 13, .mov (.t 28), none⟩])))))))
 (.seq (.reg [⟨some 29, .load 5 true (.t 5), none⟩,
 ⟨some 30, .call (.k (.fn (.func 47) [] [])) [(.t 29)], none⟩,
 ⟨none, .store 32 (.t 4) (.t 30), none⟩])
 .ret))))⟩

/-- 52: (signetring/limb.element).times -/
def F52 : Fun :=
 ⟨106, 2, [.c 4 5 true],
 (.seq (.reg [⟨some 2, .box none (.t 0), none⟩,
 ⟨some 3, .box none (.t 1), none⟩,
 ⟨some 4, .new [.int .u64 0, .int .u64 0, .int .u64 0, .int .u64 0, .int .u64 0] none, none⟩])
 (.seq (.reg [⟨some 5, .new [.int .u64 0, .int .u64 0, .int .u64 0, .int .u64 0, .int .u64 0, .int .u64 0, .int .u64 0, .int .u64 0, .int .u64 0, .int .u64 0] none, none⟩])
 (.seq (.seq (.reg [⟨some 20, .load 5 true (.t 2), none⟩,
 ⟨some 21, .mov (.k (.int .i64 0)), none⟩])
 (.block 0
 (.loop
 (.seq (.reg [⟨some 22, .bin .lss .num (.t 21) (.k (.int .i64 5)), none⟩])
 (.seq (.cond (.t 22)
 .skip
 (.exit 0))
 (.seq (.block 1
 (.seq (.reg [⟨some 23, .mov (.t 21), none⟩,
 ⟨some 24, .idxa 5 1 false (.t 20) (.t 21), none⟩,
 ⟨some 6, .mov (.t 23), none⟩,
 ⟨some 7, .mov (.t 24), none⟩])
 (.seq (.reg [⟨some 25, .load 5 true (.t 3), none⟩,
 ⟨some 26, .mov (.k (.int .i64 0)), none⟩])
 (.block 2
 (.loop
 (.seq (.reg [⟨some 27, .bin .lss .num (.t 26) (.k (.int .i64 5)), none⟩])
 (.seq (.cond (.t 27)
 .skip
 (.exit 2))
 (.seq (.block 3
 (.seq (.reg [⟨some 28, .mov (.t 26), none⟩,
 ⟨some 29, .idxa 5 1 false (.t 25) (.t 26), none⟩,
 ⟨some 8, .mov (.t 28), none⟩,
 ⟨some 9, .mov (.t 29), none⟩])
 (.seq (.reg [⟨some 30, .mov (.t 6), none⟩,
 ⟨some 31, .mov (.t 8), none⟩,
 ⟨some 32, .bin .add .num (.t 30) (.t 31), none⟩,
 ⟨some 10, .mov (.t 32), none⟩])
 (.seq (.seq (.reg [⟨some 33, .mov (.t 10), none⟩,
 ⟨some 34, .bin .geq .num (.t 33) (.k (.int .i64 5)), none⟩])
 (.cond (.t 34)
 (.seq (.reg [⟨some 35, .mov (.t 10), none⟩,
 ⟨some 36, .bin .sub .num (.t 35) (.k (.int .i64 5)), none⟩,
 ⟨some 10, .mov (.t 36), none⟩])
 (.reg [⟨some 37, .mov (.t 9), none⟩,
 ⟨some 38, .bin .mul .num (.t 37) (.k (.int .u64 19)), none⟩,
 ⟨some 9, .mov (.t 38), none⟩]))
 .skip))
 (.reg [⟨some 39, .mov (.t 10), none⟩,
 ⟨some 40, .mov (.t 10), none⟩,
 ⟨some 41, .iada 5 2 (.t 5) (.t 40), none⟩,
 ⟨some 42, .load 2 true (.t 41), none⟩,
 ⟨some 43, .mov (.t 7), none⟩,
 ⟨some 44, .mov (.t 9), none⟩,
 ⟨some 45, .call (.k (.fn (.func 77) [] [])) [(.t 42), (.t 43), (.t 44)], none⟩,
 ⟨some 46, .iada 5 2 (.t 5) (.t 39), none⟩,
 ⟨none, .store 2 (.t 46) (.t 45), none⟩])))))
 (.reg [⟨some 47, .bin .add .num (.t 26) (.k (.int .i64 1)), none⟩,
 ⟨some 26, .mov (.t 47), none⟩])))))))))
 (.reg [⟨some 48, .bin .add .num (.t 21) (.k (.int .i64 1)), none⟩,
 ⟨some 21, .mov (.t 48), none⟩])))))))
 (.seq (.reg [⟨some 11, .new [.int .u64 0, .int .u64 0, .int .u64 0, .int .u64 0, .int .u64 0] none, none⟩])
 (.seq (.reg [⟨some 12, .mov (.k (.int .u64 0)), none⟩])
 (.seq (.seq (.reg [⟨some 49, .mov (.k (.int .i64 0)), none⟩])
 (.block 4
 (.loop
 (.seq (.reg [⟨some 50, .bin .lss .num (.t 49) (.k (.int .i64 5)), none⟩])
 (.seq (.cond (.t 50)
 .skip
 (.exit 4))
 (.seq (.block 5
 (.seq (.reg [⟨some 51, .mov (.t 49), none⟩,
 ⟨some 13, .mov (.t 51), none⟩])
 (.seq (.reg [⟨some 53, .mov (.t 13), none⟩,
 ⟨some 54, .iada 5 2 (.t 5) (.t 53), none⟩,
 ⟨some 55, .fad 1 (.t 54), none⟩,
 ⟨some 56, .load 1 false (.t 55), none⟩,
 ⟨some 57, .mov (.t 12), none⟩,
 ⟨some 58, .j (.adc (.t 56) (.t 57) (.k (.int .u64 0))), none⟩,
 ⟨some 52, .mov (.t 58), none⟩,
 ⟨some 59, .ext (.t 52) 0, none⟩,
 ⟨some 60, .ext (.t 52) 1, none⟩,
 ⟨some 14, .mov (.t 59), none⟩,
 ⟨some 15, .mov (.t 60), none⟩])
 (.seq (.reg [⟨some 61, .mov (.t 13), none⟩,
 ⟨some 62, .iada 5 2 (.t 5) (.t 61), none⟩,
 ⟨some 63, .fad 0 (.t 62), none⟩,
 ⟨some 64, .load 1 false (.t 63), none⟩,
 ⟨some 65, .mov (.t 15), none⟩,
 ⟨some 66, .bin .add .num (.t 64) (.t 65), none⟩,
 ⟨some 16, .mov (.t 66), none⟩])
 (.seq (.reg [⟨some 67, .mov (.t 13), none⟩,
 ⟨some 68, .mov (.t 14), none⟩,
 ⟨some 69, .bin .and .num (.t 68) (.k (.int .u64 2251799813685247)), none⟩,
 ⟨some 70, .iada 5 1 (.t 11) (.t 67), none⟩,
 ⟨none, .store 1 (.t 70) (.t 69), none⟩])
 (.reg [⟨some 71, .mov (.t 16), none⟩,
 ⟨some 72, .bin .shl .num (.t 71) (.k (.int .u64 13)), none⟩,
 ⟨some 73, .mov (.t 14), none⟩,
 ⟨some 74, .bin .shr .num (.t 73) (.k (.int .u64 51)), none⟩,
 ⟨some 75, .bin .or .num (.t 72) (.t 74), none⟩,
 ⟨some 12, .mov (.t 75), none⟩]))))))
 (.reg [⟨some 76, .bin .add .num (.t 49) (.k (.int .i64 1)), none⟩,
 ⟨some 49, .mov (.t 76), none⟩])))))))
 (.seq (.reg [⟨some 78, .mov (.t 12), none⟩,
 ⟨some 79, .call (.k (.fn (.func 79) [] [])) [(.t 78), (.k (.int .u64 19))], none⟩,
 ⟨some 77, .mov (.t 79), none⟩,
 ⟨some 80, .ext (.t 77) 0, none⟩,
 ⟨some 81, .ext (.t 77) 1, none⟩,
 ⟨some 17, .mov (.t 80), none⟩,
 ⟨some 18, .mov (.t 81), none⟩])
 (.seq (.reg [⟨some 83, .mov (.t 18), none⟩,
 ⟨some 84, .iada 5 1 (.t 11) (.k (.int .i64 0)), none⟩,
 ⟨some 85, .load 1 false (.t 84), none⟩,
 ⟨some 86, .j (.adc (.t 83) (.t 85) (.k (.int .u64 0))), none⟩,
 ⟨some 82, .mov (.t 86), none⟩,
 ⟨some 87, .ext (.t 82) 0, none⟩,
 ⟨some 88, .ext (.t 82) 1, none⟩,
 ⟨some 18, .mov (.t 87), none⟩,
 ⟨some 19, .mov (.t 88), none⟩])
 (.seq (.reg [⟨some 89, .mov (.t 17), none⟩,
 ⟨some 90, .mov (.t 19), none⟩,
 ⟨some 91, .bin .add .num (.t 89) (.t 90), none⟩,
 ⟨some 17, .mov (.t 91), none⟩])
 (.seq (.reg [⟨some 92, .mov (.t 18), none⟩,
 ⟨some 93, .bin .and .num (.t 92) (.k (.int .u64 2251799813685247)), none⟩,
 ⟨some 94, .iada 5 1 (.t 11) (.k (.int .i64 0)), none⟩,
 ⟨none, .store 1 (.t 94) (.t 93), none⟩])
 (.seq (.reg [⟨some 95, .iada 5 1 (.t 11) (.k (.int .i64 1)), none⟩,
 ⟨some 96, .load 1 false (.t 95), none⟩,
 ⟨some 97, .mov (.t 17), none⟩,
 ⟨some 98, .bin .shl .num (.t 97) (.k (.int .u64 13)), none⟩,
 ⟨some 99, .mov (.t 18), none⟩,
 ⟨some 100, .bin .shr .num (.t 99) (.k (.int .u64 51)), none⟩,
 ⟨some 101, .bin .or .num (.t 98) (.t 100), none⟩,
 ⟨some 102, .bin .add .num (.t 96) (.t 101), none⟩,
 ⟨some 103, .iada 5 1 (.t 11) (.k (.int .i64 1)), none⟩,
 ⟨none, .store 1 (.t 103) (.t 102), none⟩])
 (.seq (.reg [⟨some 104, .load 5 true (.t 11), none⟩,
 ⟨some 105, .call (.k (.fn (.func 76) [] [])) [(.t 104)], none⟩,
 ⟨none, .store 5 (.t 4) (.t 105), none⟩])
 .ret))))))))))))⟩

/-- 53: signetring/mac.keyed -/
def F53 : Fun :=
 ⟨30, 2, [.c 4 10 true],
 (.seq (.reg [⟨some 4, .new [.int .u32 0, .int .u32 0, .int .u32 0, .int .u32 0, .int .u32 0, .int .u32 0, .int .u32 0, .int .u32 0, .nsl, .int .u64 0] none, none⟩])
 (.seq (.seq (.reg [⟨some 8, .mov (.t 0), none⟩,
 ⟨some 9, .len .slc (.t 8), none⟩,
 ⟨some 10, .bin .gtr .num (.t 9) (.k (.int .i64 64)), none⟩])
 (.cond (.t 10)
 (.seq (.reg [⟨some 11, .mov (.t 0), none⟩,
 ⟨some 12, .call (.k (.fn (.func 12) [] [])) [(.t 11)], none⟩,
 ⟨some 5, .new [.int .u8 0, .int .u8 0, .int .u8 0, .int .u8 0, .int .u8 0, .int .u8 0, .int .u8 0, .int .u8 0, .int .u8 0, .int .u8 0, .int .u8 0, .int .u8 0, .int .u8 0, .int .u8 0, .int .u8 0, .int .u8 0, .int .u8 0, .int .u8 0, .int .u8 0, .int .u8 0, .int .u8 0, .int .u8 0, .int .u8 0, .int .u8 0, .int .u8 0, .int .u8 0, .int .u8 0, .int .u8 0, .int .u8 0, .int .u8 0, .int .u8 0, .int .u8 0] none, none⟩,
 ⟨none, .store 32 (.t 5) (.t 12), none⟩])
 (.reg [⟨some 13, .slca 32 1 false (.t 5) none none none, none⟩,
 ⟨some 0, .mov (.t 13), none⟩]))
 .skip))
 (.seq (.reg [⟨some 6, .new [.int .u8 0, .int .u8 0, .int .u8 0, .int .u8 0, .int .u8 0, .int .u8 0, .int .u8 0, .int .u8 0, .int .u8 0, .int .u8 0, .int .u8 0, .int .u8 0, .int .u8 0, .int .u8 0, .int .u8 0, .int .u8 0, .int .u8 0, .int .u8 0, .int .u8 0, .int .u8 0, .int .u8 0, .int .u8 0, .int .u8 0, .int .u8 0, .int .u8 0, .int .u8 0, .int .u8 0, .int .u8 0, .int .u8 0, .int .u8 0, .int .u8 0, .int .u8 0, .int .u8 0, .int .u8 0, .int .u8 0, .int .u8 0, .int .u8 0, .int .u8 0, .int .u8 0, .int .u8 0, .int .u8 0, .int .u8 0, .int .u8 0, .int .u8 0, .int .u8 0, .int .u8 0, .int .u8 0, .int .u8 0, .int .u8 0, .int .u8 0, .int .u8 0, .int .u8 0, .int .u8 0, .int .u8 0, .int .u8 0, .int .u8 0, .int .u8 0, .int .u8 0, .int .u8 0, .int .u8 0, .int .u8 0, .int .u8 0, .int .u8 0, .int .u8 0] none, none⟩])
 (.seq (.reg [⟨some 14, .slca 64 1 false (.t 6) none none none, none⟩,
 ⟨some 15, .mov (.t 0), none⟩,
 ⟨some 16, .cpy 1 (.t 14) (.t 15), none⟩])
 (.seq (.seq (.reg [⟨some 17, .mov (.k (.int .i64 0)), none⟩])
 (.block 0
 (.loop
 (.seq (.reg [⟨some 18, .bin .lss .num (.t 17) (.k (.int .i64 64)), none⟩])
 (.seq (.cond (.t 18)
 .skip
 (.exit 0))
 (.seq (.block 1
 (.seq (.reg [⟨some 19, .mov (.t 17), none⟩,
 ⟨some 7, .mov (.t 19), none⟩])
 (.reg [⟨some 20, .mov (.t 7), none⟩,
 ⟨some 21, .iada 64 1 (.t 6) (.t 20), none⟩,
 ⟨some 22, .load 1 false (.t 21), none⟩,
 ⟨some 23, .mov (.t 1), none⟩,
 ⟨some 24, .bin .xor .num (.t 22) (.t 23), none⟩,
 ⟨some 25, .iada 64 1 (.t 6) (.t 20), none⟩,
 ⟨none, .store 1 (.t 25) (.t 24), none⟩])))
 (.reg [⟨some 26, .bin .add .num (.t 17) (.k (.int .i64 1)), none⟩,
 ⟨some 17, .mov (.t 26), none⟩])))))))
 (.seq (.reg [⟨some 27, .build [.int .u32 0, .int .u32 0, .int .u32 0, .int .u32 0, .int .u32 0, .int .u32 0, .int .u32 0, .int .u32 0, .nsl, .int .u64 0] [], none⟩,
 ⟨some 28, .slca 64 1 false (.t 6) none none none, none⟩,
 ⟨some 29, .call (.k (.fn (.func 25) [] [])) [(.t 27), (.t 28)], none⟩,
 ⟨none, .store 10 (.t 4) (.t 29), none⟩])
 .ret))))))⟩

/-- 54: slices.Grow[[]byte,byte] -/
def F54 : Fun :=
 ⟨27, 2, [.t 4],
 (.seq (.reg [⟨some 4, .mov (.k .nsl), none⟩])
 (.seq (.seq (.reg [⟨some 5, .mov (.t 1), none⟩,
 ⟨some 6, .bin .lss .num (.t 5) (.k (.int .i64 0)), none⟩])
 (.cond (.t 6)
 (.reg [⟨some 7, .mki 9 (.k (.str [99, 97, 110, 110, 111, 116, 32, 98, 101, 32, 110, 101, 103, 97, 116, 105, 118, 101])), none⟩,
 ⟨none, .pan (.t 7), none⟩])
 .skip))
 (.seq (.seq (.reg [⟨some 8, .mov (.t 1), none⟩,
 ⟨some 9, .mov (.t 0), none⟩,
 ⟨some 10, .j (.cap (.t 9)), none⟩,
 ⟨some 11, .mov (.t 0), none⟩,
 ⟨some 12, .len .slc (.t 11), none⟩,
 ⟨some 13, .bin .sub .num (.t 10) (.t 12), none⟩,
 ⟨some 14, .bin .sub .num (.t 8) (.t 13), none⟩,
 ⟨some 1, .mov (.t 14), none⟩])
 (.seq (.reg [⟨some 15, .mov (.t 1), none⟩,
 ⟨some 16, .bin .gtr .num (.t 15) (.k (.int .i64 0)), none⟩])
 (.cond (.t 16)
 (.reg [⟨some 17, .mov (.t 0), none⟩,
 ⟨some 18, .mov (.t 0), none⟩,
 ⟨some 19, .j (.cap (.t 18)), none⟩,
 ⟨some 20, .slc false 1 (.t 17) none (some (.t 19)) none, none⟩,
 ⟨some 21, .mov (.t 1), none⟩,
 ⟨some 22, .j (.apm 1 1 false [.int .u8 0] (.t 20) (.t 21)), none⟩,
 ⟨some 23, .mov (.t 0), none⟩,
 ⟨some 24, .len .slc (.t 23), none⟩,
 ⟨some 25, .slc false 1 (.t 22) none (some (.t 24)) none, none⟩,
 ⟨some 0, .mov (.t 25), none⟩])
 .skip)))
 (.seq (.reg [⟨some 26, .mov (.t 0), none⟩,
 ⟨some 4, .mov (.t 26), none⟩])
 .ret))))⟩

/-- 55: signetring/sha.turned -/
def F55 : Fun :=
 ⟨22, 2, [.t 4],
 (.seq (.reg [⟨some 4, .mov (.k (.int .u32 0)), none⟩])
 (.seq (.reg [⟨some 5, .mov (.k (.int .u32 0)), none⟩])
 (.seq (.seq (.reg [⟨some 8, .mov (.t 1), none⟩,
 ⟨some 9, .len .slc (.t 8), none⟩,
 ⟨some 10, .mov (.k (.int .i64 0)), none⟩])
 (.block 0
 (.loop
 (.seq (.reg [⟨some 11, .bin .lss .num (.t 10) (.t 9), none⟩])
 (.seq (.cond (.t 11)
 .skip
 (.exit 0))
 (.seq (.block 1
 (.seq (.reg [⟨some 12, .iad 1 (.t 8) (.t 10), none⟩,
 ⟨some 13, .load 1 false (.t 12), none⟩,
 ⟨some 7, .mov (.t 13), none⟩])
 (.reg [⟨some 14, .mov (.t 5), none⟩,
 ⟨some 15, .mov (.t 0), none⟩,
 ⟨some 16, .mov (.t 7), none⟩,
 ⟨some 17, .un .neg (.t 16), none⟩,
 ⟨some 18, .call (.k (.fn (.func 80) [] [])) [(.t 15), (.t 17)], none⟩,
 ⟨some 19, .bin .xor .num (.t 14) (.t 18), none⟩,
 ⟨some 5, .mov (.t 19), none⟩])))
 (.reg [⟨some 20, .bin .add .num (.t 10) (.k (.int .i64 1)), none⟩,
 ⟨some 10, .mov (.t 20), none⟩])))))))
 (.seq (.reg [⟨some 21, .mov (.t 5), none⟩,
 ⟨some 4, .mov (.t 21), none⟩])
 .ret))))⟩

theorem ck3 : ckF Tryz.prog 3 F3 = true := by kernel_rfl
theorem ck5 : ckF Tryz.prog 5 F5 = true := by kernel_rfl
theorem ck6 : ckF Tryz.prog 6 F6 = true := by kernel_rfl
theorem ck7 : ckF Tryz.prog 7 F7 = true := by kernel_rfl
theorem ck8 : ckF Tryz.prog 8 F8 = true := by kernel_rfl
theorem ck9 : ckF Tryz.prog 9 F9 = true := by kernel_rfl
theorem ck10 : ckF Tryz.prog 10 F10 = true := by kernel_rfl
theorem ck11 : ckF Tryz.prog 11 F11 = true := by kernel_rfl
theorem ck12 : ckF Tryz.prog 12 F12 = true := by kernel_rfl
theorem ck13 : ckF Tryz.prog 13 F13 = true := by kernel_rfl
theorem ck14 : ckF Tryz.prog 14 F14 = true := by kernel_rfl
theorem ck16 : ckF Tryz.prog 16 F16 = true := by kernel_rfl
theorem ck17 : ckF Tryz.prog 17 F17 = true := by kernel_rfl
theorem ck20 : ckF Tryz.prog 20 F20 = true := by kernel_rfl
theorem ck21 : ckF Tryz.prog 21 F21 = true := by kernel_rfl
theorem ck22 : ckF Tryz.prog 22 F22 = true := by kernel_rfl
theorem ck23 : ckF Tryz.prog 23 F23 = true := by kernel_rfl
theorem ck24 : ckF Tryz.prog 24 F24 = true := by kernel_rfl
theorem ck25 : ckF Tryz.prog 25 F25 = true := by kernel_rfl
theorem ck26 : ckF Tryz.prog 26 F26 = true := by kernel_rfl
theorem ck28 : ckF Tryz.prog 28 F28 = true := by kernel_rfl
theorem ck29 : ckF Tryz.prog 29 F29 = true := by kernel_rfl
theorem ck30 : ckF Tryz.prog 30 F30 = true := by kernel_rfl
theorem ck31 : ckF Tryz.prog 31 F31 = true := by kernel_rfl
theorem ck32 : ckF Tryz.prog 32 F32 = true := by kernel_rfl
theorem ck33 : ckF Tryz.prog 33 F33 = true := by kernel_rfl
theorem ck34 : ckF Tryz.prog 34 F34 = true := by kernel_rfl
theorem ck35 : ckF Tryz.prog 35 F35 = true := by kernel_rfl
theorem ck36 : ckF Tryz.prog 36 F36 = true := by kernel_rfl
theorem ck37 : ckF Tryz.prog 37 F37 = true := by kernel_rfl
theorem ck38 : ckF Tryz.prog 38 F38 = true := by kernel_rfl
theorem ck39 : ckF Tryz.prog 39 F39 = true := by kernel_rfl
theorem ck40 : ckF Tryz.prog 40 F40 = true := by kernel_rfl
theorem ck43 : ckF Tryz.prog 43 F43 = true := by kernel_rfl
theorem ck44 : ckF Tryz.prog 44 F44 = true := by kernel_rfl
theorem ck45 : ckF Tryz.prog 45 F45 = true := by kernel_rfl
theorem ck46 : ckF Tryz.prog 46 F46 = true := by kernel_rfl
theorem ck47 : ckF Tryz.prog 47 F47 = true := by kernel_rfl
theorem ck48 : ckF Tryz.prog 48 F48 = true := by kernel_rfl
theorem ck49 : ckF Tryz.prog 49 F49 = true := by kernel_rfl
theorem ck50 : ckF Tryz.prog 50 F50 = true := by kernel_rfl
theorem ck51 : ckF Tryz.prog 51 F51 = true := by kernel_rfl
theorem ck52 : ckF Tryz.prog 52 F52 = true := by kernel_rfl
theorem ck53 : ckF Tryz.prog 53 F53 = true := by kernel_rfl
theorem ck54 : ckF Tryz.prog 54 F54 = true := by kernel_rfl
theorem ck55 : ckF Tryz.prog 55 F55 = true := by kernel_rfl
theorem st3 : K.stC F3.c = true := by kernel_rfl
theorem st5 : K.stC F5.c = true := by kernel_rfl
theorem st6 : K.stC F6.c = true := by kernel_rfl
theorem st7 : K.stC F7.c = true := by kernel_rfl
theorem st8 : K.stC F8.c = true := by kernel_rfl
theorem st9 : K.stC F9.c = true := by kernel_rfl
theorem st10 : K.stC F10.c = true := by kernel_rfl
theorem st11 : K.stC F11.c = true := by kernel_rfl
theorem st12 : K.stC F12.c = true := by kernel_rfl
theorem st13 : K.stC F13.c = true := by kernel_rfl
theorem st14 : K.stC F14.c = true := by kernel_rfl
theorem st16 : K.stC F16.c = true := by kernel_rfl
theorem st17 : K.stC F17.c = true := by kernel_rfl
theorem st20 : K.stC F20.c = true := by kernel_rfl
theorem st21 : K.stC F21.c = true := by kernel_rfl
theorem st22 : K.stC F22.c = true := by kernel_rfl
theorem st23 : K.stC F23.c = true := by kernel_rfl
theorem st24 : K.stC F24.c = true := by kernel_rfl
theorem st25 : K.stC F25.c = true := by kernel_rfl
theorem st26 : K.stC F26.c = true := by kernel_rfl
theorem st28 : K.stC F28.c = true := by kernel_rfl
theorem st29 : K.stC F29.c = true := by kernel_rfl
theorem st30 : K.stC F30.c = true := by kernel_rfl
theorem st31 : K.stC F31.c = true := by kernel_rfl
theorem st32 : K.stC F32.c = true := by kernel_rfl
theorem st33 : K.stC F33.c = true := by kernel_rfl
theorem st34 : K.stC F34.c = true := by kernel_rfl
theorem st35 : K.stC F35.c = true := by kernel_rfl
theorem st36 : K.stC F36.c = true := by kernel_rfl
theorem st37 : K.stC F37.c = true := by kernel_rfl
theorem st38 : K.stC F38.c = true := by kernel_rfl
theorem st39 : K.stC F39.c = true := by kernel_rfl
theorem st40 : K.stC F40.c = true := by kernel_rfl
theorem st43 : K.stC F43.c = true := by kernel_rfl
theorem st44 : K.stC F44.c = true := by kernel_rfl
theorem st45 : K.stC F45.c = true := by kernel_rfl
theorem st46 : K.stC F46.c = true := by kernel_rfl
theorem st47 : K.stC F47.c = true := by kernel_rfl
theorem st48 : K.stC F48.c = true := by kernel_rfl
theorem st49 : K.stC F49.c = true := by kernel_rfl
theorem st50 : K.stC F50.c = true := by kernel_rfl
theorem st51 : K.stC F51.c = true := by kernel_rfl
theorem st52 : K.stC F52.c = true := by kernel_rfl
theorem st53 : K.stC F53.c = true := by kernel_rfl
theorem st54 : K.stC F54.c = true := by kernel_rfl
theorem st55 : K.stC F55.c = true := by kernel_rfl
end Go.Proofs.YtfinnljkcgglfaaGreatDoor
