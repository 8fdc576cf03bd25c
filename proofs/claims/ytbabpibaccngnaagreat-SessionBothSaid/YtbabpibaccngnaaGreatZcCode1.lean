/- The code of the functions, as it is told, and that it is told rightly (1). -/
import Derived.Test.YtbabpibaccngnaaGreatProg
import Derived.Test.YtbabpibaccngnaaGreatZv6
import Derived.KernelRfl
set_option linter.unusedSimpArgs false
set_option linter.unusedVariables false
namespace Go.Proofs.YtbabpibaccngnaaGreat
open Go.Vs
set_option maxRecDepth 100000

/-- 3: signetring/signetringlaw19.SessionAnew -/
def F3 : Fun :=
 ⟨218, 1, [.t 2],
 (.seq (.reg [⟨(some 2), (.mov (.k (.bool false))), none⟩])
 (.seq (.seq (.reg [⟨(some 14), (.call (.k (.fn (.func 11) [] [])) []), none⟩,
 ⟨(some 15), (.un .not (.t 14)), none⟩])
 (.cond (.t 15)
 (.seq (.reg [⟨(some 2), (.mov (.k (.bool false))), none⟩])
 .ret)
 .skip))
 (.seq (.reg [⟨(some 17), (.call (.k (.fn (.func 12) [] [])) []), none⟩,
 ⟨(some 16), (.mov (.t 17)), none⟩,
 ⟨(some 18), (.ext (.t 16) 0), none⟩,
 ⟨(some 19), (.ext (.t 16) 1), none⟩,
 ⟨(some 3), (.mov (.t 18)), none⟩,
 ⟨(some 4), (.mov (.t 19)), none⟩])
 (.seq (.seq (.reg [⟨(some 20), (.mov (.t 4)), none⟩,
 ⟨(some 21), (.un .not (.t 20)), none⟩])
 (.cond (.t 21)
 (.seq (.reg [⟨(some 2), (.mov (.k (.bool false))), none⟩])
 .ret)
 .skip))
 (.seq (.seq (.reg [⟨(some 22), (.mov (.t 3)), none⟩,
 ⟨(some 23), (.build [(.int .u8 0), (.int .u8 0), (.int .u8 0), (.int .u8 0)] [(0, 1, (.k (.int .u8 0))), (1, 1, (.k (.int .u8 1)))]), none⟩,
 ⟨(some 24), (.call (.k (.fn (.func 13) [] [])) [(.t 22), (.t 23)]), none⟩,
 ⟨(some 25), (.un .not (.t 24)), none⟩,
 ⟨(some 26), (.mov (.t 25)), none⟩,
 ⟨(some 27), (.mov (.t 3)), some (26, false)⟩,
 ⟨(some 28), (.build [(.int .u8 0), (.int .u8 0), (.int .u8 0), (.int .u8 0)] [(0, 1, (.k (.int .u8 0))), (1, 1, (.k (.int .u8 1)))]), some (26, false)⟩,
 ⟨(some 29), (.call (.k (.fn (.func 13) [] [])) [(.t 27), (.t 28)]), some (26, false)⟩,
 ⟨(some 30), (.un .not (.t 29)), some (26, false)⟩,
 ⟨(some 31), (.pick (.t 26) (.k (.bool true)) (.t 30)), none⟩,
 ⟨(some 32), (.mov (.t 31)), none⟩,
 ⟨(some 33), (.mov (.t 3)), some (32, false)⟩,
 ⟨(some 34), (.build [(.int .u8 0), (.int .u8 0), (.int .u8 0), (.int .u8 0)] [(0, 1, (.k (.int .u8 1))), (1, 1, (.k (.int .u8 0))), (2, 1, (.k (.int .u8 1)))]), some (32, false)⟩,
 ⟨(some 35), (.call (.k (.fn (.func 13) [] [])) [(.t 33), (.t 34)]), some (32, false)⟩,
 ⟨(some 36), (.un .not (.t 35)), some (32, false)⟩,
 ⟨(some 37), (.pick (.t 32) (.k (.bool true)) (.t 36)), none⟩,
 ⟨(some 38), (.mov (.t 37)), none⟩,
 ⟨(some 39), (.mov (.t 3)), some (38, false)⟩,
 ⟨(some 40), (.build [(.int .u8 0), (.int .u8 0), (.int .u8 0), (.int .u8 0)] [(0, 1, (.k (.int .u8 4))), (1, 1, (.k (.int .u8 1)))]), some (38, false)⟩,
 ⟨(some 41), (.call (.k (.fn (.func 13) [] [])) [(.t 39), (.t 40)]), some (38, false)⟩,
 ⟨(some 42), (.un .not (.t 41)), some (38, false)⟩,
 ⟨(some 43), (.pick (.t 38) (.k (.bool true)) (.t 42)), none⟩])
 (.cond (.t 43)
 (.seq (.reg [⟨(some 2), (.mov (.k (.bool false))), none⟩])
 .ret)
 .skip))
 (.seq (.seq (.reg [⟨(some 44), (.mov (.t 0)), none⟩,
 ⟨(some 45), (.bin .rem .num (.t 44) (.k (.int .u8 5))), none⟩,
 ⟨(some 46), (.cvi .i64 (.t 45)), none⟩,
 ⟨(some 47), (.mov (.k (.int .i64 0))), none⟩])
 (.block 0
 (.loop
 (.seq (.reg [⟨(some 48), (.bin .lss .num (.t 47) (.t 46)), none⟩])
 (.seq (.cond (.t 48)
 .skip
 (.exit 0))
 (.seq (.block 1
 (.seq (.reg [⟨(some 49), (.mov (.t 3)), none⟩,
 ⟨(some 50), (.build [(.int .u8 0), (.int .u8 0), (.int .u8 0), (.int .u8 0)] [(0, 1, (.k (.int .u8 2))), (1, 1, (.k (.int .u8 0))), (2, 1, (.k (.int .u8 1)))]), none⟩,
 ⟨(some 51), (.call (.k (.fn (.func 13) [] [])) [(.t 49), (.t 50)]), none⟩,
 ⟨(some 52), (.un .not (.t 51)), none⟩,
 ⟨(some 53), (.mov (.t 52)), none⟩,
 ⟨(some 54), (.mov (.t 3)), some (53, false)⟩,
 ⟨(some 55), (.build [(.int .u8 0), (.int .u8 0), (.int .u8 0), (.int .u8 0)] [(0, 1, (.k (.int .u8 4))), (1, 1, (.k (.int .u8 1)))]), some (53, false)⟩,
 ⟨(some 56), (.call (.k (.fn (.func 13) [] [])) [(.t 54), (.t 55)]), some (53, false)⟩,
 ⟨(some 57), (.un .not (.t 56)), some (53, false)⟩,
 ⟨(some 58), (.pick (.t 53) (.k (.bool true)) (.t 57)), none⟩,
 ⟨(some 59), (.mov (.t 58)), none⟩,
 ⟨(some 60), (.mov (.t 3)), some (59, false)⟩,
 ⟨(some 61), (.build [(.int .u8 0), (.int .u8 0), (.int .u8 0), (.int .u8 0)] [(0, 1, (.k (.int .u8 2))), (1, 1, (.k (.int .u8 1))), (2, 1, (.k (.int .u8 0)))]), some (59, false)⟩,
 ⟨(some 62), (.call (.k (.fn (.func 13) [] [])) [(.t 60), (.t 61)]), some (59, false)⟩,
 ⟨(some 63), (.un .not (.t 62)), some (59, false)⟩,
 ⟨(some 64), (.pick (.t 59) (.k (.bool true)) (.t 63)), none⟩,
 ⟨(some 65), (.mov (.t 64)), none⟩,
 ⟨(some 66), (.mov (.t 3)), some (65, false)⟩,
 ⟨(some 67), (.build [(.int .u8 0), (.int .u8 0), (.int .u8 0), (.int .u8 0)] [(0, 1, (.k (.int .u8 4))), (1, 1, (.k (.int .u8 0)))]), some (65, false)⟩,
 ⟨(some 68), (.call (.k (.fn (.func 13) [] [])) [(.t 66), (.t 67)]), some (65, false)⟩,
 ⟨(some 69), (.un .not (.t 68)), some (65, false)⟩,
 ⟨(some 70), (.pick (.t 65) (.k (.bool true)) (.t 69)), none⟩])
 (.cond (.t 70)
 (.seq (.reg [⟨(some 2), (.mov (.k (.bool false))), none⟩])
 .ret)
 .skip)))
 (.reg [⟨(some 71), (.bin .add .num (.t 47) (.k (.int .i64 1))), none⟩,
 ⟨(some 47), (.mov (.t 71)), none⟩])))))))
 (.seq (.seq (.reg [⟨(some 72), (.mov (.t 3)), none⟩,
 ⟨(some 73), (.build [(.int .u8 0), (.int .u8 0), (.int .u8 0), (.int .u8 0)] [(0, 1, (.k (.int .u8 2))), (1, 1, (.k (.int .u8 0))), (2, 1, (.k (.int .u8 1)))]), none⟩,
 ⟨(some 74), (.call (.k (.fn (.func 13) [] [])) [(.t 72), (.t 73)]), none⟩,
 ⟨(some 75), (.un .not (.t 74)), none⟩,
 ⟨(some 76), (.mov (.t 75)), none⟩,
 ⟨(some 77), (.mov (.t 3)), some (76, false)⟩,
 ⟨(some 78), (.nilck (.t 77)), some (76, false)⟩,
 ⟨(some 79), (.fad 20 (.t 78)), some (76, false)⟩,
 ⟨(some 80), (.iada 3 1 (.t 79) (.k (.int .i64 1))), some (76, false)⟩,
 ⟨(some 81), (.load 1 false (.t 80)), some (76, false)⟩,
 ⟨(some 82), (.len .slc (.t 81)), some (76, false)⟩,
 ⟨(some 83), (.bin .neq .num (.t 82) (.k (.int .i64 1))), some (76, false)⟩,
 ⟨(some 84), (.pick (.t 76) (.k (.bool true)) (.t 83)), none⟩])
 (.cond (.t 84)
 (.seq (.reg [⟨(some 2), (.mov (.k (.bool false))), none⟩])
 .ret)
 .skip))
 (.seq (.reg [⟨(some 85), (.mov (.t 3)), none⟩,
 ⟨(some 86), (.nilck (.t 85)), none⟩,
 ⟨(some 87), (.fad 20 (.t 86)), none⟩,
 ⟨(some 88), (.iada 3 1 (.t 87) (.k (.int .i64 1))), none⟩,
 ⟨(some 89), (.load 1 false (.t 88)), none⟩,
 ⟨(some 90), (.iad 4 (.t 89) (.k (.int .i64 0))), none⟩,
 ⟨(some 91), (.load 4 true (.t 90)), none⟩,
 ⟨(some 5), (.new [(.int .i64 0), (.str []), (.str []), (.int .i64 0)] none), none⟩,
 ⟨none, (.store 4 (.t 5) (.t 91)), none⟩])
 (.seq (.reg [⟨(some 92), (.mov (.t 3)), none⟩,
 ⟨(some 93), (.nilck (.t 92)), none⟩,
 ⟨(some 94), (.fad 20 (.t 93)), none⟩,
 ⟨(some 95), (.iada 3 1 (.t 94) (.k (.int .i64 1))), none⟩,
 ⟨none, (.store 1 (.t 95) (.k .nsl)), none⟩])
 (.seq (.seq (.reg [⟨(some 96), (.mov (.t 3)), none⟩,
 ⟨(some 97), (.build [(.int .u8 0), (.int .u8 0), (.int .u8 0), (.int .u8 0)] [(0, 1, (.k (.int .u8 1))), (1, 1, (.k (.int .u8 0))), (2, 1, (.k (.int .u8 1)))]), none⟩,
 ⟨(some 98), (.call (.k (.fn (.func 13) [] [])) [(.t 96), (.t 97)]), none⟩,
 ⟨(some 99), (.un .not (.t 98)), none⟩,
 ⟨(some 100), (.mov (.t 99)), none⟩,
 ⟨(some 101), (.mov (.t 3)), some (100, false)⟩,
 ⟨(some 102), (.build [(.int .u8 0), (.int .u8 0), (.int .u8 0), (.int .u8 0)] [(0, 1, (.k (.int .u8 4))), (1, 1, (.k (.int .u8 1)))]), some (100, false)⟩,
 ⟨(some 103), (.call (.k (.fn (.func 13) [] [])) [(.t 101), (.t 102)]), some (100, false)⟩,
 ⟨(some 104), (.un .not (.t 103)), some (100, false)⟩,
 ⟨(some 105), (.pick (.t 100) (.k (.bool true)) (.t 104)), none⟩])
 (.cond (.t 105)
 (.seq (.reg [⟨(some 2), (.mov (.k (.bool false))), none⟩])
 .ret)
 .skip))
 (.seq (.dreg [⟨(some 107), (.mov (.t 3)), none⟩,
 ⟨(some 108), (.nilck (.t 107)), none⟩,
 ⟨(some 109), (.fad 0 (.t 108)), none⟩,
 ⟨(some 110), (.load 1 false (.t 109)), none⟩,
 ⟨(some 111), (.mov (.t 3)), none⟩,
 ⟨(some 112), (.nilck (.t 111)), none⟩,
 ⟨(some 113), (.fad 2 (.t 112)), none⟩,
 ⟨(some 114), (.iada 3 4 (.t 113) (.k (.int .i64 1))), none⟩,
 ⟨(some 115), (.load 4 true (.t 114)), none⟩,
 ⟨(some 116), (.mov (.t 3)), none⟩,
 ⟨(some 117), (.nilck (.t 116)), none⟩,
 ⟨(some 118), (.fad 14 (.t 117)), none⟩,
 ⟨(some 119), (.iada 3 1 (.t 118) (.k (.int .i64 0))), none⟩,
 ⟨(some 120), (.load 1 false (.t 119)), none⟩,
 ⟨(some 121), (.fad 1 (.t 5)), none⟩,
 ⟨(some 122), (.load 1 false (.t 121)), none⟩,
 ⟨(some 123), (.mov (.t 3)), none⟩,
 ⟨(some 124), (.call (.k (.fn (.func 15) [] [])) [(.t 123)]), none⟩,
 ⟨(some 125), (.call (.k (.fn (.func 14) [] [])) [(.t 110), (.t 115), (.t 120), (.t 122), (.t 124)]), none⟩,
 ⟨(some 106), (.mov (.t 125)), none⟩,
 ⟨(some 126), (.ext (.t 106) 0), none⟩,
 ⟨(some 127), (.ext (.t 106) 1), none⟩,
 ⟨(some 128), (.ext (.t 106) 2), none⟩,
 ⟨(some 6), (.new [(.str []), .nsl, (.int .u64 0), .nsl] none), none⟩,
 ⟨none, (.store 4 (.t 6) (.t 126)), none⟩,
 ⟨(some 7), (.mov (.t 127)), none⟩,
 ⟨(some 8), (.mov (.t 128)), none⟩] (.lin [23] [(0, none), (1, none), (2, none), (3, none), (4, none), (5, none), (6, none), (7, none), (8, none), (9, none), (10, none), (11, none), (12, none), (13, none), (14, none), (15, none), (16, none), (17, some [0, 1, 2, 3, 4, 5, 6, 7, 8, 9, 10, 11, 12, 13, 14, 15]), (18, some []), (19, none), (20, none), (21, none), (22, none), (24, some [21, 22]), (25, none), (26, none)]))
 (.seq (.seq (.dreg [⟨(some 129), (.mov (.t 8)), none⟩,
 ⟨(some 130), (.bin .neq .num (.t 129) (.k (.int .i64 7))), none⟩,
 ⟨(some 131), (.mov (.t 130)), none⟩,
 ⟨(some 132), (.mov (.t 7)), some (131, false)⟩,
 ⟨(some 133), (.bin .neq .str (.t 132) (.k (.str []))), some (131, false)⟩,
 ⟨(some 134), (.pick (.t 131) (.k (.bool true)) (.t 133)), none⟩,
 ⟨(some 135), (.mov (.t 134)), none⟩,
 ⟨(some 136), (.load 4 true (.t 6)), some (135, false)⟩,
 ⟨(some 137), (.mov (.t 3)), some (135, false)⟩,
 ⟨(some 138), (.nilck (.t 137)), some (135, false)⟩,
 ⟨(some 139), (.fad 2 (.t 138)), some (135, false)⟩,
 ⟨(some 140), (.iada 3 4 (.t 139) (.k (.int .i64 1))), some (135, false)⟩,
 ⟨(some 141), (.load 4 true (.t 140)), some (135, false)⟩,
 ⟨(some 142), (.call (.k (.fn (.func 16) [] [])) [(.t 136), (.t 141)]), some (135, false)⟩,
 ⟨(some 143), (.un .not (.t 142)), some (135, false)⟩,
 ⟨(some 144), (.pick (.t 135) (.k (.bool true)) (.t 143)), none⟩] (.lin [] [(0, none), (1, none), (2, none), (3, none), (4, none), (5, none), (6, none), (7, none), (8, none), (9, none), (10, none), (11, none), (12, none), (13, some []), (14, none), (15, none)]))
 (.cond (.t 144)
 (.seq (.reg [⟨(some 2), (.mov (.k (.bool false))), none⟩])
 .ret)
 .skip))
 (.seq (.reg [⟨(some 145), (.mov (.t 3)), none⟩,
 ⟨(some 146), (.nilck (.t 145)), none⟩,
 ⟨(some 147), (.fad 23 (.t 146)), none⟩,
 ⟨(some 148), (.load 1 false (.t 147)), none⟩,
 ⟨(some 149), (.len .map (.t 148)), none⟩,
 ⟨(some 9), (.mov (.t 149)), none⟩])
 (.seq (.seq (.reg [⟨(some 150), (.mov (.t 3)), none⟩,
 ⟨(some 151), (.build [(.int .u8 0), (.int .u8 0), (.int .u8 0), (.int .u8 0)] [(0, 1, (.k (.int .u8 2))), (1, 1, (.k (.int .u8 0))), (2, 1, (.k (.int .u8 1)))]), none⟩,
 ⟨(some 152), (.call (.k (.fn (.func 13) [] [])) [(.t 150), (.t 151)]), none⟩,
 ⟨(some 153), (.un .not (.t 152)), none⟩,
 ⟨(some 154), (.mov (.t 153)), none⟩,
 ⟨(some 155), (.mov (.t 3)), some (154, false)⟩,
 ⟨(some 156), (.build [(.int .u8 0), (.int .u8 0), (.int .u8 0), (.int .u8 0)] [(0, 1, (.k (.int .u8 4))), (1, 1, (.k (.int .u8 1)))]), some (154, false)⟩,
 ⟨(some 157), (.call (.k (.fn (.func 13) [] [])) [(.t 155), (.t 156)]), some (154, false)⟩,
 ⟨(some 158), (.un .not (.t 157)), some (154, false)⟩,
 ⟨(some 159), (.pick (.t 154) (.k (.bool true)) (.t 158)), none⟩,
 ⟨(some 160), (.mov (.t 159)), none⟩,
 ⟨(some 161), (.mov (.t 3)), some (160, false)⟩,
 ⟨(some 162), (.build [(.int .u8 0), (.int .u8 0), (.int .u8 0), (.int .u8 0)] [(0, 1, (.k (.int .u8 2))), (1, 1, (.k (.int .u8 1))), (2, 1, (.k (.int .u8 0)))]), some (160, false)⟩,
 ⟨(some 163), (.call (.k (.fn (.func 13) [] [])) [(.t 161), (.t 162)]), some (160, false)⟩,
 ⟨(some 164), (.un .not (.t 163)), some (160, false)⟩,
 ⟨(some 165), (.pick (.t 160) (.k (.bool true)) (.t 164)), none⟩,
 ⟨(some 166), (.mov (.t 165)), none⟩,
 ⟨(some 167), (.mov (.t 3)), some (166, false)⟩,
 ⟨(some 168), (.build [(.int .u8 0), (.int .u8 0), (.int .u8 0), (.int .u8 0)] [(0, 1, (.k (.int .u8 4))), (1, 1, (.k (.int .u8 0)))]), some (166, false)⟩,
 ⟨(some 169), (.call (.k (.fn (.func 13) [] [])) [(.t 167), (.t 168)]), some (166, false)⟩,
 ⟨(some 170), (.un .not (.t 169)), some (166, false)⟩,
 ⟨(some 171), (.pick (.t 166) (.k (.bool true)) (.t 170)), none⟩])
 (.cond (.t 171)
 (.seq (.reg [⟨(some 2), (.mov (.k (.bool false))), none⟩])
 .ret)
 .skip))
 (.seq (.dreg [⟨(some 173), (.mov (.t 3)), none⟩,
 ⟨(some 174), (.nilck (.t 173)), none⟩,
 ⟨(some 175), (.fad 2 (.t 174)), none⟩,
 ⟨(some 176), (.iada 3 4 (.t 175) (.k (.int .i64 0))), none⟩,
 ⟨(some 177), (.load 4 true (.t 176)), none⟩,
 ⟨(some 178), (.mov (.t 3)), none⟩,
 ⟨(some 179), (.nilck (.t 178)), none⟩,
 ⟨(some 180), (.fad 14 (.t 179)), none⟩,
 ⟨(some 181), (.iada 3 1 (.t 180) (.k (.int .i64 1))), none⟩,
 ⟨(some 182), (.load 1 false (.t 181)), none⟩,
 ⟨(some 183), (.call (.k (.fn (.func 17) [] [])) [(.t 177), (.t 182)]), none⟩,
 ⟨(some 172), (.mov (.t 183)), none⟩,
 ⟨(some 184), (.ext (.t 172) 0), none⟩,
 ⟨(some 185), (.ext (.t 172) 1), none⟩,
 ⟨(some 10), (.new [(.str []), (.int .u64 0), (.str []), (.str []), (.str []), (.str []), (.int .i64 0), (.str []), (.int .i64 0), (.str []), (.str []), (.str []), (.str []), (.int .i64 0), .nsl] none), none⟩,
 ⟨none, (.store 15 (.t 10) (.t 184)), none⟩,
 ⟨(some 11), (.mov (.t 185)), none⟩] (.lin [14] [(0, none), (1, none), (2, none), (3, none), (4, none), (5, none), (6, none), (7, none), (8, none), (9, none), (10, some []), (11, none), (12, none), (13, none), (15, some [13]), (16, none)]))
 (.seq (.dreg [⟨(some 187), (.mov (.t 3)), none⟩,
 ⟨(some 188), (.nilck (.t 187)), none⟩,
 ⟨(some 189), (.fad 2 (.t 188)), none⟩,
 ⟨(some 190), (.iada 3 4 (.t 189) (.k (.int .i64 1))), none⟩,
 ⟨(some 191), (.load 4 true (.t 190)), none⟩,
 ⟨(some 192), (.mov (.t 3)), none⟩,
 ⟨(some 193), (.nilck (.t 192)), none⟩,
 ⟨(some 194), (.fad 14 (.t 193)), none⟩,
 ⟨(some 195), (.iada 3 1 (.t 194) (.k (.int .i64 0))), none⟩,
 ⟨(some 196), (.load 1 false (.t 195)), none⟩,
 ⟨(some 197), (.call (.k (.fn (.func 17) [] [])) [(.t 191), (.t 196)]), none⟩,
 ⟨(some 186), (.mov (.t 197)), none⟩,
 ⟨(some 198), (.ext (.t 186) 0), none⟩,
 ⟨(some 199), (.ext (.t 186) 1), none⟩,
 ⟨(some 12), (.new [(.str []), (.int .u64 0), (.str []), (.str []), (.str []), (.str []), (.int .i64 0), (.str []), (.int .i64 0), (.str []), (.str []), (.str []), (.str []), (.int .i64 0), .nsl] none), none⟩,
 ⟨none, (.store 15 (.t 12) (.t 198)), none⟩,
 ⟨(some 13), (.mov (.t 199)), none⟩] (.lin [14] [(0, none), (1, none), (2, none), (3, none), (4, none), (5, none), (6, none), (7, none), (8, none), (9, none), (10, some []), (11, none), (12, none), (13, none), (15, some [13]), (16, none)]))
 (.seq (.reg [⟨(some 200), (.mov (.t 3)), none⟩,
 ⟨(some 201), (.nilck (.t 200)), none⟩,
 ⟨(some 202), (.fad 23 (.t 201)), none⟩,
 ⟨(some 203), (.load 1 false (.t 202)), none⟩,
 ⟨(some 204), (.len .map (.t 203)), none⟩,
 ⟨(some 205), (.mov (.t 9)), none⟩,
 ⟨(some 206), (.bin .add .num (.t 205) (.k (.int .i64 2))), none⟩,
 ⟨(some 207), (.bin .eql .num (.t 204) (.t 206)), none⟩,
 ⟨(some 208), (.mov (.t 207)), none⟩,
 ⟨(some 209), (.fad 1 (.t 10)), some (208, true)⟩,
 ⟨(some 210), (.load 1 false (.t 209)), some (208, true)⟩,
 ⟨(some 211), (.bin .eql .num (.t 210) (.k (.int .u64 2))), some (208, true)⟩,
 ⟨(some 212), (.pick (.t 208) (.t 211) (.k (.bool false))), none⟩,
 ⟨(some 213), (.mov (.t 212)), none⟩,
 ⟨(some 214), (.fad 1 (.t 12)), some (213, true)⟩,
 ⟨(some 215), (.load 1 false (.t 214)), some (213, true)⟩,
 ⟨(some 216), (.bin .eql .num (.t 215) (.k (.int .u64 2))), some (213, true)⟩,
 ⟨(some 217), (.pick (.t 213) (.t 216) (.k (.bool false))), none⟩,
 ⟨(some 2), (.mov (.t 217)), none⟩])
 .ret)))))))))))))))))⟩

/-- 4: signetring/signetringlaw19.SessionBoth -/
def F4 : Fun :=
 ⟨148, 2, [.t 4],
 (.seq (.reg [⟨(some 4), (.mov (.k (.bool false))), none⟩])
 (.seq (.seq (.reg [⟨(some 12), (.call (.k (.fn (.func 11) [] [])) []), none⟩,
 ⟨(some 13), (.un .not (.t 12)), none⟩])
 (.cond (.t 13)
 (.seq (.reg [⟨(some 4), (.mov (.k (.bool false))), none⟩])
 .ret)
 .skip))
 (.seq (.reg [⟨(some 15), (.call (.k (.fn (.func 12) [] [])) []), none⟩,
 ⟨(some 14), (.mov (.t 15)), none⟩,
 ⟨(some 16), (.ext (.t 14) 0), none⟩,
 ⟨(some 17), (.ext (.t 14) 1), none⟩,
 ⟨(some 5), (.mov (.t 16)), none⟩,
 ⟨(some 6), (.mov (.t 17)), none⟩])
 (.seq (.seq (.reg [⟨(some 18), (.mov (.t 6)), none⟩,
 ⟨(some 19), (.un .not (.t 18)), none⟩])
 (.cond (.t 19)
 (.seq (.reg [⟨(some 4), (.mov (.k (.bool false))), none⟩])
 .ret)
 .skip))
 (.seq (.seq (.reg [⟨(some 20), (.mov (.t 5)), none⟩,
 ⟨(some 21), (.build [(.int .u8 0), (.int .u8 0), (.int .u8 0), (.int .u8 0)] [(0, 1, (.k (.int .u8 0))), (1, 1, (.k (.int .u8 0)))]), none⟩,
 ⟨(some 22), (.call (.k (.fn (.func 13) [] [])) [(.t 20), (.t 21)]), none⟩,
 ⟨(some 23), (.un .not (.t 22)), none⟩,
 ⟨(some 24), (.mov (.t 23)), none⟩,
 ⟨(some 25), (.mov (.t 5)), some (24, false)⟩,
 ⟨(some 26), (.build [(.int .u8 0), (.int .u8 0), (.int .u8 0), (.int .u8 0)] [(0, 1, (.k (.int .u8 0))), (1, 1, (.k (.int .u8 1)))]), some (24, false)⟩,
 ⟨(some 27), (.call (.k (.fn (.func 13) [] [])) [(.t 25), (.t 26)]), some (24, false)⟩,
 ⟨(some 28), (.un .not (.t 27)), some (24, false)⟩,
 ⟨(some 29), (.pick (.t 24) (.k (.bool true)) (.t 28)), none⟩,
 ⟨(some 30), (.mov (.t 29)), none⟩,
 ⟨(some 31), (.mov (.t 5)), some (30, false)⟩,
 ⟨(some 32), (.build [(.int .u8 0), (.int .u8 0), (.int .u8 0), (.int .u8 0)] [(0, 1, (.k (.int .u8 1))), (1, 1, (.k (.int .u8 0))), (2, 1, (.k (.int .u8 1)))]), some (30, false)⟩,
 ⟨(some 33), (.call (.k (.fn (.func 13) [] [])) [(.t 31), (.t 32)]), some (30, false)⟩,
 ⟨(some 34), (.un .not (.t 33)), some (30, false)⟩,
 ⟨(some 35), (.pick (.t 30) (.k (.bool true)) (.t 34)), none⟩,
 ⟨(some 36), (.mov (.t 35)), none⟩,
 ⟨(some 37), (.mov (.t 5)), some (36, false)⟩,
 ⟨(some 38), (.build [(.int .u8 0), (.int .u8 0), (.int .u8 0), (.int .u8 0)] [(0, 1, (.k (.int .u8 1))), (1, 1, (.k (.int .u8 1))), (2, 1, (.k (.int .u8 0)))]), some (36, false)⟩,
 ⟨(some 39), (.call (.k (.fn (.func 13) [] [])) [(.t 37), (.t 38)]), some (36, false)⟩,
 ⟨(some 40), (.un .not (.t 39)), some (36, false)⟩,
 ⟨(some 41), (.pick (.t 36) (.k (.bool true)) (.t 40)), none⟩])
 (.cond (.t 41)
 (.seq (.reg [⟨(some 4), (.mov (.k (.bool false))), none⟩])
 .ret)
 .skip))
 (.seq (.reg [⟨(some 7), (.mov (.k (.int .i64 0))), none⟩,
 ⟨(some 8), (.mov (.k (.int .i64 1))), none⟩])
 (.seq (.seq (.reg [⟨(some 42), (.mov (.t 0)), none⟩])
 (.cond (.t 42)
 (.reg [⟨(some 7), (.mov (.k (.int .i64 1))), none⟩,
 ⟨(some 8), (.mov (.k (.int .i64 0))), none⟩])
 .skip))
 (.seq (.seq (.reg [⟨(some 43), (.mov (.t 5)), none⟩,
 ⟨(some 44), (.nilck (.t 43)), none⟩,
 ⟨(some 45), (.fad 20 (.t 44)), none⟩,
 ⟨(some 46), (.iada 3 1 (.t 45) (.k (.int .i64 0))), none⟩,
 ⟨(some 47), (.load 1 false (.t 46)), none⟩,
 ⟨(some 48), (.len .slc (.t 47)), none⟩,
 ⟨(some 49), (.bin .neq .num (.t 48) (.k (.int .i64 1))), none⟩,
 ⟨(some 50), (.mov (.t 49)), none⟩,
 ⟨(some 51), (.mov (.t 5)), some (50, false)⟩,
 ⟨(some 52), (.nilck (.t 51)), some (50, false)⟩,
 ⟨(some 53), (.fad 20 (.t 52)), some (50, false)⟩,
 ⟨(some 54), (.iada 3 1 (.t 53) (.k (.int .i64 1))), some (50, false)⟩,
 ⟨(some 55), (.load 1 false (.t 54)), some (50, false)⟩,
 ⟨(some 56), (.len .slc (.t 55)), some (50, false)⟩,
 ⟨(some 57), (.bin .neq .num (.t 56) (.k (.int .i64 1))), some (50, false)⟩,
 ⟨(some 58), (.pick (.t 50) (.k (.bool true)) (.t 57)), none⟩,
 ⟨(some 59), (.mov (.t 58)), none⟩,
 ⟨(some 60), (.mov (.t 5)), some (59, false)⟩,
 ⟨(some 61), (.mov (.t 7)), some (59, false)⟩,
 ⟨(some 62), (.cvi .u8 (.t 61)), some (59, false)⟩,
 ⟨(some 63), (.build [(.int .u8 0), (.int .u8 0), (.int .u8 0), (.int .u8 0)] [(0, 1, (.k (.int .u8 4))), (1, 1, (.t 62))]), some (59, false)⟩,
 ⟨(some 64), (.call (.k (.fn (.func 13) [] [])) [(.t 60), (.t 63)]), some (59, false)⟩,
 ⟨(some 65), (.un .not (.t 64)), some (59, false)⟩,
 ⟨(some 66), (.pick (.t 59) (.k (.bool true)) (.t 65)), none⟩,
 ⟨(some 67), (.mov (.t 66)), none⟩,
 ⟨(some 68), (.mov (.t 5)), some (67, false)⟩,
 ⟨(some 69), (.mov (.t 8)), some (67, false)⟩,
 ⟨(some 70), (.cvi .u8 (.t 69)), some (67, false)⟩,
 ⟨(some 71), (.build [(.int .u8 0), (.int .u8 0), (.int .u8 0), (.int .u8 0)] [(0, 1, (.k (.int .u8 4))), (1, 1, (.t 70))]), some (67, false)⟩,
 ⟨(some 72), (.call (.k (.fn (.func 13) [] [])) [(.t 68), (.t 71)]), some (67, false)⟩,
 ⟨(some 73), (.un .not (.t 72)), some (67, false)⟩,
 ⟨(some 74), (.pick (.t 67) (.k (.bool true)) (.t 73)), none⟩])
 (.cond (.t 74)
 (.seq (.reg [⟨(some 4), (.mov (.k (.bool false))), none⟩])
 .ret)
 .skip))
 (.seq (.seq (.reg [⟨(some 75), (.mov (.t 5)), none⟩,
 ⟨(some 76), (.nilck (.t 75)), none⟩,
 ⟨(some 77), (.fad 23 (.t 76)), none⟩,
 ⟨(some 78), (.load 1 false (.t 77)), none⟩,
 ⟨(some 79), (.len .map (.t 78)), none⟩,
 ⟨(some 80), (.bin .neq .num (.t 79) (.k (.int .i64 1))), none⟩])
 (.cond (.t 80)
 (.seq (.reg [⟨(some 4), (.mov (.k (.bool false))), none⟩])
 .ret)
 .skip))
 (.seq (.reg [⟨(some 9), (.mov (.k (.int .i64 0))), none⟩,
 ⟨(some 10), (.mov (.k (.int .i64 1))), none⟩])
 (.seq (.seq (.dreg [⟨(some 81), (.mov (.t 5)), none⟩,
 ⟨(some 82), (.nilck (.t 81)), none⟩,
 ⟨(some 83), (.fad 14 (.t 82)), none⟩,
 ⟨(some 84), (.iada 3 1 (.t 83) (.k (.int .i64 1))), none⟩,
 ⟨(some 85), (.load 1 false (.t 84)), none⟩,
 ⟨(some 86), (.mov (.t 5)), none⟩,
 ⟨(some 87), (.nilck (.t 86)), none⟩,
 ⟨(some 88), (.fad 14 (.t 87)), none⟩,
 ⟨(some 89), (.iada 3 1 (.t 88) (.k (.int .i64 0))), none⟩,
 ⟨(some 90), (.load 1 false (.t 89)), none⟩,
 ⟨(some 91), (.bin .lss .str (.t 85) (.t 90)), none⟩] (.lin [] [(0, none), (1, none), (2, none), (3, none), (4, none), (5, none), (6, none), (7, none), (8, none), (9, none), (10, none)]))
 (.cond (.t 91)
 (.reg [⟨(some 9), (.mov (.k (.int .i64 1))), none⟩,
 ⟨(some 10), (.mov (.k (.int .i64 0))), none⟩])
 .skip))
 (.seq (.seq (.reg [⟨(some 92), (.mov (.t 1)), none⟩,
 ⟨(some 93), (.bin .rem .num (.t 92) (.k (.int .u8 4))), none⟩,
 ⟨(some 94), (.cvi .i64 (.t 93)), none⟩,
 ⟨(some 95), (.bin .add .num (.t 94) (.k (.int .i64 1))), none⟩,
 ⟨(some 96), (.mov (.k (.int .i64 0))), none⟩])
 (.block 0
 (.loop
 (.seq (.reg [⟨(some 97), (.bin .lss .num (.t 96) (.t 95)), none⟩])
 (.seq (.cond (.t 97)
 .skip
 (.exit 0))
 (.seq (.block 1
 (.seq (.reg [⟨(some 98), (.mov (.t 5)), none⟩,
 ⟨(some 99), (.nilck (.t 98)), none⟩,
 ⟨(some 100), (.fad 23 (.t 99)), none⟩,
 ⟨(some 101), (.load 1 false (.t 100)), none⟩,
 ⟨(some 102), (.len .map (.t 101)), none⟩,
 ⟨(some 11), (.mov (.t 102)), none⟩])
 (.seq (.reg [⟨(some 103), (.mov (.t 5)), none⟩,
 ⟨(some 104), (.mov (.t 9)), none⟩,
 ⟨(some 105), (.cvi .u8 (.t 104)), none⟩,
 ⟨(some 106), (.mov (.t 10)), none⟩,
 ⟨(some 107), (.cvi .u8 (.t 106)), none⟩,
 ⟨(some 108), (.build [(.int .u8 0), (.int .u8 0), (.int .u8 0), (.int .u8 0)] [(0, 1, (.k (.int .u8 2))), (1, 1, (.t 105)), (2, 1, (.t 107))]), none⟩,
 ⟨(some 109), (.call (.k (.fn (.func 13) [] [])) [(.t 103), (.t 108)]), none⟩,
 ⟨(some 110), (.un .not (.t 109)), none⟩,
 ⟨(some 111), (.mov (.t 110)), none⟩,
 ⟨(some 112), (.mov (.t 5)), some (111, false)⟩,
 ⟨(some 113), (.mov (.t 10)), some (111, false)⟩,
 ⟨(some 114), (.cvi .u8 (.t 113)), some (111, false)⟩,
 ⟨(some 115), (.build [(.int .u8 0), (.int .u8 0), (.int .u8 0), (.int .u8 0)] [(0, 1, (.k (.int .u8 4))), (1, 1, (.t 114))]), some (111, false)⟩,
 ⟨(some 116), (.call (.k (.fn (.func 13) [] [])) [(.t 112), (.t 115)]), some (111, false)⟩,
 ⟨(some 117), (.un .not (.t 116)), some (111, false)⟩,
 ⟨(some 118), (.pick (.t 111) (.k (.bool true)) (.t 117)), none⟩,
 ⟨(some 119), (.mov (.t 118)), none⟩,
 ⟨(some 120), (.mov (.t 5)), some (119, false)⟩,
 ⟨(some 121), (.mov (.t 10)), some (119, false)⟩,
 ⟨(some 122), (.cvi .u8 (.t 121)), some (119, false)⟩,
 ⟨(some 123), (.mov (.t 9)), some (119, false)⟩,
 ⟨(some 124), (.cvi .u8 (.t 123)), some (119, false)⟩,
 ⟨(some 125), (.build [(.int .u8 0), (.int .u8 0), (.int .u8 0), (.int .u8 0)] [(0, 1, (.k (.int .u8 2))), (1, 1, (.t 122)), (2, 1, (.t 124))]), some (119, false)⟩,
 ⟨(some 126), (.call (.k (.fn (.func 13) [] [])) [(.t 120), (.t 125)]), some (119, false)⟩,
 ⟨(some 127), (.un .not (.t 126)), some (119, false)⟩,
 ⟨(some 128), (.pick (.t 119) (.k (.bool true)) (.t 127)), none⟩,
 ⟨(some 129), (.mov (.t 128)), none⟩,
 ⟨(some 130), (.mov (.t 5)), some (129, false)⟩,
 ⟨(some 131), (.mov (.t 9)), some (129, false)⟩,
 ⟨(some 132), (.cvi .u8 (.t 131)), some (129, false)⟩,
 ⟨(some 133), (.build [(.int .u8 0), (.int .u8 0), (.int .u8 0), (.int .u8 0)] [(0, 1, (.k (.int .u8 4))), (1, 1, (.t 132))]), some (129, false)⟩,
 ⟨(some 134), (.call (.k (.fn (.func 13) [] [])) [(.t 130), (.t 133)]), some (129, false)⟩,
 ⟨(some 135), (.un .not (.t 134)), some (129, false)⟩,
 ⟨(some 136), (.pick (.t 129) (.k (.bool true)) (.t 135)), none⟩,
 ⟨(some 137), (.mov (.t 136)), none⟩,
 ⟨(some 138), (.mov (.t 5)), some (137, false)⟩,
 ⟨(some 139), (.nilck (.t 138)), some (137, false)⟩,
 ⟨(some 140), (.fad 23 (.t 139)), some (137, false)⟩,
 ⟨(some 141), (.load 1 false (.t 140)), some (137, false)⟩,
 ⟨(some 142), (.len .map (.t 141)), some (137, false)⟩,
 ⟨(some 143), (.mov (.t 11)), some (137, false)⟩,
 ⟨(some 144), (.bin .add .num (.t 143) (.k (.int .i64 2))), some (137, false)⟩,
 ⟨(some 145), (.bin .neq .num (.t 142) (.t 144)), some (137, false)⟩,
 ⟨(some 146), (.pick (.t 137) (.k (.bool true)) (.t 145)), none⟩])
 (.cond (.t 146)
 (.seq (.reg [⟨(some 4), (.mov (.k (.bool false))), none⟩])
 .ret)
 .skip))))
 (.reg [⟨(some 147), (.bin .add .num (.t 96) (.k (.int .i64 1))), none⟩,
 ⟨(some 96), (.mov (.t 147)), none⟩])))))))
 (.seq (.reg [⟨(some 4), (.mov (.k (.bool true))), none⟩])
 .ret)))))))))))))⟩

/-- 11: signetring/signetringlaw19.alive -/
def F11 : Fun :=
 ⟨91, 0, [.t 0],
 (.seq (.reg [⟨(some 0), (.mov (.k (.bool false))), none⟩])
 (.seq (.reg [⟨(some 4), (.call (.k (.fn (.func 12) [] [])) []), none⟩,
 ⟨(some 3), (.mov (.t 4)), none⟩,
 ⟨(some 5), (.ext (.t 3) 0), none⟩,
 ⟨(some 6), (.ext (.t 3) 1), none⟩,
 ⟨(some 1), (.mov (.t 5)), none⟩,
 ⟨(some 2), (.mov (.t 6)), none⟩])
 (.seq (.seq (.reg [⟨(some 7), (.mov (.t 2)), none⟩,
 ⟨(some 8), (.un .not (.t 7)), none⟩,
 ⟨(some 9), (.mov (.t 8)), none⟩,
 ⟨(some 10), (.mov (.t 1)), some (9, false)⟩,
 ⟨(some 11), (.build [(.int .u8 0), (.int .u8 0), (.int .u8 0), (.int .u8 0)] [(0, 1, (.k (.int .u8 0))), (1, 1, (.k (.int .u8 1)))]), some (9, false)⟩,
 ⟨(some 12), (.call (.k (.fn (.func 13) [] [])) [(.t 10), (.t 11)]), some (9, false)⟩,
 ⟨(some 13), (.un .not (.t 12)), some (9, false)⟩,
 ⟨(some 14), (.pick (.t 9) (.k (.bool true)) (.t 13)), none⟩,
 ⟨(some 15), (.mov (.t 14)), none⟩,
 ⟨(some 16), (.mov (.t 1)), some (15, false)⟩,
 ⟨(some 17), (.build [(.int .u8 0), (.int .u8 0), (.int .u8 0), (.int .u8 0)] [(0, 1, (.k (.int .u8 1))), (1, 1, (.k (.int .u8 0))), (2, 1, (.k (.int .u8 1)))]), some (15, false)⟩,
 ⟨(some 18), (.call (.k (.fn (.func 13) [] [])) [(.t 16), (.t 17)]), some (15, false)⟩,
 ⟨(some 19), (.un .not (.t 18)), some (15, false)⟩,
 ⟨(some 20), (.pick (.t 15) (.k (.bool true)) (.t 19)), none⟩,
 ⟨(some 21), (.mov (.t 20)), none⟩,
 ⟨(some 22), (.mov (.t 1)), some (21, false)⟩,
 ⟨(some 23), (.nilck (.t 22)), some (21, false)⟩,
 ⟨(some 24), (.fad 20 (.t 23)), some (21, false)⟩,
 ⟨(some 25), (.iada 3 1 (.t 24) (.k (.int .i64 1))), some (21, false)⟩,
 ⟨(some 26), (.load 1 false (.t 25)), some (21, false)⟩,
 ⟨(some 27), (.len .slc (.t 26)), some (21, false)⟩,
 ⟨(some 28), (.bin .neq .num (.t 27) (.k (.int .i64 1))), some (21, false)⟩,
 ⟨(some 29), (.pick (.t 21) (.k (.bool true)) (.t 28)), none⟩,
 ⟨(some 30), (.mov (.t 29)), none⟩,
 ⟨(some 31), (.mov (.t 1)), some (30, false)⟩,
 ⟨(some 32), (.build [(.int .u8 0), (.int .u8 0), (.int .u8 0), (.int .u8 0)] [(0, 1, (.k (.int .u8 4))), (1, 1, (.k (.int .u8 1)))]), some (30, false)⟩,
 ⟨(some 33), (.call (.k (.fn (.func 13) [] [])) [(.t 31), (.t 32)]), some (30, false)⟩,
 ⟨(some 34), (.un .not (.t 33)), some (30, false)⟩,
 ⟨(some 35), (.pick (.t 30) (.k (.bool true)) (.t 34)), none⟩,
 ⟨(some 36), (.mov (.t 35)), none⟩,
 ⟨(some 37), (.mov (.t 1)), some (36, false)⟩,
 ⟨(some 38), (.nilck (.t 37)), some (36, false)⟩,
 ⟨(some 39), (.fad 23 (.t 38)), some (36, false)⟩,
 ⟨(some 40), (.load 1 false (.t 39)), some (36, false)⟩,
 ⟨(some 41), (.len .map (.t 40)), some (36, false)⟩,
 ⟨(some 42), (.bin .neq .num (.t 41) (.k (.int .i64 1))), some (36, false)⟩,
 ⟨(some 43), (.pick (.t 36) (.k (.bool true)) (.t 42)), none⟩])
 (.cond (.t 43)
 (.seq (.reg [⟨(some 0), (.mov (.k (.bool false))), none⟩])
 .ret)
 .skip))
 (.seq (.seq (.reg [⟨(some 44), (.mov (.t 1)), none⟩,
 ⟨(some 45), (.build [(.int .u8 0), (.int .u8 0), (.int .u8 0), (.int .u8 0)] [(0, 1, (.k (.int .u8 2))), (1, 1, (.k (.int .u8 0))), (2, 1, (.k (.int .u8 1)))]), none⟩,
 ⟨(some 46), (.call (.k (.fn (.func 13) [] [])) [(.t 44), (.t 45)]), none⟩,
 ⟨(some 47), (.un .not (.t 46)), none⟩,
 ⟨(some 48), (.mov (.t 47)), none⟩,
 ⟨(some 49), (.mov (.t 1)), some (48, false)⟩,
 ⟨(some 50), (.build [(.int .u8 0), (.int .u8 0), (.int .u8 0), (.int .u8 0)] [(0, 1, (.k (.int .u8 4))), (1, 1, (.k (.int .u8 1)))]), some (48, false)⟩,
 ⟨(some 51), (.call (.k (.fn (.func 13) [] [])) [(.t 49), (.t 50)]), some (48, false)⟩,
 ⟨(some 52), (.un .not (.t 51)), some (48, false)⟩,
 ⟨(some 53), (.pick (.t 48) (.k (.bool true)) (.t 52)), none⟩,
 ⟨(some 54), (.mov (.t 53)), none⟩,
 ⟨(some 55), (.mov (.t 1)), some (54, false)⟩,
 ⟨(some 56), (.build [(.int .u8 0), (.int .u8 0), (.int .u8 0), (.int .u8 0)] [(0, 1, (.k (.int .u8 2))), (1, 1, (.k (.int .u8 1))), (2, 1, (.k (.int .u8 0)))]), some (54, false)⟩,
 ⟨(some 57), (.call (.k (.fn (.func 13) [] [])) [(.t 55), (.t 56)]), some (54, false)⟩,
 ⟨(some 58), (.un .not (.t 57)), some (54, false)⟩,
 ⟨(some 59), (.pick (.t 54) (.k (.bool true)) (.t 58)), none⟩,
 ⟨(some 60), (.mov (.t 59)), none⟩,
 ⟨(some 61), (.mov (.t 1)), some (60, false)⟩,
 ⟨(some 62), (.nilck (.t 61)), some (60, false)⟩,
 ⟨(some 63), (.fad 20 (.t 62)), some (60, false)⟩,
 ⟨(some 64), (.iada 3 1 (.t 63) (.k (.int .i64 0))), some (60, false)⟩,
 ⟨(some 65), (.load 1 false (.t 64)), some (60, false)⟩,
 ⟨(some 66), (.len .slc (.t 65)), some (60, false)⟩,
 ⟨(some 67), (.bin .neq .num (.t 66) (.k (.int .i64 1))), some (60, false)⟩,
 ⟨(some 68), (.pick (.t 60) (.k (.bool true)) (.t 67)), none⟩,
 ⟨(some 69), (.mov (.t 68)), none⟩,
 ⟨(some 70), (.mov (.t 1)), some (69, false)⟩,
 ⟨(some 71), (.build [(.int .u8 0), (.int .u8 0), (.int .u8 0), (.int .u8 0)] [(0, 1, (.k (.int .u8 4))), (1, 1, (.k (.int .u8 0)))]), some (69, false)⟩,
 ⟨(some 72), (.call (.k (.fn (.func 13) [] [])) [(.t 70), (.t 71)]), some (69, false)⟩,
 ⟨(some 73), (.un .not (.t 72)), some (69, false)⟩,
 ⟨(some 74), (.pick (.t 69) (.k (.bool true)) (.t 73)), none⟩])
 (.cond (.t 74)
 (.seq (.reg [⟨(some 0), (.mov (.k (.bool false))), none⟩])
 .ret)
 .skip))
 (.seq (.reg [⟨(some 75), (.mov (.t 1)), none⟩,
 ⟨(some 76), (.nilck (.t 75)), none⟩,
 ⟨(some 77), (.fad 23 (.t 76)), none⟩,
 ⟨(some 78), (.load 1 false (.t 77)), none⟩,
 ⟨(some 79), (.len .map (.t 78)), none⟩,
 ⟨(some 80), (.bin .eql .num (.t 79) (.k (.int .i64 3))), none⟩,
 ⟨(some 81), (.mov (.t 80)), none⟩,
 ⟨(some 82), (.mov (.t 1)), some (81, true)⟩,
 ⟨(some 83), (.nilck (.t 82)), some (81, true)⟩,
 ⟨(some 84), (.fad 2 (.t 83)), some (81, true)⟩,
 ⟨(some 85), (.iada 3 4 (.t 84) (.k (.int .i64 1))), some (81, true)⟩,
 ⟨(some 86), (.fad 1 (.t 85)), some (81, true)⟩,
 ⟨(some 87), (.load 1 false (.t 86)), some (81, true)⟩,
 ⟨(some 88), (.len .slc (.t 87)), some (81, true)⟩,
 ⟨(some 89), (.bin .eql .num (.t 88) (.k (.int .i64 0))), some (81, true)⟩,
 ⟨(some 90), (.pick (.t 81) (.t 89) (.k (.bool false))), none⟩,
 ⟨(some 0), (.mov (.t 90)), none⟩])
 .ret)))))⟩

/-- 12: signetring/signetringlaw19.begin -/
def F12 : Fun :=
 ⟨64, 0, [.t 0, .t 1],
 (.seq (.reg [⟨(some 0), (.mov (.k .nptr)), none⟩,
 ⟨(some 1), (.mov (.k (.bool false))), none⟩])
 (.seq (.reg [⟨(some 7), (.call (.k (.fn (.func 21) [] [])) []), none⟩,
 ⟨(some 8), .mkm, none⟩,
 ⟨(some 9), (.build [.nifc, .nptr, (.str []), .nsl, (.int .u64 0), .nsl, (.str []), .nsl, (.int .u64 0), .nsl, (.str []), .nsl, (.int .u64 0), .nsl, (.str []), (.str []), (.str []), .nsl, .nsl, .nsl, .nsl, .nsl, .nsl, .nmap, (.int .i64 0), (.int .i64 0)] [(1, 1, (.t 7)), (23, 1, (.t 8))]), none⟩,
 ⟨(some 10), (.box none (.t 9)), none⟩,
 ⟨(some 2), (.mov (.t 10)), none⟩])
 (.seq (.seq (.reg [⟨(some 11), (.mov (.t 2)), none⟩,
 ⟨(some 12), (.nilck (.t 11)), none⟩,
 ⟨(some 13), (.fad 1 (.t 12)), none⟩,
 ⟨(some 14), (.load 1 false (.t 13)), none⟩,
 ⟨(some 15), (.bin .eql .ptr (.t 14) (.k .nptr)), none⟩])
 (.cond (.t 15)
 (.seq (.reg [⟨(some 0), (.mov (.k .nptr)), none⟩,
 ⟨(some 1), (.mov (.k (.bool false))), none⟩])
 .ret)
 .skip))
 (.seq (.reg [⟨(some 16), (.mov (.t 2)), none⟩,
 ⟨(some 17), (.mov (.t 2)), none⟩,
 ⟨(some 18), (.nilck (.t 17)), none⟩,
 ⟨(some 19), (.fad 1 (.t 18)), none⟩,
 ⟨(some 20), (.load 1 false (.t 19)), none⟩,
 ⟨(some 21), (.call (.k (.fn (.func 20) [] [])) [(.t 20)]), none⟩,
 ⟨(some 22), (.nilck (.t 16)), none⟩,
 ⟨(some 23), (.fad 0 (.t 22)), none⟩,
 ⟨none, (.store 1 (.t 23) (.t 21)), none⟩])
 (.seq (.seq (.reg [⟨(some 24), (.mov (.t 2)), none⟩,
 ⟨(some 25), (.nilck (.t 24)), none⟩,
 ⟨(some 26), (.fad 0 (.t 25)), none⟩,
 ⟨(some 27), (.load 1 false (.t 26)), none⟩,
 ⟨(some 28), (.bin .eql .ifc (.t 27) (.k .nifc)), none⟩])
 (.cond (.t 28)
 (.seq (.reg [⟨(some 0), (.mov (.k .nptr)), none⟩,
 ⟨(some 1), (.mov (.k (.bool false))), none⟩])
 .ret)
 .skip))
 (.seq (.seq (.reg [⟨(some 29), (.mov (.k (.int .i64 0))), none⟩])
 (.block 0
 (.loop
 (.seq (.reg [⟨(some 30), (.bin .lss .num (.t 29) (.k (.int .i64 3))), none⟩])
 (.seq (.cond (.t 30)
 .skip
 (.exit 0))
 (.seq (.block 1
 (.seq (.reg [⟨(some 31), (.mov (.t 29)), none⟩,
 ⟨(some 3), (.mov (.t 31)), none⟩])
 (.seq (.reg [⟨(some 32), (.mov (.t 2)), none⟩,
 ⟨(some 33), (.call (.k (.fn (.func 15) [] [])) [(.t 32)]), none⟩,
 ⟨(some 4), (.mov (.t 33)), none⟩])
 (.seq (.reg [⟨(some 35), (.mov (.t 2)), none⟩,
 ⟨(some 36), (.nilck (.t 35)), none⟩,
 ⟨(some 37), (.fad 0 (.t 36)), none⟩,
 ⟨(some 38), (.load 1 false (.t 37)), none⟩,
 ⟨(some 39), (.mov (.t 4)), none⟩,
 ⟨(some 40), (.call (.k (.fn (.func 32) [] [])) [(.t 38), (.t 39)]), none⟩,
 ⟨(some 34), (.mov (.t 40)), none⟩,
 ⟨(some 41), (.ext (.t 34) 0), none⟩,
 ⟨(some 42), (.ext (.t 34) 1), none⟩,
 ⟨(some 5), (.new [(.str []), .nsl, (.int .u64 0), .nsl] none), none⟩,
 ⟨none, (.store 4 (.t 5) (.t 41)), none⟩,
 ⟨(some 6), (.mov (.t 42)), none⟩])
 (.seq (.seq (.reg [⟨(some 43), (.mov (.t 6)), none⟩,
 ⟨(some 44), (.bin .neq .num (.t 43) (.k (.int .i64 0))), none⟩])
 (.cond (.t 44)
 (.seq (.reg [⟨(some 0), (.mov (.k .nptr)), none⟩,
 ⟨(some 1), (.mov (.k (.bool false))), none⟩])
 .ret)
 .skip))
 (.dreg [⟨(some 45), (.mov (.t 2)), none⟩,
 ⟨(some 46), (.mov (.t 3)), none⟩,
 ⟨(some 47), (.mov (.t 2)), none⟩,
 ⟨(some 48), (.mov (.t 3)), none⟩,
 ⟨(some 49), (.load 4 true (.t 5)), none⟩,
 ⟨(some 50), (.mov (.t 2)), none⟩,
 ⟨(some 51), (.nilck (.t 50)), none⟩,
 ⟨(some 52), (.fad 0 (.t 51)), none⟩,
 ⟨(some 53), (.load 1 false (.t 52)), none⟩,
 ⟨(some 54), (.mov (.t 4)), none⟩,
 ⟨(some 55), (.inv (.t 53) "Pub" [(.t 54)]), none⟩,
 ⟨(some 56), (.nilck (.t 45)), none⟩,
 ⟨(some 57), (.fad 2 (.t 56)), none⟩,
 ⟨(some 58), (.iada 3 4 (.t 57) (.t 46)), none⟩,
 ⟨none, (.store 4 (.t 58) (.t 49)), none⟩,
 ⟨(some 59), (.nilck (.t 47)), none⟩,
 ⟨(some 60), (.fad 14 (.t 59)), none⟩,
 ⟨(some 61), (.iada 3 1 (.t 60) (.t 48)), none⟩,
 ⟨none, (.store 1 (.t 61) (.t 55)), none⟩] (.lin [] [(0, none), (1, none), (2, none), (3, none), (4, none), (5, none), (6, none), (7, none), (8, none), (9, none), (11, none), (12, none), (15, none), (16, none), (10, some [0, 1, 2, 3, 4, 11, 12, 15, 16]), (13, none), (14, some [2, 3, 15, 16]), (17, none), (18, some [])])))))))
 (.reg [⟨(some 62), (.bin .add .num (.t 29) (.k (.int .i64 1))), none⟩,
 ⟨(some 29), (.mov (.t 62)), none⟩])))))))
 (.seq (.reg [⟨(some 63), (.mov (.t 2)), none⟩,
 ⟨(some 0), (.mov (.t 63)), none⟩,
 ⟨(some 1), (.mov (.k (.bool true))), none⟩])
 .ret)))))))⟩

/-- 13: (*signetring/signetringlaw19.world).does -/
def F13 : Fun :=
 ⟨367, 2, [.t 4],
 (.seq (.reg [⟨(some 3), (.box none (.t 1)), none⟩,
 ⟨(some 4), (.mov (.k (.bool false))), none⟩])
 (.seq (.dreg [⟨(some 28), (.fad 1 (.t 3)), none⟩,
 ⟨(some 29), (.load 1 false (.t 28)), none⟩,
 ⟨(some 30), (.cvi .i64 (.t 29)), none⟩,
 ⟨(some 31), (.bin .rem .num (.t 30) (.k (.int .i64 3))), none⟩,
 ⟨(some 32), (.fad 2 (.t 3)), none⟩,
 ⟨(some 33), (.load 1 false (.t 32)), none⟩,
 ⟨(some 34), (.cvi .i64 (.t 33)), none⟩,
 ⟨(some 35), (.bin .rem .num (.t 34) (.k (.int .i64 3))), none⟩,
 ⟨(some 5), (.mov (.t 31)), none⟩,
 ⟨(some 6), (.mov (.t 35)), none⟩] (.lin [] [(0, none), (1, none), (2, none), (3, none), (4, none), (5, none), (6, none), (7, none), (8, none), (9, none)]))
 (.seq (.reg [⟨(some 36), (.mov (.t 0)), none⟩,
 ⟨(some 37), (.mov (.t 5)), none⟩,
 ⟨(some 38), (.nilck (.t 36)), none⟩,
 ⟨(some 39), (.fad 2 (.t 38)), none⟩,
 ⟨(some 40), (.iada 3 4 (.t 39) (.t 37)), none⟩,
 ⟨(some 41), (.load 4 true (.t 40)), none⟩,
 ⟨(some 7), (.new [(.str []), .nsl, (.int .u64 0), .nsl] none), none⟩,
 ⟨none, (.store 4 (.t 7) (.t 41)), none⟩])
 (.seq (.seq (.reg [⟨(some 42), (.fad 0 (.t 3)), none⟩,
 ⟨(some 43), (.load 1 false (.t 42)), none⟩,
 ⟨(some 44), (.bin .rem .num (.t 43) (.k (.int .u8 8))), none⟩])
 (.block 0
 (.seq (.reg [⟨(some 46), (.bin .eql .num (.t 44) (.k (.int .u8 0))), none⟩,
 ⟨(some 45), (.mov (.t 46)), none⟩])
 (.cond (.t 45)
 (.seq (.dreg [⟨(some 48), (.mov (.t 0)), none⟩,
 ⟨(some 49), (.nilck (.t 48)), none⟩,
 ⟨(some 50), (.fad 0 (.t 49)), none⟩,
 ⟨(some 51), (.load 1 false (.t 50)), none⟩,
 ⟨(some 52), (.load 4 true (.t 7)), none⟩,
 ⟨(some 53), (.mov (.t 0)), none⟩,
 ⟨(some 54), (.call (.k (.fn (.func 15) [] [])) [(.t 53)]), none⟩,
 ⟨(some 55), (.call (.k (.fn (.func 18) [] [])) [(.t 51), (.t 52), (.t 54)]), none⟩,
 ⟨(some 47), (.mov (.t 55)), none⟩,
 ⟨(some 56), (.ext (.t 47) 0), none⟩,
 ⟨(some 57), (.ext (.t 47) 1), none⟩,
 ⟨(some 58), (.ext (.t 47) 2), none⟩,
 ⟨(some 8), (.new [(.str []), .nsl, (.int .u64 0), .nsl] none), none⟩,
 ⟨(some 9), (.new [(.str []), (.str []), (.int .u64 0)] none), none⟩,
 ⟨none, (.store 4 (.t 8) (.t 56)), none⟩,
 ⟨none, (.store 3 (.t 9) (.t 57)), none⟩,
 ⟨(some 10), (.mov (.t 58)), none⟩] (.lin [12, 13] [(0, none), (1, none), (2, none), (3, none), (4, none), (5, none), (6, some [0, 1, 2, 3, 4]), (7, some []), (8, none), (9, none), (10, none), (11, none), (14, some [10, 11]), (15, some [11]), (16, none)]))
 (.seq (.seq (.reg [⟨(some 59), (.mov (.t 10)), none⟩,
 ⟨(some 60), (.bin .neq .num (.t 59) (.k (.int .i64 0))), none⟩])
 (.cond (.t 60)
 (.seq (.reg [⟨(some 61), (.mov (.t 10)), none⟩,
 ⟨(some 62), (.bin .eql .num (.t 61) (.k (.int .i64 11))), none⟩,
 ⟨(some 63), (.mov (.t 62)), none⟩,
 ⟨(some 64), (.fad 1 (.t 7)), some (63, true)⟩,
 ⟨(some 65), (.load 1 false (.t 64)), some (63, true)⟩,
 ⟨(some 66), (.len .slc (.t 65)), some (63, true)⟩,
 ⟨(some 67), (.bin .eql .num (.t 66) (.k (.int .i64 20))), some (63, true)⟩,
 ⟨(some 68), (.pick (.t 63) (.t 67) (.k (.bool false))), none⟩,
 ⟨(some 69), (.mov (.t 68)), none⟩,
 ⟨(some 70), (.load 4 true (.t 8)), some (69, true)⟩,
 ⟨(some 71), (.load 4 true (.t 7)), some (69, true)⟩,
 ⟨(some 72), (.call (.k (.fn (.func 16) [] [])) [(.t 70), (.t 71)]), some (69, true)⟩,
 ⟨(some 73), (.pick (.t 69) (.t 72) (.k (.bool false))), none⟩,
 ⟨(some 4), (.mov (.t 73)), none⟩])
 .ret)
 .skip))
 (.seq (.dreg [⟨(some 74), (.mov (.t 0)), none⟩,
 ⟨(some 75), (.mov (.t 5)), none⟩,
 ⟨(some 76), (.load 4 true (.t 8)), none⟩,
 ⟨(some 77), (.nilck (.t 74)), none⟩,
 ⟨(some 78), (.fad 2 (.t 77)), none⟩,
 ⟨(some 79), (.iada 3 4 (.t 78) (.t 75)), none⟩,
 ⟨none, (.store 4 (.t 79) (.t 76)), none⟩] (.lin [] [(0, none), (1, none), (2, none), (3, none), (4, none), (5, none), (6, some [])]))
 (.seq (.dreg [⟨(some 80), (.mov (.t 0)), none⟩,
 ⟨(some 81), (.mov (.t 5)), none⟩,
 ⟨(some 82), (.mov (.t 0)), none⟩,
 ⟨(some 83), (.mov (.t 5)), none⟩,
 ⟨(some 84), (.nilck (.t 82)), none⟩,
 ⟨(some 85), (.fad 17 (.t 84)), none⟩,
 ⟨(some 86), (.iada 3 1 (.t 85) (.t 83)), none⟩,
 ⟨(some 87), (.load 1 false (.t 86)), none⟩,
 ⟨(some 88), (.load 3 true (.t 9)), none⟩,
 ⟨(some 89), (.mks true 3 40 true [(.str []), (.str []), (.int .u64 0)] 1 [(0, (.t 88))]), none⟩,
 ⟨(some 90), (.app 3 40 true none (.t 87) (.t 89)), none⟩,
 ⟨(some 91), (.nilck (.t 80)), none⟩,
 ⟨(some 92), (.fad 17 (.t 91)), none⟩,
 ⟨(some 93), (.iada 3 1 (.t 92) (.t 81)), none⟩,
 ⟨none, (.store 1 (.t 93) (.t 90)), none⟩] (.lin [] [(0, none), (1, none), (2, none), (3, none), (4, none), (5, none), (6, none), (7, none), (8, none), (9, none), (11, none), (12, none), (10, some [0, 1, 11, 12]), (13, none), (14, some [])]))
 (.seq (.dreg [⟨(some 94), (.fad 0 (.t 9)), none⟩,
 ⟨(some 95), (.load 1 false (.t 94)), none⟩,
 ⟨(some 96), (.mov (.t 0)), none⟩,
 ⟨(some 97), (.mov (.t 5)), none⟩,
 ⟨(some 98), (.nilck (.t 96)), none⟩,
 ⟨(some 99), (.fad 14 (.t 98)), none⟩,
 ⟨(some 100), (.iada 3 1 (.t 99) (.t 97)), none⟩,
 ⟨(some 101), (.load 1 false (.t 100)), none⟩,
 ⟨(some 102), (.bin .eql .str (.t 95) (.t 101)), none⟩,
 ⟨(some 103), (.mov (.t 102)), none⟩,
 ⟨(some 104), (.fad 2 (.t 9)), some (103, true)⟩,
 ⟨(some 105), (.load 1 false (.t 104)), some (103, true)⟩,
 ⟨(some 106), (.fad 2 (.t 7)), some (103, true)⟩,
 ⟨(some 107), (.load 1 false (.t 106)), some (103, true)⟩,
 ⟨(some 108), (.bin .add .num (.t 107) (.k (.int .u64 1))), some (103, true)⟩,
 ⟨(some 109), (.bin .eql .num (.t 105) (.t 108)), some (103, true)⟩,
 ⟨(some 110), (.pick (.t 103) (.t 109) (.k (.bool false))), none⟩,
 ⟨(some 111), (.mov (.t 110)), none⟩,
 ⟨(some 112), (.fad 1 (.t 8)), some (111, true)⟩,
 ⟨(some 113), (.load 1 false (.t 112)), some (111, true)⟩,
 ⟨(some 114), (.len .slc (.t 113)), some (111, true)⟩,
 ⟨(some 115), (.fad 1 (.t 7)), some (111, true)⟩,
 ⟨(some 116), (.load 1 false (.t 115)), some (111, true)⟩,
 ⟨(some 117), (.len .slc (.t 116)), some (111, true)⟩,
 ⟨(some 118), (.bin .add .num (.t 117) (.k (.int .i64 1))), some (111, true)⟩,
 ⟨(some 119), (.bin .eql .num (.t 114) (.t 118)), some (111, true)⟩,
 ⟨(some 120), (.pick (.t 111) (.t 119) (.k (.bool false))), none⟩,
 ⟨(some 4), (.mov (.t 120)), none⟩] (.lin [] [(0, none), (1, none), (2, none), (3, none), (4, none), (5, none), (6, none), (7, none), (8, none), (9, none), (10, none), (11, none), (12, none), (13, none), (14, none), (15, none), (16, none), (17, none), (18, none), (19, none), (20, none), (21, none), (22, none), (23, none), (24, none), (25, none), (26, none), (27, none)]))
 .ret)))))
 (.seq (.reg [⟨(some 122), (.bin .eql .num (.t 44) (.k (.int .u8 1))), none⟩,
 ⟨(some 121), (.mov (.t 122)), none⟩])
 (.cond (.t 121)
 (.seq (.seq (.reg [⟨(some 123), (.mov (.t 0)), none⟩,
 ⟨(some 124), (.mov (.t 6)), none⟩,
 ⟨(some 125), (.nilck (.t 123)), none⟩,
 ⟨(some 126), (.fad 17 (.t 125)), none⟩,
 ⟨(some 127), (.iada 3 1 (.t 126) (.t 124)), none⟩,
 ⟨(some 128), (.load 1 false (.t 127)), none⟩,
 ⟨(some 129), (.len .slc (.t 128)), none⟩,
 ⟨(some 130), (.bin .eql .num (.t 129) (.k (.int .i64 0))), none⟩])
 (.cond (.t 130)
 (.seq (.reg [⟨(some 4), (.mov (.k (.bool true))), none⟩])
 .ret)
 .skip))
 (.seq (.reg [⟨(some 131), (.mov (.t 0)), none⟩,
 ⟨(some 132), (.call (.k (.fn (.func 33) [] [])) [(.t 131)]), none⟩,
 ⟨(some 11), (.mov (.t 132)), none⟩])
 (.seq (.dreg [⟨(some 134), (.mov (.t 0)), none⟩,
 ⟨(some 135), (.nilck (.t 134)), none⟩,
 ⟨(some 136), (.fad 0 (.t 135)), none⟩,
 ⟨(some 137), (.load 1 false (.t 136)), none⟩,
 ⟨(some 138), (.load 4 true (.t 7)), none⟩,
 ⟨(some 139), (.mov (.t 0)), none⟩,
 ⟨(some 140), (.mov (.t 6)), none⟩,
 ⟨(some 141), (.nilck (.t 139)), none⟩,
 ⟨(some 142), (.fad 17 (.t 141)), none⟩,
 ⟨(some 143), (.iada 3 1 (.t 142) (.t 140)), none⟩,
 ⟨(some 144), (.load 1 false (.t 143)), none⟩,
 ⟨(some 145), (.iad 3 (.t 144) (.k (.int .i64 0))), none⟩,
 ⟨(some 146), (.load 3 true (.t 145)), none⟩,
 ⟨(some 147), (.mov (.t 11)), none⟩,
 ⟨(some 148), (.mov (.t 0)), none⟩,
 ⟨(some 149), (.call (.k (.fn (.func 15) [] [])) [(.t 148)]), none⟩,
 ⟨(some 150), (.mov (.t 0)), none⟩,
 ⟨(some 151), (.call (.k (.fn (.func 15) [] [])) [(.t 150)]), none⟩,
 ⟨(some 152), (.build [(.str []), (.str [])] [(0, 1, (.t 149)), (1, 1, (.t 151))]), none⟩,
 ⟨(some 153), (.call (.k (.fn (.func 34) [] [])) [(.t 137), (.t 138), (.t 146), (.t 147), (.t 152)]), none⟩,
 ⟨(some 133), (.mov (.t 153)), none⟩,
 ⟨(some 154), (.ext (.t 133) 0), none⟩,
 ⟨(some 155), (.ext (.t 133) 1), none⟩,
 ⟨(some 156), (.ext (.t 133) 2), none⟩,
 ⟨(some 12), (.new [(.str []), .nsl, (.int .u64 0), .nsl] none), none⟩,
 ⟨none, (.store 4 (.t 12) (.t 154)), none⟩,
 ⟨(some 13), (.mov (.t 155)), none⟩,
 ⟨(some 14), (.mov (.t 156)), none⟩] (.lin [24] [(0, none), (1, none), (2, none), (3, none), (4, none), (5, none), (6, none), (7, none), (8, none), (9, none), (10, none), (11, none), (12, none), (13, none), (14, none), (16, none), (15, some [0, 1, 2, 3, 4, 5, 6, 7, 8, 9, 10, 11, 12, 13, 16]), (17, some [0, 1, 2, 3, 4, 5, 6, 7, 8, 9, 10, 11, 12, 13]), (18, none), (19, some []), (20, none), (21, none), (22, none), (23, none), (25, some [22, 23]), (26, none), (27, none)]))
 (.seq (.seq (.reg [⟨(some 157), (.mov (.t 5)), none⟩,
 ⟨(some 158), (.mov (.t 6)), none⟩,
 ⟨(some 159), (.bin .eql .num (.t 157) (.t 158)), none⟩])
 (.cond (.t 159)
 (.seq (.reg [⟨(some 160), (.mov (.t 14)), none⟩,
 ⟨(some 161), (.bin .eql .num (.t 160) (.k (.int .i64 10))), none⟩,
 ⟨(some 162), (.mov (.t 161)), none⟩,
 ⟨(some 163), (.mov (.t 13)), some (162, true)⟩,
 ⟨(some 164), (.bin .eql .str (.t 163) (.k (.str []))), some (162, true)⟩,
 ⟨(some 165), (.pick (.t 162) (.t 164) (.k (.bool false))), none⟩,
 ⟨(some 166), (.mov (.t 165)), none⟩,
 ⟨(some 167), (.load 4 true (.t 12)), some (166, true)⟩,
 ⟨(some 168), (.load 4 true (.t 7)), some (166, true)⟩,
 ⟨(some 169), (.call (.k (.fn (.func 16) [] [])) [(.t 167), (.t 168)]), some (166, true)⟩,
 ⟨(some 170), (.pick (.t 166) (.t 169) (.k (.bool false))), none⟩,
 ⟨(some 4), (.mov (.t 170)), none⟩])
 .ret)
 .skip))
 (.seq (.seq (.reg [⟨(some 171), (.mov (.t 14)), none⟩,
 ⟨(some 172), (.bin .neq .num (.t 171) (.k (.int .i64 0))), none⟩])
 (.cond (.t 172)
 (.seq (.reg [⟨(some 4), (.mov (.k (.bool false))), none⟩])
 .ret)
 .skip))
 (.seq (.dreg [⟨(some 173), (.mov (.t 0)), none⟩,
 ⟨(some 174), (.mov (.t 6)), none⟩,
 ⟨(some 175), (.mov (.t 0)), none⟩,
 ⟨(some 176), (.mov (.t 6)), none⟩,
 ⟨(some 177), (.nilck (.t 175)), none⟩,
 ⟨(some 178), (.fad 17 (.t 177)), none⟩,
 ⟨(some 179), (.iada 3 1 (.t 178) (.t 176)), none⟩,
 ⟨(some 180), (.load 1 false (.t 179)), none⟩,
 ⟨(some 181), (.slc false 3 (.t 180) (some (.k (.int .i64 1))) none none), none⟩,
 ⟨(some 182), (.nilck (.t 173)), none⟩,
 ⟨(some 183), (.fad 17 (.t 182)), none⟩,
 ⟨(some 184), (.iada 3 1 (.t 183) (.t 174)), none⟩,
 ⟨none, (.store 1 (.t 184) (.t 181)), none⟩] (.lin [] [(0, none), (1, none), (2, none), (3, none), (4, none), (5, none), (6, none), (7, none), (8, none), (9, none), (10, none), (11, none), (12, some [])]))
 (.seq (.dreg [⟨(some 185), (.mov (.t 0)), none⟩,
 ⟨(some 186), (.mov (.t 5)), none⟩,
 ⟨(some 187), (.load 4 true (.t 12)), none⟩,
 ⟨(some 188), (.nilck (.t 185)), none⟩,
 ⟨(some 189), (.fad 2 (.t 188)), none⟩,
 ⟨(some 190), (.iada 3 4 (.t 189) (.t 186)), none⟩,
 ⟨none, (.store 4 (.t 190) (.t 187)), none⟩] (.lin [] [(0, none), (1, none), (2, none), (3, none), (4, none), (5, none), (6, some [])]))
 (.seq (.reg [⟨(some 191), (.mov (.t 0)), none⟩,
 ⟨(some 192), (.mov (.t 5)), none⟩,
 ⟨(some 193), (.mov (.t 6)), none⟩,
 ⟨(some 194), (.mov (.t 13)), none⟩,
 ⟨(some 195), (.mov (.t 11)), none⟩,
 ⟨(some 196), (.call (.k (.fn (.func 35) [] [])) [(.t 191), (.t 192), (.t 193), (.t 194), (.t 195)]), none⟩])
 (.seq (.dreg [⟨(some 198), (.load 4 true (.t 7)), none⟩,
 ⟨(some 199), (.mov (.t 0)), none⟩,
 ⟨(some 200), (.mov (.t 6)), none⟩,
 ⟨(some 201), (.nilck (.t 199)), none⟩,
 ⟨(some 202), (.fad 14 (.t 201)), none⟩,
 ⟨(some 203), (.iada 3 1 (.t 202) (.t 200)), none⟩,
 ⟨(some 204), (.load 1 false (.t 203)), none⟩,
 ⟨(some 205), (.call (.k (.fn (.func 17) [] [])) [(.t 198), (.t 204)]), none⟩,
 ⟨(some 197), (.mov (.t 205)), none⟩,
 ⟨(some 206), (.ext (.t 197) 0), none⟩,
 ⟨(some 207), (.ext (.t 197) 1), none⟩,
 ⟨(some 15), (.new [(.str []), (.int .u64 0), (.str []), (.str []), (.str []), (.str []), (.int .i64 0), (.str []), (.int .i64 0), (.str []), (.str []), (.str []), (.str []), (.int .i64 0), .nsl] none), none⟩,
 ⟨none, (.store 15 (.t 15) (.t 206)), none⟩,
 ⟨(some 16), (.mov (.t 207)), none⟩] (.lin [11] [(0, none), (1, none), (2, none), (3, none), (4, none), (5, none), (6, none), (7, some []), (8, none), (9, none), (10, none), (12, some [10]), (13, none)]))
 (.seq (.dreg [⟨(some 209), (.load 4 true (.t 12)), none⟩,
 ⟨(some 210), (.mov (.t 0)), none⟩,
 ⟨(some 211), (.mov (.t 6)), none⟩,
 ⟨(some 212), (.nilck (.t 210)), none⟩,
 ⟨(some 213), (.fad 14 (.t 212)), none⟩,
 ⟨(some 214), (.iada 3 1 (.t 213) (.t 211)), none⟩,
 ⟨(some 215), (.load 1 false (.t 214)), none⟩,
 ⟨(some 216), (.call (.k (.fn (.func 17) [] [])) [(.t 209), (.t 215)]), none⟩,
 ⟨(some 208), (.mov (.t 216)), none⟩,
 ⟨(some 217), (.ext (.t 208) 0), none⟩,
 ⟨(some 218), (.ext (.t 208) 1), none⟩,
 ⟨(some 17), (.new [(.str []), (.int .u64 0), (.str []), (.str []), (.str []), (.str []), (.int .i64 0), (.str []), (.int .i64 0), (.str []), (.str []), (.str []), (.str []), (.int .i64 0), .nsl] none), none⟩,
 ⟨none, (.store 15 (.t 17) (.t 217)), none⟩,
 ⟨(some 18), (.mov (.t 218)), none⟩] (.lin [11] [(0, none), (1, none), (2, none), (3, none), (4, none), (5, none), (6, none), (7, some []), (8, none), (9, none), (10, none), (12, some [10]), (13, none)]))
 (.seq (.reg [⟨(some 219), (.mov (.t 18)), none⟩,
 ⟨(some 220), (.mov (.t 219)), none⟩,
 ⟨(some 221), (.fad 1 (.t 17)), some (220, true)⟩,
 ⟨(some 222), (.load 1 false (.t 221)), some (220, true)⟩,
 ⟨(some 223), (.fad 1 (.t 15)), some (220, true)⟩,
 ⟨(some 224), (.load 1 false (.t 223)), some (220, true)⟩,
 ⟨(some 225), (.bin .add .num (.t 224) (.k (.int .u64 1))), some (220, true)⟩,
 ⟨(some 226), (.bin .eql .num (.t 222) (.t 225)), some (220, true)⟩,
 ⟨(some 227), (.pick (.t 220) (.t 226) (.k (.bool false))), none⟩,
 ⟨(some 4), (.mov (.t 227)), none⟩])
 .ret)))))))))))
 (.seq (.seq (.reg [⟨(some 229), (.bin .eql .num (.t 44) (.k (.int .u8 2))), none⟩,
 ⟨(some 228), (.mov (.t 229)), none⟩])
 (.cond (.t 228)
 .skip
 (.reg [⟨(some 230), (.bin .eql .num (.t 44) (.k (.int .u8 3))), none⟩,
 ⟨(some 228), (.mov (.t 230)), none⟩])))
 (.cond (.t 228)
 (.seq (.reg [⟨(some 231), (.mov (.t 0)), none⟩,
 ⟨(some 232), (.call (.k (.fn (.func 33) [] [])) [(.t 231)]), none⟩,
 ⟨(some 19), (.mov (.t 232)), none⟩])
 (.seq (.dreg [⟨(some 234), (.mov (.t 0)), none⟩,
 ⟨(some 235), (.nilck (.t 234)), none⟩,
 ⟨(some 236), (.fad 0 (.t 235)), none⟩,
 ⟨(some 237), (.load 1 false (.t 236)), none⟩,
 ⟨(some 238), (.load 4 true (.t 7)), none⟩,
 ⟨(some 239), (.mov (.t 0)), none⟩,
 ⟨(some 240), (.mov (.t 6)), none⟩,
 ⟨(some 241), (.nilck (.t 239)), none⟩,
 ⟨(some 242), (.fad 14 (.t 241)), none⟩,
 ⟨(some 243), (.iada 3 1 (.t 242) (.t 240)), none⟩,
 ⟨(some 244), (.load 1 false (.t 243)), none⟩,
 ⟨(some 245), (.mov (.t 19)), none⟩,
 ⟨(some 246), (.mov (.t 0)), none⟩,
 ⟨(some 247), (.call (.k (.fn (.func 15) [] [])) [(.t 246)]), none⟩,
 ⟨(some 248), (.call (.k (.fn (.func 36) [] [])) [(.t 237), (.t 238), (.t 244), (.t 245), (.t 247)]), none⟩,
 ⟨(some 233), (.mov (.t 248)), none⟩,
 ⟨(some 249), (.ext (.t 233) 0), none⟩,
 ⟨(some 250), (.ext (.t 233) 1), none⟩,
 ⟨(some 251), (.ext (.t 233) 2), none⟩,
 ⟨(some 20), (.new [(.str []), .nsl, (.int .u64 0), .nsl] none), none⟩,
 ⟨none, (.store 4 (.t 20) (.t 249)), none⟩,
 ⟨(some 21), (.mov (.t 250)), none⟩,
 ⟨(some 22), (.mov (.t 251)), none⟩] (.lin [19] [(0, none), (1, none), (2, none), (3, none), (4, none), (5, none), (6, none), (7, none), (8, none), (9, none), (10, none), (11, none), (12, none), (13, some [0, 1, 2, 3, 4, 5, 6, 7, 8, 9, 10, 11]), (14, some []), (15, none), (16, none), (17, none), (18, none), (20, some [17, 18]), (21, none), (22, none)]))
 (.seq (.dreg [⟨(some 253), (.load 4 true (.t 7)), none⟩,
 ⟨(some 254), (.mov (.t 0)), none⟩,
 ⟨(some 255), (.mov (.t 6)), none⟩,
 ⟨(some 256), (.nilck (.t 254)), none⟩,
 ⟨(some 257), (.fad 14 (.t 256)), none⟩,
 ⟨(some 258), (.iada 3 1 (.t 257) (.t 255)), none⟩,
 ⟨(some 259), (.load 1 false (.t 258)), none⟩,
 ⟨(some 260), (.call (.k (.fn (.func 17) [] [])) [(.t 253), (.t 259)]), none⟩,
 ⟨(some 252), (.mov (.t 260)), none⟩,
 ⟨(some 261), (.ext (.t 252) 0), none⟩,
 ⟨(some 262), (.ext (.t 252) 1), none⟩,
 ⟨(some 23), (.new [(.str []), (.int .u64 0), (.str []), (.str []), (.str []), (.str []), (.int .i64 0), (.str []), (.int .i64 0), (.str []), (.str []), (.str []), (.str []), (.int .i64 0), .nsl] none), none⟩,
 ⟨none, (.store 15 (.t 23) (.t 261)), none⟩,
 ⟨(some 24), (.mov (.t 262)), none⟩] (.lin [11] [(0, none), (1, none), (2, none), (3, none), (4, none), (5, none), (6, none), (7, some []), (8, none), (9, none), (10, none), (12, some [10]), (13, none)]))
 (.seq (.seq (.reg [⟨(some 263), (.mov (.t 22)), none⟩,
 ⟨(some 264), (.bin .neq .num (.t 263) (.k (.int .i64 0))), none⟩])
 (.cond (.t 264)
 (.seq (.reg [⟨(some 265), (.mov (.t 22)), none⟩,
 ⟨(some 266), (.bin .eql .num (.t 265) (.k (.int .i64 9))), none⟩,
 ⟨(some 267), (.mov (.t 24)), none⟩,
 ⟨(some 268), (.un .not (.t 267)), none⟩,
 ⟨(some 269), (.bin .eql .bool (.t 266) (.t 268)), none⟩,
 ⟨(some 270), (.mov (.t 269)), none⟩,
 ⟨(some 271), (.mov (.t 22)), some (270, true)⟩,
 ⟨(some 272), (.bin .eql .num (.t 271) (.k (.int .i64 9))), some (270, true)⟩,
 ⟨(some 273), (.mov (.t 272)), some (270, true)⟩,
 ⟨(some 274), (.mov (.t 22)), some (273, false)⟩,
 ⟨(some 275), (.bin .eql .num (.t 274) (.k (.int .i64 13))), some (273, false)⟩,
 ⟨(some 276), (.pick (.t 273) (.k (.bool true)) (.t 275)), some (270, true)⟩,
 ⟨(some 277), (.pick (.t 270) (.t 276) (.k (.bool false))), none⟩,
 ⟨(some 278), (.mov (.t 277)), none⟩,
 ⟨(some 279), (.mov (.t 21)), some (278, true)⟩,
 ⟨(some 280), (.bin .eql .str (.t 279) (.k (.str []))), some (278, true)⟩,
 ⟨(some 281), (.pick (.t 278) (.t 280) (.k (.bool false))), none⟩,
 ⟨(some 282), (.mov (.t 281)), none⟩,
 ⟨(some 283), (.load 4 true (.t 20)), some (282, true)⟩,
 ⟨(some 284), (.load 4 true (.t 7)), some (282, true)⟩,
 ⟨(some 285), (.call (.k (.fn (.func 16) [] [])) [(.t 283), (.t 284)]), some (282, true)⟩,
 ⟨(some 286), (.pick (.t 282) (.t 285) (.k (.bool false))), none⟩,
 ⟨(some 4), (.mov (.t 286)), none⟩])
 .ret)
 .skip))
 (.seq (.dreg [⟨(some 287), (.mov (.t 0)), none⟩,
 ⟨(some 288), (.mov (.t 5)), none⟩,
 ⟨(some 289), (.load 4 true (.t 20)), none⟩,
 ⟨(some 290), (.nilck (.t 287)), none⟩,
 ⟨(some 291), (.fad 2 (.t 290)), none⟩,
 ⟨(some 292), (.iada 3 4 (.t 291) (.t 288)), none⟩,
 ⟨none, (.store 4 (.t 292) (.t 289)), none⟩] (.lin [] [(0, none), (1, none), (2, none), (3, none), (4, none), (5, none), (6, some [])]))
 (.seq (.reg [⟨(some 293), (.mov (.t 0)), none⟩,
 ⟨(some 294), (.mov (.t 5)), none⟩,
 ⟨(some 295), (.mov (.t 6)), none⟩,
 ⟨(some 296), (.mov (.t 21)), none⟩,
 ⟨(some 297), (.mov (.t 19)), none⟩,
 ⟨(some 298), (.call (.k (.fn (.func 35) [] [])) [(.t 293), (.t 294), (.t 295), (.t 296), (.t 297)]), none⟩])
 (.seq (.reg [⟨(some 299), (.mov (.t 24)), none⟩,
 ⟨(some 4), (.mov (.t 299)), none⟩])
 .ret)))))))
 .skip))))))))
 (.seq (.seq (.reg [⟨(some 300), (.mov (.t 0)), none⟩,
 ⟨(some 301), (.mov (.t 5)), none⟩,
 ⟨(some 302), (.nilck (.t 300)), none⟩,
 ⟨(some 303), (.fad 20 (.t 302)), none⟩,
 ⟨(some 304), (.iada 3 1 (.t 303) (.t 301)), none⟩,
 ⟨(some 305), (.load 1 false (.t 304)), none⟩,
 ⟨(some 306), (.len .slc (.t 305)), none⟩,
 ⟨(some 307), (.bin .eql .num (.t 306) (.k (.int .i64 0))), none⟩])
 (.cond (.t 307)
 (.seq (.reg [⟨(some 4), (.mov (.k (.bool true))), none⟩])
 .ret)
 .skip))
 (.seq (.dreg [⟨(some 308), (.fad 3 (.t 3)), none⟩,
 ⟨(some 309), (.load 1 false (.t 308)), none⟩,
 ⟨(some 310), (.cvi .i64 (.t 309)), none⟩,
 ⟨(some 311), (.mov (.t 0)), none⟩,
 ⟨(some 312), (.mov (.t 5)), none⟩,
 ⟨(some 313), (.nilck (.t 311)), none⟩,
 ⟨(some 314), (.fad 20 (.t 313)), none⟩,
 ⟨(some 315), (.iada 3 1 (.t 314) (.t 312)), none⟩,
 ⟨(some 316), (.load 1 false (.t 315)), none⟩,
 ⟨(some 317), (.len .slc (.t 316)), none⟩,
 ⟨(some 318), (.bin .rem .num (.t 310) (.t 317)), none⟩,
 ⟨(some 25), (.mov (.t 318)), none⟩] (.lin [] [(0, none), (1, none), (2, none), (3, none), (4, none), (5, none), (6, none), (7, none), (8, none), (9, none), (10, none), (11, none)]))
 (.seq (.reg [⟨(some 319), (.mov (.t 0)), none⟩,
 ⟨(some 320), (.mov (.t 5)), none⟩,
 ⟨(some 321), (.nilck (.t 319)), none⟩,
 ⟨(some 322), (.fad 20 (.t 321)), none⟩,
 ⟨(some 323), (.iada 3 1 (.t 322) (.t 320)), none⟩,
 ⟨(some 324), (.load 1 false (.t 323)), none⟩,
 ⟨(some 325), (.mov (.t 25)), none⟩,
 ⟨(some 326), (.iad 4 (.t 324) (.t 325)), none⟩,
 ⟨(some 327), (.load 4 true (.t 326)), none⟩,
 ⟨(some 26), (.new [(.int .i64 0), (.str []), (.str []), (.int .i64 0)] none), none⟩,
 ⟨none, (.store 4 (.t 26) (.t 327)), none⟩])
 (.seq (.seq (.reg [⟨(some 328), (.fad 0 (.t 3)), none⟩,
 ⟨(some 329), (.load 1 false (.t 328)), none⟩,
 ⟨(some 330), (.bin .rem .num (.t 329) (.k (.int .u8 8))), none⟩,
 ⟨(some 331), (.bin .neq .num (.t 330) (.k (.int .u8 6))), none⟩])
 (.cond (.t 331)
 (.seq (.reg [⟨(some 332), (.mov (.t 0)), none⟩,
 ⟨(some 333), (.mov (.t 5)), none⟩,
 ⟨(some 334), (.nilck (.t 332)), none⟩,
 ⟨(some 335), (.fad 20 (.t 334)), none⟩,
 ⟨(some 336), (.iada 3 1 (.t 335) (.t 333)), none⟩,
 ⟨(some 337), (.load 1 false (.t 336)), none⟩,
 ⟨(some 338), (.mov (.t 25)), none⟩,
 ⟨(some 339), (.slc false 4 (.t 337) none (some (.t 338)) none), none⟩,
 ⟨(some 340), (.app 4 48 true none (.k .nsl) (.t 339)), none⟩,
 ⟨(some 27), (.mov (.t 340)), none⟩])
 (.dreg [⟨(some 341), (.mov (.t 0)), none⟩,
 ⟨(some 342), (.mov (.t 5)), none⟩,
 ⟨(some 343), (.mov (.t 27)), none⟩,
 ⟨(some 344), (.mov (.t 0)), none⟩,
 ⟨(some 345), (.mov (.t 5)), none⟩,
 ⟨(some 346), (.nilck (.t 344)), none⟩,
 ⟨(some 347), (.fad 20 (.t 346)), none⟩,
 ⟨(some 348), (.iada 3 1 (.t 347) (.t 345)), none⟩,
 ⟨(some 349), (.load 1 false (.t 348)), none⟩,
 ⟨(some 350), (.mov (.t 25)), none⟩,
 ⟨(some 351), (.bin .add .num (.t 350) (.k (.int .i64 1))), none⟩,
 ⟨(some 352), (.slc false 4 (.t 349) (some (.t 351)) none none), none⟩,
 ⟨(some 353), (.app 4 48 true none (.t 343) (.t 352)), none⟩,
 ⟨(some 354), (.nilck (.t 341)), none⟩,
 ⟨(some 355), (.fad 20 (.t 354)), none⟩,
 ⟨(some 356), (.iada 3 1 (.t 355) (.t 342)), none⟩,
 ⟨none, (.store 1 (.t 356) (.t 353)), none⟩] (.lin [] [(0, none), (1, none), (2, none), (3, none), (4, none), (5, none), (6, none), (7, none), (8, none), (9, none), (10, none), (11, none), (13, none), (14, none), (12, some [0, 1, 13, 14]), (15, none), (16, some [])])))
 .skip))
 (.seq (.reg [⟨(some 357), (.fad 0 (.t 3)), none⟩,
 ⟨(some 358), (.load 1 false (.t 357)), none⟩,
 ⟨(some 359), (.bin .rem .num (.t 358) (.k (.int .u8 8))), none⟩,
 ⟨(some 360), (.bin .eql .num (.t 359) (.k (.int .u8 7))), none⟩,
 ⟨(some 361), (.mov (.t 360)), none⟩,
 ⟨(some 362), (.mov (.t 0)), some (361, false)⟩,
 ⟨(some 363), (.mov (.t 5)), some (361, false)⟩,
 ⟨(some 364), (.load 4 true (.t 26)), some (361, false)⟩,
 ⟨(some 365), (.call (.k (.fn (.func 37) [] [])) [(.t 362), (.t 363), (.t 364)]), some (361, false)⟩,
 ⟨(some 366), (.pick (.t 361) (.k (.bool true)) (.t 365)), none⟩,
 ⟨(some 4), (.mov (.t 366)), none⟩])
 .ret)))))))))⟩

/-- 14: signetring/session.Open -/
def F14 : Fun :=
 ⟨58, 5, [.c 10 4 true, .c 11 1 false, .c 12 1 false],
 (.seq (.reg [⟨(some 6), (.box none (.t 1)), none⟩,
 ⟨(some 10), (.new [(.str []), .nsl, (.int .u64 0), .nsl] none), none⟩,
 ⟨(some 11), (.new [(.str [])] none), none⟩,
 ⟨(some 12), (.new [(.int .i64 0)] none), none⟩])
 (.seq (.reg [⟨(some 17), (.mkf (.func 39) [] [(.t 6), (.t 10), (.t 11)]), none⟩,
 ⟨none, (.dfr (.k (.fn (.func 38) [] [])) [(.t 12), (.t 17)]), none⟩])
 (.seq (.reg [⟨(some 18), (.mov (.t 0)), none⟩,
 ⟨(some 19), (.mov (.t 4)), none⟩,
 ⟨(some 20), (.mks true 1 16 false [(.str [])] 1 [(0, (.t 19))]), none⟩,
 ⟨(some 21), (.call (.k (.fn (.func 41) [] [])) [(.t 18), (.t 20)]), none⟩])
 (.seq (.seq (.reg [⟨(some 23), (.mov (.t 3)), none⟩,
 ⟨(some 24), (.call (.k (.fn (.func 42) [] [])) [(.t 23), (.k (.int .u8 73)), (.k (.int .i64 3))]), none⟩,
 ⟨(some 22), (.mov (.t 24)), none⟩,
 ⟨(some 25), (.ext (.t 22) 0), none⟩,
 ⟨(some 26), (.ext (.t 22) 1), none⟩,
 ⟨(some 13), (.mov (.t 25)), none⟩,
 ⟨(some 14), (.mov (.t 26)), none⟩])
 (.seq (.reg [⟨(some 27), (.mov (.t 14)), none⟩,
 ⟨(some 28), (.bin .eql .num (.t 27) (.k (.int .i64 0))), none⟩])
 (.cond (.t 28)
 (.seq (.reg [⟨(some 30), (.load 4 true (.t 6)), none⟩,
 ⟨(some 31), (.mov (.t 0)), none⟩,
 ⟨(some 32), (.mov (.t 2)), none⟩,
 ⟨(some 33), (.mov (.t 13)), none⟩,
 ⟨(some 34), (.call (.k (.fn (.func 43) [] [])) [(.t 30), (.t 31), (.t 32), (.t 33)]), none⟩,
 ⟨(some 29), (.mov (.t 34)), none⟩,
 ⟨(some 35), (.ext (.t 29) 0), none⟩,
 ⟨(some 36), (.ext (.t 29) 1), none⟩,
 ⟨none, (.store 4 (.t 10) (.t 35)), none⟩,
 ⟨none, (.store 1 (.t 11) (.t 36)), none⟩])
 (.seq (.dreg [⟨(some 37), (.load 4 true (.t 10)), none⟩,
 ⟨(some 38), (.load 1 false (.t 11)), none⟩,
 ⟨none, (.store 4 (.t 10) (.t 37)), none⟩,
 ⟨none, (.store 1 (.t 11) (.t 38)), none⟩,
 ⟨none, (.store 1 (.t 12) (.k (.int .i64 0))), none⟩] (.lin [] [(0, none), (1, none), (2, some [1]), (3, some []), (4, some [])]))
 .ret))
 .skip)))
 (.seq (.reg [⟨(some 40), (.mov (.t 3)), none⟩,
 ⟨(some 41), (.call (.k (.fn (.func 42) [] [])) [(.t 40), (.k (.int .u8 82)), (.k (.int .i64 2))]), none⟩,
 ⟨(some 39), (.mov (.t 41)), none⟩,
 ⟨(some 42), (.ext (.t 39) 0), none⟩,
 ⟨(some 43), (.ext (.t 39) 1), none⟩,
 ⟨(some 15), (.mov (.t 42)), none⟩,
 ⟨(some 16), (.mov (.t 43)), none⟩])
 (.seq (.reg [⟨(some 44), (.mov (.t 16)), none⟩,
 ⟨(some 45), (.bin .eql .num (.t 44) (.k (.int .i64 0))), none⟩,
 ⟨(some 46), (.call (.k (.fn (.func 44) [] [])) [(.t 45), (.k (.int .i64 4))]), none⟩])
 (.seq (.reg [⟨(some 48), (.load 4 true (.t 6)), none⟩,
 ⟨(some 49), (.mov (.t 0)), none⟩,
 ⟨(some 50), (.mov (.t 2)), none⟩,
 ⟨(some 51), (.mov (.t 15)), none⟩,
 ⟨(some 52), (.mov (.t 4)), none⟩,
 ⟨(some 53), (.call (.k (.fn (.func 45) [] [])) [(.t 48), (.t 49), (.t 50), (.t 51), (.t 52)]), none⟩,
 ⟨(some 47), (.mov (.t 53)), none⟩,
 ⟨(some 54), (.ext (.t 47) 0), none⟩,
 ⟨(some 55), (.ext (.t 47) 1), none⟩,
 ⟨none, (.store 4 (.t 10) (.t 54)), none⟩,
 ⟨none, (.store 1 (.t 11) (.t 55)), none⟩])
 (.seq (.dreg [⟨(some 56), (.load 4 true (.t 10)), none⟩,
 ⟨(some 57), (.load 1 false (.t 11)), none⟩,
 ⟨none, (.store 4 (.t 10) (.t 56)), none⟩,
 ⟨none, (.store 1 (.t 11) (.t 57)), none⟩,
 ⟨none, (.store 1 (.t 12) (.k (.int .i64 0))), none⟩] (.lin [] [(0, none), (1, none), (2, some [1]), (3, some []), (4, some [])]))
 .ret))))))))⟩

/-- 15: (*signetring/signetringlaw19.world).draw -/
def F15 : Fun :=
 ⟨29, 1, [.t 2],
 (.seq (.reg [⟨(some 2), (.mov (.k (.str []))), none⟩])
 (.seq (.reg [⟨(some 3), (.mov (.t 0)), none⟩,
 ⟨(some 4), (.nilck (.t 3)), none⟩,
 ⟨(some 5), (.fad 24 (.t 4)), none⟩,
 ⟨(some 6), (.load 1 false (.t 5)), none⟩,
 ⟨(some 7), (.bin .add .num (.t 6) (.k (.int .i64 1))), none⟩,
 ⟨(some 8), (.nilck (.t 3)), none⟩,
 ⟨(some 9), (.fad 24 (.t 8)), none⟩,
 ⟨none, (.store 1 (.t 9) (.t 7)), none⟩])
 (.seq (.dreg [⟨(some 10), (.mov (.t 0)), none⟩,
 ⟨(some 11), (.nilck (.t 10)), none⟩,
 ⟨(some 12), (.fad 1 (.t 11)), none⟩,
 ⟨(some 13), (.load 1 false (.t 12)), none⟩,
 ⟨(some 14), (.mov (.t 0)), none⟩,
 ⟨(some 15), (.nilck (.t 14)), none⟩,
 ⟨(some 16), (.fad 24 (.t 15)), none⟩,
 ⟨(some 17), (.load 1 false (.t 16)), none⟩,
 ⟨(some 18), (.bin .shr .num (.t 17) (.k (.int .u64 8))), none⟩,
 ⟨(some 19), (.cvi .u8 (.t 18)), none⟩,
 ⟨(some 20), (.mov (.t 0)), none⟩,
 ⟨(some 21), (.nilck (.t 20)), none⟩,
 ⟨(some 22), (.fad 24 (.t 21)), none⟩,
 ⟨(some 23), (.load 1 false (.t 22)), none⟩,
 ⟨(some 24), (.cvi .u8 (.t 23)), none⟩,
 ⟨(some 25), (.mks true 1 1 false [(.int .u8 0), (.int .u8 0)] 2 [(0, (.t 19)), (1, (.t 24))]), none⟩,
 ⟨(some 26), (.b2s (.t 25)), none⟩,
 ⟨(some 27), (.bin .add .str (.k (.str [100, 114, 97, 119, 32])) (.t 26)), none⟩,
 ⟨(some 28), (.call (.k (.fn (.func 46) [] [])) [(.t 13), (.t 27)]), none⟩,
 ⟨(some 2), (.mov (.t 28)), none⟩] (.lin [] [(0, none), (1, none), (2, none), (3, none), (4, none), (5, none), (6, none), (7, none), (8, none), (9, none), (10, none), (11, none), (12, none), (13, none), (14, none), (15, none), (16, none), (17, none), (18, some []), (19, none)]))
 .ret)))⟩

/-- 16: signetring/session.Same -/
def F16 : Fun :=
 ⟨33, 2, [.t 4],
 (.seq (.reg [⟨(some 2), (.box none (.t 0)), none⟩,
 ⟨(some 3), (.box none (.t 1)), none⟩,
 ⟨(some 4), (.mov (.k (.bool false))), none⟩])
 (.seq (.reg [⟨(some 5), (.mov (.k (.fn (.func 47) [] []))), none⟩])
 (.seq (.reg [⟨(some 6), (.fad 0 (.t 2)), none⟩,
 ⟨(some 7), (.load 1 false (.t 6)), none⟩,
 ⟨(some 8), (.fad 0 (.t 3)), none⟩,
 ⟨(some 9), (.load 1 false (.t 8)), none⟩,
 ⟨(some 10), (.bin .eql .str (.t 7) (.t 9)), none⟩,
 ⟨(some 11), (.mov (.t 10)), none⟩,
 ⟨(some 12), (.fad 2 (.t 2)), some (11, true)⟩,
 ⟨(some 13), (.load 1 false (.t 12)), some (11, true)⟩,
 ⟨(some 14), (.fad 2 (.t 3)), some (11, true)⟩,
 ⟨(some 15), (.load 1 false (.t 14)), some (11, true)⟩,
 ⟨(some 16), (.bin .eql .num (.t 13) (.t 15)), some (11, true)⟩,
 ⟨(some 17), (.pick (.t 11) (.t 16) (.k (.bool false))), none⟩,
 ⟨(some 18), (.mov (.t 17)), none⟩,
 ⟨(some 19), (.fad 1 (.t 2)), some (18, true)⟩,
 ⟨(some 20), (.load 1 false (.t 19)), some (18, true)⟩,
 ⟨(some 21), (.fad 1 (.t 3)), some (18, true)⟩,
 ⟨(some 22), (.load 1 false (.t 21)), some (18, true)⟩,
 ⟨(some 23), (.call (.k (.fn (.func 49) [] [])) [(.t 20), (.t 22)]), some (18, true)⟩,
 ⟨(some 24), (.pick (.t 18) (.t 23) (.k (.bool false))), none⟩,
 ⟨(some 25), (.mov (.t 24)), none⟩,
 ⟨(some 26), (.fad 3 (.t 2)), some (25, true)⟩,
 ⟨(some 27), (.load 1 false (.t 26)), some (25, true)⟩,
 ⟨(some 28), (.fad 3 (.t 3)), some (25, true)⟩,
 ⟨(some 29), (.load 1 false (.t 28)), some (25, true)⟩,
 ⟨(some 30), (.mov (.t 5)), some (25, true)⟩,
 ⟨(some 31), (.call (.k (.fn (.func 50) [] [])) [(.t 27), (.t 29), (.t 30)]), some (25, true)⟩,
 ⟨(some 32), (.pick (.t 25) (.t 31) (.k (.bool false))), none⟩,
 ⟨(some 4), (.mov (.t 32)), none⟩])
 .ret)))⟩

/-- 17: signetring/session.Find -/
def F17 : Fun :=
 ⟨19, 2, [.c 4 15 true, .t 5],
 (.seq (.reg [⟨(some 2), (.box none (.t 0)), none⟩,
 ⟨(some 4), (.new [(.str []), (.int .u64 0), (.str []), (.str []), (.str []), (.str []), (.int .i64 0), (.str []), (.int .i64 0), (.str []), (.str []), (.str []), (.str []), (.int .i64 0), .nsl] none), none⟩,
 ⟨(some 5), (.mov (.k (.bool false))), none⟩])
 (.seq (.reg [⟨(some 7), (.load 4 true (.t 2)), none⟩,
 ⟨(some 8), (.mov (.t 1)), none⟩,
 ⟨(some 9), (.call (.k (.fn (.func 51) [] [])) [(.t 7), (.t 8)]), none⟩,
 ⟨(some 6), (.mov (.t 9)), none⟩])
 (.seq (.seq (.reg [⟨(some 10), (.mov (.t 6)), none⟩,
 ⟨(some 11), (.bin .lss .num (.t 10) (.k (.int .i64 0))), none⟩])
 (.cond (.t 11)
 (.seq (.reg [⟨(some 12), (.build [(.str []), (.int .u64 0), (.str []), (.str []), (.str []), (.str []), (.int .i64 0), (.str []), (.int .i64 0), (.str []), (.str []), (.str []), (.str []), (.int .i64 0), .nsl] []), none⟩,
 ⟨none, (.store 15 (.t 4) (.t 12)), none⟩,
 ⟨(some 5), (.mov (.k (.bool false))), none⟩])
 .ret)
 .skip))
 (.seq (.reg [⟨(some 13), (.load 4 true (.t 2)), none⟩,
 ⟨(some 14), (.call (.k (.fn (.func 40) [] [])) [(.t 13)]), none⟩,
 ⟨(some 15), (.fld 3 1 false (.t 14)), none⟩,
 ⟨(some 16), (.mov (.t 6)), none⟩,
 ⟨(some 17), (.iad 15 (.t 15) (.t 16)), none⟩,
 ⟨(some 18), (.load 15 true (.t 17)), none⟩,
 ⟨none, (.store 15 (.t 4) (.t 18)), none⟩,
 ⟨(some 5), (.mov (.k (.bool true))), none⟩])
 .ret))))⟩

/-- 18: signetring/session.Offer -/
def F18 : Fun :=
 ⟨45, 3, [.c 6 4 true, .c 7 3 true, .c 8 1 false],
 (.seq (.reg [⟨(some 4), (.box none (.t 1)), none⟩,
 ⟨(some 6), (.new [(.str []), .nsl, (.int .u64 0), .nsl] none), none⟩,
 ⟨(some 7), (.new [(.str []), (.str []), (.int .u64 0)] none), none⟩,
 ⟨(some 8), (.new [(.int .i64 0)] none), none⟩])
 (.seq (.reg [⟨(some 9), (.mkf (.func 52) [] [(.t 4), (.t 6), (.t 7)]), none⟩,
 ⟨none, (.dfr (.k (.fn (.func 38) [] [])) [(.t 8), (.t 9)]), none⟩])
 (.seq (.reg [⟨(some 10), (.mov (.t 0)), none⟩,
 ⟨(some 11), (.mov (.t 2)), none⟩,
 ⟨(some 12), (.mks true 1 16 false [(.str [])] 1 [(0, (.t 11))]), none⟩,
 ⟨(some 13), (.call (.k (.fn (.func 41) [] [])) [(.t 10), (.t 12)]), none⟩])
 (.seq (.reg [⟨(some 14), (.fad 1 (.t 4)), none⟩,
 ⟨(some 15), (.load 1 false (.t 14)), none⟩,
 ⟨(some 16), (.len .slc (.t 15)), none⟩,
 ⟨(some 17), (.bin .lss .num (.t 16) (.k (.int .i64 20))), none⟩,
 ⟨(some 18), (.call (.k (.fn (.func 44) [] [])) [(.t 17), (.k (.int .i64 11))]), none⟩])
 (.seq (.reg [⟨(some 19), (.load 4 true (.t 4)), none⟩,
 ⟨(some 20), (.call (.k (.fn (.func 40) [] [])) [(.t 19)]), none⟩,
 ⟨none, (.store 4 (.t 6) (.t 20)), none⟩])
 (.seq (.reg [⟨(some 21), (.fad 2 (.t 6)), none⟩,
 ⟨(some 22), (.load 1 false (.t 21)), none⟩,
 ⟨(some 23), (.bin .add .num (.t 22) (.k (.int .u64 1))), none⟩,
 ⟨(some 24), (.fad 2 (.t 6)), none⟩,
 ⟨none, (.store 1 (.t 24) (.t 23)), none⟩])
 (.seq (.reg [⟨(some 25), (.fad 1 (.t 6)), none⟩,
 ⟨(some 26), (.load 1 false (.t 25)), none⟩,
 ⟨(some 27), (.fad 2 (.t 6)), none⟩,
 ⟨(some 28), (.load 1 false (.t 27)), none⟩,
 ⟨(some 29), (.mov (.t 2)), none⟩,
 ⟨(some 30), (.build [(.int .u64 0), (.str [])] [(0, 1, (.t 28)), (1, 1, (.t 29))]), none⟩,
 ⟨(some 31), (.mks true 2 24 true [(.int .u64 0), (.str [])] 1 [(0, (.t 30))]), none⟩,
 ⟨(some 32), (.app 2 24 true none (.t 26) (.t 31)), none⟩,
 ⟨(some 33), (.fad 1 (.t 6)), none⟩,
 ⟨none, (.store 1 (.t 33) (.t 32)), none⟩])
 (.seq (.dreg [⟨(some 34), (.load 4 true (.t 6)), none⟩,
 ⟨(some 35), (.mov (.t 0)), none⟩,
 ⟨(some 36), (.fad 0 (.t 4)), none⟩,
 ⟨(some 37), (.load 1 false (.t 36)), none⟩,
 ⟨(some 38), (.inv (.t 35) "Pub" [(.t 37)]), none⟩,
 ⟨(some 39), (.mov (.t 0)), none⟩,
 ⟨(some 40), (.mov (.t 2)), none⟩,
 ⟨(some 41), (.inv (.t 39) "Pub" [(.t 40)]), none⟩,
 ⟨(some 42), (.fad 2 (.t 6)), none⟩,
 ⟨(some 43), (.load 1 false (.t 42)), none⟩,
 ⟨(some 44), (.build [(.str []), (.str []), (.int .u64 0)] [(0, 1, (.t 38)), (1, 1, (.t 41)), (2, 1, (.t 43))]), none⟩,
 ⟨none, (.store 4 (.t 6) (.t 34)), none⟩,
 ⟨none, (.store 3 (.t 7) (.t 44)), none⟩,
 ⟨none, (.store 1 (.t 8) (.k (.int .i64 0))), none⟩] (.lin [] [(0, none), (1, none), (2, none), (3, none), (5, none), (6, none), (8, none), (9, none), (4, some [0, 5, 6, 8, 9]), (7, some [0, 8, 9]), (10, none), (11, some [10]), (12, some []), (13, some [])]))
 .ret))))))))⟩

/-- 20: signetring/prims.Symbol -/
def F20 : Fun :=
 ⟨8, 1, [.t 2],
 (.seq (.reg [⟨(some 2), (.mov (.k .nifc)), none⟩])
 (.seq (.seq (.reg [⟨(some 3), (.mov (.t 0)), none⟩,
 ⟨(some 4), (.bin .eql .ptr (.t 3) (.k .nptr)), none⟩])
 (.cond (.t 4)
 (.seq (.reg [⟨(some 2), (.mov (.k .nifc)), none⟩])
 .ret)
 .skip))
 (.seq (.reg [⟨(some 5), (.mov (.t 0)), none⟩,
 ⟨(some 6), (.build [.nptr] [(0, 1, (.t 5))]), none⟩,
 ⟨(some 7), (.mki 139 (.t 6)), none⟩,
 ⟨(some 2), (.mov (.t 7)), none⟩])
 .ret)))⟩

/-- 21: signetring/term.New -/
def F21 : Fun :=
 ⟨5, 0, [.t 0],
 (.seq (.reg [⟨(some 0), (.mov (.k .nptr)), none⟩])
 (.seq (.reg [⟨(some 1), .mkm, none⟩,
 ⟨(some 2), .mkm, none⟩,
 ⟨(some 3), (.build [.nmap, .nmap, .nsl] [(0, 1, (.t 1)), (1, 1, (.t 2))]), none⟩,
 ⟨(some 4), (.box none (.t 3)), none⟩,
 ⟨(some 0), (.mov (.t 4)), none⟩])
 .ret))⟩

/-- 32: signetring/session.New -/
def F32 : Fun :=
 ⟨13, 2, [.c 4 4 true, .c 5 1 false],
 (.seq (.reg [⟨(some 4), (.new [(.str []), .nsl, (.int .u64 0), .nsl] none), none⟩,
 ⟨(some 5), (.new [(.int .i64 0)] none), none⟩])
 (.seq (.reg [⟨(some 6), (.mkf (.func 76) [] [(.t 4)]), none⟩,
 ⟨none, (.dfr (.k (.fn (.func 38) [] [])) [(.t 5), (.t 6)]), none⟩])
 (.seq (.reg [⟨(some 7), (.mov (.t 0)), none⟩,
 ⟨(some 8), (.mov (.t 1)), none⟩,
 ⟨(some 9), (.mks true 1 16 false [(.str [])] 1 [(0, (.t 8))]), none⟩,
 ⟨(some 10), (.call (.k (.fn (.func 41) [] [])) [(.t 7), (.t 9)]), none⟩])
 (.seq (.reg [⟨(some 11), (.mov (.t 1)), none⟩,
 ⟨(some 12), (.build [(.str []), .nsl, (.int .u64 0), .nsl] [(0, 1, (.t 11))]), none⟩,
 ⟨none, (.store 4 (.t 4) (.t 12)), none⟩,
 ⟨none, (.store 1 (.t 5) (.k (.int .i64 0))), none⟩])
 .ret))))⟩

/-- 33: (*signetring/signetringlaw19.world).text -/
def F33 : Fun :=
 ⟨22, 1, [.t 2],
 (.seq (.reg [⟨(some 2), (.mov (.k (.str []))), none⟩])
 (.seq (.dreg [⟨(some 3), (.mov (.t 0)), none⟩,
 ⟨(some 4), (.nilck (.t 3)), none⟩,
 ⟨(some 5), (.fad 1 (.t 4)), none⟩,
 ⟨(some 6), (.load 1 false (.t 5)), none⟩,
 ⟨(some 7), (.mov (.t 0)), none⟩,
 ⟨(some 8), (.nilck (.t 7)), none⟩,
 ⟨(some 9), (.fad 25 (.t 8)), none⟩,
 ⟨(some 10), (.load 1 false (.t 9)), none⟩,
 ⟨(some 11), (.bin .shr .num (.t 10) (.k (.int .u64 8))), none⟩,
 ⟨(some 12), (.cvi .u8 (.t 11)), none⟩,
 ⟨(some 13), (.mov (.t 0)), none⟩,
 ⟨(some 14), (.nilck (.t 13)), none⟩,
 ⟨(some 15), (.fad 25 (.t 14)), none⟩,
 ⟨(some 16), (.load 1 false (.t 15)), none⟩,
 ⟨(some 17), (.cvi .u8 (.t 16)), none⟩,
 ⟨(some 18), (.mks true 1 1 false [(.int .u8 0), (.int .u8 0)] 2 [(0, (.t 12)), (1, (.t 17))]), none⟩,
 ⟨(some 19), (.b2s (.t 18)), none⟩,
 ⟨(some 20), (.bin .add .str (.k (.str [116, 101, 120, 116, 32])) (.t 19)), none⟩,
 ⟨(some 21), (.call (.k (.fn (.func 46) [] [])) [(.t 6), (.t 20)]), none⟩,
 ⟨(some 2), (.mov (.t 21)), none⟩] (.lin [] [(0, none), (1, none), (2, none), (3, none), (4, none), (5, none), (6, none), (7, none), (8, none), (9, none), (10, none), (11, none), (12, none), (13, none), (14, none), (15, none), (16, none), (17, none), (18, some []), (19, none)]))
 .ret))⟩

/-- 34: signetring/session.Begin -/
def F34 : Fun :=
 ⟨103, 5, [.c 10 4 true, .c 11 1 false, .c 12 1 false],
 (.seq (.reg [⟨(some 6), (.box none (.t 1)), none⟩,
 ⟨(some 7), (.box none (.t 2)), none⟩,
 ⟨(some 9), (.box none (.t 4)), none⟩,
 ⟨(some 10), (.new [(.str []), .nsl, (.int .u64 0), .nsl] none), none⟩,
 ⟨(some 11), (.new [(.str [])] none), none⟩,
 ⟨(some 12), (.new [(.int .i64 0)] none), none⟩])
 (.seq (.reg [⟨(some 20), (.mkf (.func 77) [] [(.t 6), (.t 10), (.t 11)]), none⟩,
 ⟨none, (.dfr (.k (.fn (.func 38) [] [])) [(.t 12), (.t 20)]), none⟩])
 (.seq (.reg [⟨(some 21), (.mov (.t 0)), none⟩,
 ⟨(some 22), (.slca 2 1 false (.t 9) none none none), none⟩,
 ⟨(some 23), (.call (.k (.fn (.func 41) [] [])) [(.t 21), (.t 22)]), none⟩])
 (.seq (.dreg [⟨(some 24), (.fad 0 (.t 7)), none⟩,
 ⟨(some 25), (.load 1 false (.t 24)), none⟩,
 ⟨(some 26), (.mov (.t 0)), none⟩,
 ⟨(some 27), (.fad 0 (.t 6)), none⟩,
 ⟨(some 28), (.load 1 false (.t 27)), none⟩,
 ⟨(some 29), (.inv (.t 26) "Pub" [(.t 28)]), none⟩,
 ⟨(some 30), (.bin .neq .str (.t 25) (.t 29)), none⟩,
 ⟨(some 31), (.call (.k (.fn (.func 44) [] [])) [(.t 30), (.k (.int .i64 10))]), none⟩] (.lin [] [(0, none), (1, none), (2, none), (3, none), (4, none), (5, some [0, 1]), (6, none), (7, some [])]))
 (.seq (.reg [⟨(some 33), (.load 4 true (.t 6)), none⟩,
 ⟨(some 34), (.fad 0 (.t 7)), none⟩,
 ⟨(some 35), (.load 1 false (.t 34)), none⟩,
 ⟨(some 36), (.call (.k (.fn (.func 17) [] [])) [(.t 33), (.t 35)]), none⟩,
 ⟨(some 32), (.mov (.t 36)), none⟩,
 ⟨(some 37), (.ext (.t 32) 0), none⟩,
 ⟨(some 38), (.ext (.t 32) 1), none⟩,
 ⟨(some 13), (.new [(.str []), (.int .u64 0), (.str []), (.str []), (.str []), (.str []), (.int .i64 0), (.str []), (.int .i64 0), (.str []), (.str []), (.str []), (.str []), (.int .i64 0), .nsl] none), none⟩,
 ⟨none, (.store 15 (.t 13) (.t 37)), none⟩,
 ⟨(some 14), (.mov (.t 38)), none⟩])
 (.seq (.reg [⟨(some 39), (.fad 1 (.t 13)), none⟩,
 ⟨(some 40), (.load 1 false (.t 39)), none⟩,
 ⟨(some 41), (.bin .add .num (.t 40) (.k (.int .u64 1))), none⟩,
 ⟨(some 15), (.mov (.t 41)), none⟩])
 (.seq (.dreg [⟨(some 43), (.mov (.t 0)), none⟩,
 ⟨(some 44), (.fad 0 (.t 6)), none⟩,
 ⟨(some 45), (.load 1 false (.t 44)), none⟩,
 ⟨(some 46), (.iada 2 1 (.t 9) (.k (.int .i64 0))), none⟩,
 ⟨(some 47), (.load 1 false (.t 46)), none⟩,
 ⟨(some 48), (.fad 0 (.t 7)), none⟩,
 ⟨(some 49), (.load 1 false (.t 48)), none⟩,
 ⟨(some 50), (.load 3 true (.t 7)), none⟩,
 ⟨(some 51), (.mov (.t 15)), none⟩,
 ⟨(some 52), (.call (.k (.fn (.func 79) [] [])) [(.t 50), (.t 51)]), none⟩,
 ⟨(some 53), (.mov (.t 3)), none⟩,
 ⟨(some 54), (.call (.k (.fn (.func 78) [] [])) [(.t 43), (.t 45), (.t 47), (.t 49), (.t 52), (.t 53)]), none⟩,
 ⟨(some 42), (.mov (.t 54)), none⟩,
 ⟨(some 55), (.ext (.t 42) 0), none⟩,
 ⟨(some 56), (.ext (.t 42) 1), none⟩,
 ⟨(some 57), (.ext (.t 42) 2), none⟩,
 ⟨(some 17), (.new [(.str []), (.str []), (.str []), (.str [])] none), none⟩,
 ⟨(some 16), (.mov (.t 55)), none⟩,
 ⟨none, (.store 4 (.t 17) (.t 56)), none⟩,
 ⟨none, (.store 1 (.t 12) (.t 57)), none⟩] (.lin [16] [(0, none), (1, none), (2, none), (3, none), (4, none), (5, none), (6, none), (7, none), (8, none), (10, none), (9, some [0, 1, 2, 3, 4, 5, 6, 10]), (11, some []), (12, none), (13, none), (14, none), (15, none), (17, none), (18, some [15]), (19, some [])]))
 (.seq (.reg [⟨(some 58), (.load 1 false (.t 12)), none⟩,
 ⟨(some 59), (.bin .eql .num (.t 58) (.k (.int .i64 0))), none⟩,
 ⟨(some 60), (.load 1 false (.t 12)), none⟩,
 ⟨(some 61), (.call (.k (.fn (.func 44) [] [])) [(.t 59), (.t 60)]), none⟩])
 (.seq (.reg [⟨(some 62), (.mov (.t 0)), none⟩,
 ⟨(some 63), (.fad 1 (.t 17)), none⟩,
 ⟨(some 64), (.load 1 false (.t 63)), none⟩,
 ⟨(some 65), (.fad 2 (.t 17)), none⟩,
 ⟨(some 66), (.load 1 false (.t 65)), none⟩,
 ⟨(some 67), (.call (.k (.fn (.func 80) [] [])) [(.t 62), (.t 64), (.t 66)]), none⟩,
 ⟨(some 18), (.new [(.str []), (.str []), (.str [])] none), none⟩,
 ⟨none, (.store 3 (.t 18) (.t 67)), none⟩])
 (.seq (.reg [⟨(some 69), (.mov (.t 0)), none⟩,
 ⟨(some 70), (.iada 3 1 (.t 18) (.k (.int .i64 0))), none⟩,
 ⟨(some 71), (.load 1 false (.t 70)), none⟩,
 ⟨(some 72), (.iada 3 1 (.t 18) (.k (.int .i64 1))), none⟩,
 ⟨(some 73), (.load 1 false (.t 72)), none⟩,
 ⟨(some 74), (.iada 3 1 (.t 18) (.k (.int .i64 2))), none⟩,
 ⟨(some 75), (.load 1 false (.t 74)), none⟩,
 ⟨(some 76), (.fad 1 (.t 7)), none⟩,
 ⟨(some 77), (.load 1 false (.t 76)), none⟩,
 ⟨(some 78), (.iada 2 1 (.t 9) (.k (.int .i64 1))), none⟩,
 ⟨(some 79), (.load 1 false (.t 78)), none⟩,
 ⟨(some 80), (.call (.k (.fn (.func 81) [] [])) [(.t 69), (.t 71), (.t 73), (.t 75), (.t 77), (.t 79)]), none⟩,
 ⟨(some 68), (.mov (.t 80)), none⟩,
 ⟨(some 81), (.ext (.t 68) 0), none⟩,
 ⟨(some 82), (.ext (.t 68) 1), none⟩,
 ⟨(some 19), (.new [(.str []), (.str []), (.str []), (.str []), (.int .i64 0), (.str []), (.int .i64 0), (.str []), (.str []), (.str []), (.str []), (.int .i64 0), .nsl] none), none⟩,
 ⟨none, (.store 13 (.t 19) (.t 81)), none⟩,
 ⟨none, (.store 1 (.t 12) (.t 82)), none⟩])
 (.seq (.reg [⟨(some 83), (.load 1 false (.t 12)), none⟩,
 ⟨(some 84), (.bin .eql .num (.t 83) (.k (.int .i64 0))), none⟩,
 ⟨(some 85), (.load 1 false (.t 12)), none⟩,
 ⟨(some 86), (.call (.k (.fn (.func 44) [] [])) [(.t 84), (.t 85)]), none⟩])
 (.seq (.reg [⟨(some 87), (.fad 2 (.t 7)), none⟩,
 ⟨(some 88), (.load 1 false (.t 87)), none⟩,
 ⟨(some 89), (.call (.k (.fn (.func 67) [] [])) [(.t 88)]), none⟩,
 ⟨(some 90), (.mov (.t 15)), none⟩,
 ⟨(some 91), (.call (.k (.fn (.func 67) [] [])) [(.t 90)]), none⟩,
 ⟨(some 92), (.mov (.t 16)), none⟩,
 ⟨(some 93), (.mks true 1 16 false [(.str []), (.str []), (.str [])] 3 [(0, (.t 89)), (1, (.t 91)), (2, (.t 92))]), none⟩,
 ⟨(some 94), (.call (.k (.fn (.func 82) [] [])) [(.k (.int .u8 73)), (.t 93)]), none⟩,
 ⟨none, (.store 1 (.t 11) (.t 94)), none⟩])
 (.seq (.dreg [⟨(some 95), (.load 4 true (.t 6)), none⟩,
 ⟨(some 96), (.fad 0 (.t 7)), none⟩,
 ⟨(some 97), (.load 1 false (.t 96)), none⟩,
 ⟨(some 98), (.mov (.t 15)), none⟩,
 ⟨(some 99), (.load 13 true (.t 19)), none⟩,
 ⟨(some 100), (.build [(.str []), (.int .u64 0), (.str []), (.str []), (.str []), (.str []), (.int .i64 0), (.str []), (.int .i64 0), (.str []), (.str []), (.str []), (.str []), (.int .i64 0), .nsl] [(0, 1, (.t 97)), (1, 1, (.t 98)), (2, 13, (.t 99))]), none⟩,
 ⟨(some 101), (.call (.k (.fn (.func 83) [] [])) [(.t 95), (.t 100)]), none⟩,
 ⟨(some 102), (.load 1 false (.t 11)), none⟩,
 ⟨none, (.store 4 (.t 10) (.t 101)), none⟩,
 ⟨none, (.store 1 (.t 11) (.t 102)), none⟩,
 ⟨none, (.store 1 (.t 12) (.k (.int .i64 0))), none⟩] (.lin [] [(0, none), (1, none), (2, none), (3, none), (4, none), (5, none), (7, none), (6, some [7]), (8, some [7]), (9, some []), (10, some [])]))
 .ret)))))))))))))⟩

/-- 35: (*signetring/signetringlaw19.world).put -/
def F35 : Fun :=
 ⟨38, 5, [],
 (.seq (.dreg [⟨(some 10), (.mov (.t 0)), none⟩,
 ⟨(some 11), (.mov (.t 2)), none⟩,
 ⟨(some 12), (.mov (.t 0)), none⟩,
 ⟨(some 13), (.mov (.t 2)), none⟩,
 ⟨(some 14), (.nilck (.t 12)), none⟩,
 ⟨(some 15), (.fad 20 (.t 14)), none⟩,
 ⟨(some 16), (.iada 3 1 (.t 15) (.t 13)), none⟩,
 ⟨(some 17), (.load 1 false (.t 16)), none⟩,
 ⟨(some 18), (.mov (.t 1)), none⟩,
 ⟨(some 19), (.mov (.t 3)), none⟩,
 ⟨(some 20), (.mov (.t 4)), none⟩,
 ⟨(some 21), (.mov (.t 0)), none⟩,
 ⟨(some 22), (.nilck (.t 21)), none⟩,
 ⟨(some 23), (.fad 25 (.t 22)), none⟩,
 ⟨(some 24), (.load 1 false (.t 23)), none⟩,
 ⟨(some 25), (.build [(.int .i64 0), (.str []), (.str []), (.int .i64 0)] [(0, 1, (.t 18)), (1, 1, (.t 19)), (2, 1, (.t 20)), (3, 1, (.t 24))]), none⟩,
 ⟨(some 26), (.mks true 4 48 true [(.int .i64 0), (.str []), (.str []), (.int .i64 0)] 1 [(0, (.t 25))]), none⟩,
 ⟨(some 27), (.app 4 48 true none (.t 17) (.t 26)), none⟩,
 ⟨(some 28), (.nilck (.t 10)), none⟩,
 ⟨(some 29), (.fad 20 (.t 28)), none⟩,
 ⟨(some 30), (.iada 3 1 (.t 29) (.t 11)), none⟩,
 ⟨none, (.store 1 (.t 30) (.t 27)), none⟩] (.lin [] [(0, none), (1, none), (2, none), (3, none), (4, none), (5, none), (6, none), (7, none), (8, none), (9, none), (10, none), (11, none), (12, none), (13, none), (14, none), (15, none), (16, none), (18, none), (19, none), (17, some [0, 1, 18, 19]), (20, none), (21, some [])]))
 (.reg [⟨(some 31), (.mov (.t 0)), none⟩,
 ⟨(some 32), (.nilck (.t 31)), none⟩,
 ⟨(some 33), (.fad 25 (.t 32)), none⟩,
 ⟨(some 34), (.load 1 false (.t 33)), none⟩,
 ⟨(some 35), (.bin .add .num (.t 34) (.k (.int .i64 1))), none⟩,
 ⟨(some 36), (.nilck (.t 31)), none⟩,
 ⟨(some 37), (.fad 25 (.t 36)), none⟩,
 ⟨none, (.store 1 (.t 37) (.t 35)), none⟩]))⟩

/-- 36: signetring/session.Seal -/
def F36 : Fun :=
 ⟨61, 5, [.c 10 4 true, .c 11 1 false, .c 12 1 false],
 (.seq (.reg [⟨(some 6), (.box none (.t 1)), none⟩,
 ⟨(some 10), (.new [(.str []), .nsl, (.int .u64 0), .nsl] none), none⟩,
 ⟨(some 11), (.new [(.str [])] none), none⟩,
 ⟨(some 12), (.new [(.int .i64 0)] none), none⟩])
 (.seq (.reg [⟨(some 17), (.mkf (.func 84) [] [(.t 6), (.t 10), (.t 11)]), none⟩,
 ⟨none, (.dfr (.k (.fn (.func 38) [] [])) [(.t 12), (.t 17)]), none⟩])
 (.seq (.reg [⟨(some 18), (.mov (.t 0)), none⟩,
 ⟨(some 19), (.bin .neq .ifc (.t 18) (.k .nifc)), none⟩,
 ⟨(some 20), (.call (.k (.fn (.func 44) [] [])) [(.t 19), (.k (.int .i64 1))]), none⟩])
 (.seq (.reg [⟨(some 22), (.load 4 true (.t 6)), none⟩,
 ⟨(some 23), (.mov (.t 2)), none⟩,
 ⟨(some 24), (.call (.k (.fn (.func 17) [] [])) [(.t 22), (.t 23)]), none⟩,
 ⟨(some 21), (.mov (.t 24)), none⟩,
 ⟨(some 25), (.ext (.t 21) 0), none⟩,
 ⟨(some 26), (.ext (.t 21) 1), none⟩,
 ⟨(some 13), (.new [(.str []), (.int .u64 0), (.str []), (.str []), (.str []), (.str []), (.int .i64 0), (.str []), (.int .i64 0), (.str []), (.str []), (.str []), (.str []), (.int .i64 0), .nsl] none), none⟩,
 ⟨none, (.store 15 (.t 13) (.t 25)), none⟩,
 ⟨(some 14), (.mov (.t 26)), none⟩])
 (.seq (.reg [⟨(some 27), (.mov (.t 14)), none⟩,
 ⟨(some 28), (.call (.k (.fn (.func 44) [] [])) [(.t 27), (.k (.int .i64 9))]), none⟩])
 (.seq (.dreg [⟨(some 30), (.mov (.t 0)), none⟩,
 ⟨(some 31), (.fad 2 (.t 13)), none⟩,
 ⟨(some 32), (.load 13 true (.t 31)), none⟩,
 ⟨(some 33), (.load 15 true (.t 13)), none⟩,
 ⟨(some 34), (.mov (.t 0)), none⟩,
 ⟨(some 35), (.fad 0 (.t 6)), none⟩,
 ⟨(some 36), (.load 1 false (.t 35)), none⟩,
 ⟨(some 37), (.inv (.t 34) "Pub" [(.t 36)]), none⟩,
 ⟨(some 38), (.call (.k (.fn (.func 86) [] [])) [(.t 33), (.t 37)]), none⟩,
 ⟨(some 39), (.mov (.t 3)), none⟩,
 ⟨(some 40), (.mov (.t 4)), none⟩,
 ⟨(some 41), (.call (.k (.fn (.func 85) [] [])) [(.t 30), (.t 32), (.t 38), (.t 39), (.t 40)]), none⟩,
 ⟨(some 29), (.mov (.t 41)), none⟩,
 ⟨(some 42), (.ext (.t 29) 0), none⟩,
 ⟨(some 43), (.ext (.t 29) 1), none⟩,
 ⟨(some 44), (.ext (.t 29) 2), none⟩,
 ⟨(some 15), (.new [(.str []), (.str []), (.str []), (.str []), (.int .i64 0), (.str []), (.int .i64 0), (.str []), (.str []), (.str []), (.str []), (.int .i64 0), .nsl] none), none⟩,
 ⟨none, (.store 13 (.t 15) (.t 42)), none⟩,
 ⟨(some 16), (.mov (.t 43)), none⟩,
 ⟨none, (.store 1 (.t 12) (.t 44)), none⟩] (.lin [16] [(0, none), (1, none), (2, none), (3, none), (4, none), (5, none), (6, none), (9, none), (10, none), (7, some [0, 1, 2, 3, 9, 10]), (8, some [0, 1, 2, 9, 10]), (11, some []), (12, none), (13, none), (14, none), (15, none), (17, some [14, 15]), (18, none), (19, some [])]))
 (.seq (.reg [⟨(some 45), (.load 1 false (.t 12)), none⟩,
 ⟨(some 46), (.bin .eql .num (.t 45) (.k (.int .i64 0))), none⟩,
 ⟨(some 47), (.load 1 false (.t 12)), none⟩,
 ⟨(some 48), (.call (.k (.fn (.func 44) [] [])) [(.t 46), (.t 47)]), none⟩])
 (.seq (.reg [⟨(some 49), (.fad 1 (.t 13)), none⟩,
 ⟨(some 50), (.load 1 false (.t 49)), none⟩,
 ⟨(some 51), (.call (.k (.fn (.func 67) [] [])) [(.t 50)]), none⟩,
 ⟨(some 52), (.mov (.t 16)), none⟩,
 ⟨(some 53), (.mks true 1 16 false [(.str []), (.str [])] 2 [(0, (.t 51)), (1, (.t 52))]), none⟩,
 ⟨(some 54), (.call (.k (.fn (.func 82) [] [])) [(.k (.int .u8 82)), (.t 53)]), none⟩,
 ⟨none, (.store 1 (.t 11) (.t 54)), none⟩])
 (.seq (.reg [⟨(some 55), (.load 13 true (.t 15)), none⟩,
 ⟨(some 56), (.fad 2 (.t 13)), none⟩,
 ⟨none, (.store 13 (.t 56) (.t 55)), none⟩])
 (.seq (.dreg [⟨(some 57), (.load 4 true (.t 6)), none⟩,
 ⟨(some 58), (.load 15 true (.t 13)), none⟩,
 ⟨(some 59), (.call (.k (.fn (.func 83) [] [])) [(.t 57), (.t 58)]), none⟩,
 ⟨(some 60), (.load 1 false (.t 11)), none⟩,
 ⟨none, (.store 4 (.t 10) (.t 59)), none⟩,
 ⟨none, (.store 1 (.t 11) (.t 60)), none⟩,
 ⟨none, (.store 1 (.t 12) (.k (.int .i64 0))), none⟩] (.lin [] [(0, none), (1, none), (3, none), (2, some [3]), (4, some [3]), (5, some []), (6, some [])]))
 .ret))))))))))⟩

/-- 37: (*signetring/signetringlaw19.world).opens -/
def F37 : Fun :=
 ⟨129, 3, [.t 6],
 (.seq (.reg [⟨(some 5), (.box none (.t 2)), none⟩,
 ⟨(some 6), (.mov (.k (.bool false))), none⟩])
 (.seq (.reg [⟨(some 15), (.mov (.t 0)), none⟩,
 ⟨(some 16), (.mov (.t 1)), none⟩,
 ⟨(some 17), (.nilck (.t 15)), none⟩,
 ⟨(some 18), (.fad 2 (.t 17)), none⟩,
 ⟨(some 19), (.iada 3 4 (.t 18) (.t 16)), none⟩,
 ⟨(some 20), (.load 4 true (.t 19)), none⟩,
 ⟨(some 7), (.new [(.str []), .nsl, (.int .u64 0), .nsl] none), none⟩,
 ⟨none, (.store 4 (.t 7) (.t 20)), none⟩])
 (.seq (.dreg [⟨(some 21), (.mov (.t 0)), none⟩,
 ⟨(some 22), (.fad 0 (.t 5)), none⟩,
 ⟨(some 23), (.load 1 false (.t 22)), none⟩,
 ⟨(some 24), (.bin .add .num (.t 23) (.k (.int .i64 1))), none⟩,
 ⟨(some 25), (.bin .rem .num (.t 24) (.k (.int .i64 3))), none⟩,
 ⟨(some 26), (.nilck (.t 21)), none⟩,
 ⟨(some 27), (.fad 14 (.t 26)), none⟩,
 ⟨(some 28), (.iada 3 1 (.t 27) (.t 25)), none⟩,
 ⟨(some 29), (.load 1 false (.t 28)), none⟩,
 ⟨(some 8), (.mov (.t 29)), none⟩] (.lin [] [(0, none), (1, none), (2, none), (3, none), (4, none), (5, none), (6, none), (7, none), (8, none), (9, none)]))
 (.seq (.seq (.dreg [⟨(some 31), (.mov (.t 0)), none⟩,
 ⟨(some 32), (.nilck (.t 31)), none⟩,
 ⟨(some 33), (.fad 0 (.t 32)), none⟩,
 ⟨(some 34), (.load 1 false (.t 33)), none⟩,
 ⟨(some 35), (.load 4 true (.t 7)), none⟩,
 ⟨(some 36), (.mov (.t 8)), none⟩,
 ⟨(some 37), (.fad 1 (.t 5)), none⟩,
 ⟨(some 38), (.load 1 false (.t 37)), none⟩,
 ⟨(some 39), (.mov (.t 0)), none⟩,
 ⟨(some 40), (.call (.k (.fn (.func 15) [] [])) [(.t 39)]), none⟩,
 ⟨(some 41), (.call (.k (.fn (.func 14) [] [])) [(.t 34), (.t 35), (.t 36), (.t 38), (.t 40)]), none⟩,
 ⟨(some 30), (.mov (.t 41)), none⟩,
 ⟨(some 42), (.ext (.t 30) 0), none⟩,
 ⟨(some 43), (.ext (.t 30) 1), none⟩,
 ⟨(some 44), (.ext (.t 30) 2), none⟩,
 ⟨(some 9), (.new [(.str []), .nsl, (.int .u64 0), .nsl] none), none⟩,
 ⟨none, (.store 4 (.t 9) (.t 42)), none⟩,
 ⟨(some 10), (.mov (.t 43)), none⟩,
 ⟨(some 11), (.mov (.t 44)), none⟩] (.lin [15] [(0, none), (1, none), (2, none), (3, none), (4, none), (5, none), (6, none), (7, none), (8, none), (9, some [0, 1, 2, 3, 4, 5, 6, 7]), (10, some []), (11, none), (12, none), (13, none), (14, none), (16, some [13, 14]), (17, none), (18, none)]))
 (.seq (.reg [⟨(some 45), (.mov (.t 11)), none⟩,
 ⟨(some 46), (.bin .eql .num (.t 45) (.k (.int .i64 0))), none⟩,
 ⟨(some 47), (.mov (.t 46)), none⟩,
 ⟨(some 48), (.mov (.t 10)), some (47, false)⟩,
 ⟨(some 49), (.bin .neq .str (.t 48) (.k (.str []))), some (47, false)⟩,
 ⟨(some 50), (.pick (.t 47) (.k (.bool true)) (.t 49)), none⟩,
 ⟨(some 51), (.mov (.t 50)), none⟩,
 ⟨(some 52), (.load 4 true (.t 9)), some (51, false)⟩,
 ⟨(some 53), (.load 4 true (.t 7)), some (51, false)⟩,
 ⟨(some 54), (.call (.k (.fn (.func 16) [] [])) [(.t 52), (.t 53)]), some (51, false)⟩,
 ⟨(some 55), (.un .not (.t 54)), some (51, false)⟩,
 ⟨(some 56), (.pick (.t 51) (.k (.bool true)) (.t 55)), none⟩])
 (.cond (.t 56)
 (.seq (.reg [⟨(some 6), (.mov (.k (.bool false))), none⟩])
 .ret)
 .skip)))
 (.seq (.dreg [⟨(some 58), (.mov (.t 0)), none⟩,
 ⟨(some 59), (.nilck (.t 58)), none⟩,
 ⟨(some 60), (.fad 0 (.t 59)), none⟩,
 ⟨(some 61), (.load 1 false (.t 60)), none⟩,
 ⟨(some 62), (.load 4 true (.t 7)), none⟩,
 ⟨(some 63), (.mov (.t 0)), none⟩,
 ⟨(some 64), (.fad 0 (.t 5)), none⟩,
 ⟨(some 65), (.load 1 false (.t 64)), none⟩,
 ⟨(some 66), (.nilck (.t 63)), none⟩,
 ⟨(some 67), (.fad 14 (.t 66)), none⟩,
 ⟨(some 68), (.iada 3 1 (.t 67) (.t 65)), none⟩,
 ⟨(some 69), (.load 1 false (.t 68)), none⟩,
 ⟨(some 70), (.fad 1 (.t 5)), none⟩,
 ⟨(some 71), (.load 1 false (.t 70)), none⟩,
 ⟨(some 72), (.mov (.t 0)), none⟩,
 ⟨(some 73), (.call (.k (.fn (.func 15) [] [])) [(.t 72)]), none⟩,
 ⟨(some 74), (.call (.k (.fn (.func 14) [] [])) [(.t 61), (.t 62), (.t 69), (.t 71), (.t 73)]), none⟩,
 ⟨(some 57), (.mov (.t 74)), none⟩,
 ⟨(some 75), (.ext (.t 57) 0), none⟩,
 ⟨(some 76), (.ext (.t 57) 1), none⟩,
 ⟨(some 77), (.ext (.t 57) 2), none⟩,
 ⟨(some 12), (.new [(.str []), .nsl, (.int .u64 0), .nsl] none), none⟩,
 ⟨none, (.store 4 (.t 12) (.t 75)), none⟩,
 ⟨(some 13), (.mov (.t 76)), none⟩,
 ⟨(some 14), (.mov (.t 77)), none⟩] (.lin [21] [(0, none), (1, none), (2, none), (3, none), (4, none), (5, none), (6, none), (7, none), (8, none), (9, none), (10, none), (11, none), (12, none), (13, none), (14, none), (15, some [0, 1, 2, 3, 4, 5, 6, 7, 8, 9, 10, 11, 12, 13]), (16, some []), (17, none), (18, none), (19, none), (20, none), (22, some [19, 20]), (23, none), (24, none)]))
 (.seq (.seq (.reg [⟨(some 78), (.mov (.t 14)), none⟩,
 ⟨(some 79), (.bin .neq .num (.t 78) (.k (.int .i64 0))), none⟩])
 (.cond (.t 79)
 (.seq (.reg [⟨(some 80), (.mov (.t 13)), none⟩,
 ⟨(some 81), (.bin .eql .str (.t 80) (.k (.str []))), none⟩,
 ⟨(some 82), (.mov (.t 81)), none⟩,
 ⟨(some 83), (.load 4 true (.t 12)), some (82, true)⟩,
 ⟨(some 84), (.load 4 true (.t 7)), some (82, true)⟩,
 ⟨(some 85), (.call (.k (.fn (.func 16) [] [])) [(.t 83), (.t 84)]), some (82, true)⟩,
 ⟨(some 86), (.pick (.t 82) (.t 85) (.k (.bool false))), none⟩,
 ⟨(some 6), (.mov (.t 86)), none⟩])
 .ret)
 .skip))
 (.seq (.seq (.dreg [⟨(some 87), (.mov (.t 13)), none⟩,
 ⟨(some 88), (.fad 2 (.t 5)), none⟩,
 ⟨(some 89), (.load 1 false (.t 88)), none⟩,
 ⟨(some 90), (.bin .neq .str (.t 87) (.t 89)), none⟩,
 ⟨(some 91), (.mov (.t 90)), none⟩,
 ⟨(some 92), (.mov (.t 0)), some (91, false)⟩,
 ⟨(some 93), (.nilck (.t 92)), some (91, false)⟩,
 ⟨(some 94), (.fad 23 (.t 93)), some (91, false)⟩,
 ⟨(some 95), (.load 1 false (.t 94)), some (91, false)⟩,
 ⟨(some 96), (.fad 3 (.t 5)), some (91, false)⟩,
 ⟨(some 97), (.load 1 false (.t 96)), some (91, false)⟩,
 ⟨(some 98), (.look .num (.bool false) (.t 95) (.t 97) false), some (91, false)⟩,
 ⟨(some 99), (.pick (.t 91) (.k (.bool true)) (.t 98)), none⟩] (.lin [] [(0, none), (1, none), (2, none), (3, none), (4, none), (5, none), (6, none), (7, none), (8, none), (9, none), (10, none), (11, none), (12, none)]))
 (.cond (.t 99)
 (.seq (.reg [⟨(some 6), (.mov (.k (.bool false))), none⟩])
 .ret)
 .skip))
 (.seq (.dreg [⟨(some 100), (.mov (.t 0)), none⟩,
 ⟨(some 101), (.nilck (.t 100)), none⟩,
 ⟨(some 102), (.fad 23 (.t 101)), none⟩,
 ⟨(some 103), (.load 1 false (.t 102)), none⟩,
 ⟨(some 104), (.fad 3 (.t 5)), none⟩,
 ⟨(some 105), (.load 1 false (.t 104)), none⟩,
 ⟨none, (.upd .num (.t 103) (.t 105) (.k (.bool true))), none⟩] (.lin [] [(0, none), (1, none), (2, none), (3, none), (4, none), (5, none), (6, some [])]))
 (.seq (.dreg [⟨(some 106), (.mov (.t 0)), none⟩,
 ⟨(some 107), (.mov (.t 1)), none⟩,
 ⟨(some 108), (.load 4 true (.t 12)), none⟩,
 ⟨(some 109), (.nilck (.t 106)), none⟩,
 ⟨(some 110), (.fad 2 (.t 109)), none⟩,
 ⟨(some 111), (.iada 3 4 (.t 110) (.t 107)), none⟩,
 ⟨none, (.store 4 (.t 111) (.t 108)), none⟩] (.lin [] [(0, none), (1, none), (2, none), (3, none), (4, none), (5, none), (6, some [])]))
 (.seq (.reg [⟨(some 112), (.fad 1 (.t 12)), none⟩,
 ⟨(some 113), (.load 1 false (.t 112)), none⟩,
 ⟨(some 114), (.len .slc (.t 113)), none⟩,
 ⟨(some 115), (.fad 1 (.t 7)), none⟩,
 ⟨(some 116), (.load 1 false (.t 115)), none⟩,
 ⟨(some 117), (.len .slc (.t 116)), none⟩,
 ⟨(some 118), (.bin .eql .num (.t 114) (.t 117)), none⟩,
 ⟨(some 119), (.mov (.t 118)), none⟩,
 ⟨(some 120), (.fad 1 (.t 12)), some (119, false)⟩,
 ⟨(some 121), (.load 1 false (.t 120)), some (119, false)⟩,
 ⟨(some 122), (.len .slc (.t 121)), some (119, false)⟩,
 ⟨(some 123), (.fad 1 (.t 7)), some (119, false)⟩,
 ⟨(some 124), (.load 1 false (.t 123)), some (119, false)⟩,
 ⟨(some 125), (.len .slc (.t 124)), some (119, false)⟩,
 ⟨(some 126), (.bin .sub .num (.t 125) (.k (.int .i64 1))), some (119, false)⟩,
 ⟨(some 127), (.bin .eql .num (.t 122) (.t 126)), some (119, false)⟩,
 ⟨(some 128), (.pick (.t 119) (.k (.bool true)) (.t 127)), none⟩,
 ⟨(some 6), (.mov (.t 128)), none⟩])
 .ret))))))))))⟩

/-- 38: signetring/session.held -/
def F38 : Fun :=
 ⟨18, 2, [],
 (.seq (.reg [⟨(some 7), .recov, none⟩])
 (.block 0
 (.seq (.reg [⟨(some 9), (.bin .eql .ifc (.t 7) (.k .nifc)), none⟩])
 (.cond (.t 9)
 (.reg [⟨(some 4), (.mov (.t 7)), none⟩])
 (.seq (.reg [⟨(some 10), (.asrt 48 (.int .i64 0) (.t 7) true), none⟩,
 ⟨(some 11), (.ext (.t 10) 1), none⟩,
 ⟨(some 12), (.ext (.t 10) 0), none⟩])
 (.cond (.t 11)
 (.seq (.reg [⟨(some 5), (.mov (.t 12)), none⟩])
 (.seq (.reg [⟨(some 13), (.mov (.t 0)), none⟩,
 ⟨(some 14), (.mov (.t 5)), none⟩,
 ⟨(some 15), (.nilck (.t 13)), none⟩,
 ⟨none, (.store 1 (.t 15) (.t 14)), none⟩])
 (.reg [⟨(some 16), (.mov (.t 1)), none⟩,
 ⟨(some 17), (.call (.t 16) []), none⟩])))
 (.seq (.reg [⟨(some 6), (.mov (.t 7)), none⟩])
 (.reg [⟨(some 8), (.mov (.t 6)), none⟩,
 ⟨none, (.pan (.t 8)), none⟩]))))))))⟩

/-- 39: signetring/session.Open$1 -/
def F39 : Fun :=
 ⟨5, 3, [],
 (.reg [⟨(some 3), (.load 4 true (.t 0)), none⟩,
 ⟨(some 4), (.call (.k (.fn (.func 40) [] [])) [(.t 3)]), none⟩,
 ⟨none, (.store 4 (.t 1) (.t 4)), none⟩,
 ⟨none, (.store 1 (.t 2) (.k (.str []))), none⟩])⟩

/-- 40: (signetring/session.Device).own -/
def F40 : Fun :=
 ⟨34, 1, [.c 2 4 true],
 (.seq (.reg [⟨(some 1), (.box none (.t 0)), none⟩,
 ⟨(some 2), (.new [(.str []), .nsl, (.int .u64 0), .nsl] none), none⟩])
 (.seq (.dreg [⟨(some 4), (.fad 1 (.t 1)), none⟩,
 ⟨(some 5), (.load 1 false (.t 4)), none⟩,
 ⟨(some 6), (.call (.k (.fn (.func 87) [] [])) [(.t 5)]), none⟩,
 ⟨(some 7), (.fad 3 (.t 1)), none⟩,
 ⟨(some 8), (.load 1 false (.t 7)), none⟩,
 ⟨(some 9), (.call (.k (.fn (.func 88) [] [])) [(.t 8)]), none⟩,
 ⟨(some 10), (.fad 1 (.t 1)), none⟩,
 ⟨none, (.store 1 (.t 10) (.t 6)), none⟩,
 ⟨(some 11), (.fad 3 (.t 1)), none⟩,
 ⟨none, (.store 1 (.t 11) (.t 9)), none⟩] (.lin [] [(0, none), (1, none), (3, none), (4, none), (2, some [3, 4]), (6, none), (5, some [6]), (7, some []), (8, none), (9, some [])]))
 (.seq (.seq (.reg [⟨(some 12), (.fad 3 (.t 1)), none⟩,
 ⟨(some 13), (.load 1 false (.t 12)), none⟩,
 ⟨(some 14), (.len .slc (.t 13)), none⟩,
 ⟨(some 15), (.mov (.k (.int .i64 0))), none⟩])
 (.block 0
 (.loop
 (.seq (.reg [⟨(some 16), (.bin .lss .num (.t 15) (.t 14)), none⟩])
 (.seq (.cond (.t 16)
 .skip
 (.exit 0))
 (.seq (.block 1
 (.seq (.reg [⟨(some 17), (.mov (.t 15)), none⟩,
 ⟨(some 3), (.mov (.t 17)), none⟩])
 (.dreg [⟨(some 18), (.fad 3 (.t 1)), none⟩,
 ⟨(some 19), (.load 1 false (.t 18)), none⟩,
 ⟨(some 20), (.mov (.t 3)), none⟩,
 ⟨(some 21), (.fad 3 (.t 1)), none⟩,
 ⟨(some 22), (.load 1 false (.t 21)), none⟩,
 ⟨(some 23), (.mov (.t 3)), none⟩,
 ⟨(some 24), (.iad 15 (.t 22) (.t 23)), none⟩,
 ⟨(some 25), (.fad 2 (.t 24)), none⟩,
 ⟨(some 26), (.fad 12 (.t 25)), none⟩,
 ⟨(some 27), (.load 1 false (.t 26)), none⟩,
 ⟨(some 28), (.call (.k (.fn (.func 89) [] [])) [(.t 27)]), none⟩,
 ⟨(some 29), (.iad 15 (.t 19) (.t 20)), none⟩,
 ⟨(some 30), (.fad 2 (.t 29)), none⟩,
 ⟨(some 31), (.fad 12 (.t 30)), none⟩,
 ⟨none, (.store 1 (.t 31) (.t 28)), none⟩] (.lin [] [(0, none), (1, none), (2, none), (3, none), (4, none), (5, none), (6, none), (7, none), (8, none), (9, none), (10, some [0, 1, 2]), (11, none), (12, none), (13, none), (14, some [])]))))
 (.reg [⟨(some 32), (.bin .add .num (.t 15) (.k (.int .i64 1))), none⟩,
 ⟨(some 15), (.mov (.t 32)), none⟩])))))))
 (.seq (.reg [⟨(some 33), (.load 4 true (.t 1)), none⟩,
 ⟨none, (.store 4 (.t 2) (.t 33)), none⟩])
 .ret))))⟩

/-- 41: signetring/session.drawn -/
def F41 : Fun :=
 ⟨20, 2, [],
 (.seq (.reg [⟨(some 6), (.mov (.t 0)), none⟩,
 ⟨(some 7), (.bin .neq .ifc (.t 6) (.k .nifc)), none⟩,
 ⟨(some 8), (.call (.k (.fn (.func 44) [] [])) [(.t 7), (.k (.int .i64 1))]), none⟩])
 (.seq (.reg [⟨(some 9), (.mov (.t 1)), none⟩,
 ⟨(some 10), (.len .slc (.t 9)), none⟩,
 ⟨(some 11), (.mov (.k (.int .i64 0))), none⟩])
 (.block 0
 (.loop
 (.seq (.reg [⟨(some 12), (.bin .lss .num (.t 11) (.t 10)), none⟩])
 (.seq (.cond (.t 12)
 .skip
 (.exit 0))
 (.seq (.block 1
 (.seq (.reg [⟨(some 13), (.iad 1 (.t 9) (.t 11)), none⟩,
 ⟨(some 14), (.load 1 false (.t 13)), none⟩,
 ⟨(some 5), (.mov (.t 14)), none⟩])
 (.reg [⟨(some 15), (.mov (.t 5)), none⟩,
 ⟨(some 16), (.len .str (.t 15)), none⟩,
 ⟨(some 17), (.bin .eql .num (.t 16) (.k (.int .i64 32))), none⟩,
 ⟨(some 18), (.call (.k (.fn (.func 44) [] [])) [(.t 17), (.k (.int .i64 2))]), none⟩])))
 (.reg [⟨(some 19), (.bin .add .num (.t 11) (.k (.int .i64 1))), none⟩,
 ⟨(some 11), (.mov (.t 19)), none⟩]))))))))⟩

/-- 42: signetring/codec.Take -/
def F42 : Fun :=
 ⟨31, 3, [.t 6, .t 7],
 (.seq (.reg [⟨(some 6), (.mov (.k .nsl)), none⟩,
 ⟨(some 7), (.mov (.k (.int .i64 0))), none⟩])
 (.seq (.reg [⟨(some 12), (.mov (.t 0)), none⟩,
 ⟨(some 13), (.call (.k (.fn (.func 90) [] [])) [(.t 12)]), none⟩,
 ⟨(some 11), (.mov (.t 13)), none⟩,
 ⟨(some 14), (.ext (.t 11) 0), none⟩,
 ⟨(some 15), (.ext (.t 11) 1), none⟩,
 ⟨(some 16), (.ext (.t 11) 2), none⟩,
 ⟨(some 8), (.mov (.t 14)), none⟩,
 ⟨(some 9), (.mov (.t 15)), none⟩,
 ⟨(some 10), (.mov (.t 16)), none⟩])
 (.seq (.seq (.reg [⟨(some 17), (.mov (.t 10)), none⟩,
 ⟨(some 18), (.bin .neq .num (.t 17) (.k (.int .i64 0))), none⟩,
 ⟨(some 19), (.mov (.t 18)), none⟩,
 ⟨(some 20), (.mov (.t 8)), some (19, false)⟩,
 ⟨(some 21), (.mov (.t 1)), some (19, false)⟩,
 ⟨(some 22), (.bin .neq .num (.t 20) (.t 21)), some (19, false)⟩,
 ⟨(some 23), (.pick (.t 19) (.k (.bool true)) (.t 22)), none⟩,
 ⟨(some 24), (.mov (.t 23)), none⟩,
 ⟨(some 25), (.mov (.t 9)), some (24, false)⟩,
 ⟨(some 26), (.len .slc (.t 25)), some (24, false)⟩,
 ⟨(some 27), (.mov (.t 2)), some (24, false)⟩,
 ⟨(some 28), (.bin .neq .num (.t 26) (.t 27)), some (24, false)⟩,
 ⟨(some 29), (.pick (.t 24) (.k (.bool true)) (.t 28)), none⟩])
 (.cond (.t 29)
 (.seq (.reg [⟨(some 6), (.mov (.k .nsl)), none⟩,
 ⟨(some 7), (.mov (.k (.int .i64 4))), none⟩])
 .ret)
 .skip))
 (.seq (.reg [⟨(some 30), (.mov (.t 9)), none⟩,
 ⟨(some 6), (.mov (.t 30)), none⟩,
 ⟨(some 7), (.mov (.k (.int .i64 0))), none⟩])
 .ret))))⟩

/-- 43: (signetring/session.Device).begun -/
def F43 : Fun :=
 ⟨138, 4, [.c 8 4 true, .t 9],
 (.seq (.reg [⟨(some 4), (.box none (.t 0)), none⟩,
 ⟨(some 8), (.new [(.str []), .nsl, (.int .u64 0), .nsl] none), none⟩,
 ⟨(some 9), (.mov (.k (.str []))), none⟩])
 (.seq (.dreg [⟨(some 22), (.mov (.t 3)), none⟩,
 ⟨(some 23), (.iad 1 (.t 22) (.k (.int .i64 0))), none⟩,
 ⟨(some 24), (.load 1 false (.t 23)), none⟩,
 ⟨(some 25), (.call (.k (.fn (.func 91) [] [])) [(.t 24)]), none⟩,
 ⟨(some 26), (.mov (.t 3)), none⟩,
 ⟨(some 27), (.iad 1 (.t 26) (.k (.int .i64 1))), none⟩,
 ⟨(some 28), (.load 1 false (.t 27)), none⟩,
 ⟨(some 29), (.call (.k (.fn (.func 91) [] [])) [(.t 28)]), none⟩,
 ⟨(some 10), (.new [(.int .u64 0)] none), none⟩,
 ⟨none, (.store 1 (.t 10) (.t 25)), none⟩,
 ⟨(some 11), (.mov (.t 29)), none⟩] (.lin [8] [(0, none), (1, none), (2, none), (4, none), (5, none), (6, none), (3, some [4, 5, 6]), (7, some []), (9, some []), (10, none)]))
 (.seq (.reg [⟨(some 30), (.fad 1 (.t 4)), none⟩,
 ⟨(some 31), (.load 1 false (.t 30)), none⟩,
 ⟨(some 32), (.mkf (.func 93) [] [(.t 10)]), none⟩,
 ⟨(some 33), (.call (.k (.fn (.func 92) [] [])) [(.t 31), (.t 32)]), none⟩,
 ⟨(some 12), (.mov (.t 33)), none⟩])
 (.seq (.reg [⟨(some 34), (.mov (.t 12)), none⟩,
 ⟨(some 35), (.bin .geq .num (.t 34) (.k (.int .i64 0))), none⟩,
 ⟨(some 36), (.call (.k (.fn (.func 44) [] [])) [(.t 35), (.k (.int .i64 9))]), none⟩])
 (.seq (.dreg [⟨(some 37), (.fad 1 (.t 4)), none⟩,
 ⟨(some 38), (.load 1 false (.t 37)), none⟩,
 ⟨(some 39), (.mov (.t 12)), none⟩,
 ⟨(some 40), (.iad 2 (.t 38) (.t 39)), none⟩,
 ⟨(some 41), (.fad 1 (.t 40)), none⟩,
 ⟨(some 42), (.load 1 false (.t 41)), none⟩,
 ⟨(some 43), (.mov (.t 1)), none⟩,
 ⟨(some 44), (.fad 0 (.t 4)), none⟩,
 ⟨(some 45), (.load 1 false (.t 44)), none⟩,
 ⟨(some 46), (.inv (.t 43) "Pub" [(.t 45)]), none⟩,
 ⟨(some 13), (.mov (.t 42)), none⟩,
 ⟨(some 14), (.mov (.t 46)), none⟩] (.lin [] [(0, none), (1, none), (2, none), (3, none), (4, none), (5, none), (6, none), (7, none), (8, none), (9, some [0, 1, 2, 3, 4, 5]), (10, none), (11, none)]))
 (.seq (.dreg [⟨(some 48), (.mov (.t 1)), none⟩,
 ⟨(some 49), (.fad 0 (.t 4)), none⟩,
 ⟨(some 50), (.load 1 false (.t 49)), none⟩,
 ⟨(some 51), (.mov (.t 14)), none⟩,
 ⟨(some 52), (.mov (.t 1)), none⟩,
 ⟨(some 53), (.mov (.t 13)), none⟩,
 ⟨(some 54), (.inv (.t 52) "Pub" [(.t 53)]), none⟩,
 ⟨(some 55), (.load 1 false (.t 10)), none⟩,
 ⟨(some 56), (.build [(.str []), (.str []), (.int .u64 0)] [(0, 1, (.t 51)), (1, 1, (.t 54)), (2, 1, (.t 55))]), none⟩,
 ⟨(some 57), (.mov (.t 11)), none⟩,
 ⟨(some 58), (.call (.k (.fn (.func 79) [] [])) [(.t 56), (.t 57)]), none⟩,
 ⟨(some 59), (.mov (.t 3)), none⟩,
 ⟨(some 60), (.iad 1 (.t 59) (.k (.int .i64 2))), none⟩,
 ⟨(some 61), (.load 1 false (.t 60)), none⟩,
 ⟨(some 62), (.call (.k (.fn (.func 94) [] [])) [(.t 48), (.t 50), (.t 58), (.t 61)]), none⟩,
 ⟨(some 47), (.mov (.t 62)), none⟩,
 ⟨(some 63), (.ext (.t 47) 0), none⟩,
 ⟨(some 64), (.ext (.t 47) 1), none⟩,
 ⟨(some 65), (.ext (.t 47) 2), none⟩,
 ⟨(some 16), (.new [(.str []), (.str []), (.str []), (.str [])] none), none⟩,
 ⟨(some 15), (.mov (.t 63)), none⟩,
 ⟨none, (.store 4 (.t 16) (.t 64)), none⟩,
 ⟨(some 17), (.mov (.t 65)), none⟩] (.lin [19] [(0, none), (1, none), (2, none), (3, none), (4, none), (5, none), (7, none), (9, none), (11, none), (12, none), (13, none), (6, some [0, 1, 2, 3, 7, 9, 11, 12, 13]), (8, none), (10, some [0, 1, 2, 11, 12, 13]), (14, some []), (15, none), (16, none), (17, none), (18, none), (20, none), (21, some [18]), (22, none)]))
 (.seq (.reg [⟨(some 66), (.mov (.t 17)), none⟩,
 ⟨(some 67), (.bin .eql .num (.t 66) (.k (.int .i64 0))), none⟩,
 ⟨(some 68), (.mov (.t 17)), none⟩,
 ⟨(some 69), (.call (.k (.fn (.func 44) [] [])) [(.t 67), (.t 68)]), none⟩])
 (.seq (.reg [⟨(some 70), (.fad 0 (.t 16)), none⟩,
 ⟨(some 71), (.load 1 false (.t 70)), none⟩,
 ⟨(some 72), (.mov (.t 2)), none⟩,
 ⟨(some 73), (.bin .eql .str (.t 71) (.t 72)), none⟩,
 ⟨(some 74), (.call (.k (.fn (.func 44) [] [])) [(.t 73), (.k (.int .i64 6))]), none⟩])
 (.seq (.reg [⟨(some 76), (.load 4 true (.t 4)), none⟩,
 ⟨(some 77), (.mov (.t 2)), none⟩,
 ⟨(some 78), (.call (.k (.fn (.func 17) [] [])) [(.t 76), (.t 77)]), none⟩,
 ⟨(some 75), (.mov (.t 78)), none⟩,
 ⟨(some 79), (.ext (.t 75) 0), none⟩,
 ⟨(some 80), (.ext (.t 75) 1), none⟩,
 ⟨(some 18), (.new [(.str []), (.int .u64 0), (.str []), (.str []), (.str []), (.str []), (.int .i64 0), (.str []), (.int .i64 0), (.str []), (.str []), (.str []), (.str []), (.int .i64 0), .nsl] none), none⟩,
 ⟨none, (.store 15 (.t 18) (.t 79)), none⟩,
 ⟨(some 19), (.mov (.t 80)), none⟩])
 (.seq (.reg [⟨(some 81), (.mov (.t 11)), none⟩,
 ⟨(some 82), (.fad 1 (.t 18)), none⟩,
 ⟨(some 83), (.load 1 false (.t 82)), none⟩,
 ⟨(some 84), (.bin .gtr .num (.t 81) (.t 83)), none⟩,
 ⟨(some 85), (.mov (.t 84)), none⟩,
 ⟨(some 86), (.mov (.t 11)), some (85, false)⟩,
 ⟨(some 87), (.fad 1 (.t 18)), some (85, false)⟩,
 ⟨(some 88), (.load 1 false (.t 87)), some (85, false)⟩,
 ⟨(some 89), (.bin .eql .num (.t 86) (.t 88)), some (85, false)⟩,
 ⟨(some 90), (.mov (.t 89)), some (85, false)⟩,
 ⟨(some 91), (.mov (.t 2)), some (90, true)⟩,
 ⟨(some 92), (.mov (.t 14)), some (90, true)⟩,
 ⟨(some 93), (.bin .lss .str (.t 91) (.t 92)), some (90, true)⟩,
 ⟨(some 94), (.pick (.t 90) (.t 93) (.k (.bool false))), some (85, false)⟩,
 ⟨(some 95), (.mov (.t 94)), some (85, false)⟩,
 ⟨(some 96), (.mov (.t 11)), some (95, true)⟩,
 ⟨(some 97), (.bin .gtr .num (.t 96) (.k (.int .u64 0))), some (95, true)⟩,
 ⟨(some 98), (.pick (.t 95) (.t 97) (.k (.bool false))), some (85, false)⟩,
 ⟨(some 99), (.pick (.t 85) (.k (.bool true)) (.t 98)), none⟩,
 ⟨(some 100), (.call (.k (.fn (.func 44) [] [])) [(.t 99), (.k (.int .i64 7))]), none⟩])
 (.seq (.reg [⟨(some 101), (.mov (.t 1)), none⟩,
 ⟨(some 102), (.fad 2 (.t 16)), none⟩,
 ⟨(some 103), (.load 1 false (.t 102)), none⟩,
 ⟨(some 104), (.fad 1 (.t 16)), none⟩,
 ⟨(some 105), (.load 1 false (.t 104)), none⟩,
 ⟨(some 106), (.call (.k (.fn (.func 80) [] [])) [(.t 101), (.t 103), (.t 105)]), none⟩,
 ⟨(some 20), (.new [(.str []), (.str []), (.str [])] none), none⟩,
 ⟨none, (.store 3 (.t 20) (.t 106)), none⟩])
 (.seq (.reg [⟨(some 108), (.mov (.t 1)), none⟩,
 ⟨(some 109), (.iada 3 1 (.t 20) (.k (.int .i64 0))), none⟩,
 ⟨(some 110), (.load 1 false (.t 109)), none⟩,
 ⟨(some 111), (.iada 3 1 (.t 20) (.k (.int .i64 1))), none⟩,
 ⟨(some 112), (.load 1 false (.t 111)), none⟩,
 ⟨(some 113), (.iada 3 1 (.t 20) (.k (.int .i64 2))), none⟩,
 ⟨(some 114), (.load 1 false (.t 113)), none⟩,
 ⟨(some 115), (.mov (.t 13)), none⟩,
 ⟨(some 116), (.call (.k (.fn (.func 95) [] [])) [(.t 108), (.t 110), (.t 112), (.t 114), (.t 115)]), none⟩,
 ⟨(some 107), (.mov (.t 116)), none⟩,
 ⟨(some 117), (.ext (.t 107) 0), none⟩,
 ⟨(some 118), (.ext (.t 107) 1), none⟩,
 ⟨(some 21), (.new [(.str []), (.str []), (.str []), (.str []), (.int .i64 0), (.str []), (.int .i64 0), (.str []), (.str []), (.str []), (.str []), (.int .i64 0), .nsl] none), none⟩,
 ⟨none, (.store 13 (.t 21) (.t 117)), none⟩,
 ⟨(some 17), (.mov (.t 118)), none⟩])
 (.seq (.reg [⟨(some 119), (.mov (.t 17)), none⟩,
 ⟨(some 120), (.bin .eql .num (.t 119) (.k (.int .i64 0))), none⟩,
 ⟨(some 121), (.mov (.t 17)), none⟩,
 ⟨(some 122), (.call (.k (.fn (.func 44) [] [])) [(.t 120), (.t 121)]), none⟩])
 (.seq (.reg [⟨(some 123), (.load 4 true (.t 4)), none⟩,
 ⟨(some 124), (.mov (.t 2)), none⟩,
 ⟨(some 125), (.mov (.t 11)), none⟩,
 ⟨(some 126), (.load 13 true (.t 21)), none⟩,
 ⟨(some 127), (.build [(.str []), (.int .u64 0), (.str []), (.str []), (.str []), (.str []), (.int .i64 0), (.str []), (.int .i64 0), (.str []), (.str []), (.str []), (.str []), (.int .i64 0), .nsl] [(0, 1, (.t 124)), (1, 1, (.t 125)), (2, 13, (.t 126))]), none⟩,
 ⟨(some 128), (.call (.k (.fn (.func 83) [] [])) [(.t 123), (.t 127)]), none⟩,
 ⟨none, (.store 4 (.t 4) (.t 128)), none⟩])
 (.seq (.reg [⟨(some 129), (.fad 1 (.t 4)), none⟩,
 ⟨(some 130), (.load 1 false (.t 129)), none⟩,
 ⟨(some 131), (.mov (.t 12)), none⟩,
 ⟨(some 132), (.mov (.t 12)), none⟩,
 ⟨(some 133), (.bin .add .num (.t 132) (.k (.int .i64 1))), none⟩,
 ⟨(some 134), (.call (.k (.fn (.func 96) [] [])) [(.t 130), (.t 131), (.t 133)]), none⟩,
 ⟨(some 135), (.fad 1 (.t 4)), none⟩,
 ⟨none, (.store 1 (.t 135) (.t 134)), none⟩])
 (.seq (.reg [⟨(some 136), (.load 4 true (.t 4)), none⟩,
 ⟨(some 137), (.mov (.t 15)), none⟩,
 ⟨none, (.store 4 (.t 8) (.t 136)), none⟩,
 ⟨(some 9), (.mov (.t 137)), none⟩])
 .ret))))))))))))))))⟩

/-- 44: signetring/session.fits -/
def F44 : Fun :=
 ⟨8, 2, [],
 (.seq (.reg [⟨(some 4), (.mov (.t 0)), none⟩,
 ⟨(some 5), (.un .not (.t 4)), none⟩])
 (.cond (.t 5)
 (.reg [⟨(some 6), (.mov (.t 1)), none⟩,
 ⟨(some 7), (.mki 48 (.t 6)), none⟩,
 ⟨none, (.pan (.t 7)), none⟩])
 .skip))⟩

/-- 45: (signetring/session.Device).goes -/
def F45 : Fun :=
 ⟨68, 5, [.c 10 4 true, .t 11],
 (.seq (.reg [⟨(some 5), (.box none (.t 0)), none⟩,
 ⟨(some 10), (.new [(.str []), .nsl, (.int .u64 0), .nsl] none), none⟩,
 ⟨(some 11), (.mov (.k (.str []))), none⟩])
 (.seq (.reg [⟨(some 18), (.mov (.t 3)), none⟩,
 ⟨(some 19), (.iad 1 (.t 18) (.k (.int .i64 0))), none⟩,
 ⟨(some 20), (.load 1 false (.t 19)), none⟩,
 ⟨(some 21), (.call (.k (.fn (.func 91) [] [])) [(.t 20)]), none⟩,
 ⟨(some 12), (.mov (.t 21)), none⟩])
 (.seq (.reg [⟨(some 23), (.load 4 true (.t 5)), none⟩,
 ⟨(some 24), (.mov (.t 2)), none⟩,
 ⟨(some 25), (.call (.k (.fn (.func 17) [] [])) [(.t 23), (.t 24)]), none⟩,
 ⟨(some 22), (.mov (.t 25)), none⟩,
 ⟨(some 26), (.ext (.t 22) 0), none⟩,
 ⟨(some 27), (.ext (.t 22) 1), none⟩,
 ⟨(some 13), (.new [(.str []), (.int .u64 0), (.str []), (.str []), (.str []), (.str []), (.int .i64 0), (.str []), (.int .i64 0), (.str []), (.str []), (.str []), (.str []), (.int .i64 0), .nsl] none), none⟩,
 ⟨none, (.store 15 (.t 13) (.t 26)), none⟩,
 ⟨(some 14), (.mov (.t 27)), none⟩])
 (.seq (.reg [⟨(some 28), (.mov (.t 14)), none⟩,
 ⟨(some 29), (.call (.k (.fn (.func 44) [] [])) [(.t 28), (.k (.int .i64 9))]), none⟩])
 (.seq (.reg [⟨(some 30), (.mov (.t 12)), none⟩,
 ⟨(some 31), (.fad 1 (.t 13)), none⟩,
 ⟨(some 32), (.load 1 false (.t 31)), none⟩,
 ⟨(some 33), (.bin .geq .num (.t 30) (.t 32)), none⟩,
 ⟨(some 34), (.call (.k (.fn (.func 44) [] [])) [(.t 33), (.k (.int .i64 7))]), none⟩])
 (.seq (.reg [⟨(some 35), (.mov (.t 12)), none⟩,
 ⟨(some 36), (.fad 1 (.t 13)), none⟩,
 ⟨(some 37), (.load 1 false (.t 36)), none⟩,
 ⟨(some 38), (.bin .eql .num (.t 35) (.t 37)), none⟩,
 ⟨(some 39), (.call (.k (.fn (.func 44) [] [])) [(.t 38), (.k (.int .i64 8))]), none⟩])
 (.seq (.dreg [⟨(some 41), (.mov (.t 1)), none⟩,
 ⟨(some 42), (.fad 2 (.t 13)), none⟩,
 ⟨(some 43), (.load 13 true (.t 42)), none⟩,
 ⟨(some 44), (.load 15 true (.t 13)), none⟩,
 ⟨(some 45), (.mov (.t 1)), none⟩,
 ⟨(some 46), (.fad 0 (.t 5)), none⟩,
 ⟨(some 47), (.load 1 false (.t 46)), none⟩,
 ⟨(some 48), (.inv (.t 45) "Pub" [(.t 47)]), none⟩,
 ⟨(some 49), (.call (.k (.fn (.func 86) [] [])) [(.t 44), (.t 48)]), none⟩,
 ⟨(some 50), (.mov (.t 3)), none⟩,
 ⟨(some 51), (.iad 1 (.t 50) (.k (.int .i64 1))), none⟩,
 ⟨(some 52), (.load 1 false (.t 51)), none⟩,
 ⟨(some 53), (.mov (.t 4)), none⟩,
 ⟨(some 54), (.call (.k (.fn (.func 97) [] [])) [(.t 41), (.t 43), (.t 49), (.t 52), (.t 53)]), none⟩,
 ⟨(some 40), (.mov (.t 54)), none⟩,
 ⟨(some 55), (.ext (.t 40) 0), none⟩,
 ⟨(some 56), (.ext (.t 40) 1), none⟩,
 ⟨(some 57), (.ext (.t 40) 2), none⟩,
 ⟨(some 15), (.new [(.str []), (.str []), (.str []), (.str []), (.int .i64 0), (.str []), (.int .i64 0), (.str []), (.str []), (.str []), (.str []), (.int .i64 0), .nsl] none), none⟩,
 ⟨none, (.store 13 (.t 15) (.t 55)), none⟩,
 ⟨(some 16), (.mov (.t 56)), none⟩,
 ⟨(some 17), (.mov (.t 57)), none⟩] (.lin [18] [(0, none), (1, none), (2, none), (3, none), (4, none), (5, none), (6, none), (9, none), (10, none), (11, none), (12, none), (7, some [0, 1, 2, 3, 9, 10, 11, 12]), (8, some [0, 1, 2, 9, 10, 11, 12]), (13, some []), (14, none), (15, none), (16, none), (17, none), (19, some [16, 17]), (20, none), (21, none)]))
 (.seq (.reg [⟨(some 58), (.mov (.t 17)), none⟩,
 ⟨(some 59), (.bin .eql .num (.t 58) (.k (.int .i64 0))), none⟩,
 ⟨(some 60), (.mov (.t 17)), none⟩,
 ⟨(some 61), (.call (.k (.fn (.func 44) [] [])) [(.t 59), (.t 60)]), none⟩])
 (.seq (.reg [⟨(some 62), (.load 13 true (.t 15)), none⟩,
 ⟨(some 63), (.fad 2 (.t 13)), none⟩,
 ⟨none, (.store 13 (.t 63) (.t 62)), none⟩])
 (.seq (.reg [⟨(some 64), (.load 4 true (.t 5)), none⟩,
 ⟨(some 65), (.load 15 true (.t 13)), none⟩,
 ⟨(some 66), (.call (.k (.fn (.func 83) [] [])) [(.t 64), (.t 65)]), none⟩,
 ⟨(some 67), (.mov (.t 16)), none⟩,
 ⟨none, (.store 4 (.t 10) (.t 66)), none⟩,
 ⟨(some 11), (.mov (.t 67)), none⟩])
 .ret))))))))))⟩

/-- 46: (*signetring/term.Table).Atom -/
def F46 : Fun :=
 ⟨9, 2, [.t 4],
 (.seq (.reg [⟨(some 4), (.mov (.k (.str []))), none⟩])
 (.seq (.reg [⟨(some 5), (.mov (.t 0)), none⟩,
 ⟨(some 6), (.mov (.t 1)), none⟩,
 ⟨(some 7), (.mks true 1 16 false [(.str [])] 1 [(0, (.t 6))]), none⟩,
 ⟨(some 8), (.call (.k (.fn (.func 98) [] [])) [(.t 5), (.k (.int .u8 1)), (.t 7)]), none⟩,
 ⟨(some 4), (.mov (.t 8)), none⟩])
 .ret))⟩

/-- 47: signetring/session.Same$1 -/
def F47 : Fun :=
 ⟨24, 2, [.t 4],
 (.seq (.reg [⟨(some 2), (.box none (.t 0)), none⟩,
 ⟨(some 3), (.box none (.t 1)), none⟩,
 ⟨(some 4), (.mov (.k (.bool false))), none⟩])
 (.seq (.reg [⟨(some 5), (.fad 0 (.t 2)), none⟩,
 ⟨(some 6), (.load 1 false (.t 5)), none⟩,
 ⟨(some 7), (.fad 0 (.t 3)), none⟩,
 ⟨(some 8), (.load 1 false (.t 7)), none⟩,
 ⟨(some 9), (.bin .eql .str (.t 6) (.t 8)), none⟩,
 ⟨(some 10), (.mov (.t 9)), none⟩,
 ⟨(some 11), (.fad 1 (.t 2)), some (10, true)⟩,
 ⟨(some 12), (.load 1 false (.t 11)), some (10, true)⟩,
 ⟨(some 13), (.fad 1 (.t 3)), some (10, true)⟩,
 ⟨(some 14), (.load 1 false (.t 13)), some (10, true)⟩,
 ⟨(some 15), (.bin .eql .num (.t 12) (.t 14)), some (10, true)⟩,
 ⟨(some 16), (.pick (.t 10) (.t 15) (.k (.bool false))), none⟩,
 ⟨(some 17), (.mov (.t 16)), none⟩,
 ⟨(some 18), (.fad 2 (.t 2)), some (17, true)⟩,
 ⟨(some 19), (.load 13 true (.t 18)), some (17, true)⟩,
 ⟨(some 20), (.fad 2 (.t 3)), some (17, true)⟩,
 ⟨(some 21), (.load 13 true (.t 20)), some (17, true)⟩,
 ⟨(some 22), (.call (.k (.fn (.func 48) [] [])) [(.t 19), (.t 21)]), some (17, true)⟩,
 ⟨(some 23), (.pick (.t 17) (.t 22) (.k (.bool false))), none⟩,
 ⟨(some 4), (.mov (.t 23)), none⟩])
 .ret))⟩

/-- 48: signetring/ratchet.Same -/
def F48 : Fun :=
 ⟨20, 2, [.t 4],
 (.seq (.reg [⟨(some 2), (.box none (.t 0)), none⟩,
 ⟨(some 3), (.box none (.t 1)), none⟩,
 ⟨(some 4), (.mov (.k (.bool false))), none⟩])
 (.seq (.reg [⟨(some 5), (.mov (.k (.fn (.func 99) [] []))), none⟩])
 (.seq (.dreg [⟨(some 6), (.mov (.t 5)), none⟩,
 ⟨(some 7), (.load 13 true (.t 2)), none⟩,
 ⟨(some 8), (.call (.t 6) [(.t 7)]), none⟩,
 ⟨(some 9), (.mov (.t 5)), none⟩,
 ⟨(some 10), (.load 13 true (.t 3)), none⟩,
 ⟨(some 11), (.call (.t 9) [(.t 10)]), none⟩,
 ⟨(some 12), (.bin .eql (.agg [.str, .str, .str, .str, .str, .str, .str, .str, .num, .str, .num, .num]) (.t 8) (.t 11)), none⟩,
 ⟨(some 13), (.mov (.t 12)), none⟩,
 ⟨(some 14), (.fad 12 (.t 2)), some (13, true)⟩,
 ⟨(some 15), (.load 1 false (.t 14)), some (13, true)⟩,
 ⟨(some 16), (.fad 12 (.t 3)), some (13, true)⟩,
 ⟨(some 17), (.load 1 false (.t 16)), some (13, true)⟩,
 ⟨(some 18), (.call (.k (.fn (.func 100) [] [])) [(.t 15), (.t 17)]), some (13, true)⟩,
 ⟨(some 19), (.pick (.t 13) (.t 18) (.k (.bool false))), none⟩,
 ⟨(some 4), (.mov (.t 19)), none⟩] (.lin [] [(0, none), (1, none), (3, none), (4, none), (2, some [3, 4]), (5, some []), (6, none), (7, none), (8, none), (9, none), (10, none), (11, none), (12, some []), (13, none), (14, none)]))
 .ret)))⟩

/-- 49: slices.Equal[[]signetring/session.Pre,signetring/session.Pre] -/
def F49 : Fun :=
 ⟨26, 2, [.t 4],
 (.seq (.reg [⟨(some 4), (.mov (.k (.bool false))), none⟩])
 (.seq (.seq (.reg [⟨(some 6), (.mov (.t 0)), none⟩,
 ⟨(some 7), (.len .slc (.t 6)), none⟩,
 ⟨(some 8), (.mov (.t 1)), none⟩,
 ⟨(some 9), (.len .slc (.t 8)), none⟩,
 ⟨(some 10), (.bin .neq .num (.t 7) (.t 9)), none⟩])
 (.cond (.t 10)
 (.seq (.reg [⟨(some 4), (.mov (.k (.bool false))), none⟩])
 .ret)
 .skip))
 (.seq (.seq (.reg [⟨(some 11), (.mov (.t 0)), none⟩,
 ⟨(some 12), (.len .slc (.t 11)), none⟩,
 ⟨(some 13), (.mov (.k (.int .i64 0))), none⟩])
 (.block 0
 (.loop
 (.seq (.reg [⟨(some 14), (.bin .lss .num (.t 13) (.t 12)), none⟩])
 (.seq (.cond (.t 14)
 .skip
 (.exit 0))
 (.seq (.block 1
 (.seq (.reg [⟨(some 15), (.mov (.t 13)), none⟩,
 ⟨(some 5), (.mov (.t 15)), none⟩])
 (.seq (.dreg [⟨(some 16), (.mov (.t 0)), none⟩,
 ⟨(some 17), (.mov (.t 5)), none⟩,
 ⟨(some 18), (.iad 2 (.t 16) (.t 17)), none⟩,
 ⟨(some 19), (.load 2 true (.t 18)), none⟩,
 ⟨(some 20), (.mov (.t 1)), none⟩,
 ⟨(some 21), (.mov (.t 5)), none⟩,
 ⟨(some 22), (.iad 2 (.t 20) (.t 21)), none⟩,
 ⟨(some 23), (.load 2 true (.t 22)), none⟩,
 ⟨(some 24), (.bin .neq (.agg [.num, .str]) (.t 19) (.t 23)), none⟩] (.lin [] [(0, none), (1, none), (2, none), (3, none), (4, none), (5, none), (6, none), (7, none), (8, none)]))
 (.cond (.t 24)
 (.seq (.reg [⟨(some 4), (.mov (.k (.bool false))), none⟩])
 .ret)
 .skip))))
 (.reg [⟨(some 25), (.bin .add .num (.t 13) (.k (.int .i64 1))), none⟩,
 ⟨(some 13), (.mov (.t 25)), none⟩])))))))
 (.seq (.reg [⟨(some 4), (.mov (.k (.bool true))), none⟩])
 .ret))))⟩

/-- 50: slices.EqualFunc[[]signetring/session.Peer,[]signetring/session.Peer,signetring/session.Peer,signetring/session.Peer] -/
def F50 : Fun :=
 ⟨32, 3, [.t 6],
 (.seq (.reg [⟨(some 6), (.mov (.k (.bool false))), none⟩])
 (.seq (.seq (.reg [⟨(some 10), (.mov (.t 0)), none⟩,
 ⟨(some 11), (.len .slc (.t 10)), none⟩,
 ⟨(some 12), (.mov (.t 1)), none⟩,
 ⟨(some 13), (.len .slc (.t 12)), none⟩,
 ⟨(some 14), (.bin .neq .num (.t 11) (.t 13)), none⟩])
 (.cond (.t 14)
 (.seq (.reg [⟨(some 6), (.mov (.k (.bool false))), none⟩])
 .ret)
 .skip))
 (.seq (.seq (.reg [⟨(some 15), (.mov (.t 0)), none⟩,
 ⟨(some 16), (.len .slc (.t 15)), none⟩,
 ⟨(some 17), (.mov (.k (.int .i64 0))), none⟩])
 (.block 0
 (.loop
 (.seq (.reg [⟨(some 18), (.bin .lss .num (.t 17) (.t 16)), none⟩])
 (.seq (.cond (.t 18)
 .skip
 (.exit 0))
 (.seq (.block 1
 (.seq (.reg [⟨(some 19), (.mov (.t 17)), none⟩,
 ⟨(some 20), (.iad 15 (.t 15) (.t 17)), none⟩,
 ⟨(some 21), (.load 15 true (.t 20)), none⟩,
 ⟨(some 8), (.new [(.str []), (.int .u64 0), (.str []), (.str []), (.str []), (.str []), (.int .i64 0), (.str []), (.int .i64 0), (.str []), (.str []), (.str []), (.str []), (.int .i64 0), .nsl] none), none⟩,
 ⟨(some 7), (.mov (.t 19)), none⟩,
 ⟨none, (.store 15 (.t 8) (.t 21)), none⟩])
 (.seq (.reg [⟨(some 22), (.mov (.t 1)), none⟩,
 ⟨(some 23), (.mov (.t 7)), none⟩,
 ⟨(some 24), (.iad 15 (.t 22) (.t 23)), none⟩,
 ⟨(some 25), (.load 15 true (.t 24)), none⟩,
 ⟨(some 9), (.new [(.str []), (.int .u64 0), (.str []), (.str []), (.str []), (.str []), (.int .i64 0), (.str []), (.int .i64 0), (.str []), (.str []), (.str []), (.str []), (.int .i64 0), .nsl] none), none⟩,
 ⟨none, (.store 15 (.t 9) (.t 25)), none⟩])
 (.seq (.reg [⟨(some 26), (.mov (.t 2)), none⟩,
 ⟨(some 27), (.load 15 true (.t 8)), none⟩,
 ⟨(some 28), (.load 15 true (.t 9)), none⟩,
 ⟨(some 29), (.call (.t 26) [(.t 27), (.t 28)]), none⟩,
 ⟨(some 30), (.un .not (.t 29)), none⟩])
 (.cond (.t 30)
 (.seq (.reg [⟨(some 6), (.mov (.k (.bool false))), none⟩])
 .ret)
 .skip)))))
 (.reg [⟨(some 31), (.bin .add .num (.t 17) (.k (.int .i64 1))), none⟩,
 ⟨(some 17), (.mov (.t 31)), none⟩])))))))
 (.seq (.reg [⟨(some 6), (.mov (.k (.bool true))), none⟩])
 .ret))))⟩

/-- 51: (signetring/session.Device).at -/
def F51 : Fun :=
 ⟨9, 2, [.t 4],
 (.seq (.reg [⟨(some 2), (.box none (.t 0)), none⟩,
 ⟨(some 3), (.box none (.t 1)), none⟩,
 ⟨(some 4), (.mov (.k (.int .i64 0))), none⟩])
 (.seq (.reg [⟨(some 5), (.fad 3 (.t 2)), none⟩,
 ⟨(some 6), (.load 1 false (.t 5)), none⟩,
 ⟨(some 7), (.mkf (.func 102) [] [(.t 3)]), none⟩,
 ⟨(some 8), (.call (.k (.fn (.func 101) [] [])) [(.t 6), (.t 7)]), none⟩,
 ⟨(some 4), (.mov (.t 8)), none⟩])
 .ret))⟩

/-- 63: signetring/codec.Read -/
def F63 : Fun :=
 ⟨28, 1, [.t 2, .t 3],
 (.seq (.reg [⟨(some 2), (.mov (.k (.int .u64 0))), none⟩,
 ⟨(some 3), (.mov (.k (.int .i64 0))), none⟩])
 (.seq (.seq (.reg [⟨(some 7), (.mov (.t 0)), none⟩,
 ⟨(some 8), (.len .str (.t 7)), none⟩,
 ⟨(some 9), (.bin .gtr .num (.t 8) (.k (.int .i64 8))), none⟩,
 ⟨(some 10), (.mov (.t 9)), none⟩,
 ⟨(some 11), (.mov (.t 0)), some (10, false)⟩,
 ⟨(some 12), (.call (.k (.fn (.func 108) [] [])) [(.t 11), (.k (.str [0]))]), some (10, false)⟩,
 ⟨(some 13), (.pick (.t 10) (.k (.bool true)) (.t 12)), none⟩])
 (.cond (.t 13)
 (.seq (.reg [⟨(some 2), (.mov (.k (.int .u64 0))), none⟩,
 ⟨(some 3), (.mov (.k (.int .i64 4))), none⟩])
 .ret)
 .skip))
 (.seq (.reg [⟨(some 4), (.mov (.k (.int .u64 0))), none⟩])
 (.seq (.seq (.reg [⟨(some 14), (.mov (.t 0)), none⟩,
 ⟨(some 15), (.s2b true (.t 14)), none⟩,
 ⟨(some 16), (.len .slc (.t 15)), none⟩,
 ⟨(some 17), (.mov (.k (.int .i64 0))), none⟩])
 (.block 0
 (.loop
 (.seq (.reg [⟨(some 18), (.bin .lss .num (.t 17) (.t 16)), none⟩])
 (.seq (.cond (.t 18)
 .skip
 (.exit 0))
 (.seq (.block 1
 (.seq (.reg [⟨(some 19), (.iad 1 (.t 15) (.t 17)), none⟩,
 ⟨(some 20), (.load 1 false (.t 19)), none⟩,
 ⟨(some 6), (.mov (.t 20)), none⟩])
 (.reg [⟨(some 21), (.mov (.t 4)), none⟩,
 ⟨(some 22), (.bin .shl .num (.t 21) (.k (.int .u64 8))), none⟩,
 ⟨(some 23), (.mov (.t 6)), none⟩,
 ⟨(some 24), (.cvi .u64 (.t 23)), none⟩,
 ⟨(some 25), (.bin .or .num (.t 22) (.t 24)), none⟩,
 ⟨(some 4), (.mov (.t 25)), none⟩])))
 (.reg [⟨(some 26), (.bin .add .num (.t 17) (.k (.int .i64 1))), none⟩,
 ⟨(some 17), (.mov (.t 26)), none⟩])))))))
 (.seq (.reg [⟨(some 27), (.mov (.t 4)), none⟩,
 ⟨(some 2), (.mov (.t 27)), none⟩,
 ⟨(some 3), (.mov (.k (.int .i64 0))), none⟩])
 .ret)))))⟩

/-- 67: signetring/codec.Num -/
def F67 : Fun :=
 ⟨27, 1, [.t 2],
 (.seq (.reg [⟨(some 2), (.mov (.k (.str []))), none⟩])
 (.seq (.reg [⟨(some 3), (.mov (.k .nsl)), none⟩])
 (.seq (.seq (.reg [⟨(some 4), (.mov (.k (.int .i64 56))), none⟩])
 (.block 0
 (.loop
 (.seq (.seq (.reg [⟨(some 6), (.mov (.t 4)), none⟩,
 ⟨(some 7), (.bin .geq .num (.t 6) (.k (.int .i64 0))), none⟩])
 (.cond (.t 7)
 .skip
 (.exit 0)))
 (.seq (.block 1
 (.seq (.reg [⟨(some 10), (.mov (.t 0)), none⟩,
 ⟨(some 11), (.mov (.t 4)), none⟩,
 ⟨(some 12), (.bin .shr .num (.t 10) (.t 11)), none⟩,
 ⟨(some 13), (.cvi .u8 (.t 12)), none⟩,
 ⟨(some 5), (.mov (.t 13)), none⟩])
 (.seq (.reg [⟨(some 14), (.mov (.t 5)), none⟩,
 ⟨(some 15), (.bin .neq .num (.t 14) (.k (.int .u8 0))), none⟩,
 ⟨(some 16), (.mov (.t 15)), none⟩,
 ⟨(some 17), (.mov (.t 3)), some (16, false)⟩,
 ⟨(some 18), (.len .slc (.t 17)), some (16, false)⟩,
 ⟨(some 19), (.bin .gtr .num (.t 18) (.k (.int .i64 0))), some (16, false)⟩,
 ⟨(some 20), (.pick (.t 16) (.k (.bool true)) (.t 19)), none⟩])
 (.cond (.t 20)
 (.reg [⟨(some 21), (.mov (.t 3)), none⟩,
 ⟨(some 22), (.mov (.t 5)), none⟩,
 ⟨(some 23), (.mks true 1 1 false [(.int .u8 0)] 1 [(0, (.t 22))]), none⟩,
 ⟨(some 24), (.app 1 1 false none (.t 21) (.t 23)), none⟩,
 ⟨(some 3), (.mov (.t 24)), none⟩])
 .skip))))
 (.reg [⟨(some 8), (.mov (.t 4)), none⟩,
 ⟨(some 9), (.bin .sub .num (.t 8) (.k (.int .i64 8))), none⟩,
 ⟨(some 4), (.mov (.t 9)), none⟩]))))))
 (.seq (.reg [⟨(some 25), (.mov (.t 3)), none⟩,
 ⟨(some 26), (.b2s (.t 25)), none⟩,
 ⟨(some 2), (.mov (.t 26)), none⟩])
 .ret))))⟩

/-- 78: signetring/noise.Write -/
def F78 : Fun :=
 ⟨95, 6, [.c 12 1 false, .c 13 4 true, .c 14 1 false],
 (.seq (.reg [⟨(some 12), (.new [(.str [])] none), none⟩,
 ⟨(some 13), (.new [(.str []), (.str []), (.str []), (.str [])] none), none⟩,
 ⟨(some 14), (.new [(.int .i64 0)] none), none⟩])
 (.seq (.reg [⟨(some 23), (.mkf (.func 127) [] [(.t 12), (.t 13)]), none⟩,
 ⟨none, (.dfr (.k (.fn (.func 126) [] [])) [(.t 14), (.t 23)]), none⟩])
 (.seq (.reg [⟨(some 24), (.mov (.t 0)), none⟩,
 ⟨(some 25), (.bin .neq .ifc (.t 24) (.k .nifc)), none⟩,
 ⟨(some 26), (.call (.k (.fn (.func 128) [] [])) [(.t 25), (.k (.int .i64 1))]), none⟩])
 (.seq (.reg [⟨(some 27), (.mov (.t 0)), none⟩,
 ⟨(some 28), (.mov (.t 4)), none⟩,
 ⟨(some 29), (.mov (.t 3)), none⟩,
 ⟨(some 30), (.call (.k (.fn (.func 129) [] [])) [(.t 27), (.t 28), (.t 29)]), none⟩,
 ⟨(some 15), (.mov (.t 30)), none⟩])
 (.seq (.reg [⟨(some 31), (.mov (.t 15)), none⟩,
 ⟨(some 32), (.mov (.t 1)), none⟩,
 ⟨(some 33), (.call (.k (.fn (.func 130) [] [])) [(.t 31), (.t 32)]), none⟩,
 ⟨(some 34), (.mov (.t 15)), none⟩,
 ⟨(some 35), (.mov (.t 2)), none⟩,
 ⟨(some 36), (.call (.k (.fn (.func 130) [] [])) [(.t 34), (.t 35)]), none⟩,
 ⟨(some 16), (.mov (.t 33)), none⟩,
 ⟨(some 17), (.mov (.t 36)), none⟩])
 (.seq (.reg [⟨(some 38), (.mov (.t 0)), none⟩,
 ⟨(some 39), (.mov (.t 1)), none⟩,
 ⟨(some 40), (.mov (.t 3)), none⟩,
 ⟨(some 41), (.inv (.t 38) "Dh" [(.t 39), (.t 40)]), none⟩,
 ⟨(some 37), (.mov (.t 41)), none⟩,
 ⟨(some 42), (.ext (.t 37) 0), none⟩,
 ⟨(some 43), (.ext (.t 37) 1), none⟩,
 ⟨(some 18), (.mov (.t 42)), none⟩,
 ⟨(some 19), (.mov (.t 43)), none⟩])
 (.seq (.reg [⟨(some 44), (.mov (.t 19)), none⟩,
 ⟨(some 45), (.call (.k (.fn (.func 128) [] [])) [(.t 44), (.k (.int .i64 6))]), none⟩])
 (.seq (.reg [⟨(some 46), (.mov (.t 15)), none⟩,
 ⟨(some 47), (.mov (.t 17)), none⟩,
 ⟨(some 48), (.call (.k (.fn (.func 131) [] [])) [(.t 46), (.t 47)]), none⟩])
 (.seq (.reg [⟨(some 49), (.mov (.t 15)), none⟩,
 ⟨(some 50), (.mov (.t 2)), none⟩,
 ⟨(some 51), (.mov (.t 3)), none⟩,
 ⟨(some 52), (.call (.k (.fn (.func 132) [] [])) [(.t 49), (.t 50), (.t 51)]), none⟩])
 (.seq (.reg [⟨(some 53), (.mov (.t 15)), none⟩,
 ⟨(some 54), (.mov (.t 16)), none⟩,
 ⟨(some 55), (.call (.k (.fn (.func 133) [] [])) [(.t 53), (.t 54)]), none⟩,
 ⟨(some 20), (.mov (.t 55)), none⟩])
 (.seq (.reg [⟨(some 56), (.mov (.t 15)), none⟩,
 ⟨(some 57), (.mov (.t 1)), none⟩,
 ⟨(some 58), (.mov (.t 3)), none⟩,
 ⟨(some 59), (.call (.k (.fn (.func 132) [] [])) [(.t 56), (.t 57), (.t 58)]), none⟩])
 (.seq (.reg [⟨(some 60), (.mov (.t 15)), none⟩,
 ⟨(some 61), (.mov (.t 5)), none⟩,
 ⟨(some 62), (.call (.k (.fn (.func 133) [] [])) [(.t 60), (.t 61)]), none⟩,
 ⟨(some 21), (.mov (.t 62)), none⟩])
 (.seq (.reg [⟨(some 64), (.mov (.t 17)), none⟩,
 ⟨(some 65), (.mov (.t 20)), none⟩,
 ⟨(some 66), (.mov (.t 21)), none⟩,
 ⟨(some 67), (.mks true 1 16 false [(.str []), (.str []), (.str [])] 3 [(0, (.t 64)), (1, (.t 65)), (2, (.t 66))]), none⟩,
 ⟨(some 68), (.call (.k (.fn (.func 105) [] [])) [(.k (.int .u8 88)), (.t 67)]), none⟩,
 ⟨(some 63), (.mov (.t 68)), none⟩,
 ⟨(some 69), (.ext (.t 63) 0), none⟩,
 ⟨(some 70), (.ext (.t 63) 1), none⟩,
 ⟨none, (.store 1 (.t 12) (.t 69)), none⟩,
 ⟨(some 22), (.mov (.t 70)), none⟩])
 (.seq (.reg [⟨(some 71), (.mov (.t 22)), none⟩,
 ⟨(some 72), (.bin .eql .num (.t 71) (.k (.int .i64 0))), none⟩,
 ⟨(some 73), (.call (.k (.fn (.func 128) [] [])) [(.t 72), (.k (.int .i64 3))]), none⟩])
 (.seq (.dreg [⟨(some 74), (.mov (.t 3)), none⟩,
 ⟨(some 75), (.mov (.t 15)), none⟩,
 ⟨(some 76), (.nilck (.t 75)), none⟩,
 ⟨(some 77), (.fad 0 (.t 76)), none⟩,
 ⟨(some 78), (.fad 1 (.t 77)), none⟩,
 ⟨(some 79), (.load 1 false (.t 78)), none⟩,
 ⟨none, (.store 4 (.t 13) (.k (.agg [(.str []), (.str []), (.str []), (.str [])]))), none⟩,
 ⟨(some 80), (.fad 0 (.t 13)), none⟩,
 ⟨none, (.store 1 (.t 80) (.t 74)), none⟩,
 ⟨(some 81), (.fad 3 (.t 13)), none⟩,
 ⟨none, (.store 1 (.t 81) (.t 79)), none⟩] (.lin [] [(0, none), (1, none), (2, none), (3, none), (4, none), (5, none), (6, some [0, 1, 2, 3, 4, 5]), (7, none), (8, some [1, 2, 3, 4, 5]), (9, none), (10, some [])]))
 (.seq (.reg [⟨(some 83), (.mov (.t 0)), none⟩,
 ⟨(some 84), (.mov (.t 15)), none⟩,
 ⟨(some 85), (.nilck (.t 84)), none⟩,
 ⟨(some 86), (.fad 0 (.t 85)), none⟩,
 ⟨(some 87), (.load 4 true (.t 86)), none⟩,
 ⟨(some 88), (.call (.k (.fn (.func 134) [] [])) [(.t 83), (.t 87)]), none⟩,
 ⟨(some 82), (.mov (.t 88)), none⟩,
 ⟨(some 89), (.ext (.t 82) 0), none⟩,
 ⟨(some 90), (.ext (.t 82) 1), none⟩,
 ⟨(some 91), (.fad 1 (.t 13)), none⟩,
 ⟨none, (.store 1 (.t 91) (.t 89)), none⟩,
 ⟨(some 92), (.fad 2 (.t 13)), none⟩,
 ⟨none, (.store 1 (.t 92) (.t 90)), none⟩])
 (.seq (.dreg [⟨(some 93), (.load 1 false (.t 12)), none⟩,
 ⟨(some 94), (.load 4 true (.t 13)), none⟩,
 ⟨none, (.store 1 (.t 12) (.t 93)), none⟩,
 ⟨none, (.store 4 (.t 13) (.t 94)), none⟩,
 ⟨none, (.store 1 (.t 14) (.k (.int .i64 0))), none⟩] (.lin [] [(0, none), (1, none), (2, some [1]), (3, some []), (4, some [])]))
 .ret)))))))))))))))))⟩

/-- 79: (signetring/session.Bundle).prologue -/
def F79 : Fun :=
 ⟨22, 2, [.t 4],
 (.seq (.reg [⟨(some 2), (.box none (.t 0)), none⟩,
 ⟨(some 4), (.mov (.k (.str []))), none⟩])
 (.seq (.dreg [⟨(some 8), (.fad 0 (.t 2)), none⟩,
 ⟨(some 9), (.load 1 false (.t 8)), none⟩,
 ⟨(some 10), (.fad 1 (.t 2)), none⟩,
 ⟨(some 11), (.load 1 false (.t 10)), none⟩,
 ⟨(some 12), (.fad 2 (.t 2)), none⟩,
 ⟨(some 13), (.load 1 false (.t 12)), none⟩,
 ⟨(some 14), (.call (.k (.fn (.func 67) [] [])) [(.t 13)]), none⟩,
 ⟨(some 15), (.mov (.t 1)), none⟩,
 ⟨(some 16), (.call (.k (.fn (.func 67) [] [])) [(.t 15)]), none⟩,
 ⟨(some 17), (.mks true 1 16 false [(.str []), (.str []), (.str []), (.str [])] 4 [(0, (.t 9)), (1, (.t 11)), (2, (.t 14)), (3, (.t 16))]), none⟩,
 ⟨(some 18), (.call (.k (.fn (.func 105) [] [])) [(.k (.int .u8 66)), (.t 17)]), none⟩,
 ⟨(some 7), (.mov (.t 18)), none⟩,
 ⟨(some 19), (.ext (.t 7) 0), none⟩,
 ⟨(some 20), (.ext (.t 7) 1), none⟩,
 ⟨(some 5), (.mov (.t 19)), none⟩,
 ⟨(some 6), (.mov (.t 20)), none⟩] (.lin [] [(0, none), (1, none), (2, none), (3, none), (4, none), (5, none), (7, none), (6, some [0, 1, 2, 3, 7]), (8, some [0, 1, 2, 3]), (9, none), (10, some []), (11, none), (12, none), (13, none), (14, none), (15, none)]))
 (.seq (.reg [⟨(some 21), (.mov (.t 5)), none⟩,
 ⟨(some 4), (.mov (.t 21)), none⟩])
 .ret)))⟩

/-- 80: signetring/session.three -/
def F80 : Fun :=
 ⟨19, 3, [.c 6 3 true],
 (.seq (.reg [⟨(some 6), (.new [(.str []), (.str []), (.str [])] none), none⟩])
 (.seq (.reg [⟨(some 8), (.mov (.t 0)), none⟩,
 ⟨(some 9), (.mov (.t 1)), none⟩,
 ⟨(some 10), (.mov (.t 2)), none⟩,
 ⟨(some 11), (.inv (.t 8) "Keys" [(.t 9), (.t 10), (.k (.int .i64 3))]), none⟩,
 ⟨(some 7), (.mov (.t 11)), none⟩])
 (.seq (.reg [⟨(some 12), (.mov (.t 7)), none⟩,
 ⟨(some 13), (.len .slc (.t 12)), none⟩,
 ⟨(some 14), (.bin .eql .num (.t 13) (.k (.int .i64 3))), none⟩,
 ⟨(some 15), (.call (.k (.fn (.func 44) [] [])) [(.t 14), (.k (.int .i64 6))]), none⟩])
 (.seq (.reg [⟨(some 16), (.mov (.t 7)), none⟩,
 ⟨(some 17), (.arrp 3 1 (.t 16)), none⟩,
 ⟨(some 18), (.load 3 true (.t 17)), none⟩,
 ⟨none, (.store 3 (.t 6) (.t 18)), none⟩])
 .ret))))⟩

/-- 81: signetring/ratchet.First -/
def F81 : Fun :=
 ⟨37, 6, [.c 12 13 true, .t 13],
 (.seq (.reg [⟨(some 12), (.new [(.str []), (.str []), (.str []), (.str []), (.int .i64 0), (.str []), (.int .i64 0), (.str []), (.str []), (.str []), (.str []), (.int .i64 0), .nsl] none), none⟩,
 ⟨(some 13), (.mov (.k (.int .i64 0))), none⟩])
 (.seq (.seq (.reg [⟨(some 17), (.mov (.t 0)), none⟩,
 ⟨(some 18), (.mov (.t 5)), none⟩,
 ⟨(some 19), (.call (.k (.fn (.func 135) [] [])) [(.t 17), (.t 18)]), none⟩,
 ⟨(some 14), (.mov (.t 19)), none⟩])
 (.seq (.reg [⟨(some 20), (.mov (.t 14)), none⟩,
 ⟨(some 21), (.bin .neq .num (.t 20) (.k (.int .i64 0))), none⟩])
 (.cond (.t 21)
 (.seq (.reg [⟨(some 22), (.build [(.str []), (.str []), (.str []), (.str []), (.int .i64 0), (.str []), (.int .i64 0), (.str []), (.str []), (.str []), (.str []), (.int .i64 0), .nsl] []), none⟩,
 ⟨(some 23), (.mov (.t 14)), none⟩,
 ⟨none, (.store 13 (.t 12) (.t 22)), none⟩,
 ⟨(some 13), (.mov (.t 23)), none⟩])
 .ret)
 .skip)))
 (.seq (.reg [⟨(some 24), (.mov (.t 4)), none⟩,
 ⟨(some 25), (.mov (.t 1)), none⟩,
 ⟨(some 26), (.mov (.t 2)), none⟩,
 ⟨(some 27), (.mov (.t 3)), none⟩,
 ⟨(some 28), (.build [(.str []), (.str []), (.str []), (.str []), (.int .i64 0), (.str []), (.int .i64 0), (.str []), (.str []), (.str []), (.str []), (.int .i64 0), .nsl] [(1, 1, (.t 24)), (2, 1, (.t 25)), (9, 1, (.t 26)), (10, 1, (.t 27))]), none⟩,
 ⟨(some 15), (.new [(.str []), (.str []), (.str []), (.str []), (.int .i64 0), (.str []), (.int .i64 0), (.str []), (.str []), (.str []), (.str []), (.int .i64 0), .nsl] none), none⟩,
 ⟨none, (.store 13 (.t 15) (.t 28)), none⟩])
 (.seq (.seq (.reg [⟨(some 29), (.mov (.t 0)), none⟩,
 ⟨(some 30), (.mov (.t 5)), none⟩,
 ⟨(some 31), (.call (.k (.fn (.func 136) [] [])) [(.t 15), (.t 29), (.t 30)]), none⟩,
 ⟨(some 16), (.mov (.t 31)), none⟩])
 (.seq (.reg [⟨(some 32), (.mov (.t 16)), none⟩,
 ⟨(some 33), (.bin .neq .num (.t 32) (.k (.int .i64 0))), none⟩])
 (.cond (.t 33)
 (.seq (.reg [⟨(some 34), (.build [(.str []), (.str []), (.str []), (.str []), (.int .i64 0), (.str []), (.int .i64 0), (.str []), (.str []), (.str []), (.str []), (.int .i64 0), .nsl] []), none⟩,
 ⟨(some 35), (.mov (.t 16)), none⟩,
 ⟨none, (.store 13 (.t 12) (.t 34)), none⟩,
 ⟨(some 13), (.mov (.t 35)), none⟩])
 .ret)
 .skip)))
 (.seq (.reg [⟨(some 36), (.load 13 true (.t 15)), none⟩,
 ⟨none, (.store 13 (.t 12) (.t 36)), none⟩,
 ⟨(some 13), (.mov (.k (.int .i64 0))), none⟩])
 .ret)))))⟩

/-- 82: signetring/session.joined -/
def F82 : Fun :=
 ⟨17, 2, [.t 4],
 (.seq (.reg [⟨(some 4), (.mov (.k (.str []))), none⟩])
 (.seq (.reg [⟨(some 8), (.mov (.t 0)), none⟩,
 ⟨(some 9), (.mov (.t 1)), none⟩,
 ⟨(some 10), (.call (.k (.fn (.func 105) [] [])) [(.t 8), (.t 9)]), none⟩,
 ⟨(some 7), (.mov (.t 10)), none⟩,
 ⟨(some 11), (.ext (.t 7) 0), none⟩,
 ⟨(some 12), (.ext (.t 7) 1), none⟩,
 ⟨(some 5), (.mov (.t 11)), none⟩,
 ⟨(some 6), (.mov (.t 12)), none⟩])
 (.seq (.reg [⟨(some 13), (.mov (.t 6)), none⟩,
 ⟨(some 14), (.bin .eql .num (.t 13) (.k (.int .i64 0))), none⟩,
 ⟨(some 15), (.call (.k (.fn (.func 44) [] [])) [(.t 14), (.k (.int .i64 3))]), none⟩])
 (.seq (.reg [⟨(some 16), (.mov (.t 5)), none⟩,
 ⟨(some 4), (.mov (.t 16)), none⟩])
 .ret))))⟩

/-- 83: (signetring/session.Device).with -/
def F83 : Fun :=
 ⟨26, 2, [.c 4 4 true],
 (.seq (.reg [⟨(some 2), (.box none (.t 0)), none⟩,
 ⟨(some 3), (.box none (.t 1)), none⟩,
 ⟨(some 4), (.new [(.str []), .nsl, (.int .u64 0), .nsl] none), none⟩])
 (.seq (.reg [⟨(some 6), (.load 4 true (.t 2)), none⟩,
 ⟨(some 7), (.call (.k (.fn (.func 40) [] [])) [(.t 6)]), none⟩,
 ⟨none, (.store 4 (.t 2) (.t 7)), none⟩])
 (.seq (.seq (.reg [⟨(some 8), (.load 4 true (.t 2)), none⟩,
 ⟨(some 9), (.fad 0 (.t 3)), none⟩,
 ⟨(some 10), (.load 1 false (.t 9)), none⟩,
 ⟨(some 11), (.call (.k (.fn (.func 51) [] [])) [(.t 8), (.t 10)]), none⟩,
 ⟨(some 5), (.mov (.t 11)), none⟩])
 (.seq (.reg [⟨(some 12), (.mov (.t 5)), none⟩,
 ⟨(some 13), (.bin .geq .num (.t 12) (.k (.int .i64 0))), none⟩])
 (.cond (.t 13)
 (.reg [⟨(some 14), (.fad 3 (.t 2)), none⟩,
 ⟨(some 15), (.load 1 false (.t 14)), none⟩,
 ⟨(some 16), (.mov (.t 5)), none⟩,
 ⟨(some 17), (.load 15 true (.t 3)), none⟩,
 ⟨(some 18), (.iad 15 (.t 15) (.t 16)), none⟩,
 ⟨none, (.store 15 (.t 18) (.t 17)), none⟩])
 (.reg [⟨(some 19), (.fad 3 (.t 2)), none⟩,
 ⟨(some 20), (.load 1 false (.t 19)), none⟩,
 ⟨(some 21), (.load 15 true (.t 3)), none⟩,
 ⟨(some 22), (.mks true 15 216 true [(.str []), (.int .u64 0), (.str []), (.str []), (.str []), (.str []), (.int .i64 0), (.str []), (.int .i64 0), (.str []), (.str []), (.str []), (.str []), (.int .i64 0), .nsl] 1 [(0, (.t 21))]), none⟩,
 ⟨(some 23), (.app 15 216 true none (.t 20) (.t 22)), none⟩,
 ⟨(some 24), (.fad 3 (.t 2)), none⟩,
 ⟨none, (.store 1 (.t 24) (.t 23)), none⟩]))))
 (.seq (.reg [⟨(some 25), (.load 4 true (.t 2)), none⟩,
 ⟨none, (.store 4 (.t 4) (.t 25)), none⟩])
 .ret))))⟩

/-- 85: signetring/ratchet.Seal -/
def F85 : Fun :=
 ⟨118, 5, [.c 10 13 true, .t 11, .t 12],
 (.seq (.reg [⟨(some 6), (.box none (.t 1)), none⟩,
 ⟨(some 10), (.new [(.str []), (.str []), (.str []), (.str []), (.int .i64 0), (.str []), (.int .i64 0), (.str []), (.str []), (.str []), (.str []), (.int .i64 0), .nsl] none), none⟩,
 ⟨(some 11), (.mov (.k (.str []))), none⟩,
 ⟨(some 12), (.mov (.k (.int .i64 0))), none⟩])
 (.seq (.reg [⟨(some 23), (.mov (.t 0)), none⟩,
 ⟨(some 24), (.mov (.t 4)), none⟩,
 ⟨(some 25), (.call (.k (.fn (.func 135) [] [])) [(.t 23), (.t 24)]), none⟩,
 ⟨(some 13), (.mov (.t 25)), none⟩])
 (.seq (.block 0
 (.seq (.reg [⟨(some 27), (.mov (.t 13)), none⟩,
 ⟨(some 28), (.bin .neq .num (.t 27) (.k (.int .i64 0))), none⟩,
 ⟨(some 26), (.mov (.t 28)), none⟩])
 (.cond (.t 26)
 (.seq (.reg [⟨(some 29), (.load 13 true (.t 6)), none⟩,
 ⟨(some 30), (.mov (.t 13)), none⟩,
 ⟨none, (.store 13 (.t 10) (.t 29)), none⟩,
 ⟨(some 11), (.mov (.k (.str []))), none⟩,
 ⟨(some 12), (.mov (.t 30)), none⟩])
 .ret)
 (.seq (.reg [⟨(some 32), (.fad 3 (.t 6)), none⟩,
 ⟨(some 33), (.fad 0 (.t 32)), none⟩,
 ⟨(some 34), (.load 1 false (.t 33)), none⟩,
 ⟨(some 35), (.bin .eql .str (.t 34) (.k (.str []))), none⟩,
 ⟨(some 31), (.mov (.t 35)), none⟩])
 (.cond (.t 31)
 (.seq (.reg [⟨(some 36), (.load 13 true (.t 6)), none⟩,
 ⟨none, (.store 13 (.t 10) (.t 36)), none⟩,
 ⟨(some 11), (.mov (.k (.str []))), none⟩,
 ⟨(some 12), (.mov (.k (.int .i64 13))), none⟩])
 .ret)
 .skip)))))
 (.seq (.reg [⟨(some 38), (.mov (.t 0)), none⟩,
 ⟨(some 39), (.fad 3 (.t 6)), none⟩,
 ⟨(some 40), (.load 2 true (.t 39)), none⟩,
 ⟨(some 41), (.call (.k (.fn (.func 137) [] [])) [(.t 38), (.t 40)]), none⟩,
 ⟨(some 37), (.mov (.t 41)), none⟩,
 ⟨(some 42), (.ext (.t 37) 0), none⟩,
 ⟨(some 43), (.ext (.t 37) 1), none⟩,
 ⟨(some 44), (.ext (.t 37) 2), none⟩,
 ⟨(some 14), (.new [(.str []), (.int .i64 0)] none), none⟩,
 ⟨none, (.store 2 (.t 14) (.t 42)), none⟩,
 ⟨(some 15), (.mov (.t 43)), none⟩,
 ⟨(some 13), (.mov (.t 44)), none⟩])
 (.seq (.seq (.reg [⟨(some 45), (.mov (.t 13)), none⟩,
 ⟨(some 46), (.bin .neq .num (.t 45) (.k (.int .i64 0))), none⟩])
 (.cond (.t 46)
 (.seq (.reg [⟨(some 47), (.load 13 true (.t 6)), none⟩,
 ⟨(some 48), (.mov (.t 13)), none⟩,
 ⟨none, (.store 13 (.t 10) (.t 47)), none⟩,
 ⟨(some 11), (.mov (.k (.str []))), none⟩,
 ⟨(some 12), (.mov (.t 48)), none⟩])
 .ret)
 .skip))
 (.seq (.reg [⟨(some 49), (.mov (.t 4)), none⟩,
 ⟨(some 50), (.mov (.t 4)), none⟩,
 ⟨(some 51), (.len .str (.t 50)), none⟩,
 ⟨(some 52), (.bin .sub .num (.t 51) (.k (.int .i64 8))), none⟩,
 ⟨(some 53), (.slc true 0 (.t 49) (some (.t 52)) none none), none⟩,
 ⟨(some 16), (.mov (.t 53)), none⟩])
 (.seq (.dreg [⟨(some 55), (.mov (.t 0)), none⟩,
 ⟨(some 56), (.fad 0 (.t 6)), none⟩,
 ⟨(some 57), (.load 1 false (.t 56)), none⟩,
 ⟨(some 58), (.inv (.t 55) "Pub" [(.t 57)]), none⟩,
 ⟨(some 59), (.fad 11 (.t 6)), none⟩,
 ⟨(some 60), (.load 1 false (.t 59)), none⟩,
 ⟨(some 61), (.cvi .u64 (.t 60)), none⟩,
 ⟨(some 62), (.call (.k (.fn (.func 67) [] [])) [(.t 61)]), none⟩,
 ⟨(some 63), (.fad 3 (.t 6)), none⟩,
 ⟨(some 64), (.fad 1 (.t 63)), none⟩,
 ⟨(some 65), (.load 1 false (.t 64)), none⟩,
 ⟨(some 66), (.cvi .u64 (.t 65)), none⟩,
 ⟨(some 67), (.call (.k (.fn (.func 67) [] [])) [(.t 66)]), none⟩,
 ⟨(some 68), (.mks true 1 16 false [(.str []), (.str []), (.str [])] 3 [(0, (.t 58)), (1, (.t 62)), (2, (.t 67))]), none⟩,
 ⟨(some 69), (.call (.k (.fn (.func 105) [] [])) [(.k (.int .u8 72)), (.t 68)]), none⟩,
 ⟨(some 54), (.mov (.t 69)), none⟩,
 ⟨(some 70), (.ext (.t 54) 0), none⟩,
 ⟨(some 71), (.ext (.t 54) 1), none⟩,
 ⟨(some 17), (.mov (.t 70)), none⟩,
 ⟨(some 18), (.mov (.t 71)), none⟩] (.lin [] [(0, none), (1, none), (2, none), (4, none), (5, none), (6, none), (8, none), (9, none), (10, none), (11, none), (3, some [4, 5, 6, 8, 9, 10, 11]), (7, some [8, 9, 10, 11]), (12, some []), (13, none), (14, some []), (15, none), (16, none), (17, none), (18, none), (19, none)]))
 (.seq (.dreg [⟨(some 72), (.mov (.t 0)), none⟩,
 ⟨(some 73), (.fad 7 (.t 6)), none⟩,
 ⟨(some 74), (.load 1 false (.t 73)), none⟩,
 ⟨(some 75), (.mov (.t 16)), none⟩,
 ⟨(some 76), (.call (.k (.fn (.func 138) [] [])) [(.t 75)]), none⟩,
 ⟨(some 77), (.mov (.t 2)), none⟩,
 ⟨(some 78), (.mov (.t 17)), none⟩,
 ⟨(some 79), (.mkf (.method "Seal") [(.t 72)] []), none⟩,
 ⟨(some 80), (.nilck (.t 79)), none⟩,
 ⟨(some 81), (.mov (.t 72)), none⟩,
 ⟨(some 82), (.inv (.t 81) "Seal" [(.t 74), (.t 76), (.t 77), (.t 78)]), none⟩,
 ⟨(some 19), (.mov (.t 82)), none⟩] (.lin [] [(0, none), (1, none), (2, none), (3, none), (5, none), (6, none), (7, none), (8, none), (9, none), (4, some [0, 1, 2, 5, 6, 7, 8, 9]), (10, some []), (11, none)]))
 (.seq (.dreg [⟨(some 83), (.mov (.t 0)), none⟩,
 ⟨(some 84), (.mov (.t 15)), none⟩,
 ⟨(some 85), (.mov (.t 0)), none⟩,
 ⟨(some 86), (.mov (.t 2)), none⟩,
 ⟨(some 87), (.mov (.t 19)), none⟩,
 ⟨(some 88), (.call (.k (.fn (.func 139) [] [])) [(.t 85), (.t 86), (.t 87)]), none⟩,
 ⟨(some 89), (.mov (.t 3)), none⟩,
 ⟨(some 90), (.mkf (.method "Seal") [(.t 83)] []), none⟩,
 ⟨(some 91), (.nilck (.t 90)), none⟩,
 ⟨(some 92), (.mov (.t 83)), none⟩,
 ⟨(some 93), (.inv (.t 92) "Seal" [(.t 84), (.k (.int .u64 0)), (.t 88), (.t 89)]), none⟩,
 ⟨(some 20), (.mov (.t 93)), none⟩] (.lin [] [(0, none), (1, none), (2, none), (3, none), (4, none), (6, none), (7, none), (8, none), (9, none), (5, some [0, 1, 6, 7, 8, 9]), (10, some []), (11, none)]))
 (.seq (.reg [⟨(some 95), (.mov (.t 16)), none⟩,
 ⟨(some 96), (.mov (.t 19)), none⟩,
 ⟨(some 97), (.mov (.t 20)), none⟩,
 ⟨(some 98), (.mks true 1 16 false [(.str []), (.str []), (.str [])] 3 [(0, (.t 95)), (1, (.t 96)), (2, (.t 97))]), none⟩,
 ⟨(some 99), (.call (.k (.fn (.func 105) [] [])) [(.k (.int .u8 77)), (.t 98)]), none⟩,
 ⟨(some 94), (.mov (.t 99)), none⟩,
 ⟨(some 100), (.ext (.t 94) 0), none⟩,
 ⟨(some 101), (.ext (.t 94) 1), none⟩,
 ⟨(some 21), (.mov (.t 100)), none⟩,
 ⟨(some 13), (.mov (.t 101)), none⟩])
 (.seq (.seq (.reg [⟨(some 102), (.mov (.t 19)), none⟩,
 ⟨(some 103), (.bin .eql .str (.t 102) (.k (.str []))), none⟩,
 ⟨(some 104), (.mov (.t 103)), none⟩,
 ⟨(some 105), (.mov (.t 20)), some (104, false)⟩,
 ⟨(some 106), (.bin .eql .str (.t 105) (.k (.str []))), some (104, false)⟩,
 ⟨(some 107), (.pick (.t 104) (.k (.bool true)) (.t 106)), none⟩,
 ⟨(some 108), (.mov (.t 107)), none⟩,
 ⟨(some 109), (.mov (.t 13)), some (108, false)⟩,
 ⟨(some 110), (.bin .neq .num (.t 109) (.k (.int .i64 0))), some (108, false)⟩,
 ⟨(some 111), (.pick (.t 108) (.k (.bool true)) (.t 110)), none⟩])
 (.cond (.t 111)
 (.seq (.reg [⟨(some 112), (.load 13 true (.t 6)), none⟩,
 ⟨none, (.store 13 (.t 10) (.t 112)), none⟩,
 ⟨(some 11), (.mov (.k (.str []))), none⟩,
 ⟨(some 12), (.mov (.k (.int .i64 3))), none⟩])
 .ret)
 .skip))
 (.seq (.reg [⟨(some 113), (.load 13 true (.t 6)), none⟩,
 ⟨(some 22), (.new [(.str []), (.str []), (.str []), (.str []), (.int .i64 0), (.str []), (.int .i64 0), (.str []), (.str []), (.str []), (.str []), (.int .i64 0), .nsl] none), none⟩,
 ⟨none, (.store 13 (.t 22) (.t 113)), none⟩])
 (.seq (.reg [⟨(some 114), (.load 2 true (.t 14)), none⟩,
 ⟨(some 115), (.fad 3 (.t 22)), none⟩,
 ⟨none, (.store 2 (.t 115) (.t 114)), none⟩])
 (.seq (.reg [⟨(some 116), (.load 13 true (.t 22)), none⟩,
 ⟨(some 117), (.mov (.t 21)), none⟩,
 ⟨none, (.store 13 (.t 10) (.t 116)), none⟩,
 ⟨(some 11), (.mov (.t 117)), none⟩,
 ⟨(some 12), (.mov (.k (.int .i64 0))), none⟩])
 .ret))))))))))))))⟩

/-- 86: (signetring/session.Peer).ad -/
def F86 : Fun :=
 ⟨29, 2, [.t 4],
 (.seq (.reg [⟨(some 2), (.box none (.t 0)), none⟩,
 ⟨(some 4), (.mov (.k (.str []))), none⟩])
 (.seq (.reg [⟨(some 8), (.mov (.t 1)), none⟩,
 ⟨(some 9), (.fad 0 (.t 2)), none⟩,
 ⟨(some 10), (.load 1 false (.t 9)), none⟩,
 ⟨(some 11), (.mks false 1 16 false [(.str []), (.str [])] 2 [(0, (.t 8)), (1, (.t 10))]), none⟩,
 ⟨(some 5), (.mov (.t 11)), none⟩])
 (.seq (.reg [⟨(some 12), (.mov (.t 5)), none⟩,
 ⟨(some 13), (.call (.k (.fn (.func 140) [] [])) [(.t 12)]), none⟩])
 (.seq (.dreg [⟨(some 15), (.mov (.t 5)), none⟩,
 ⟨(some 16), (.iad 1 (.t 15) (.k (.int .i64 0))), none⟩,
 ⟨(some 17), (.load 1 false (.t 16)), none⟩,
 ⟨(some 18), (.mov (.t 5)), none⟩,
 ⟨(some 19), (.iad 1 (.t 18) (.k (.int .i64 1))), none⟩,
 ⟨(some 20), (.load 1 false (.t 19)), none⟩,
 ⟨(some 21), (.fad 1 (.t 2)), none⟩,
 ⟨(some 22), (.load 1 false (.t 21)), none⟩,
 ⟨(some 23), (.call (.k (.fn (.func 67) [] [])) [(.t 22)]), none⟩,
 ⟨(some 24), (.mks true 1 16 false [(.str []), (.str []), (.str [])] 3 [(0, (.t 17)), (1, (.t 20)), (2, (.t 23))]), none⟩,
 ⟨(some 25), (.call (.k (.fn (.func 105) [] [])) [(.k (.int .u8 69)), (.t 24)]), none⟩,
 ⟨(some 14), (.mov (.t 25)), none⟩,
 ⟨(some 26), (.ext (.t 14) 0), none⟩,
 ⟨(some 27), (.ext (.t 14) 1), none⟩,
 ⟨(some 6), (.mov (.t 26)), none⟩,
 ⟨(some 7), (.mov (.t 27)), none⟩] (.lin [] [(0, none), (1, none), (2, none), (3, none), (4, none), (5, none), (6, none), (7, none), (8, some [0, 1, 2, 3, 4, 5]), (9, none), (10, some []), (11, none), (12, none), (13, none), (14, none), (15, none)]))
 (.seq (.reg [⟨(some 28), (.mov (.t 6)), none⟩,
 ⟨(some 4), (.mov (.t 28)), none⟩])
 .ret)))))⟩

/-- 87: slices.Clone[[]signetring/session.Pre,signetring/session.Pre] -/
def F87 : Fun :=
 ⟨8, 1, [.t 2],
 (.seq (.reg [⟨(some 2), (.mov (.k .nsl)), none⟩])
 (.seq (.seq (.reg [⟨(some 3), (.mov (.t 0)), none⟩,
 ⟨(some 4), (.bin .eql .slc (.t 3) (.k .nsl)), none⟩])
 (.cond (.t 4)
 (.seq (.reg [⟨(some 2), (.mov (.k .nsl)), none⟩])
 .ret)
 .skip))
 (.seq (.reg [⟨(some 5), (.mks true 2 24 true [] 0 []), none⟩,
 ⟨(some 6), (.mov (.t 0)), none⟩,
 ⟨(some 7), (.app 2 24 true none (.t 5) (.t 6)), none⟩,
 ⟨(some 2), (.mov (.t 7)), none⟩])
 .ret)))⟩

/-- 88: slices.Clone[[]signetring/session.Peer,signetring/session.Peer] -/
def F88 : Fun :=
 ⟨8, 1, [.t 2],
 (.seq (.reg [⟨(some 2), (.mov (.k .nsl)), none⟩])
 (.seq (.seq (.reg [⟨(some 3), (.mov (.t 0)), none⟩,
 ⟨(some 4), (.bin .eql .slc (.t 3) (.k .nsl)), none⟩])
 (.cond (.t 4)
 (.seq (.reg [⟨(some 2), (.mov (.k .nsl)), none⟩])
 .ret)
 .skip))
 (.seq (.reg [⟨(some 5), (.mks true 15 216 true [] 0 []), none⟩,
 ⟨(some 6), (.mov (.t 0)), none⟩,
 ⟨(some 7), (.app 15 216 true none (.t 5) (.t 6)), none⟩,
 ⟨(some 2), (.mov (.t 7)), none⟩])
 .ret)))⟩

/-- 89: slices.Clone[signetring/skip.Store,signetring/skip.Item] -/
def F89 : Fun :=
 ⟨8, 1, [.t 2],
 (.seq (.reg [⟨(some 2), (.mov (.k .nsl)), none⟩])
 (.seq (.seq (.reg [⟨(some 3), (.mov (.t 0)), none⟩,
 ⟨(some 4), (.bin .eql .slc (.t 3) (.k .nsl)), none⟩])
 (.cond (.t 4)
 (.seq (.reg [⟨(some 2), (.mov (.k .nsl)), none⟩])
 .ret)
 .skip))
 (.seq (.reg [⟨(some 5), (.mks true 3 40 true [] 0 []), none⟩,
 ⟨(some 6), (.mov (.t 0)), none⟩,
 ⟨(some 7), (.app 3 40 true none (.t 5) (.t 6)), none⟩,
 ⟨(some 2), (.mov (.t 7)), none⟩])
 .ret)))⟩

/-- 90: signetring/codec.Split -/
def F90 : Fun :=
 ⟨19, 1, [.t 2, .t 3, .t 4],
 (.seq (.reg [⟨(some 2), (.mov (.k (.int .u8 0))), none⟩,
 ⟨(some 3), (.mov (.k .nsl)), none⟩,
 ⟨(some 4), (.mov (.k (.int .i64 0))), none⟩])
 (.seq (.reg [⟨(some 9), (.mov (.t 0)), none⟩,
 ⟨(some 10), (.call (.k (.fn (.func 141) [] [])) [(.t 9)]), none⟩,
 ⟨(some 8), (.mov (.t 10)), none⟩,
 ⟨(some 11), (.ext (.t 8) 0), none⟩,
 ⟨(some 12), (.ext (.t 8) 1), none⟩,
 ⟨(some 13), (.ext (.t 8) 2), none⟩,
 ⟨(some 5), (.mov (.t 11)), none⟩,
 ⟨(some 6), (.mov (.t 12)), none⟩,
 ⟨(some 7), (.mov (.t 13)), none⟩])
 (.seq (.seq (.reg [⟨(some 14), (.mov (.t 7)), none⟩,
 ⟨(some 15), (.bin .neq .num (.t 14) (.k (.int .i64 0))), none⟩])
 (.cond (.t 15)
 (.seq (.reg [⟨(some 16), (.mov (.t 7)), none⟩,
 ⟨(some 2), (.mov (.k (.int .u8 0))), none⟩,
 ⟨(some 3), (.mov (.k .nsl)), none⟩,
 ⟨(some 4), (.mov (.t 16)), none⟩])
 .ret)
 .skip))
 (.seq (.reg [⟨(some 17), (.mov (.t 5)), none⟩,
 ⟨(some 18), (.mov (.t 6)), none⟩,
 ⟨(some 2), (.mov (.t 17)), none⟩,
 ⟨(some 3), (.mov (.t 18)), none⟩,
 ⟨(some 4), (.mov (.k (.int .i64 0))), none⟩])
 .ret))))⟩

/-- 91: signetring/session.read -/
def F91 : Fun :=
 ⟨14, 1, [.t 2],
 (.seq (.reg [⟨(some 2), (.mov (.k (.int .u64 0))), none⟩])
 (.seq (.reg [⟨(some 6), (.mov (.t 0)), none⟩,
 ⟨(some 7), (.call (.k (.fn (.func 63) [] [])) [(.t 6)]), none⟩,
 ⟨(some 5), (.mov (.t 7)), none⟩,
 ⟨(some 8), (.ext (.t 5) 0), none⟩,
 ⟨(some 9), (.ext (.t 5) 1), none⟩,
 ⟨(some 3), (.mov (.t 8)), none⟩,
 ⟨(some 4), (.mov (.t 9)), none⟩])
 (.seq (.reg [⟨(some 10), (.mov (.t 4)), none⟩,
 ⟨(some 11), (.bin .eql .num (.t 10) (.k (.int .i64 0))), none⟩,
 ⟨(some 12), (.call (.k (.fn (.func 44) [] [])) [(.t 11), (.k (.int .i64 4))]), none⟩])
 (.seq (.reg [⟨(some 13), (.mov (.t 3)), none⟩,
 ⟨(some 2), (.mov (.t 13)), none⟩])
 .ret))))⟩

/-- 92: slices.IndexFunc[[]signetring/session.Pre,signetring/session.Pre] -/
def F92 : Fun :=
 ⟨19, 2, [.t 4],
 (.seq (.reg [⟨(some 4), (.mov (.k (.int .i64 0))), none⟩])
 (.seq (.seq (.reg [⟨(some 6), (.mov (.t 0)), none⟩,
 ⟨(some 7), (.len .slc (.t 6)), none⟩,
 ⟨(some 8), (.mov (.k (.int .i64 0))), none⟩])
 (.block 0
 (.loop
 (.seq (.reg [⟨(some 9), (.bin .lss .num (.t 8) (.t 7)), none⟩])
 (.seq (.cond (.t 9)
 .skip
 (.exit 0))
 (.seq (.block 1
 (.seq (.reg [⟨(some 10), (.mov (.t 8)), none⟩,
 ⟨(some 5), (.mov (.t 10)), none⟩])
 (.seq (.reg [⟨(some 11), (.mov (.t 1)), none⟩,
 ⟨(some 12), (.mov (.t 0)), none⟩,
 ⟨(some 13), (.mov (.t 5)), none⟩,
 ⟨(some 14), (.iad 2 (.t 12) (.t 13)), none⟩,
 ⟨(some 15), (.load 2 true (.t 14)), none⟩,
 ⟨(some 16), (.call (.t 11) [(.t 15)]), none⟩])
 (.cond (.t 16)
 (.seq (.reg [⟨(some 17), (.mov (.t 5)), none⟩,
 ⟨(some 4), (.mov (.t 17)), none⟩])
 .ret)
 .skip))))
 (.reg [⟨(some 18), (.bin .add .num (.t 8) (.k (.int .i64 1))), none⟩,
 ⟨(some 8), (.mov (.t 18)), none⟩])))))))
 (.seq (.reg [⟨(some 4), (.mov (.k (.int .i64 (-1)))), none⟩])
 .ret)))⟩

/-- 93: (signetring/session.Device).begun$1 -/
def F93 : Fun :=
 ⟨8, 2, [.t 3],
 (.seq (.reg [⟨(some 2), (.box none (.t 0)), none⟩,
 ⟨(some 3), (.mov (.k (.bool false))), none⟩])
 (.seq (.reg [⟨(some 4), (.fad 0 (.t 2)), none⟩,
 ⟨(some 5), (.load 1 false (.t 4)), none⟩,
 ⟨(some 6), (.load 1 false (.t 1)), none⟩,
 ⟨(some 7), (.bin .eql .num (.t 5) (.t 6)), none⟩,
 ⟨(some 3), (.mov (.t 7)), none⟩])
 .ret))⟩

/-- 94: signetring/noise.Read -/
def F94 : Fun :=
 ⟨83, 4, [.c 8 1 false, .c 9 4 true, .c 10 1 false],
 (.seq (.reg [⟨(some 8), (.new [(.str [])] none), none⟩,
 ⟨(some 9), (.new [(.str []), (.str []), (.str []), (.str [])] none), none⟩,
 ⟨(some 10), (.new [(.int .i64 0)] none), none⟩])
 (.seq (.reg [⟨(some 15), (.mkf (.func 142) [] [(.t 8), (.t 9)]), none⟩,
 ⟨none, (.dfr (.k (.fn (.func 126) [] [])) [(.t 10), (.t 15)]), none⟩])
 (.seq (.reg [⟨(some 16), (.mov (.t 0)), none⟩,
 ⟨(some 17), (.bin .neq .ifc (.t 16) (.k .nifc)), none⟩,
 ⟨(some 18), (.call (.k (.fn (.func 128) [] [])) [(.t 17), (.k (.int .i64 1))]), none⟩])
 (.seq (.reg [⟨(some 20), (.mov (.t 3)), none⟩,
 ⟨(some 21), (.call (.k (.fn (.func 42) [] [])) [(.t 20), (.k (.int .u8 88)), (.k (.int .i64 3))]), none⟩,
 ⟨(some 19), (.mov (.t 21)), none⟩,
 ⟨(some 22), (.ext (.t 19) 0), none⟩,
 ⟨(some 23), (.ext (.t 19) 1), none⟩,
 ⟨(some 11), (.mov (.t 22)), none⟩,
 ⟨(some 12), (.mov (.t 23)), none⟩])
 (.seq (.reg [⟨(some 24), (.mov (.t 12)), none⟩,
 ⟨(some 25), (.bin .eql .num (.t 24) (.k (.int .i64 0))), none⟩,
 ⟨(some 26), (.call (.k (.fn (.func 128) [] [])) [(.t 25), (.k (.int .i64 4))]), none⟩])
 (.seq (.reg [⟨(some 27), (.mov (.t 0)), none⟩,
 ⟨(some 28), (.mov (.t 1)), none⟩,
 ⟨(some 29), (.inv (.t 27) "Pub" [(.t 28)]), none⟩,
 ⟨(some 13), (.mov (.t 29)), none⟩])
 (.seq (.reg [⟨(some 30), (.mov (.t 13)), none⟩,
 ⟨(some 31), (.bin .neq .str (.t 30) (.k (.str []))), none⟩,
 ⟨(some 32), (.call (.k (.fn (.func 128) [] [])) [(.t 31), (.k (.int .i64 6))]), none⟩])
 (.seq (.reg [⟨(some 33), (.mov (.t 0)), none⟩,
 ⟨(some 34), (.mov (.t 2)), none⟩,
 ⟨(some 35), (.mov (.t 13)), none⟩,
 ⟨(some 36), (.call (.k (.fn (.func 129) [] [])) [(.t 33), (.t 34), (.t 35)]), none⟩,
 ⟨(some 14), (.mov (.t 36)), none⟩])
 (.seq (.reg [⟨(some 37), (.mov (.t 14)), none⟩,
 ⟨(some 38), (.mov (.t 11)), none⟩,
 ⟨(some 39), (.iad 1 (.t 38) (.k (.int .i64 0))), none⟩,
 ⟨(some 40), (.load 1 false (.t 39)), none⟩,
 ⟨(some 41), (.call (.k (.fn (.func 131) [] [])) [(.t 37), (.t 40)]), none⟩])
 (.seq (.reg [⟨(some 42), (.mov (.t 14)), none⟩,
 ⟨(some 43), (.mov (.t 1)), none⟩,
 ⟨(some 44), (.mov (.t 11)), none⟩,
 ⟨(some 45), (.iad 1 (.t 44) (.k (.int .i64 0))), none⟩,
 ⟨(some 46), (.load 1 false (.t 45)), none⟩,
 ⟨(some 47), (.call (.k (.fn (.func 132) [] [])) [(.t 42), (.t 43), (.t 46)]), none⟩])
 (.seq (.reg [⟨(some 48), (.mov (.t 14)), none⟩,
 ⟨(some 49), (.mov (.t 11)), none⟩,
 ⟨(some 50), (.iad 1 (.t 49) (.k (.int .i64 1))), none⟩,
 ⟨(some 51), (.load 1 false (.t 50)), none⟩,
 ⟨(some 52), (.call (.k (.fn (.func 143) [] [])) [(.t 48), (.t 51)]), none⟩,
 ⟨(some 53), (.fad 0 (.t 9)), none⟩,
 ⟨none, (.store 1 (.t 53) (.t 52)), none⟩])
 (.seq (.reg [⟨(some 54), (.mov (.t 14)), none⟩,
 ⟨(some 55), (.mov (.t 1)), none⟩,
 ⟨(some 56), (.fad 0 (.t 9)), none⟩,
 ⟨(some 57), (.load 1 false (.t 56)), none⟩,
 ⟨(some 58), (.call (.k (.fn (.func 132) [] [])) [(.t 54), (.t 55), (.t 57)]), none⟩])
 (.seq (.reg [⟨(some 59), (.mov (.t 14)), none⟩,
 ⟨(some 60), (.mov (.t 11)), none⟩,
 ⟨(some 61), (.iad 1 (.t 60) (.k (.int .i64 2))), none⟩,
 ⟨(some 62), (.load 1 false (.t 61)), none⟩,
 ⟨(some 63), (.call (.k (.fn (.func 143) [] [])) [(.t 59), (.t 62)]), none⟩,
 ⟨none, (.store 1 (.t 8) (.t 63)), none⟩])
 (.seq (.reg [⟨(some 64), (.mov (.t 14)), none⟩,
 ⟨(some 65), (.nilck (.t 64)), none⟩,
 ⟨(some 66), (.fad 0 (.t 65)), none⟩,
 ⟨(some 67), (.fad 1 (.t 66)), none⟩,
 ⟨(some 68), (.load 1 false (.t 67)), none⟩,
 ⟨(some 69), (.fad 3 (.t 9)), none⟩,
 ⟨none, (.store 1 (.t 69) (.t 68)), none⟩])
 (.seq (.reg [⟨(some 71), (.mov (.t 0)), none⟩,
 ⟨(some 72), (.mov (.t 14)), none⟩,
 ⟨(some 73), (.nilck (.t 72)), none⟩,
 ⟨(some 74), (.fad 0 (.t 73)), none⟩,
 ⟨(some 75), (.load 4 true (.t 74)), none⟩,
 ⟨(some 76), (.call (.k (.fn (.func 134) [] [])) [(.t 71), (.t 75)]), none⟩,
 ⟨(some 70), (.mov (.t 76)), none⟩,
 ⟨(some 77), (.ext (.t 70) 0), none⟩,
 ⟨(some 78), (.ext (.t 70) 1), none⟩,
 ⟨(some 79), (.fad 2 (.t 9)), none⟩,
 ⟨none, (.store 1 (.t 79) (.t 77)), none⟩,
 ⟨(some 80), (.fad 1 (.t 9)), none⟩,
 ⟨none, (.store 1 (.t 80) (.t 78)), none⟩])
 (.seq (.dreg [⟨(some 81), (.load 1 false (.t 8)), none⟩,
 ⟨(some 82), (.load 4 true (.t 9)), none⟩,
 ⟨none, (.store 1 (.t 8) (.t 81)), none⟩,
 ⟨none, (.store 4 (.t 9) (.t 82)), none⟩,
 ⟨none, (.store 1 (.t 10) (.k (.int .i64 0))), none⟩] (.lin [] [(0, none), (1, none), (2, some [1]), (3, some []), (4, some [])]))
 .ret))))))))))))))))⟩

/-- 95: signetring/ratchet.Second -/
def F95 : Fun :=
 ⟨25, 5, [.c 10 13 true, .t 11],
 (.seq (.reg [⟨(some 10), (.new [(.str []), (.str []), (.str []), (.str []), (.int .i64 0), (.str []), (.int .i64 0), (.str []), (.str []), (.str []), (.str []), (.int .i64 0), .nsl] none), none⟩,
 ⟨(some 11), (.mov (.k (.int .i64 0))), none⟩])
 (.seq (.seq (.reg [⟨(some 13), (.mov (.t 0)), none⟩,
 ⟨(some 14), (.mov (.t 4)), none⟩,
 ⟨(some 15), (.call (.k (.fn (.func 135) [] [])) [(.t 13), (.t 14)]), none⟩,
 ⟨(some 12), (.mov (.t 15)), none⟩])
 (.seq (.reg [⟨(some 16), (.mov (.t 12)), none⟩,
 ⟨(some 17), (.bin .neq .num (.t 16) (.k (.int .i64 0))), none⟩])
 (.cond (.t 17)
 (.seq (.reg [⟨(some 18), (.build [(.str []), (.str []), (.str []), (.str []), (.int .i64 0), (.str []), (.int .i64 0), (.str []), (.str []), (.str []), (.str []), (.int .i64 0), .nsl] []), none⟩,
 ⟨(some 19), (.mov (.t 12)), none⟩,
 ⟨none, (.store 13 (.t 10) (.t 18)), none⟩,
 ⟨(some 11), (.mov (.t 19)), none⟩])
 .ret)
 .skip)))
 (.seq (.reg [⟨(some 20), (.mov (.t 4)), none⟩,
 ⟨(some 21), (.mov (.t 1)), none⟩,
 ⟨(some 22), (.mov (.t 3)), none⟩,
 ⟨(some 23), (.mov (.t 2)), none⟩,
 ⟨(some 24), (.build [(.str []), (.str []), (.str []), (.str []), (.int .i64 0), (.str []), (.int .i64 0), (.str []), (.str []), (.str []), (.str []), (.int .i64 0), .nsl] [(0, 1, (.t 20)), (2, 1, (.t 21)), (9, 1, (.t 22)), (10, 1, (.t 23))]), none⟩,
 ⟨none, (.store 13 (.t 10) (.t 24)), none⟩,
 ⟨(some 11), (.mov (.k (.int .i64 0))), none⟩])
 .ret)))⟩

/-- 96: slices.Delete[[]signetring/session.Pre,signetring/session.Pre] -/
def F96 : Fun :=
 ⟨33, 3, [.t 6],
 (.seq (.reg [⟨(some 6), (.mov (.k .nsl)), none⟩])
 (.seq (.reg [⟨(some 8), (.mov (.t 0)), none⟩,
 ⟨(some 9), (.mov (.t 1)), none⟩,
 ⟨(some 10), (.mov (.t 2)), none⟩,
 ⟨(some 11), (.mov (.t 0)), none⟩,
 ⟨(some 12), (.len .slc (.t 11)), none⟩,
 ⟨(some 13), (.slc false 2 (.t 8) (some (.t 9)) (some (.t 10)) (some (.t 12))), none⟩])
 (.seq (.seq (.reg [⟨(some 14), (.mov (.t 1)), none⟩,
 ⟨(some 15), (.mov (.t 2)), none⟩,
 ⟨(some 16), (.bin .eql .num (.t 14) (.t 15)), none⟩])
 (.cond (.t 16)
 (.seq (.reg [⟨(some 17), (.mov (.t 0)), none⟩,
 ⟨(some 6), (.mov (.t 17)), none⟩])
 .ret)
 .skip))
 (.seq (.reg [⟨(some 18), (.mov (.t 0)), none⟩,
 ⟨(some 19), (.len .slc (.t 18)), none⟩,
 ⟨(some 7), (.mov (.t 19)), none⟩])
 (.seq (.dreg [⟨(some 20), (.mov (.t 0)), none⟩,
 ⟨(some 21), (.mov (.t 1)), none⟩,
 ⟨(some 22), (.slc false 2 (.t 20) none (some (.t 21)) none), none⟩,
 ⟨(some 23), (.mov (.t 0)), none⟩,
 ⟨(some 24), (.mov (.t 2)), none⟩,
 ⟨(some 25), (.slc false 2 (.t 23) (some (.t 24)) none none), none⟩,
 ⟨(some 26), (.app 2 24 true none (.t 22) (.t 25)), none⟩,
 ⟨(some 0), (.mov (.t 26)), none⟩] (.lin [] [(0, none), (1, none), (2, none), (3, none), (4, none), (5, none), (6, some []), (7, some [])]))
 (.seq (.reg [⟨(some 27), (.mov (.t 0)), none⟩,
 ⟨(some 28), (.mov (.t 0)), none⟩,
 ⟨(some 29), (.len .slc (.t 28)), none⟩,
 ⟨(some 30), (.mov (.t 7)), none⟩,
 ⟨(some 31), (.slc false 2 (.t 27) (some (.t 29)) (some (.t 30)) none), none⟩,
 ⟨none, (.clr [(.int .u64 0), (.str [])] (.t 31)), none⟩])
 (.seq (.reg [⟨(some 32), (.mov (.t 0)), none⟩,
 ⟨(some 6), (.mov (.t 32)), none⟩])
 .ret)))))))⟩

/-- 97: signetring/ratchet.Open -/
def F97 : Fun :=
 ⟨66, 5, [.c 10 13 true, .t 11, .t 12],
 (.seq (.reg [⟨(some 6), (.box none (.t 1)), none⟩,
 ⟨(some 10), (.new [(.str []), (.str []), (.str []), (.str []), (.int .i64 0), (.str []), (.int .i64 0), (.str []), (.str []), (.str []), (.str []), (.int .i64 0), .nsl] none), none⟩,
 ⟨(some 11), (.mov (.k (.str []))), none⟩,
 ⟨(some 12), (.mov (.k (.int .i64 0))), none⟩])
 (.seq (.seq (.reg [⟨(some 18), (.mov (.t 0)), none⟩,
 ⟨(some 19), (.mov (.t 4)), none⟩,
 ⟨(some 20), (.call (.k (.fn (.func 135) [] [])) [(.t 18), (.t 19)]), none⟩,
 ⟨(some 13), (.mov (.t 20)), none⟩])
 (.seq (.reg [⟨(some 21), (.mov (.t 13)), none⟩,
 ⟨(some 22), (.bin .neq .num (.t 21) (.k (.int .i64 0))), none⟩])
 (.cond (.t 22)
 (.seq (.reg [⟨(some 23), (.load 13 true (.t 6)), none⟩,
 ⟨(some 24), (.mov (.t 13)), none⟩,
 ⟨none, (.store 13 (.t 10) (.t 23)), none⟩,
 ⟨(some 11), (.mov (.k (.str []))), none⟩,
 ⟨(some 12), (.mov (.t 24)), none⟩])
 .ret)
 .skip)))
 (.seq (.reg [⟨(some 26), (.mov (.t 3)), none⟩,
 ⟨(some 27), (.call (.k (.fn (.func 42) [] [])) [(.t 26), (.k (.int .u8 77)), (.k (.int .i64 3))]), none⟩,
 ⟨(some 25), (.mov (.t 27)), none⟩,
 ⟨(some 28), (.ext (.t 25) 0), none⟩,
 ⟨(some 29), (.ext (.t 25) 1), none⟩,
 ⟨(some 14), (.mov (.t 28)), none⟩,
 ⟨(some 15), (.mov (.t 29)), none⟩])
 (.seq (.seq (.reg [⟨(some 30), (.mov (.t 15)), none⟩,
 ⟨(some 31), (.bin .neq .num (.t 30) (.k (.int .i64 0))), none⟩,
 ⟨(some 32), (.mov (.t 31)), none⟩,
 ⟨(some 33), (.mov (.t 14)), some (32, false)⟩,
 ⟨(some 34), (.iad 1 (.t 33) (.k (.int .i64 0))), some (32, false)⟩,
 ⟨(some 35), (.load 1 false (.t 34)), some (32, false)⟩,
 ⟨(some 36), (.len .str (.t 35)), some (32, false)⟩,
 ⟨(some 37), (.bin .neq .num (.t 36) (.k (.int .i64 8))), some (32, false)⟩,
 ⟨(some 38), (.pick (.t 32) (.k (.bool true)) (.t 37)), none⟩])
 (.cond (.t 38)
 (.seq (.reg [⟨(some 39), (.load 13 true (.t 6)), none⟩,
 ⟨none, (.store 13 (.t 10) (.t 39)), none⟩,
 ⟨(some 11), (.mov (.k (.str []))), none⟩,
 ⟨(some 12), (.mov (.k (.int .i64 4))), none⟩])
 .ret)
 .skip))
 (.seq (.reg [⟨(some 40), (.load 13 true (.t 6)), none⟩,
 ⟨(some 16), (.new [(.str []), (.str []), (.str []), (.str []), (.int .i64 0), (.str []), (.int .i64 0), (.str []), (.str []), (.str []), (.str []), (.int .i64 0), .nsl] none), none⟩,
 ⟨none, (.store 13 (.t 16) (.t 40)), none⟩])
 (.seq (.dreg [⟨(some 42), (.mov (.t 0)), none⟩,
 ⟨(some 43), (.mov (.t 2)), none⟩,
 ⟨(some 44), (.mov (.t 14)), none⟩,
 ⟨(some 45), (.iad 1 (.t 44) (.k (.int .i64 0))), none⟩,
 ⟨(some 46), (.load 1 false (.t 45)), none⟩,
 ⟨(some 47), (.call (.k (.fn (.func 138) [] [])) [(.t 46)]), none⟩,
 ⟨(some 48), (.mov (.t 14)), none⟩,
 ⟨(some 49), (.iad 1 (.t 48) (.k (.int .i64 1))), none⟩,
 ⟨(some 50), (.load 1 false (.t 49)), none⟩,
 ⟨(some 51), (.mov (.t 14)), none⟩,
 ⟨(some 52), (.iad 1 (.t 51) (.k (.int .i64 2))), none⟩,
 ⟨(some 53), (.load 1 false (.t 52)), none⟩,
 ⟨(some 54), (.build [.nifc, (.str []), (.int .u64 0), (.str []), (.str []), (.str []), (.int .i64 0), (.int .i64 0), (.str [])] [(0, 1, (.t 42)), (1, 1, (.t 43)), (2, 1, (.t 47)), (3, 1, (.t 50)), (4, 1, (.t 53))]), none⟩,
 ⟨(some 55), (.box none (.t 54)), none⟩,
 ⟨(some 56), (.mov (.t 4)), none⟩,
 ⟨(some 57), (.call (.k (.fn (.func 144) [] [])) [(.t 16), (.t 55), (.t 56)]), none⟩,
 ⟨(some 41), (.mov (.t 57)), none⟩,
 ⟨(some 58), (.ext (.t 41) 0), none⟩,
 ⟨(some 59), (.ext (.t 41) 1), none⟩,
 ⟨(some 17), (.mov (.t 58)), none⟩,
 ⟨(some 15), (.mov (.t 59)), none⟩] (.lin [] [(0, none), (1, none), (2, none), (3, none), (4, none), (6, none), (7, none), (8, none), (9, none), (10, none), (11, none), (14, none), (5, some [0, 1, 6, 7, 8, 9, 10, 11, 14]), (12, none), (13, some [14]), (15, some []), (16, none), (17, none), (18, none), (19, none), (20, none)]))
 (.seq (.seq (.reg [⟨(some 60), (.mov (.t 15)), none⟩,
 ⟨(some 61), (.bin .neq .num (.t 60) (.k (.int .i64 0))), none⟩])
 (.cond (.t 61)
 (.seq (.reg [⟨(some 62), (.load 13 true (.t 6)), none⟩,
 ⟨(some 63), (.mov (.t 15)), none⟩,
 ⟨none, (.store 13 (.t 10) (.t 62)), none⟩,
 ⟨(some 11), (.mov (.k (.str []))), none⟩,
 ⟨(some 12), (.mov (.t 63)), none⟩])
 .ret)
 .skip))
 (.seq (.reg [⟨(some 64), (.load 13 true (.t 16)), none⟩,
 ⟨(some 65), (.mov (.t 17)), none⟩,
 ⟨none, (.store 13 (.t 10) (.t 64)), none⟩,
 ⟨(some 11), (.mov (.t 65)), none⟩,
 ⟨(some 12), (.mov (.k (.int .i64 0))), none⟩])
 .ret))))))))⟩

/-- 98: (*signetring/term.Table).put -/
def F98 : Fun :=
 ⟨70, 3, [.t 6],
 (.seq (.reg [⟨(some 6), (.mov (.k (.str []))), none⟩])
 (.seq (.reg [⟨(some 13), (.mov (.t 1)), none⟩,
 ⟨(some 14), (.mov (.t 2)), none⟩,
 ⟨(some 15), (.call (.k (.fn (.func 105) [] [])) [(.t 13), (.t 14)]), none⟩,
 ⟨(some 12), (.mov (.t 15)), none⟩,
 ⟨(some 16), (.ext (.t 12) 0), none⟩,
 ⟨(some 17), (.ext (.t 12) 1), none⟩,
 ⟨(some 7), (.mov (.t 16)), none⟩,
 ⟨(some 8), (.mov (.t 17)), none⟩])
 (.seq (.seq (.reg [⟨(some 18), (.mov (.t 0)), none⟩,
 ⟨(some 19), (.call (.k (.fn (.func 145) [] [])) [(.t 18)]), none⟩,
 ⟨(some 20), (.un .not (.t 19)), none⟩,
 ⟨(some 21), (.mov (.t 20)), none⟩,
 ⟨(some 22), (.mov (.t 8)), some (21, false)⟩,
 ⟨(some 23), (.bin .neq .num (.t 22) (.k (.int .i64 0))), some (21, false)⟩,
 ⟨(some 24), (.pick (.t 21) (.k (.bool true)) (.t 23)), none⟩])
 (.cond (.t 24)
 (.seq (.reg [⟨(some 6), (.mov (.k (.str []))), none⟩])
 .ret)
 .skip))
 (.seq (.seq (.reg [⟨(some 26), (.mov (.t 0)), none⟩,
 ⟨(some 27), (.nilck (.t 26)), none⟩,
 ⟨(some 28), (.fad 0 (.t 27)), none⟩,
 ⟨(some 29), (.load 1 false (.t 28)), none⟩,
 ⟨(some 30), (.mov (.t 7)), none⟩,
 ⟨(some 31), (.look .str (.str []) (.t 29) (.t 30) true), none⟩,
 ⟨(some 25), (.mov (.t 31)), none⟩,
 ⟨(some 32), (.ext (.t 25) 0), none⟩,
 ⟨(some 33), (.ext (.t 25) 1), none⟩,
 ⟨(some 9), (.mov (.t 32)), none⟩,
 ⟨(some 10), (.mov (.t 33)), none⟩])
 (.seq (.reg [⟨(some 34), (.mov (.t 10)), none⟩])
 (.cond (.t 34)
 (.seq (.reg [⟨(some 35), (.mov (.t 9)), none⟩,
 ⟨(some 6), (.mov (.t 35)), none⟩])
 .ret)
 .skip)))
 (.seq (.reg [⟨(some 36), (.mov (.t 0)), none⟩,
 ⟨(some 37), (.nilck (.t 36)), none⟩,
 ⟨(some 38), (.fad 2 (.t 37)), none⟩,
 ⟨(some 39), (.load 1 false (.t 38)), none⟩,
 ⟨(some 40), (.len .slc (.t 39)), none⟩,
 ⟨(some 41), (.bin .add .num (.t 40) (.k (.int .i64 1))), none⟩,
 ⟨(some 42), (.call (.k (.fn (.func 146) [] [])) [(.t 41)]), none⟩,
 ⟨(some 11), (.mov (.t 42)), none⟩])
 (.seq (.dreg [⟨(some 43), (.mov (.t 0)), none⟩,
 ⟨(some 44), (.nilck (.t 43)), none⟩,
 ⟨(some 45), (.fad 0 (.t 44)), none⟩,
 ⟨(some 46), (.load 1 false (.t 45)), none⟩,
 ⟨(some 47), (.mov (.t 7)), none⟩,
 ⟨(some 48), (.mov (.t 0)), none⟩,
 ⟨(some 49), (.nilck (.t 48)), none⟩,
 ⟨(some 50), (.fad 1 (.t 49)), none⟩,
 ⟨(some 51), (.load 1 false (.t 50)), none⟩,
 ⟨(some 52), (.mov (.t 11)), none⟩,
 ⟨(some 53), (.mov (.t 11)), none⟩,
 ⟨(some 54), (.mov (.t 7)), none⟩,
 ⟨(some 55), (.ment .str (.str []) (.t 46) (.t 47)), none⟩,
 ⟨(some 56), (.ext (.t 55) 1), none⟩,
 ⟨none, (.ests (.t 46) (.t 56) (.t 53)), none⟩,
 ⟨(some 57), (.ment .str (.str []) (.t 51) (.t 52)), none⟩,
 ⟨(some 58), (.ext (.t 57) 1), none⟩,
 ⟨none, (.ests (.t 51) (.t 58) (.t 54)), none⟩] (.lin [] [(0, none), (1, none), (2, none), (3, none), (4, none), (5, none), (6, none), (7, none), (8, none), (9, none), (10, none), (11, none), (12, some [9, 10, 11]), (13, none), (14, some [9, 11]), (15, some [11]), (16, none), (17, some [])]))
 (.seq (.reg [⟨(some 59), (.mov (.t 0)), none⟩,
 ⟨(some 60), (.mov (.t 0)), none⟩,
 ⟨(some 61), (.nilck (.t 60)), none⟩,
 ⟨(some 62), (.fad 2 (.t 61)), none⟩,
 ⟨(some 63), (.load 1 false (.t 62)), none⟩,
 ⟨(some 64), (.mov (.t 11)), none⟩,
 ⟨(some 65), (.mks true 1 16 false [(.str [])] 1 [(0, (.t 64))]), none⟩,
 ⟨(some 66), (.app 1 16 false none (.t 63) (.t 65)), none⟩,
 ⟨(some 67), (.nilck (.t 59)), none⟩,
 ⟨(some 68), (.fad 2 (.t 67)), none⟩,
 ⟨none, (.store 1 (.t 68) (.t 66)), none⟩])
 (.seq (.reg [⟨(some 69), (.mov (.t 11)), none⟩,
 ⟨(some 6), (.mov (.t 69)), none⟩])
 .ret))))))))⟩

/-- 99: signetring/ratchet.Same$1 -/
def F99 : Fun :=
 ⟨26, 1, [.c 2 12 true],
 (.seq (.reg [⟨(some 1), (.box none (.t 0)), none⟩,
 ⟨(some 2), (.new [(.str []), (.str []), (.str []), (.str []), (.str []), (.str []), (.str []), (.str []), (.int .i64 0), (.str []), (.int .i64 0), (.int .i64 0)] none), none⟩])
 (.seq (.reg [⟨(some 3), (.fad 0 (.t 1)), none⟩,
 ⟨(some 4), (.load 1 false (.t 3)), none⟩,
 ⟨(some 5), (.fad 1 (.t 1)), none⟩,
 ⟨(some 6), (.load 1 false (.t 5)), none⟩,
 ⟨(some 7), (.fad 2 (.t 1)), none⟩,
 ⟨(some 8), (.load 1 false (.t 7)), none⟩,
 ⟨(some 9), (.fad 7 (.t 1)), none⟩,
 ⟨(some 10), (.load 1 false (.t 9)), none⟩,
 ⟨(some 11), (.fad 8 (.t 1)), none⟩,
 ⟨(some 12), (.load 1 false (.t 11)), none⟩,
 ⟨(some 13), (.fad 9 (.t 1)), none⟩,
 ⟨(some 14), (.load 1 false (.t 13)), none⟩,
 ⟨(some 15), (.fad 10 (.t 1)), none⟩,
 ⟨(some 16), (.load 1 false (.t 15)), none⟩,
 ⟨(some 17), (.build [(.str []), (.str []), (.str []), (.str []), (.str []), (.str []), (.str [])] [(0, 1, (.t 4)), (1, 1, (.t 6)), (2, 1, (.t 8)), (3, 1, (.t 10)), (4, 1, (.t 12)), (5, 1, (.t 14)), (6, 1, (.t 16))]), none⟩,
 ⟨(some 18), (.fad 3 (.t 1)), none⟩,
 ⟨(some 19), (.load 2 true (.t 18)), none⟩,
 ⟨(some 20), (.fad 5 (.t 1)), none⟩,
 ⟨(some 21), (.load 2 true (.t 20)), none⟩,
 ⟨(some 22), (.build [(.str []), (.int .i64 0), (.str []), (.int .i64 0)] [(0, 2, (.t 19)), (2, 2, (.t 21))]), none⟩,
 ⟨(some 23), (.fad 11 (.t 1)), none⟩,
 ⟨(some 24), (.load 1 false (.t 23)), none⟩,
 ⟨(some 25), (.build [(.str []), (.str []), (.str []), (.str []), (.str []), (.str []), (.str []), (.str []), (.int .i64 0), (.str []), (.int .i64 0), (.int .i64 0)] [(0, 7, (.t 17)), (7, 4, (.t 22)), (11, 1, (.t 24))]), none⟩,
 ⟨none, (.store 12 (.t 2) (.t 25)), none⟩])
 .ret))⟩

/-- 100: slices.Equal[signetring/skip.Store,signetring/skip.Item] -/
def F100 : Fun :=
 ⟨26, 2, [.t 4],
 (.seq (.reg [⟨(some 4), (.mov (.k (.bool false))), none⟩])
 (.seq (.seq (.reg [⟨(some 6), (.mov (.t 0)), none⟩,
 ⟨(some 7), (.len .slc (.t 6)), none⟩,
 ⟨(some 8), (.mov (.t 1)), none⟩,
 ⟨(some 9), (.len .slc (.t 8)), none⟩,
 ⟨(some 10), (.bin .neq .num (.t 7) (.t 9)), none⟩])
 (.cond (.t 10)
 (.seq (.reg [⟨(some 4), (.mov (.k (.bool false))), none⟩])
 .ret)
 .skip))
 (.seq (.seq (.reg [⟨(some 11), (.mov (.t 0)), none⟩,
 ⟨(some 12), (.len .slc (.t 11)), none⟩,
 ⟨(some 13), (.mov (.k (.int .i64 0))), none⟩])
 (.block 0
 (.loop
 (.seq (.reg [⟨(some 14), (.bin .lss .num (.t 13) (.t 12)), none⟩])
 (.seq (.cond (.t 14)
 .skip
 (.exit 0))
 (.seq (.block 1
 (.seq (.reg [⟨(some 15), (.mov (.t 13)), none⟩,
 ⟨(some 5), (.mov (.t 15)), none⟩])
 (.seq (.dreg [⟨(some 16), (.mov (.t 0)), none⟩,
 ⟨(some 17), (.mov (.t 5)), none⟩,
 ⟨(some 18), (.iad 3 (.t 16) (.t 17)), none⟩,
 ⟨(some 19), (.load 3 true (.t 18)), none⟩,
 ⟨(some 20), (.mov (.t 1)), none⟩,
 ⟨(some 21), (.mov (.t 5)), none⟩,
 ⟨(some 22), (.iad 3 (.t 20) (.t 21)), none⟩,
 ⟨(some 23), (.load 3 true (.t 22)), none⟩,
 ⟨(some 24), (.bin .neq (.agg [.str, .num, .str]) (.t 19) (.t 23)), none⟩] (.lin [] [(0, none), (1, none), (2, none), (3, none), (4, none), (5, none), (6, none), (7, none), (8, none)]))
 (.cond (.t 24)
 (.seq (.reg [⟨(some 4), (.mov (.k (.bool false))), none⟩])
 .ret)
 .skip))))
 (.reg [⟨(some 25), (.bin .add .num (.t 13) (.k (.int .i64 1))), none⟩,
 ⟨(some 13), (.mov (.t 25)), none⟩])))))))
 (.seq (.reg [⟨(some 4), (.mov (.k (.bool true))), none⟩])
 .ret))))⟩

/-- 101: slices.IndexFunc[[]signetring/session.Peer,signetring/session.Peer] -/
def F101 : Fun :=
 ⟨19, 2, [.t 4],
 (.seq (.reg [⟨(some 4), (.mov (.k (.int .i64 0))), none⟩])
 (.seq (.seq (.reg [⟨(some 6), (.mov (.t 0)), none⟩,
 ⟨(some 7), (.len .slc (.t 6)), none⟩,
 ⟨(some 8), (.mov (.k (.int .i64 0))), none⟩])
 (.block 0
 (.loop
 (.seq (.reg [⟨(some 9), (.bin .lss .num (.t 8) (.t 7)), none⟩])
 (.seq (.cond (.t 9)
 .skip
 (.exit 0))
 (.seq (.block 1
 (.seq (.reg [⟨(some 10), (.mov (.t 8)), none⟩,
 ⟨(some 5), (.mov (.t 10)), none⟩])
 (.seq (.reg [⟨(some 11), (.mov (.t 1)), none⟩,
 ⟨(some 12), (.mov (.t 0)), none⟩,
 ⟨(some 13), (.mov (.t 5)), none⟩,
 ⟨(some 14), (.iad 15 (.t 12) (.t 13)), none⟩,
 ⟨(some 15), (.load 15 true (.t 14)), none⟩,
 ⟨(some 16), (.call (.t 11) [(.t 15)]), none⟩])
 (.cond (.t 16)
 (.seq (.reg [⟨(some 17), (.mov (.t 5)), none⟩,
 ⟨(some 4), (.mov (.t 17)), none⟩])
 .ret)
 .skip))))
 (.reg [⟨(some 18), (.bin .add .num (.t 8) (.k (.int .i64 1))), none⟩,
 ⟨(some 8), (.mov (.t 18)), none⟩])))))))
 (.seq (.reg [⟨(some 4), (.mov (.k (.int .i64 (-1)))), none⟩])
 .ret)))⟩

/-- 102: (signetring/session.Device).at$1 -/
def F102 : Fun :=
 ⟨8, 2, [.t 3],
 (.seq (.reg [⟨(some 2), (.box none (.t 0)), none⟩,
 ⟨(some 3), (.mov (.k (.bool false))), none⟩])
 (.seq (.reg [⟨(some 4), (.fad 0 (.t 2)), none⟩,
 ⟨(some 5), (.load 1 false (.t 4)), none⟩,
 ⟨(some 6), (.load 1 false (.t 1)), none⟩,
 ⟨(some 7), (.bin .eql .str (.t 5) (.t 6)), none⟩,
 ⟨(some 3), (.mov (.t 7)), none⟩])
 .ret))⟩

/-- 105: signetring/codec.Join -/
def F105 : Fun :=
 ⟨49, 2, [.t 4, .t 5],
 (.seq (.reg [⟨(some 4), (.mov (.k (.str []))), none⟩,
 ⟨(some 5), (.mov (.k (.int .i64 0))), none⟩])
 (.seq (.seq (.reg [⟨(some 9), (.mov (.t 1)), none⟩,
 ⟨(some 10), (.len .slc (.t 9)), none⟩,
 ⟨(some 11), (.bin .gtr .num (.t 10) (.k (.int .i64 255))), none⟩])
 (.cond (.t 11)
 (.seq (.reg [⟨(some 4), (.mov (.k (.str []))), none⟩,
 ⟨(some 5), (.mov (.k (.int .i64 3))), none⟩])
 .ret)
 .skip))
 (.seq (.reg [⟨(some 12), (.build [.nptr, .nsl] []), none⟩,
 ⟨(some 13), (.box (some 251) (.t 12)), none⟩,
 ⟨(some 6), (.mov (.t 13)), none⟩])
 (.seq (.reg [⟨(some 14), (.mov (.t 6)), none⟩,
 ⟨(some 15), (.mov (.t 0)), none⟩,
 ⟨(some 16), (.mov (.t 1)), none⟩,
 ⟨(some 17), (.len .slc (.t 16)), none⟩,
 ⟨(some 18), (.cvi .u8 (.t 17)), none⟩,
 ⟨(some 19), (.mks true 1 1 false [(.int .u8 0), (.int .u8 0), (.int .u8 0)] 3 [(0, (.k (.int .u8 1))), (1, (.t 15)), (2, (.t 18))]), none⟩,
 ⟨(some 20), (.call (.k (.fn (.func 147) [] [])) [(.t 14), (.t 19)]), none⟩])
 (.seq (.seq (.reg [⟨(some 21), (.mov (.t 1)), none⟩,
 ⟨(some 22), (.len .slc (.t 21)), none⟩,
 ⟨(some 23), (.mov (.k (.int .i64 0))), none⟩])
 (.block 0
 (.loop
 (.seq (.reg [⟨(some 24), (.bin .lss .num (.t 23) (.t 22)), none⟩])
 (.seq (.cond (.t 24)
 .skip
 (.exit 0))
 (.seq (.block 1
 (.seq (.reg [⟨(some 25), (.iad 1 (.t 21) (.t 23)), none⟩,
 ⟨(some 26), (.load 1 false (.t 25)), none⟩,
 ⟨(some 8), (.mov (.t 26)), none⟩])
 (.seq (.seq (.reg [⟨(some 27), (.mov (.t 8)), none⟩,
 ⟨(some 28), (.len .str (.t 27)), none⟩,
 ⟨(some 29), (.bin .gtr .num (.t 28) (.k (.int .i64 4000))), none⟩])
 (.cond (.t 29)
 (.seq (.reg [⟨(some 4), (.mov (.k (.str []))), none⟩,
 ⟨(some 5), (.mov (.k (.int .i64 3))), none⟩])
 .ret)
 .skip))
 (.seq (.reg [⟨(some 30), (.mov (.t 6)), none⟩,
 ⟨(some 31), (.mov (.t 8)), none⟩,
 ⟨(some 32), (.len .str (.t 31)), none⟩,
 ⟨(some 33), (.bin .shr .num (.t 32) (.k (.int .u64 8))), none⟩,
 ⟨(some 34), (.cvi .u8 (.t 33)), none⟩,
 ⟨(some 35), (.mov (.t 8)), none⟩,
 ⟨(some 36), (.len .str (.t 35)), none⟩,
 ⟨(some 37), (.cvi .u8 (.t 36)), none⟩,
 ⟨(some 38), (.mks true 1 1 false [(.int .u8 0), (.int .u8 0)] 2 [(0, (.t 34)), (1, (.t 37))]), none⟩,
 ⟨(some 39), (.call (.k (.fn (.func 147) [] [])) [(.t 30), (.t 38)]), none⟩])
 (.reg [⟨(some 40), (.mov (.t 6)), none⟩,
 ⟨(some 41), (.mov (.t 8)), none⟩,
 ⟨(some 42), (.call (.k (.fn (.func 148) [] [])) [(.t 40), (.t 41)]), none⟩])))))
 (.reg [⟨(some 43), (.bin .add .num (.t 23) (.k (.int .i64 1))), none⟩,
 ⟨(some 23), (.mov (.t 43)), none⟩])))))))
 (.seq (.seq (.reg [⟨(some 44), (.mov (.t 6)), none⟩,
 ⟨(some 45), (.call (.k (.fn (.func 149) [] [])) [(.t 44)]), none⟩,
 ⟨(some 46), (.bin .gtr .num (.t 45) (.k (.int .i64 30000))), none⟩])
 (.cond (.t 46)
 (.seq (.reg [⟨(some 4), (.mov (.k (.str []))), none⟩,
 ⟨(some 5), (.mov (.k (.int .i64 3))), none⟩])
 .ret)
 .skip))
 (.seq (.reg [⟨(some 47), (.mov (.t 6)), none⟩,
 ⟨(some 48), (.call (.k (.fn (.func 150) [] [])) [(.t 47)]), none⟩,
 ⟨(some 4), (.mov (.t 48)), none⟩,
 ⟨(some 5), (.mov (.k (.int .i64 0))), none⟩])
 .ret)))))))⟩

/-- 107: slices.IndexFunc[[]string,string] -/
def F107 : Fun :=
 ⟨19, 2, [.t 4],
 (.seq (.reg [⟨(some 4), (.mov (.k (.int .i64 0))), none⟩])
 (.seq (.seq (.reg [⟨(some 6), (.mov (.t 0)), none⟩,
 ⟨(some 7), (.len .slc (.t 6)), none⟩,
 ⟨(some 8), (.mov (.k (.int .i64 0))), none⟩])
 (.block 0
 (.loop
 (.seq (.reg [⟨(some 9), (.bin .lss .num (.t 8) (.t 7)), none⟩])
 (.seq (.cond (.t 9)
 .skip
 (.exit 0))
 (.seq (.block 1
 (.seq (.reg [⟨(some 10), (.mov (.t 8)), none⟩,
 ⟨(some 5), (.mov (.t 10)), none⟩])
 (.seq (.reg [⟨(some 11), (.mov (.t 1)), none⟩,
 ⟨(some 12), (.mov (.t 0)), none⟩,
 ⟨(some 13), (.mov (.t 5)), none⟩,
 ⟨(some 14), (.iad 1 (.t 12) (.t 13)), none⟩,
 ⟨(some 15), (.load 1 false (.t 14)), none⟩,
 ⟨(some 16), (.call (.t 11) [(.t 15)]), none⟩])
 (.cond (.t 16)
 (.seq (.reg [⟨(some 17), (.mov (.t 5)), none⟩,
 ⟨(some 4), (.mov (.t 17)), none⟩])
 .ret)
 .skip))))
 (.reg [⟨(some 18), (.bin .add .num (.t 8) (.k (.int .i64 1))), none⟩,
 ⟨(some 8), (.mov (.t 18)), none⟩])))))))
 (.seq (.reg [⟨(some 4), (.mov (.k (.int .i64 (-1)))), none⟩])
 .ret)))⟩

/-- 108: strings.HasPrefix -/
def F108 : Fun :=
 ⟨8, 2, [.t 4],
 (.seq (.reg [⟨(some 4), (.mov (.k (.bool false))), none⟩])
 (.seq (.reg [⟨(some 5), (.mov (.t 0)), none⟩,
 ⟨(some 6), (.mov (.t 1)), none⟩,
 ⟨(some 7), (.call (.k (.fn (.func 151) [] [])) [(.t 5), (.t 6)]), none⟩,
 ⟨(some 4), (.mov (.t 7)), none⟩])
 .ret))⟩


theorem ck3 : ckF Tryz.prog 3 F3 = true := by kernel_rfl
theorem ck4 : ckF Tryz.prog 4 F4 = true := by kernel_rfl
theorem ck11 : ckF Tryz.prog 11 F11 = true := by kernel_rfl
theorem ck12 : ckF Tryz.prog 12 F12 = true := by kernel_rfl
theorem ck13 : ckF Tryz.prog 13 F13 = true := by kernel_rfl
theorem ck14 : ckF Tryz.prog 14 F14 = true := by kernel_rfl
theorem ck15 : ckF Tryz.prog 15 F15 = true := by kernel_rfl
theorem ck16 : ckF Tryz.prog 16 F16 = true := by kernel_rfl
theorem ck17 : ckF Tryz.prog 17 F17 = true := by kernel_rfl
theorem ck18 : ckF Tryz.prog 18 F18 = true := by kernel_rfl
theorem ck20 : ckF Tryz.prog 20 F20 = true := by kernel_rfl
theorem ck21 : ckF Tryz.prog 21 F21 = true := by kernel_rfl
theorem ck32 : ckF Tryz.prog 32 F32 = true := by kernel_rfl
theorem ck33 : ckF Tryz.prog 33 F33 = true := by kernel_rfl
theorem ck34 : ckF Tryz.prog 34 F34 = true := by kernel_rfl
theorem ck35 : ckF Tryz.prog 35 F35 = true := by kernel_rfl
theorem ck36 : ckF Tryz.prog 36 F36 = true := by kernel_rfl
theorem ck37 : ckF Tryz.prog 37 F37 = true := by kernel_rfl
theorem ck38 : ckFS Tryz.prog 38 F38 = true := by kernel_rfl
theorem ck39 : ckF Tryz.prog 39 F39 = true := by kernel_rfl
theorem ck40 : ckF Tryz.prog 40 F40 = true := by kernel_rfl
theorem ck41 : ckF Tryz.prog 41 F41 = true := by kernel_rfl
theorem ck42 : ckF Tryz.prog 42 F42 = true := by kernel_rfl
theorem ck43 : ckF Tryz.prog 43 F43 = true := by kernel_rfl
theorem ck44 : ckF Tryz.prog 44 F44 = true := by kernel_rfl
theorem ck45 : ckF Tryz.prog 45 F45 = true := by kernel_rfl
theorem ck46 : ckF Tryz.prog 46 F46 = true := by kernel_rfl
theorem ck47 : ckF Tryz.prog 47 F47 = true := by kernel_rfl
theorem ck48 : ckF Tryz.prog 48 F48 = true := by kernel_rfl
theorem ck49 : ckF Tryz.prog 49 F49 = true := by kernel_rfl
theorem ck50 : ckF Tryz.prog 50 F50 = true := by kernel_rfl
theorem ck51 : ckF Tryz.prog 51 F51 = true := by kernel_rfl
theorem ck63 : ckF Tryz.prog 63 F63 = true := by kernel_rfl
theorem ck67 : ckF Tryz.prog 67 F67 = true := by kernel_rfl
theorem ck78 : ckF Tryz.prog 78 F78 = true := by kernel_rfl
theorem ck79 : ckF Tryz.prog 79 F79 = true := by kernel_rfl
theorem ck80 : ckF Tryz.prog 80 F80 = true := by kernel_rfl
theorem ck81 : ckF Tryz.prog 81 F81 = true := by kernel_rfl
theorem ck82 : ckF Tryz.prog 82 F82 = true := by kernel_rfl
theorem ck83 : ckF Tryz.prog 83 F83 = true := by kernel_rfl
theorem ck85 : ckF Tryz.prog 85 F85 = true := by kernel_rfl
theorem ck86 : ckF Tryz.prog 86 F86 = true := by kernel_rfl
theorem ck87 : ckF Tryz.prog 87 F87 = true := by kernel_rfl
theorem ck88 : ckF Tryz.prog 88 F88 = true := by kernel_rfl
theorem ck89 : ckF Tryz.prog 89 F89 = true := by kernel_rfl
theorem ck90 : ckF Tryz.prog 90 F90 = true := by kernel_rfl
theorem ck91 : ckF Tryz.prog 91 F91 = true := by kernel_rfl
theorem ck92 : ckF Tryz.prog 92 F92 = true := by kernel_rfl
theorem ck93 : ckF Tryz.prog 93 F93 = true := by kernel_rfl
theorem ck94 : ckF Tryz.prog 94 F94 = true := by kernel_rfl
theorem ck95 : ckF Tryz.prog 95 F95 = true := by kernel_rfl
theorem ck96 : ckF Tryz.prog 96 F96 = true := by kernel_rfl
theorem ck97 : ckF Tryz.prog 97 F97 = true := by kernel_rfl
theorem ck98 : ckF Tryz.prog 98 F98 = true := by kernel_rfl
theorem ck99 : ckF Tryz.prog 99 F99 = true := by kernel_rfl
theorem ck100 : ckF Tryz.prog 100 F100 = true := by kernel_rfl
theorem ck101 : ckF Tryz.prog 101 F101 = true := by kernel_rfl
theorem ck102 : ckF Tryz.prog 102 F102 = true := by kernel_rfl
theorem ck105 : ckF Tryz.prog 105 F105 = true := by kernel_rfl
theorem ck107 : ckF Tryz.prog 107 F107 = true := by kernel_rfl
theorem ck108 : ckF Tryz.prog 108 F108 = true := by kernel_rfl
theorem st3 : K.stC F3.c = true := by kernel_rfl
theorem st4 : K.stC F4.c = true := by kernel_rfl
theorem st11 : K.stC F11.c = true := by kernel_rfl
theorem st12 : K.stC F12.c = true := by kernel_rfl
theorem st13 : K.stC F13.c = true := by kernel_rfl
theorem st14 : K.stC F14.c = true := by kernel_rfl
theorem st15 : K.stC F15.c = true := by kernel_rfl
theorem st16 : K.stC F16.c = true := by kernel_rfl
theorem st17 : K.stC F17.c = true := by kernel_rfl
theorem st18 : K.stC F18.c = true := by kernel_rfl
theorem st20 : K.stC F20.c = true := by kernel_rfl
theorem st21 : K.stC F21.c = true := by kernel_rfl
theorem st32 : K.stC F32.c = true := by kernel_rfl
theorem st33 : K.stC F33.c = true := by kernel_rfl
theorem st34 : K.stC F34.c = true := by kernel_rfl
theorem st35 : K.stC F35.c = true := by kernel_rfl
theorem st36 : K.stC F36.c = true := by kernel_rfl
theorem st37 : K.stC F37.c = true := by kernel_rfl
theorem st38 : K.stC F38.c = true := by kernel_rfl
theorem st39 : K.stC F39.c = true := by kernel_rfl
theorem st40 : K.stC F40.c = true := by kernel_rfl
theorem st41 : K.stC F41.c = true := by kernel_rfl
theorem st42 : K.stC F42.c = true := by kernel_rfl
theorem st43 : K.stC F43.c = true := by kernel_rfl
theorem st44 : K.stC F44.c = true := by kernel_rfl
theorem st45 : K.stC F45.c = true := by kernel_rfl
theorem st46 : K.stC F46.c = true := by kernel_rfl
theorem st47 : K.stC F47.c = true := by kernel_rfl
theorem st48 : K.stC F48.c = true := by kernel_rfl
theorem st49 : K.stC F49.c = true := by kernel_rfl
theorem st50 : K.stC F50.c = true := by kernel_rfl
theorem st51 : K.stC F51.c = true := by kernel_rfl
theorem st63 : K.stC F63.c = true := by kernel_rfl
theorem st67 : K.stC F67.c = true := by kernel_rfl
theorem st78 : K.stC F78.c = true := by kernel_rfl
theorem st79 : K.stC F79.c = true := by kernel_rfl
theorem st80 : K.stC F80.c = true := by kernel_rfl
theorem st81 : K.stC F81.c = true := by kernel_rfl
theorem st82 : K.stC F82.c = true := by kernel_rfl
theorem st83 : K.stC F83.c = true := by kernel_rfl
theorem st85 : K.stC F85.c = true := by kernel_rfl
theorem st86 : K.stC F86.c = true := by kernel_rfl
theorem st87 : K.stC F87.c = true := by kernel_rfl
theorem st88 : K.stC F88.c = true := by kernel_rfl
theorem st89 : K.stC F89.c = true := by kernel_rfl
theorem st90 : K.stC F90.c = true := by kernel_rfl
theorem st91 : K.stC F91.c = true := by kernel_rfl
theorem st92 : K.stC F92.c = true := by kernel_rfl
theorem st93 : K.stC F93.c = true := by kernel_rfl
theorem st94 : K.stC F94.c = true := by kernel_rfl
theorem st95 : K.stC F95.c = true := by kernel_rfl
theorem st96 : K.stC F96.c = true := by kernel_rfl
theorem st97 : K.stC F97.c = true := by kernel_rfl
theorem st98 : K.stC F98.c = true := by kernel_rfl
theorem st99 : K.stC F99.c = true := by kernel_rfl
theorem st100 : K.stC F100.c = true := by kernel_rfl
theorem st101 : K.stC F101.c = true := by kernel_rfl
theorem st102 : K.stC F102.c = true := by kernel_rfl
theorem st105 : K.stC F105.c = true := by kernel_rfl
theorem st107 : K.stC F107.c = true := by kernel_rfl
theorem st108 : K.stC F108.c = true := by kernel_rfl
end Go.Proofs.YtbabpibaccngnaaGreat
