/- The code of the functions, as it is told, and that it is told rightly (1). -/
import Derived.Test.YtfinnljkcgglfaaGreatDoorProg
import Derived.Test.YtfinnljkcgglfaaGreatDoorZv6
import Derived.KernelRfl
namespace Go.Proofs.YtfinnljkcgglfaaGreatDoor
open Go.Vs
set_option maxRecDepth 100000

/-- 2: gosem.cut.init -/
def F2 : Fun :=
 ⟨1, 0, [],
 (.reg [⟨(some 0), (.call (.k (.fn (.func 1) [] [])) []), none⟩])⟩

/-- 4: signetring/signetringlaw11.PrimsTerms -/
def F4 : Fun :=
 ⟨181, 2, [.t 4],
 (.seq (.reg [⟨(some 2), (.box none (.t 0)), none⟩,
 ⟨(some 4), (.mov (.k (.bool false))), none⟩])
 (.seq (.seq (.reg [⟨(some 19), (.call (.k (.fn (.func 5) [] [])) []), none⟩,
 ⟨(some 20), (.un .not (.t 19)), none⟩])
 (.cond (.t 20)
 (.seq (.reg [⟨(some 4), (.mov (.k (.bool false))), none⟩])
 .ret)
 .skip))
 (.seq (.reg [⟨(some 21), (.call (.k (.fn (.func 13) [] [])) []), none⟩,
 ⟨(some 5), (.mov (.t 21)), none⟩])
 (.seq (.reg [⟨(some 22), (.mov (.t 5)), none⟩,
 ⟨(some 23), (.call (.k (.fn (.func 14) [] [])) [(.t 22)]), none⟩,
 ⟨(some 6), (.mov (.t 23)), none⟩])
 (.seq (.seq (.reg [⟨(some 24), (.mov (.t 5)), none⟩,
 ⟨(some 25), (.bin .eql .ptr (.t 24) (.k .nptr)), none⟩,
 ⟨(some 26), (.mov (.t 25)), none⟩,
 ⟨(some 27), (.mov (.t 6)), some (26, false)⟩,
 ⟨(some 28), (.bin .eql .ifc (.t 27) (.k .nifc)), some (26, false)⟩,
 ⟨(some 29), (.pick (.t 26) (.k (.bool true)) (.t 28)), none⟩,
 ⟨(some 30), (.mov (.t 29)), none⟩,
 ⟨(some 31), (.load 5 true (.t 2)), some (30, false)⟩,
 ⟨(some 32), (.call (.k (.fn (.func 7) [] [])) [(.t 31)]), some (30, false)⟩,
 ⟨(some 33), (.un .not (.t 32)), some (30, false)⟩,
 ⟨(some 34), (.pick (.t 30) (.k (.bool true)) (.t 33)), none⟩])
 (.cond (.t 34)
 (.seq (.reg [⟨(some 35), (.mov (.t 5)), none⟩,
 ⟨(some 36), (.bin .neq .ptr (.t 35) (.k .nptr)), none⟩,
 ⟨(some 37), (.mov (.t 36)), none⟩,
 ⟨(some 38), (.mov (.t 6)), some (37, true)⟩,
 ⟨(some 39), (.bin .neq .ifc (.t 38) (.k .nifc)), some (37, true)⟩,
 ⟨(some 40), (.pick (.t 37) (.t 39) (.k (.bool false))), none⟩,
 ⟨(some 4), (.mov (.t 40)), none⟩])
 .ret)
 .skip))
 (.seq (.reg [⟨(some 41), (.mov (.t 6)), none⟩,
 ⟨(some 42), (.fad 0 (.t 2)), none⟩,
 ⟨(some 43), (.load 1 false (.t 42)), none⟩,
 ⟨(some 44), (.inv (.t 41) "Pub" [(.t 43)]), none⟩,
 ⟨(some 7), (.mov (.t 44)), none⟩])
 (.seq (.reg [⟨(some 46), (.mov (.t 6)), none⟩,
 ⟨(some 47), (.fad 1 (.t 2)), none⟩,
 ⟨(some 48), (.load 1 false (.t 47)), none⟩,
 ⟨(some 49), (.mov (.t 7)), none⟩,
 ⟨(some 50), (.inv (.t 46) "Dh" [(.t 48), (.t 49)]), none⟩,
 ⟨(some 45), (.mov (.t 50)), none⟩,
 ⟨(some 51), (.ext (.t 45) 0), none⟩,
 ⟨(some 52), (.ext (.t 45) 1), none⟩,
 ⟨(some 8), (.mov (.t 51)), none⟩,
 ⟨(some 9), (.mov (.t 52)), none⟩])
 (.seq (.dreg [⟨(some 54), (.mov (.t 5)), none⟩,
 ⟨(some 55), (.fad 1 (.t 2)), none⟩,
 ⟨(some 56), (.load 1 false (.t 55)), none⟩,
 ⟨(some 57), (.mov (.t 5)), none⟩,
 ⟨(some 58), (.fad 0 (.t 2)), none⟩,
 ⟨(some 59), (.load 1 false (.t 58)), none⟩,
 ⟨(some 60), (.call (.k (.fn (.func 16) [] [])) [(.t 57), (.t 59)]), none⟩,
 ⟨(some 61), (.call (.k (.fn (.func 15) [] [])) [(.t 54), (.t 56), (.t 60)]), none⟩,
 ⟨(some 53), (.mov (.t 61)), none⟩,
 ⟨(some 62), (.ext (.t 53) 0), none⟩,
 ⟨(some 63), (.ext (.t 53) 1), none⟩,
 ⟨(some 10), (.mov (.t 62)), none⟩,
 ⟨(some 11), (.mov (.t 63)), none⟩] (.lin [] [(0, none), (1, none), (2, none), (3, none), (4, none), (5, none), (6, some [0, 1, 2]), (7, some []), (8, none), (9, none), (10, none), (11, none), (12, none)]))
 (.seq (.seq (.dreg [⟨(some 64), (.mov (.t 7)), none⟩,
 ⟨(some 65), (.mov (.t 5)), none⟩,
 ⟨(some 66), (.fad 0 (.t 2)), none⟩,
 ⟨(some 67), (.load 1 false (.t 66)), none⟩,
 ⟨(some 68), (.call (.k (.fn (.func 16) [] [])) [(.t 65), (.t 67)]), none⟩,
 ⟨(some 69), (.bin .neq .str (.t 64) (.t 68)), none⟩,
 ⟨(some 70), (.mov (.t 69)), none⟩,
 ⟨(some 71), (.mov (.t 8)), some (70, false)⟩,
 ⟨(some 72), (.mov (.t 10)), some (70, false)⟩,
 ⟨(some 73), (.bin .neq .str (.t 71) (.t 72)), some (70, false)⟩,
 ⟨(some 74), (.pick (.t 70) (.k (.bool true)) (.t 73)), none⟩,
 ⟨(some 75), (.mov (.t 74)), none⟩,
 ⟨(some 76), (.mov (.t 9)), some (75, false)⟩,
 ⟨(some 77), (.mov (.t 11)), some (75, false)⟩,
 ⟨(some 78), (.bin .neq .bool (.t 76) (.t 77)), some (75, false)⟩,
 ⟨(some 79), (.pick (.t 75) (.k (.bool true)) (.t 78)), none⟩,
 ⟨(some 80), (.mov (.t 79)), none⟩,
 ⟨(some 81), (.mov (.t 6)), some (80, false)⟩,
 ⟨(some 82), (.fad 0 (.t 2)), some (80, false)⟩,
 ⟨(some 83), (.load 1 false (.t 82)), some (80, false)⟩,
 ⟨(some 84), (.fad 1 (.t 2)), some (80, false)⟩,
 ⟨(some 85), (.load 1 false (.t 84)), some (80, false)⟩,
 ⟨(some 86), (.inv (.t 81) "Hash" [(.t 83), (.t 85)]), some (80, false)⟩,
 ⟨(some 87), (.mov (.t 5)), some (80, false)⟩,
 ⟨(some 88), (.fad 0 (.t 2)), some (80, false)⟩,
 ⟨(some 89), (.load 1 false (.t 88)), some (80, false)⟩,
 ⟨(some 90), (.fad 1 (.t 2)), some (80, false)⟩,
 ⟨(some 91), (.load 1 false (.t 90)), some (80, false)⟩,
 ⟨(some 92), (.mks true 1 16 false [(.str []), (.str []), (.str [])] 3 [(0, (.k (.str [104, 97, 115, 104]))), (1, (.t 89)), (2, (.t 91))]), some (80, false)⟩,
 ⟨(some 93), (.call (.k (.fn (.func 17) [] [])) [(.t 87), (.t 92)]), some (80, false)⟩,
 ⟨(some 94), (.bin .neq .str (.t 86) (.t 93)), some (80, false)⟩,
 ⟨(some 95), (.pick (.t 80) (.k (.bool true)) (.t 94)), none⟩,
 ⟨(some 96), (.mov (.t 95)), none⟩,
 ⟨(some 97), (.mov (.t 6)), some (96, false)⟩,
 ⟨(some 98), (.fad 0 (.t 2)), some (96, false)⟩,
 ⟨(some 99), (.load 1 false (.t 98)), some (96, false)⟩,
 ⟨(some 100), (.fad 2 (.t 2)), some (96, false)⟩,
 ⟨(some 101), (.load 1 false (.t 100)), some (96, false)⟩,
 ⟨(some 102), (.fad 3 (.t 2)), some (96, false)⟩,
 ⟨(some 103), (.load 1 false (.t 102)), some (96, false)⟩,
 ⟨(some 104), (.fad 4 (.t 2)), some (96, false)⟩,
 ⟨(some 105), (.load 1 false (.t 104)), some (96, false)⟩,
 ⟨(some 106), (.inv (.t 97) "Seal" [(.t 99), (.t 101), (.t 103), (.t 105)]), some (96, false)⟩,
 ⟨(some 107), (.mov (.t 5)), some (96, false)⟩,
 ⟨(some 108), (.fad 0 (.t 2)), some (96, false)⟩,
 ⟨(some 109), (.load 1 false (.t 108)), some (96, false)⟩,
 ⟨(some 110), (.fad 2 (.t 2)), some (96, false)⟩,
 ⟨(some 111), (.load 1 false (.t 110)), some (96, false)⟩,
 ⟨(some 112), (.fad 3 (.t 2)), some (96, false)⟩,
 ⟨(some 113), (.load 1 false (.t 112)), some (96, false)⟩,
 ⟨(some 114), (.fad 4 (.t 2)), some (96, false)⟩,
 ⟨(some 115), (.load 1 false (.t 114)), some (96, false)⟩,
 ⟨(some 116), (.call (.k (.fn (.func 18) [] [])) [(.t 107), (.t 109), (.t 111), (.t 113), (.t 115)]), some (96, false)⟩,
 ⟨(some 117), (.bin .neq .str (.t 106) (.t 116)), some (96, false)⟩,
 ⟨(some 118), (.pick (.t 96) (.k (.bool true)) (.t 117)), none⟩] (.lin [] [(0, none), (1, none), (2, none), (3, none), (4, some [0]), (5, none), (6, none), (7, none), (8, none), (9, none), (10, none), (11, none), (12, none), (13, none), (14, none), (15, none), (16, none), (17, none), (18, none), (19, none), (20, none), (21, none), (23, none), (24, none), (25, none), (26, none), (27, none), (28, none), (22, some [23, 24, 25, 26, 27, 28]), (29, some []), (30, none), (31, none), (32, none), (33, none), (34, none), (35, none), (36, none), (37, none), (38, none), (39, none), (40, none), (41, none), (43, none), (44, none), (45, none), (46, none), (47, none), (48, none), (49, none), (50, none), (51, none), (42, some [43, 44, 45, 46, 47, 48, 49, 50, 51]), (52, some []), (53, none), (54, none)]))
 (.cond (.t 118)
 (.seq (.reg [⟨(some 4), (.mov (.k (.bool false))), none⟩])
 .ret)
 .skip))
 (.seq (.seq (.reg [⟨(some 120), (.mov (.t 5)), none⟩,
 ⟨(some 121), (.fad 1 (.t 2)), none⟩,
 ⟨(some 122), (.load 1 false (.t 121)), none⟩,
 ⟨(some 123), (.call (.k (.fn (.func 19) [] [])) [(.t 120), (.t 122)]), none⟩,
 ⟨(some 119), (.mov (.t 123)), none⟩,
 ⟨(some 124), (.ext (.t 119) 0), none⟩,
 ⟨(some 125), (.ext (.t 119) 1), none⟩,
 ⟨(some 126), (.ext (.t 119) 2), none⟩,
 ⟨(some 12), (.mov (.t 124)), none⟩,
 ⟨(some 13), (.mov (.t 125)), none⟩,
 ⟨(some 14), (.mov (.t 126)), none⟩])
 (.seq (.reg [⟨(some 127), (.mov (.t 14)), none⟩,
 ⟨(some 128), (.un .not (.t 127)), none⟩])
 (.cond (.t 128)
 (.seq (.reg [⟨(some 130), (.mov (.t 6)), none⟩,
 ⟨(some 131), (.fad 0 (.t 2)), none⟩,
 ⟨(some 132), (.load 1 false (.t 131)), none⟩,
 ⟨(some 133), (.fad 1 (.t 2)), none⟩,
 ⟨(some 134), (.load 1 false (.t 133)), none⟩,
 ⟨(some 135), (.inv (.t 130) "Dh" [(.t 132), (.t 134)]), none⟩,
 ⟨(some 129), (.mov (.t 135)), none⟩,
 ⟨(some 136), (.ext (.t 129) 0), none⟩,
 ⟨(some 137), (.ext (.t 129) 1), none⟩,
 ⟨(some 15), (.mov (.t 136)), none⟩,
 ⟨(some 16), (.mov (.t 137)), none⟩])
 (.seq (.reg [⟨(some 138), (.mov (.t 16)), none⟩])
 (.cond (.t 138)
 (.seq (.reg [⟨(some 4), (.mov (.k (.bool false))), none⟩])
 .ret)
 .skip)))
 .skip)))
 (.seq (.reg [⟨(some 139), (.mov (.t 6)), none⟩,
 ⟨(some 140), (.fad 0 (.t 2)), none⟩,
 ⟨(some 141), (.load 1 false (.t 140)), none⟩,
 ⟨(some 142), (.fad 1 (.t 2)), none⟩,
 ⟨(some 143), (.load 1 false (.t 142)), none⟩,
 ⟨(some 144), (.mov (.t 1)), none⟩,
 ⟨(some 145), (.inv (.t 139) "Keys" [(.t 141), (.t 143), (.t 144)]), none⟩,
 ⟨(some 17), (.mov (.t 145)), none⟩])
 (.seq (.seq (.reg [⟨(some 146), (.mov (.t 1)), none⟩,
 ⟨(some 147), (.bin .lss .num (.t 146) (.k (.int .i64 1))), none⟩,
 ⟨(some 148), (.mov (.t 147)), none⟩,
 ⟨(some 149), (.mov (.t 1)), some (148, false)⟩,
 ⟨(some 150), (.bin .gtr .num (.t 149) (.k (.int .i64 3))), some (148, false)⟩,
 ⟨(some 151), (.pick (.t 148) (.k (.bool true)) (.t 150)), none⟩])
 (.cond (.t 151)
 (.seq (.reg [⟨(some 152), (.mov (.t 17)), none⟩,
 ⟨(some 153), (.len .slc (.t 152)), none⟩,
 ⟨(some 154), (.bin .eql .num (.t 153) (.k (.int .i64 0))), none⟩,
 ⟨(some 4), (.mov (.t 154)), none⟩])
 .ret)
 .skip))
 (.seq (.seq (.reg [⟨(some 155), (.mov (.t 17)), none⟩,
 ⟨(some 156), (.len .slc (.t 155)), none⟩,
 ⟨(some 157), (.mov (.t 1)), none⟩,
 ⟨(some 158), (.bin .neq .num (.t 156) (.t 157)), none⟩])
 (.cond (.t 158)
 (.seq (.reg [⟨(some 4), (.mov (.k (.bool false))), none⟩])
 .ret)
 .skip))
 (.seq (.seq (.reg [⟨(some 159), (.mov (.t 17)), none⟩,
 ⟨(some 160), (.len .slc (.t 159)), none⟩,
 ⟨(some 161), (.mov (.k (.int .i64 0))), none⟩])
 (.block 0
 (.loop
 (.seq (.reg [⟨(some 162), (.bin .lss .num (.t 161) (.t 160)), none⟩])
 (.seq (.cond (.t 162)
 .skip
 (.exit 0))
 (.seq (.block 1
 (.seq (.reg [⟨(some 163), (.mov (.t 161)), none⟩,
 ⟨(some 18), (.mov (.t 163)), none⟩])
 (.seq (.dreg [⟨(some 164), (.mov (.t 17)), none⟩,
 ⟨(some 165), (.mov (.t 18)), none⟩,
 ⟨(some 166), (.iad 1 (.t 164) (.t 165)), none⟩,
 ⟨(some 167), (.load 1 false (.t 166)), none⟩,
 ⟨(some 168), (.mov (.t 5)), none⟩,
 ⟨(some 169), (.mov (.t 18)), none⟩,
 ⟨(some 170), (.bin .add .num (.t 169) (.k (.int .i64 1))), none⟩,
 ⟨(some 171), (.cvi .u64 (.t 170)), none⟩,
 ⟨(some 172), (.call (.k (.fn (.func 20) [] [])) [(.t 171)]), none⟩,
 ⟨(some 173), (.fad 0 (.t 2)), none⟩,
 ⟨(some 174), (.load 1 false (.t 173)), none⟩,
 ⟨(some 175), (.fad 1 (.t 2)), none⟩,
 ⟨(some 176), (.load 1 false (.t 175)), none⟩,
 ⟨(some 177), (.mks true 1 16 false [(.str []), (.str []), (.str []), (.str [])] 4 [(0, (.k (.str [107, 101, 121]))), (1, (.t 172)), (2, (.t 174)), (3, (.t 176))]), none⟩,
 ⟨(some 178), (.call (.k (.fn (.func 17) [] [])) [(.t 168), (.t 177)]), none⟩,
 ⟨(some 179), (.bin .neq .str (.t 167) (.t 178)), none⟩] (.lin [] [(0, none), (1, none), (2, none), (3, none), (4, none), (5, none), (6, none), (7, none), (9, none), (10, none), (11, none), (12, none), (8, some [0, 1, 2, 3, 4, 9, 10, 11, 12]), (13, none), (14, some [0, 1, 2, 3]), (15, none)]))
 (.cond (.t 179)
 (.seq (.reg [⟨(some 4), (.mov (.k (.bool false))), none⟩])
 .ret)
 .skip))))
 (.reg [⟨(some 180), (.bin .add .num (.t 161) (.k (.int .i64 1))), none⟩,
 ⟨(some 161), (.mov (.t 180)), none⟩])))))))
 (.seq (.reg [⟨(some 4), (.mov (.k (.bool true))), none⟩])
 .ret)))))))))))))))⟩

/-- 5: signetring/signetringlaw11.alive -/
def F5 : Fun :=
 ⟨61, 0, [.t 0],
 (.seq (.reg [⟨(some 0), (.mov (.k (.bool false))), none⟩])
 (.seq (.reg [⟨(some 4), (.call (.k (.fn (.func 6) [] [])) []), none⟩,
 ⟨(some 5), (.call (.k (.fn (.func 13) [] [])) []), none⟩,
 ⟨(some 6), (.call (.k (.fn (.func 14) [] [])) [(.t 5)]), none⟩,
 ⟨(some 1), (.mov (.t 4)), none⟩,
 ⟨(some 2), (.mov (.t 6)), none⟩])
 (.seq (.seq (.reg [⟨(some 7), (.mov (.t 1)), none⟩,
 ⟨(some 8), (.bin .eql .ifc (.t 7) (.k .nifc)), none⟩,
 ⟨(some 9), (.mov (.t 8)), none⟩,
 ⟨(some 10), (.mov (.t 2)), some (9, false)⟩,
 ⟨(some 11), (.bin .eql .ifc (.t 10) (.k .nifc)), some (9, false)⟩,
 ⟨(some 12), (.pick (.t 9) (.k (.bool true)) (.t 11)), none⟩,
 ⟨(some 13), (.mov (.t 12)), none⟩,
 ⟨(some 14), (.call (.k (.fn (.func 14) [] [])) [(.k .nptr)]), some (13, false)⟩,
 ⟨(some 15), (.bin .neq .ifc (.t 14) (.k .nifc)), some (13, false)⟩,
 ⟨(some 16), (.pick (.t 13) (.k (.bool true)) (.t 15)), none⟩])
 (.cond (.t 16)
 (.seq (.reg [⟨(some 0), (.mov (.k (.bool false))), none⟩])
 .ret)
 .skip))
 (.seq (.reg [⟨(some 17), (.j (.mkt 1 [(.int .u8 0), (.int .u8 0), (.int .u8 0)] 3 [(0, (.k (.int .u8 97))), (1, (.k (.int .u8 98))), (2, (.k (.int .u8 99)))] 5)), none⟩,
 ⟨(some 18), (.j (.cvb 5 (.t 17))), none⟩,
 ⟨(some 19), (.call (.k (.fn (.func 12) [] [])) [(.t 18)]), none⟩,
 ⟨(some 3), (.new [(.int .u8 0), (.int .u8 0), (.int .u8 0), (.int .u8 0), (.int .u8 0), (.int .u8 0), (.int .u8 0), (.int .u8 0), (.int .u8 0), (.int .u8 0), (.int .u8 0), (.int .u8 0), (.int .u8 0), (.int .u8 0), (.int .u8 0), (.int .u8 0), (.int .u8 0), (.int .u8 0), (.int .u8 0), (.int .u8 0), (.int .u8 0), (.int .u8 0), (.int .u8 0), (.int .u8 0), (.int .u8 0), (.int .u8 0), (.int .u8 0), (.int .u8 0), (.int .u8 0), (.int .u8 0), (.int .u8 0), (.int .u8 0)] none), none⟩,
 ⟨none, (.store 32 (.t 3) (.t 19)), none⟩])
 (.seq (.dreg [⟨(some 20), (.mov (.t 1)), none⟩,
 ⟨(some 21), (.inv (.t 20) "Hash" [(.k (.str [97])), (.k (.str [98, 99]))]), none⟩,
 ⟨(some 22), (.slca 32 1 false (.t 3) none none none), none⟩,
 ⟨(some 23), (.b2s (.t 22)), none⟩,
 ⟨(some 24), (.bin .eql .str (.t 21) (.t 23)), none⟩,
 ⟨(some 25), (.mov (.t 24)), none⟩,
 ⟨(some 26), (.mov (.t 1)), some (25, true)⟩,
 ⟨(some 27), (.inv (.t 26) "Hash" [(.k (.str [97, 98])), (.k (.str [99]))]), some (25, true)⟩,
 ⟨(some 28), (.slca 32 1 false (.t 3) none none none), some (25, true)⟩,
 ⟨(some 29), (.b2s (.t 28)), some (25, true)⟩,
 ⟨(some 30), (.bin .eql .str (.t 27) (.t 29)), some (25, true)⟩,
 ⟨(some 31), (.pick (.t 25) (.t 30) (.k (.bool false))), none⟩,
 ⟨(some 32), (.mov (.t 31)), none⟩,
 ⟨(some 33), (.mov (.t 2)), some (32, true)⟩,
 ⟨(some 34), (.inv (.t 33) "Hash" [(.k (.str [97])), (.k (.str [98, 99]))]), some (32, true)⟩,
 ⟨(some 35), (.mov (.t 2)), some (32, true)⟩,
 ⟨(some 36), (.inv (.t 35) "Hash" [(.k (.str [97, 98])), (.k (.str [99]))]), some (32, true)⟩,
 ⟨(some 37), (.bin .neq .str (.t 34) (.t 36)), some (32, true)⟩,
 ⟨(some 38), (.pick (.t 32) (.t 37) (.k (.bool false))), none⟩,
 ⟨(some 39), (.mov (.t 38)), none⟩,
 ⟨(some 40), (.mov (.t 2)), some (39, true)⟩,
 ⟨(some 41), (.inv (.t 40) "Hash" [(.k (.str [97])), (.k (.str [98, 99]))]), some (39, true)⟩,
 ⟨(some 42), (.len .str (.t 41)), some (39, true)⟩,
 ⟨(some 43), (.bin .eql .num (.t 42) (.k (.int .i64 32))), some (39, true)⟩,
 ⟨(some 44), (.pick (.t 39) (.t 43) (.k (.bool false))), none⟩,
 ⟨(some 45), (.mov (.t 44)), none⟩,
 ⟨(some 46), (.mov (.t 1)), some (45, true)⟩,
 ⟨(some 47), (.slca 32 1 false (.t 3) none none none), some (45, true)⟩,
 ⟨(some 48), (.b2s (.t 47)), some (45, true)⟩,
 ⟨(some 49), (.mkf (.method "Keys") [(.t 46)] []), some (45, true)⟩,
 ⟨(some 50), (.nilck (.t 49)), some (45, true)⟩,
 ⟨(some 51), (.mov (.t 46)), some (45, true)⟩,
 ⟨(some 52), (.inv (.t 51) "Keys" [(.t 48), (.k (.str [])), (.k (.int .i64 2))]), some (45, true)⟩,
 ⟨(some 53), (.len .slc (.t 52)), some (45, true)⟩,
 ⟨(some 54), (.bin .eql .num (.t 53) (.k (.int .i64 2))), some (45, true)⟩,
 ⟨(some 55), (.pick (.t 45) (.t 54) (.k (.bool false))), none⟩,
 ⟨(some 56), (.mov (.t 55)), none⟩,
 ⟨(some 57), (.mov (.t 1)), some (56, true)⟩,
 ⟨(some 58), (.inv (.t 57) "Pub" [(.k (.str [115, 104, 111, 114, 116]))]), some (56, true)⟩,
 ⟨(some 59), (.bin .eql .str (.t 58) (.k (.str []))), some (56, true)⟩,
 ⟨(some 60), (.pick (.t 56) (.t 59) (.k (.bool false))), none⟩,
 ⟨(some 0), (.mov (.t 60)), none⟩] (.lin [] [(0, none), (2, none), (3, none), (1, some [2, 3]), (4, none), (5, none), (6, none), (8, none), (9, none), (7, some [8, 9]), (10, none), (11, none), (12, none), (13, none), (15, none), (14, some [15]), (16, some []), (17, none), (18, none), (19, none), (20, none), (21, some []), (22, none), (23, none), (24, none), (25, none), (26, none), (27, none), (28, none), (29, none), (30, none), (31, none), (32, some []), (33, none), (34, none), (35, none), (36, none), (37, none), (38, some []), (39, none), (40, none), (41, none)]))
 .ret)))))⟩

/-- 6: signetring/prims.Real -/
def F6 : Fun :=
 ⟨3, 0, [.t 0],
 (.seq (.reg [⟨(some 0), (.mov (.k .nifc)), none⟩])
 (.seq (.reg [⟨(some 1), (.build [] []), none⟩,
 ⟨(some 2), (.mki 57 (.t 1)), none⟩,
 ⟨(some 0), (.mov (.t 2)), none⟩])
 .ret))⟩

/-- 7: signetring/signetringlaw11.few -/
def F7 : Fun :=
 ⟨25, 1, [.t 2],
 (.seq (.reg [⟨(some 1), (.box none (.t 0)), none⟩,
 ⟨(some 2), (.mov (.k (.bool false))), none⟩])
 (.seq (.reg [⟨(some 3), (.fad 0 (.t 1)), none⟩,
 ⟨(some 4), (.load 1 false (.t 3)), none⟩,
 ⟨(some 5), (.len .str (.t 4)), none⟩,
 ⟨(some 6), (.bin .leq .num (.t 5) (.k (.int .i64 1000))), none⟩,
 ⟨(some 7), (.mov (.t 6)), none⟩,
 ⟨(some 8), (.fad 1 (.t 1)), some (7, true)⟩,
 ⟨(some 9), (.load 1 false (.t 8)), some (7, true)⟩,
 ⟨(some 10), (.len .str (.t 9)), some (7, true)⟩,
 ⟨(some 11), (.bin .leq .num (.t 10) (.k (.int .i64 1000))), some (7, true)⟩,
 ⟨(some 12), (.pick (.t 7) (.t 11) (.k (.bool false))), none⟩,
 ⟨(some 13), (.mov (.t 12)), none⟩,
 ⟨(some 14), (.fad 3 (.t 1)), some (13, true)⟩,
 ⟨(some 15), (.load 1 false (.t 14)), some (13, true)⟩,
 ⟨(some 16), (.len .str (.t 15)), some (13, true)⟩,
 ⟨(some 17), (.bin .leq .num (.t 16) (.k (.int .i64 1000))), some (13, true)⟩,
 ⟨(some 18), (.pick (.t 13) (.t 17) (.k (.bool false))), none⟩,
 ⟨(some 19), (.mov (.t 18)), none⟩,
 ⟨(some 20), (.fad 4 (.t 1)), some (19, true)⟩,
 ⟨(some 21), (.load 1 false (.t 20)), some (19, true)⟩,
 ⟨(some 22), (.len .str (.t 21)), some (19, true)⟩,
 ⟨(some 23), (.bin .leq .num (.t 22) (.k (.int .i64 1000))), some (19, true)⟩,
 ⟨(some 24), (.pick (.t 19) (.t 23) (.k (.bool false))), none⟩,
 ⟨(some 2), (.mov (.t 24)), none⟩])
 .ret))⟩

/-- 8: signetring/signetringlaw11.key -/
def F8 : Fun :=
 ⟨12, 1, [.c 2 32 true, .t 3],
 (.seq (.reg [⟨(some 2), (.new [(.int .u8 0), (.int .u8 0), (.int .u8 0), (.int .u8 0), (.int .u8 0), (.int .u8 0), (.int .u8 0), (.int .u8 0), (.int .u8 0), (.int .u8 0), (.int .u8 0), (.int .u8 0), (.int .u8 0), (.int .u8 0), (.int .u8 0), (.int .u8 0), (.int .u8 0), (.int .u8 0), (.int .u8 0), (.int .u8 0), (.int .u8 0), (.int .u8 0), (.int .u8 0), (.int .u8 0), (.int .u8 0), (.int .u8 0), (.int .u8 0), (.int .u8 0), (.int .u8 0), (.int .u8 0), (.int .u8 0), (.int .u8 0)] none), none⟩,
 ⟨(some 3), (.mov (.k (.bool false))), none⟩])
 (.seq (.reg [⟨(some 4), (.new [(.int .u8 0), (.int .u8 0), (.int .u8 0), (.int .u8 0), (.int .u8 0), (.int .u8 0), (.int .u8 0), (.int .u8 0), (.int .u8 0), (.int .u8 0), (.int .u8 0), (.int .u8 0), (.int .u8 0), (.int .u8 0), (.int .u8 0), (.int .u8 0), (.int .u8 0), (.int .u8 0), (.int .u8 0), (.int .u8 0), (.int .u8 0), (.int .u8 0), (.int .u8 0), (.int .u8 0), (.int .u8 0), (.int .u8 0), (.int .u8 0), (.int .u8 0), (.int .u8 0), (.int .u8 0), (.int .u8 0), (.int .u8 0)] none), none⟩])
 (.seq (.reg [⟨(some 5), (.slca 32 1 false (.t 4) none none none), none⟩,
 ⟨(some 6), (.mov (.t 0)), none⟩,
 ⟨(some 7), (.cpy 1 (.t 5) (.t 6)), none⟩])
 (.seq (.reg [⟨(some 8), (.load 32 true (.t 4)), none⟩,
 ⟨(some 9), (.mov (.t 0)), none⟩,
 ⟨(some 10), (.len .str (.t 9)), none⟩,
 ⟨(some 11), (.bin .eql .num (.t 10) (.k (.int .i64 32))), none⟩,
 ⟨none, (.store 32 (.t 2) (.t 8)), none⟩,
 ⟨(some 3), (.mov (.t 11)), none⟩])
 .ret))))⟩

/-- 11: signetring/mac.Keys -/
def F11 : Fun :=
 ⟨38, 3, [.t 6, .t 7],
 (.seq (.reg [⟨(some 3), (.box none (.t 0)), none⟩,
 ⟨(some 6), (.mov (.k .nsl)), none⟩,
 ⟨(some 7), (.mov (.k (.int .i64 0))), none⟩])
 (.seq (.seq (.reg [⟨(some 12), (.mov (.t 2)), none⟩,
 ⟨(some 13), (.bin .lss .num (.t 12) (.k (.int .i64 1))), none⟩,
 ⟨(some 14), (.mov (.t 13)), none⟩,
 ⟨(some 15), (.mov (.t 2)), some (14, false)⟩,
 ⟨(some 16), (.bin .gtr .num (.t 15) (.k (.int .i64 3))), some (14, false)⟩,
 ⟨(some 17), (.pick (.t 14) (.k (.bool true)) (.t 16)), none⟩])
 (.cond (.t 17)
 (.seq (.reg [⟨(some 6), (.mov (.k .nsl)), none⟩,
 ⟨(some 7), (.mov (.k (.int .i64 2))), none⟩])
 .ret)
 .skip))
 (.seq (.reg [⟨(some 19), (.slca 32 1 false (.t 3) none none none), none⟩,
 ⟨(some 20), (.mov (.t 1)), none⟩,
 ⟨(some 21), (.call (.k (.fn (.func 23) [] [])) [(.t 19), (.t 20)]), none⟩,
 ⟨(some 22), (.mov (.t 2)), none⟩,
 ⟨(some 23), (.bin .mul .num (.t 22) (.k (.int .i64 32))), none⟩,
 ⟨(some 24), (.call (.k (.fn (.func 22) [] [])) [(.t 21), (.k .nsl), (.t 23)]), none⟩,
 ⟨(some 18), (.mov (.t 24)), none⟩,
 ⟨(some 25), (.ext (.t 18) 0), none⟩,
 ⟨(some 26), (.ext (.t 18) 1), none⟩,
 ⟨(some 8), (.mov (.t 25)), none⟩,
 ⟨(some 9), (.mov (.t 26)), none⟩])
 (.seq (.reg [⟨(some 10), (.new [.nsl] none), none⟩])
 (.seq (.seq (.reg [⟨(some 27), (.mov (.t 8)), none⟩,
 ⟨(some 28), (.call (.k (.fn (.func 24) [] [])) [(.t 27), (.k (.int .i64 32))]), none⟩])
 (.block 0
 .no))
 (.seq (.reg [⟨(some 36), (.load 1 false (.t 10)), none⟩,
 ⟨(some 37), (.mov (.t 9)), none⟩,
 ⟨(some 6), (.mov (.t 36)), none⟩,
 ⟨(some 7), (.mov (.t 37)), none⟩])
 .ret))))))⟩

/-- 12: signetring/sha.Sum -/
def F12 : Fun :=
 ⟨7, 1, [.c 2 32 true],
 (.seq (.reg [⟨(some 2), (.new [(.int .u8 0), (.int .u8 0), (.int .u8 0), (.int .u8 0), (.int .u8 0), (.int .u8 0), (.int .u8 0), (.int .u8 0), (.int .u8 0), (.int .u8 0), (.int .u8 0), (.int .u8 0), (.int .u8 0), (.int .u8 0), (.int .u8 0), (.int .u8 0), (.int .u8 0), (.int .u8 0), (.int .u8 0), (.int .u8 0), (.int .u8 0), (.int .u8 0), (.int .u8 0), (.int .u8 0), (.int .u8 0), (.int .u8 0), (.int .u8 0), (.int .u8 0), (.int .u8 0), (.int .u8 0), (.int .u8 0), (.int .u8 0)] none), none⟩])
 (.seq (.reg [⟨(some 3), (.build [(.int .u32 0), (.int .u32 0), (.int .u32 0), (.int .u32 0), (.int .u32 0), (.int .u32 0), (.int .u32 0), (.int .u32 0), .nsl, (.int .u64 0)] []), none⟩,
 ⟨(some 4), (.mov (.t 0)), none⟩,
 ⟨(some 5), (.call (.k (.fn (.func 25) [] [])) [(.t 3), (.t 4)]), none⟩,
 ⟨(some 6), (.call (.k (.fn (.func 26) [] [])) [(.t 5)]), none⟩,
 ⟨none, (.store 32 (.t 2) (.t 6)), none⟩])
 .ret))⟩

/-- 13: signetring/term.New -/
def F13 : Fun :=
 ⟨5, 0, [.t 0],
 (.seq (.reg [⟨(some 0), (.mov (.k .nptr)), none⟩])
 (.seq (.reg [⟨(some 1), .mkm, none⟩,
 ⟨(some 2), .mkm, none⟩,
 ⟨(some 3), (.build [.nmap, .nmap, .nsl] [(0, 1, (.t 1)), (1, 1, (.t 2))]), none⟩,
 ⟨(some 4), (.box none (.t 3)), none⟩,
 ⟨(some 0), (.mov (.t 4)), none⟩])
 .ret))⟩

/-- 14: signetring/prims.Symbol -/
def F14 : Fun :=
 ⟨8, 1, [.t 2],
 (.seq (.reg [⟨(some 2), (.mov (.k .nifc)), none⟩])
 (.seq (.seq (.reg [⟨(some 3), (.mov (.t 0)), none⟩,
 ⟨(some 4), (.bin .eql .ptr (.t 3) (.k .nptr)), none⟩])
 (.cond (.t 4)
 (.seq (.reg [⟨(some 2), (.mov (.k .nifc)), none⟩])
 .ret)
 .skip))
 (.seq (.reg [⟨(some 5), (.mov (.t 0)), none⟩,
 ⟨(some 6), (.build [.nptr] [(0, 1, (.t 5))]), none⟩,
 ⟨(some 7), (.mki 75 (.t 6)), none⟩,
 ⟨(some 2), (.mov (.t 7)), none⟩])
 .ret)))⟩

/-- 15: (*signetring/term.Table).Dh -/
def F15 : Fun :=
 ⟨39, 3, [.t 6, .t 7],
 (.seq (.reg [⟨(some 6), (.mov (.k (.str []))), none⟩,
 ⟨(some 7), (.mov (.k (.bool false))), none⟩])
 (.seq (.reg [⟨(some 14), (.mov (.t 0)), none⟩,
 ⟨(some 15), (.mov (.t 2)), none⟩,
 ⟨(some 16), (.call (.k (.fn (.func 19) [] [])) [(.t 14), (.t 15)]), none⟩,
 ⟨(some 13), (.mov (.t 16)), none⟩,
 ⟨(some 17), (.ext (.t 13) 0), none⟩,
 ⟨(some 18), (.ext (.t 13) 1), none⟩,
 ⟨(some 19), (.ext (.t 13) 2), none⟩,
 ⟨(some 8), (.mov (.t 17)), none⟩,
 ⟨(some 9), (.mov (.t 18)), none⟩,
 ⟨(some 10), (.mov (.t 19)), none⟩])
 (.seq (.seq (.reg [⟨(some 20), (.mov (.t 10)), none⟩,
 ⟨(some 21), (.un .not (.t 20)), none⟩,
 ⟨(some 22), (.mov (.t 21)), none⟩,
 ⟨(some 23), (.mov (.t 8)), some (22, false)⟩,
 ⟨(some 24), (.bin .neq .num (.t 23) (.k (.int .u8 2))), some (22, false)⟩,
 ⟨(some 25), (.pick (.t 22) (.k (.bool true)) (.t 24)), none⟩])
 (.cond (.t 25)
 (.seq (.reg [⟨(some 6), (.mov (.k (.str []))), none⟩,
 ⟨(some 7), (.mov (.k (.bool false))), none⟩])
 .ret)
 .skip))
 (.seq (.reg [⟨(some 26), (.mov (.t 1)), none⟩,
 ⟨(some 27), (.mov (.t 9)), none⟩,
 ⟨(some 28), (.iad 1 (.t 27) (.k (.int .i64 0))), none⟩,
 ⟨(some 29), (.load 1 false (.t 28)), none⟩,
 ⟨(some 30), (.mks false 1 16 false [(.str []), (.str [])] 2 [(0, (.t 26)), (1, (.t 29))]), none⟩,
 ⟨(some 11), (.mov (.t 30)), none⟩])
 (.seq (.reg [⟨(some 31), (.mov (.t 11)), none⟩,
 ⟨(some 32), (.call (.k (.fn (.func 27) [] [])) [(.t 31)]), none⟩])
 (.seq (.reg [⟨(some 33), (.mov (.t 0)), none⟩,
 ⟨(some 34), (.mov (.t 11)), none⟩,
 ⟨(some 35), (.call (.k (.fn (.func 28) [] [])) [(.t 33), (.k (.int .u8 3)), (.t 34)]), none⟩,
 ⟨(some 12), (.mov (.t 35)), none⟩])
 (.seq (.reg [⟨(some 36), (.mov (.t 12)), none⟩,
 ⟨(some 37), (.mov (.t 12)), none⟩,
 ⟨(some 38), (.bin .neq .str (.t 37) (.k (.str []))), none⟩,
 ⟨(some 6), (.mov (.t 36)), none⟩,
 ⟨(some 7), (.mov (.t 38)), none⟩])
 .ret)))))))⟩

/-- 16: (*signetring/term.Table).Pub -/
def F16 : Fun :=
 ⟨9, 2, [.t 4],
 (.seq (.reg [⟨(some 4), (.mov (.k (.str []))), none⟩])
 (.seq (.reg [⟨(some 5), (.mov (.t 0)), none⟩,
 ⟨(some 6), (.mov (.t 1)), none⟩,
 ⟨(some 7), (.mks true 1 16 false [(.str [])] 1 [(0, (.t 6))]), none⟩,
 ⟨(some 8), (.call (.k (.fn (.func 28) [] [])) [(.t 5), (.k (.int .u8 2)), (.t 7)]), none⟩,
 ⟨(some 4), (.mov (.t 8)), none⟩])
 .ret))⟩

/-- 17: (*signetring/term.Table).Hash -/
def F17 : Fun :=
 ⟨8, 2, [.t 4],
 (.seq (.reg [⟨(some 4), (.mov (.k (.str []))), none⟩])
 (.seq (.reg [⟨(some 5), (.mov (.t 0)), none⟩,
 ⟨(some 6), (.mov (.t 1)), none⟩,
 ⟨(some 7), (.call (.k (.fn (.func 28) [] [])) [(.t 5), (.k (.int .u8 4)), (.t 6)]), none⟩,
 ⟨(some 4), (.mov (.t 7)), none⟩])
 .ret))⟩

/-- 18: (*signetring/term.Table).Seal -/
def F18 : Fun :=
 ⟨19, 5, [.t 10],
 (.seq (.reg [⟨(some 10), (.mov (.k (.str []))), none⟩])
 (.seq (.reg [⟨(some 11), (.mov (.t 0)), none⟩,
 ⟨(some 12), (.mov (.t 1)), none⟩,
 ⟨(some 13), (.mov (.t 2)), none⟩,
 ⟨(some 14), (.call (.k (.fn (.func 20) [] [])) [(.t 13)]), none⟩,
 ⟨(some 15), (.mov (.t 3)), none⟩,
 ⟨(some 16), (.mov (.t 4)), none⟩,
 ⟨(some 17), (.mks true 1 16 false [(.str []), (.str []), (.str []), (.str [])] 4 [(0, (.t 12)), (1, (.t 14)), (2, (.t 15)), (3, (.t 16))]), none⟩,
 ⟨(some 18), (.call (.k (.fn (.func 28) [] [])) [(.t 11), (.k (.int .u8 5)), (.t 17)]), none⟩,
 ⟨(some 10), (.mov (.t 18)), none⟩])
 .ret))⟩

/-- 19: (*signetring/term.Table).Parts -/
def F19 : Fun :=
 ⟨34, 2, [.t 4, .t 5, .t 6],
 (.seq (.reg [⟨(some 4), (.mov (.k (.int .u8 0))), none⟩,
 ⟨(some 5), (.mov (.k .nsl)), none⟩,
 ⟨(some 6), (.mov (.k (.bool false))), none⟩])
 (.seq (.seq (.reg [⟨(some 12), (.mov (.t 0)), none⟩,
 ⟨(some 13), (.call (.k (.fn (.func 29) [] [])) [(.t 12)]), none⟩,
 ⟨(some 14), (.un .not (.t 13)), none⟩])
 (.cond (.t 14)
 (.seq (.reg [⟨(some 4), (.mov (.k (.int .u8 0))), none⟩,
 ⟨(some 5), (.mov (.k .nsl)), none⟩,
 ⟨(some 6), (.mov (.k (.bool false))), none⟩])
 .ret)
 .skip))
 (.seq (.reg [⟨(some 16), (.mov (.t 0)), none⟩,
 ⟨(some 17), (.nilck (.t 16)), none⟩,
 ⟨(some 18), (.fad 1 (.t 17)), none⟩,
 ⟨(some 19), (.load 1 false (.t 18)), none⟩,
 ⟨(some 20), (.mov (.t 1)), none⟩,
 ⟨(some 21), (.look .str (.str []) (.t 19) (.t 20) true), none⟩,
 ⟨(some 15), (.mov (.t 21)), none⟩,
 ⟨(some 22), (.ext (.t 15) 0), none⟩,
 ⟨(some 23), (.ext (.t 15) 1), none⟩,
 ⟨(some 7), (.mov (.t 22)), none⟩,
 ⟨(some 8), (.mov (.t 23)), none⟩])
 (.seq (.seq (.reg [⟨(some 24), (.mov (.t 8)), none⟩,
 ⟨(some 25), (.un .not (.t 24)), none⟩])
 (.cond (.t 25)
 (.seq (.reg [⟨(some 4), (.mov (.k (.int .u8 0))), none⟩,
 ⟨(some 5), (.mov (.k .nsl)), none⟩,
 ⟨(some 6), (.mov (.k (.bool false))), none⟩])
 .ret)
 .skip))
 (.seq (.reg [⟨(some 27), (.mov (.t 7)), none⟩,
 ⟨(some 28), (.call (.k (.fn (.func 30) [] [])) [(.t 27)]), none⟩,
 ⟨(some 26), (.mov (.t 28)), none⟩,
 ⟨(some 29), (.ext (.t 26) 0), none⟩,
 ⟨(some 30), (.ext (.t 26) 1), none⟩,
 ⟨(some 31), (.ext (.t 26) 2), none⟩,
 ⟨(some 9), (.mov (.t 29)), none⟩,
 ⟨(some 10), (.mov (.t 30)), none⟩,
 ⟨(some 11), (.mov (.t 31)), none⟩])
 (.seq (.reg [⟨(some 32), (.mov (.t 9)), none⟩,
 ⟨(some 33), (.mov (.t 10)), none⟩,
 ⟨(some 4), (.mov (.t 32)), none⟩,
 ⟨(some 5), (.mov (.t 33)), none⟩,
 ⟨(some 6), (.mov (.k (.bool true))), none⟩])
 .ret))))))⟩

/-- 20: signetring/codec.Num -/
def F20 : Fun :=
 ⟨27, 1, [.t 2],
 (.seq (.reg [⟨(some 2), (.mov (.k (.str []))), none⟩])
 (.seq (.reg [⟨(some 3), (.mov (.k .nsl)), none⟩])
 (.seq (.seq (.reg [⟨(some 4), (.mov (.k (.int .i64 56))), none⟩])
 (.block 0
 (.loop
 (.seq (.seq (.reg [⟨(some 6), (.mov (.t 4)), none⟩,
 ⟨(some 7), (.bin .geq .num (.t 6) (.k (.int .i64 0))), none⟩])
 (.cond (.t 7)
 .skip
 (.exit 0)))
 (.seq (.block 1
 (.seq (.reg [⟨(some 10), (.mov (.t 0)), none⟩,
 ⟨(some 11), (.mov (.t 4)), none⟩,
 ⟨(some 12), (.bin .shr .num (.t 10) (.t 11)), none⟩,
 ⟨(some 13), (.cvi .u8 (.t 12)), none⟩,
 ⟨(some 5), (.mov (.t 13)), none⟩])
 (.seq (.reg [⟨(some 14), (.mov (.t 5)), none⟩,
 ⟨(some 15), (.bin .neq .num (.t 14) (.k (.int .u8 0))), none⟩,
 ⟨(some 16), (.mov (.t 15)), none⟩,
 ⟨(some 17), (.mov (.t 3)), some (16, false)⟩,
 ⟨(some 18), (.len .slc (.t 17)), some (16, false)⟩,
 ⟨(some 19), (.bin .gtr .num (.t 18) (.k (.int .i64 0))), some (16, false)⟩,
 ⟨(some 20), (.pick (.t 16) (.k (.bool true)) (.t 19)), none⟩])
 (.cond (.t 20)
 (.reg [⟨(some 21), (.mov (.t 3)), none⟩,
 ⟨(some 22), (.mov (.t 5)), none⟩,
 ⟨(some 23), (.mks true 1 1 false [(.int .u8 0)] 1 [(0, (.t 22))]), none⟩,
 ⟨(some 24), (.app 1 1 false none (.t 21) (.t 23)), none⟩,
 ⟨(some 3), (.mov (.t 24)), none⟩])
 .skip))))
 (.reg [⟨(some 8), (.mov (.t 4)), none⟩,
 ⟨(some 9), (.bin .sub .num (.t 8) (.k (.int .i64 8))), none⟩,
 ⟨(some 4), (.mov (.t 9)), none⟩]))))))
 (.seq (.reg [⟨(some 25), (.mov (.t 3)), none⟩,
 ⟨(some 26), (.b2s (.t 25)), none⟩,
 ⟨(some 2), (.mov (.t 26)), none⟩])
 .ret))))⟩

/-- 22: signetring/mac.Expand -/
def F22 : Fun :=
 ⟨39, 3, [.t 6, .t 7],
 (.seq (.reg [⟨(some 3), (.box none (.t 0)), none⟩,
 ⟨(some 6), (.mov (.k .nsl)), none⟩,
 ⟨(some 7), (.mov (.k (.int .i64 0))), none⟩])
 (.seq (.seq (.reg [⟨(some 12), (.mov (.t 2)), none⟩,
 ⟨(some 13), (.bin .lss .num (.t 12) (.k (.int .i64 0))), none⟩,
 ⟨(some 14), (.mov (.t 13)), none⟩,
 ⟨(some 15), (.mov (.t 2)), some (14, false)⟩,
 ⟨(some 16), (.bin .gtr .num (.t 15) (.k (.int .i64 8160))), some (14, false)⟩,
 ⟨(some 17), (.pick (.t 14) (.k (.bool true)) (.t 16)), none⟩])
 (.cond (.t 17)
 (.seq (.reg [⟨(some 6), (.mov (.k .nsl)), none⟩,
 ⟨(some 7), (.mov (.k (.int .i64 2))), none⟩])
 .ret)
 .skip))
 (.seq (.reg [⟨(some 8), (.mov (.k .nsl)), none⟩,
 ⟨(some 9), (.mov (.k .nsl)), none⟩])
 (.seq (.seq (.reg [⟨(some 10), (.mov (.k (.int .u8 1))), none⟩])
 (.block 0
 (.loop
 (.seq (.seq (.reg [⟨(some 18), (.mov (.t 8)), none⟩,
 ⟨(some 19), (.len .slc (.t 18)), none⟩,
 ⟨(some 20), (.mov (.t 2)), none⟩,
 ⟨(some 21), (.bin .lss .num (.t 19) (.t 20)), none⟩])
 (.cond (.t 21)
 .skip
 (.exit 0)))
 (.seq (.block 1
 (.seq (.dreg [⟨(some 24), (.slca 32 1 false (.t 3) none none none), none⟩,
 ⟨(some 25), (.mov (.t 9)), none⟩,
 ⟨(some 26), (.mov (.t 1)), none⟩,
 ⟨(some 27), (.mov (.t 10)), none⟩,
 ⟨(some 28), (.mks true 1 1 false [(.int .u8 0)] 1 [(0, (.t 27))]), none⟩,
 ⟨(some 29), (.mks true 1 24 false [.nsl, .nsl, .nsl] 3 [(0, (.t 25)), (1, (.t 26)), (2, (.t 28))]), none⟩,
 ⟨(some 30), (.call (.k (.fn (.func 38) [] [])) [(.t 29)]), none⟩,
 ⟨(some 31), (.call (.k (.fn (.func 37) [] [])) [(.t 24), (.t 30)]), none⟩,
 ⟨(some 11), (.new [(.int .u8 0), (.int .u8 0), (.int .u8 0), (.int .u8 0), (.int .u8 0), (.int .u8 0), (.int .u8 0), (.int .u8 0), (.int .u8 0), (.int .u8 0), (.int .u8 0), (.int .u8 0), (.int .u8 0), (.int .u8 0), (.int .u8 0), (.int .u8 0), (.int .u8 0), (.int .u8 0), (.int .u8 0), (.int .u8 0), (.int .u8 0), (.int .u8 0), (.int .u8 0), (.int .u8 0), (.int .u8 0), (.int .u8 0), (.int .u8 0), (.int .u8 0), (.int .u8 0), (.int .u8 0), (.int .u8 0), (.int .u8 0)] none), none⟩,
 ⟨none, (.store 32 (.t 11) (.t 31)), none⟩] (.lin [8] [(0, none), (1, none), (2, none), (3, none), (4, none), (5, none), (6, some [0]), (7, some []), (9, some [])]))
 (.seq (.reg [⟨(some 32), (.slca 32 1 false (.t 11) none none none), none⟩,
 ⟨(some 9), (.mov (.t 32)), none⟩])
 (.reg [⟨(some 33), (.mov (.t 8)), none⟩,
 ⟨(some 34), (.mov (.t 9)), none⟩,
 ⟨(some 35), (.app 1 1 false none (.t 33) (.t 34)), none⟩,
 ⟨(some 8), (.mov (.t 35)), none⟩]))))
 (.reg [⟨(some 22), (.mov (.t 10)), none⟩,
 ⟨(some 23), (.bin .add .num (.t 22) (.k (.int .u8 1))), none⟩,
 ⟨(some 10), (.mov (.t 23)), none⟩]))))))
 (.seq (.reg [⟨(some 36), (.mov (.t 8)), none⟩,
 ⟨(some 37), (.mov (.t 2)), none⟩,
 ⟨(some 38), (.slc false 1 (.t 36) none (some (.t 37)) none), none⟩,
 ⟨(some 6), (.mov (.t 38)), none⟩,
 ⟨(some 7), (.mov (.k (.int .i64 0))), none⟩])
 .ret)))))⟩

/-- 23: signetring/mac.Extract -/
def F23 : Fun :=
 ⟨8, 2, [.c 4 32 true],
 (.seq (.reg [⟨(some 4), (.new [(.int .u8 0), (.int .u8 0), (.int .u8 0), (.int .u8 0), (.int .u8 0), (.int .u8 0), (.int .u8 0), (.int .u8 0), (.int .u8 0), (.int .u8 0), (.int .u8 0), (.int .u8 0), (.int .u8 0), (.int .u8 0), (.int .u8 0), (.int .u8 0), (.int .u8 0), (.int .u8 0), (.int .u8 0), (.int .u8 0), (.int .u8 0), (.int .u8 0), (.int .u8 0), (.int .u8 0), (.int .u8 0), (.int .u8 0), (.int .u8 0), (.int .u8 0), (.int .u8 0), (.int .u8 0), (.int .u8 0), (.int .u8 0)] none), none⟩])
 (.seq (.reg [⟨(some 5), (.mov (.t 0)), none⟩,
 ⟨(some 6), (.mov (.t 1)), none⟩,
 ⟨(some 7), (.call (.k (.fn (.func 37) [] [])) [(.t 5), (.t 6)]), none⟩,
 ⟨none, (.store 32 (.t 4) (.t 7)), none⟩])
 .ret))⟩

/-- 24: slices.Chunk[[]byte,byte] -/
def F24 : Fun :=
 ⟨9, 2, [.t 4],
 (.seq (.reg [⟨(some 2), (.box none (.t 0)), none⟩,
 ⟨(some 3), (.box none (.t 1)), none⟩,
 ⟨(some 4), (.mov (.k .nfn)), none⟩])
 (.seq (.seq (.reg [⟨(some 5), (.load 1 false (.t 3)), none⟩,
 ⟨(some 6), (.bin .lss .num (.t 5) (.k (.int .i64 1))), none⟩])
 (.cond (.t 6)
 (.reg [⟨(some 7), (.mki 9 (.k (.str [99, 97, 110, 110, 111, 116, 32, 98, 101, 32, 108, 101, 115, 115, 32, 116, 104, 97, 110, 32, 49]))), none⟩,
 ⟨none, (.pan (.t 7)), none⟩])
 .skip))
 (.seq (.reg [⟨(some 8), (.mkf (.func 39) [] [(.t 2), (.t 3)]), none⟩,
 ⟨(some 4), (.mov (.t 8)), none⟩])
 .ret)))⟩

/-- 25: (signetring/sha.Digest).Write -/
def F25 : Fun :=
 ⟨64, 2, [.c 4 10 true],
 (.seq (.reg [⟨(some 2), (.box none (.t 0)), none⟩,
 ⟨(some 4), (.new [(.int .u32 0), (.int .u32 0), (.int .u32 0), (.int .u32 0), (.int .u32 0), (.int .u32 0), (.int .u32 0), (.int .u32 0), .nsl, (.int .u64 0)] none), none⟩])
 (.seq (.reg [⟨(some 10), (.fad 9 (.t 2)), none⟩,
 ⟨(some 11), (.load 1 false (.t 10)), none⟩,
 ⟨(some 12), (.mov (.t 1)), none⟩,
 ⟨(some 13), (.len .slc (.t 12)), none⟩,
 ⟨(some 14), (.cvi .u64 (.t 13)), none⟩,
 ⟨(some 15), (.bin .add .num (.t 11) (.t 14)), none⟩,
 ⟨(some 16), (.fad 9 (.t 2)), none⟩,
 ⟨none, (.store 1 (.t 16) (.t 15)), none⟩])
 (.seq (.reg [⟨(some 17), (.fad 8 (.t 2)), none⟩,
 ⟨(some 18), (.load 1 false (.t 17)), none⟩,
 ⟨(some 19), (.mov (.t 1)), none⟩,
 ⟨(some 20), (.mks true 1 24 false [.nsl, .nsl] 2 [(0, (.t 18)), (1, (.t 19))]), none⟩,
 ⟨(some 21), (.call (.k (.fn (.func 38) [] [])) [(.t 20)]), none⟩,
 ⟨(some 5), (.mov (.t 21)), none⟩])
 (.seq (.seq (.reg [⟨(some 22), (.load 8 true (.g 0)), none⟩,
 ⟨(some 23), (.mov (.k (.int .i64 0))), none⟩])
 (.block 0
 (.loop
 (.seq (.reg [⟨(some 24), (.bin .lss .num (.t 23) (.k (.int .i64 8))), none⟩])
 (.seq (.cond (.t 24)
 .skip
 (.exit 0))
 (.seq (.block 1
 (.seq (.reg [⟨(some 25), (.mov (.t 23)), none⟩,
 ⟨(some 26), (.idxa 8 1 false (.t 22) (.t 23)), none⟩,
 ⟨(some 6), (.mov (.t 25)), none⟩,
 ⟨(some 7), (.mov (.t 26)), none⟩])
 (.reg [⟨(some 27), (.mov (.t 6)), none⟩,
 ⟨(some 28), (.fad 0 (.t 2)), none⟩,
 ⟨(some 29), (.iada 8 1 (.t 28) (.t 27)), none⟩,
 ⟨(some 30), (.load 1 false (.t 29)), none⟩,
 ⟨(some 31), (.mov (.t 7)), none⟩,
 ⟨(some 32), (.bin .add .num (.t 30) (.t 31)), none⟩,
 ⟨(some 33), (.fad 0 (.t 2)), none⟩,
 ⟨(some 34), (.iada 8 1 (.t 33) (.t 27)), none⟩,
 ⟨none, (.store 1 (.t 34) (.t 32)), none⟩])))
 (.reg [⟨(some 35), (.bin .add .num (.t 23) (.k (.int .i64 1))), none⟩,
 ⟨(some 23), (.mov (.t 35)), none⟩])))))))
 (.seq (.block 2
 (.loop
 (.seq (.seq (.reg [⟨(some 36), (.mov (.t 5)), none⟩,
 ⟨(some 37), (.len .slc (.t 36)), none⟩,
 ⟨(some 38), (.bin .geq .num (.t 37) (.k (.int .i64 64))), none⟩])
 (.cond (.t 38)
 .skip
 (.exit 2)))
 (.block 3
 (.seq (.dreg [⟨(some 39), (.fad 0 (.t 2)), none⟩,
 ⟨(some 40), (.load 8 true (.t 39)), none⟩,
 ⟨(some 41), (.mov (.t 5)), none⟩,
 ⟨(some 42), (.slc false 1 (.t 41) none (some (.k (.int .i64 64))) none), none⟩,
 ⟨(some 43), (.call (.k (.fn (.func 40) [] [])) [(.t 40), (.t 42)]), none⟩,
 ⟨(some 44), (.fad 0 (.t 2)), none⟩,
 ⟨none, (.store 8 (.t 44) (.t 43)), none⟩] (.lin [] [(0, none), (1, none), (2, none), (3, none), (4, some []), (5, none), (6, some [])]))
 (.reg [⟨(some 45), (.mov (.t 5)), none⟩,
 ⟨(some 46), (.slc false 1 (.t 45) (some (.k (.int .i64 64))) none none), none⟩,
 ⟨(some 5), (.mov (.t 46)), none⟩]))))))
 (.seq (.seq (.reg [⟨(some 47), (.load 8 true (.g 0)), none⟩,
 ⟨(some 48), (.mov (.k (.int .i64 0))), none⟩])
 (.block 4
 (.loop
 (.seq (.reg [⟨(some 49), (.bin .lss .num (.t 48) (.k (.int .i64 8))), none⟩])
 (.seq (.cond (.t 49)
 .skip
 (.exit 4))
 (.seq (.block 5
 (.seq (.reg [⟨(some 50), (.mov (.t 48)), none⟩,
 ⟨(some 51), (.idxa 8 1 false (.t 47) (.t 48)), none⟩,
 ⟨(some 8), (.mov (.t 50)), none⟩,
 ⟨(some 9), (.mov (.t 51)), none⟩])
 (.reg [⟨(some 52), (.mov (.t 8)), none⟩,
 ⟨(some 53), (.fad 0 (.t 2)), none⟩,
 ⟨(some 54), (.iada 8 1 (.t 53) (.t 52)), none⟩,
 ⟨(some 55), (.load 1 false (.t 54)), none⟩,
 ⟨(some 56), (.mov (.t 9)), none⟩,
 ⟨(some 57), (.bin .sub .num (.t 55) (.t 56)), none⟩,
 ⟨(some 58), (.fad 0 (.t 2)), none⟩,
 ⟨(some 59), (.iada 8 1 (.t 58) (.t 52)), none⟩,
 ⟨none, (.store 1 (.t 59) (.t 57)), none⟩])))
 (.reg [⟨(some 60), (.bin .add .num (.t 48) (.k (.int .i64 1))), none⟩,
 ⟨(some 48), (.mov (.t 60)), none⟩])))))))
 (.seq (.reg [⟨(some 61), (.mov (.t 5)), none⟩,
 ⟨(some 62), (.fad 8 (.t 2)), none⟩,
 ⟨none, (.store 1 (.t 62) (.t 61)), none⟩])
 (.seq (.reg [⟨(some 63), (.load 10 true (.t 2)), none⟩,
 ⟨none, (.store 10 (.t 4) (.t 63)), none⟩])
 .ret))))))))⟩

/-- 26: (signetring/sha.Digest).Sum -/
def F26 : Fun :=
 ⟨77, 1, [.c 2 32 true],
 (.seq (.reg [⟨(some 1), (.box none (.t 0)), none⟩,
 ⟨(some 2), (.new [(.int .u8 0), (.int .u8 0), (.int .u8 0), (.int .u8 0), (.int .u8 0), (.int .u8 0), (.int .u8 0), (.int .u8 0), (.int .u8 0), (.int .u8 0), (.int .u8 0), (.int .u8 0), (.int .u8 0), (.int .u8 0), (.int .u8 0), (.int .u8 0), (.int .u8 0), (.int .u8 0), (.int .u8 0), (.int .u8 0), (.int .u8 0), (.int .u8 0), (.int .u8 0), (.int .u8 0), (.int .u8 0), (.int .u8 0), (.int .u8 0), (.int .u8 0), (.int .u8 0), (.int .u8 0), (.int .u8 0), (.int .u8 0)] none), none⟩])
 (.seq (.reg [⟨(some 9), (.fad 9 (.t 1)), none⟩,
 ⟨(some 10), (.load 1 false (.t 9)), none⟩,
 ⟨(some 11), (.bin .mul .num (.k (.int .u64 8)) (.t 10)), none⟩,
 ⟨(some 3), (.mov (.t 11)), none⟩])
 (.seq (.reg [⟨(some 12), (.mks true 1 1 false [(.int .u8 0)] 1 [(0, (.k (.int .u8 128)))]), none⟩,
 ⟨(some 4), (.mov (.t 12)), none⟩])
 (.seq (.block 0
 (.loop
 (.seq (.seq (.reg [⟨(some 13), (.fad 8 (.t 1)), none⟩,
 ⟨(some 14), (.load 1 false (.t 13)), none⟩,
 ⟨(some 15), (.len .slc (.t 14)), none⟩,
 ⟨(some 16), (.mov (.t 4)), none⟩,
 ⟨(some 17), (.len .slc (.t 16)), none⟩,
 ⟨(some 18), (.bin .add .num (.t 15) (.t 17)), none⟩,
 ⟨(some 19), (.bin .rem .num (.t 18) (.k (.int .i64 64))), none⟩,
 ⟨(some 20), (.bin .neq .num (.t 19) (.k (.int .i64 56))), none⟩])
 (.cond (.t 20)
 .skip
 (.exit 0)))
 (.block 1
 (.reg [⟨(some 21), (.mov (.t 4)), none⟩,
 ⟨(some 22), (.mks true 1 1 false [(.int .u8 0)] 1 [(0, (.k (.int .u8 0)))]), none⟩,
 ⟨(some 23), (.app 1 1 false none (.t 21) (.t 22)), none⟩,
 ⟨(some 4), (.mov (.t 23)), none⟩])))))
 (.seq (.seq (.reg [⟨(some 5), (.mov (.k (.int .i64 56))), none⟩])
 (.block 2
 (.loop
 (.seq (.seq (.reg [⟨(some 24), (.mov (.t 5)), none⟩,
 ⟨(some 25), (.bin .geq .num (.t 24) (.k (.int .i64 0))), none⟩])
 (.cond (.t 25)
 .skip
 (.exit 2)))
 (.seq (.block 3
 (.reg [⟨(some 28), (.mov (.t 4)), none⟩,
 ⟨(some 29), (.mov (.t 3)), none⟩,
 ⟨(some 30), (.mov (.t 5)), none⟩,
 ⟨(some 31), (.bin .shr .num (.t 29) (.t 30)), none⟩,
 ⟨(some 32), (.cvi .u8 (.t 31)), none⟩,
 ⟨(some 33), (.mks true 1 1 false [(.int .u8 0)] 1 [(0, (.t 32))]), none⟩,
 ⟨(some 34), (.app 1 1 false none (.t 28) (.t 33)), none⟩,
 ⟨(some 4), (.mov (.t 34)), none⟩]))
 (.reg [⟨(some 26), (.mov (.t 5)), none⟩,
 ⟨(some 27), (.bin .sub .num (.t 26) (.k (.int .i64 8))), none⟩,
 ⟨(some 5), (.mov (.t 27)), none⟩]))))))
 (.seq (.reg [⟨(some 35), (.load 10 true (.t 1)), none⟩,
 ⟨(some 36), (.mov (.t 4)), none⟩,
 ⟨(some 37), (.call (.k (.fn (.func 25) [] [])) [(.t 35), (.t 36)]), none⟩,
 ⟨none, (.store 10 (.t 1) (.t 37)), none⟩])
 (.seq (.reg [⟨(some 6), (.new [(.int .u8 0), (.int .u8 0), (.int .u8 0), (.int .u8 0), (.int .u8 0), (.int .u8 0), (.int .u8 0), (.int .u8 0), (.int .u8 0), (.int .u8 0), (.int .u8 0), (.int .u8 0), (.int .u8 0), (.int .u8 0), (.int .u8 0), (.int .u8 0), (.int .u8 0), (.int .u8 0), (.int .u8 0), (.int .u8 0), (.int .u8 0), (.int .u8 0), (.int .u8 0), (.int .u8 0), (.int .u8 0), (.int .u8 0), (.int .u8 0), (.int .u8 0), (.int .u8 0), (.int .u8 0), (.int .u8 0), (.int .u8 0)] none), none⟩])
 (.seq (.seq (.reg [⟨(some 38), (.fad 0 (.t 1)), none⟩,
 ⟨(some 39), (.load 8 true (.t 38)), none⟩,
 ⟨(some 40), (.mov (.k (.int .i64 0))), none⟩])
 (.block 4
 (.loop
 (.seq (.reg [⟨(some 41), (.bin .lss .num (.t 40) (.k (.int .i64 8))), none⟩])
 (.seq (.cond (.t 41)
 .skip
 (.exit 4))
 (.seq (.block 5
 (.seq (.reg [⟨(some 42), (.mov (.t 40)), none⟩,
 ⟨(some 43), (.idxa 8 1 false (.t 39) (.t 40)), none⟩,
 ⟨(some 7), (.mov (.t 42)), none⟩,
 ⟨(some 8), (.mov (.t 43)), none⟩])
 (.seq (.reg [⟨(some 44), (.mov (.t 8)), none⟩,
 ⟨(some 45), (.mov (.t 7)), none⟩,
 ⟨(some 46), (.iada 8 1 (.g 0) (.t 45)), none⟩,
 ⟨(some 47), (.load 1 false (.t 46)), none⟩,
 ⟨(some 48), (.bin .add .num (.t 44) (.t 47)), none⟩,
 ⟨(some 8), (.mov (.t 48)), none⟩])
 (.reg [⟨(some 49), (.mov (.t 7)), none⟩,
 ⟨(some 50), (.bin .mul .num (.k (.int .i64 4)) (.t 49)), none⟩,
 ⟨(some 51), (.mov (.t 7)), none⟩,
 ⟨(some 52), (.bin .mul .num (.k (.int .i64 4)) (.t 51)), none⟩,
 ⟨(some 53), (.bin .add .num (.t 52) (.k (.int .i64 1))), none⟩,
 ⟨(some 54), (.mov (.t 7)), none⟩,
 ⟨(some 55), (.bin .mul .num (.k (.int .i64 4)) (.t 54)), none⟩,
 ⟨(some 56), (.bin .add .num (.t 55) (.k (.int .i64 2))), none⟩,
 ⟨(some 57), (.mov (.t 7)), none⟩,
 ⟨(some 58), (.bin .mul .num (.k (.int .i64 4)) (.t 57)), none⟩,
 ⟨(some 59), (.bin .add .num (.t 58) (.k (.int .i64 3))), none⟩,
 ⟨(some 60), (.mov (.t 8)), none⟩,
 ⟨(some 61), (.bin .shr .num (.t 60) (.k (.int .u64 24))), none⟩,
 ⟨(some 62), (.cvi .u8 (.t 61)), none⟩,
 ⟨(some 63), (.mov (.t 8)), none⟩,
 ⟨(some 64), (.bin .shr .num (.t 63) (.k (.int .u64 16))), none⟩,
 ⟨(some 65), (.cvi .u8 (.t 64)), none⟩,
 ⟨(some 66), (.mov (.t 8)), none⟩,
 ⟨(some 67), (.bin .shr .num (.t 66) (.k (.int .u64 8))), none⟩,
 ⟨(some 68), (.cvi .u8 (.t 67)), none⟩,
 ⟨(some 69), (.mov (.t 8)), none⟩,
 ⟨(some 70), (.cvi .u8 (.t 69)), none⟩,
 ⟨(some 71), (.iada 32 1 (.t 6) (.t 50)), none⟩,
 ⟨none, (.store 1 (.t 71) (.t 62)), none⟩,
 ⟨(some 72), (.iada 32 1 (.t 6) (.t 53)), none⟩,
 ⟨none, (.store 1 (.t 72) (.t 65)), none⟩,
 ⟨(some 73), (.iada 32 1 (.t 6) (.t 56)), none⟩,
 ⟨none, (.store 1 (.t 73) (.t 68)), none⟩,
 ⟨(some 74), (.iada 32 1 (.t 6) (.t 59)), none⟩,
 ⟨none, (.store 1 (.t 74) (.t 70)), none⟩]))))
 (.reg [⟨(some 75), (.bin .add .num (.t 40) (.k (.int .i64 1))), none⟩,
 ⟨(some 40), (.mov (.t 75)), none⟩])))))))
 (.seq (.reg [⟨(some 76), (.load 32 true (.t 6)), none⟩,
 ⟨none, (.store 32 (.t 2) (.t 76)), none⟩])
 .ret)))))))))⟩

/-- 27: slices.Sort[[]string,string] -/
def F27 : Fun :=
 ⟨11, 1, [],
 (.seq (.reg [⟨(some 3), (.mov (.t 0)), none⟩,
 ⟨(some 4), (.len .slc (.t 3)), none⟩,
 ⟨(some 2), (.mov (.t 4)), none⟩])
 (.reg [⟨(some 5), (.mov (.t 0)), none⟩,
 ⟨(some 6), (.mov (.t 2)), none⟩,
 ⟨(some 7), (.mov (.t 2)), none⟩,
 ⟨(some 8), (.cvi .u64 (.t 7)), none⟩,
 ⟨(some 9), (.call (.k (.fn (.func 42) [] [])) [(.t 8)]), none⟩,
 ⟨(some 10), (.call (.k (.fn (.func 41) [] [])) [(.t 5), (.k (.int .i64 0)), (.t 6), (.t 9)]), none⟩]))⟩

/-- 28: (*signetring/term.Table).put -/
def F28 : Fun :=
 ⟨70, 3, [.t 6],
 (.seq (.reg [⟨(some 6), (.mov (.k (.str []))), none⟩])
 (.seq (.reg [⟨(some 13), (.mov (.t 1)), none⟩,
 ⟨(some 14), (.mov (.t 2)), none⟩,
 ⟨(some 15), (.call (.k (.fn (.func 43) [] [])) [(.t 13), (.t 14)]), none⟩,
 ⟨(some 12), (.mov (.t 15)), none⟩,
 ⟨(some 16), (.ext (.t 12) 0), none⟩,
 ⟨(some 17), (.ext (.t 12) 1), none⟩,
 ⟨(some 7), (.mov (.t 16)), none⟩,
 ⟨(some 8), (.mov (.t 17)), none⟩])
 (.seq (.seq (.reg [⟨(some 18), (.mov (.t 0)), none⟩,
 ⟨(some 19), (.call (.k (.fn (.func 29) [] [])) [(.t 18)]), none⟩,
 ⟨(some 20), (.un .not (.t 19)), none⟩,
 ⟨(some 21), (.mov (.t 20)), none⟩,
 ⟨(some 22), (.mov (.t 8)), some (21, false)⟩,
 ⟨(some 23), (.bin .neq .num (.t 22) (.k (.int .i64 0))), some (21, false)⟩,
 ⟨(some 24), (.pick (.t 21) (.k (.bool true)) (.t 23)), none⟩])
 (.cond (.t 24)
 (.seq (.reg [⟨(some 6), (.mov (.k (.str []))), none⟩])
 .ret)
 .skip))
 (.seq (.seq (.reg [⟨(some 26), (.mov (.t 0)), none⟩,
 ⟨(some 27), (.nilck (.t 26)), none⟩,
 ⟨(some 28), (.fad 0 (.t 27)), none⟩,
 ⟨(some 29), (.load 1 false (.t 28)), none⟩,
 ⟨(some 30), (.mov (.t 7)), none⟩,
 ⟨(some 31), (.look .str (.str []) (.t 29) (.t 30) true), none⟩,
 ⟨(some 25), (.mov (.t 31)), none⟩,
 ⟨(some 32), (.ext (.t 25) 0), none⟩,
 ⟨(some 33), (.ext (.t 25) 1), none⟩,
 ⟨(some 9), (.mov (.t 32)), none⟩,
 ⟨(some 10), (.mov (.t 33)), none⟩])
 (.seq (.reg [⟨(some 34), (.mov (.t 10)), none⟩])
 (.cond (.t 34)
 (.seq (.reg [⟨(some 35), (.mov (.t 9)), none⟩,
 ⟨(some 6), (.mov (.t 35)), none⟩])
 .ret)
 .skip)))
 (.seq (.reg [⟨(some 36), (.mov (.t 0)), none⟩,
 ⟨(some 37), (.nilck (.t 36)), none⟩,
 ⟨(some 38), (.fad 2 (.t 37)), none⟩,
 ⟨(some 39), (.load 1 false (.t 38)), none⟩,
 ⟨(some 40), (.len .slc (.t 39)), none⟩,
 ⟨(some 41), (.bin .add .num (.t 40) (.k (.int .i64 1))), none⟩,
 ⟨(some 42), (.call (.k (.fn (.func 44) [] [])) [(.t 41)]), none⟩,
 ⟨(some 11), (.mov (.t 42)), none⟩])
 (.seq (.dreg [⟨(some 43), (.mov (.t 0)), none⟩,
 ⟨(some 44), (.nilck (.t 43)), none⟩,
 ⟨(some 45), (.fad 0 (.t 44)), none⟩,
 ⟨(some 46), (.load 1 false (.t 45)), none⟩,
 ⟨(some 47), (.mov (.t 7)), none⟩,
 ⟨(some 48), (.mov (.t 0)), none⟩,
 ⟨(some 49), (.nilck (.t 48)), none⟩,
 ⟨(some 50), (.fad 1 (.t 49)), none⟩,
 ⟨(some 51), (.load 1 false (.t 50)), none⟩,
 ⟨(some 52), (.mov (.t 11)), none⟩,
 ⟨(some 53), (.mov (.t 11)), none⟩,
 ⟨(some 54), (.mov (.t 7)), none⟩,
 ⟨(some 55), (.ment .str (.str []) (.t 46) (.t 47)), none⟩,
 ⟨(some 56), (.ext (.t 55) 1), none⟩,
 ⟨none, (.ests (.t 46) (.t 56) (.t 53)), none⟩,
 ⟨(some 57), (.ment .str (.str []) (.t 51) (.t 52)), none⟩,
 ⟨(some 58), (.ext (.t 57) 1), none⟩,
 ⟨none, (.ests (.t 51) (.t 58) (.t 54)), none⟩] (.lin [] [(0, none), (1, none), (2, none), (3, none), (4, none), (5, none), (6, none), (7, none), (8, none), (9, none), (10, none), (11, none), (12, some [9, 10, 11]), (13, none), (14, some [9, 11]), (15, some [11]), (16, none), (17, some [])]))
 (.seq (.reg [⟨(some 59), (.mov (.t 0)), none⟩,
 ⟨(some 60), (.mov (.t 0)), none⟩,
 ⟨(some 61), (.nilck (.t 60)), none⟩,
 ⟨(some 62), (.fad 2 (.t 61)), none⟩,
 ⟨(some 63), (.load 1 false (.t 62)), none⟩,
 ⟨(some 64), (.mov (.t 11)), none⟩,
 ⟨(some 65), (.mks true 1 16 false [(.str [])] 1 [(0, (.t 64))]), none⟩,
 ⟨(some 66), (.app 1 16 false none (.t 63) (.t 65)), none⟩,
 ⟨(some 67), (.nilck (.t 59)), none⟩,
 ⟨(some 68), (.fad 2 (.t 67)), none⟩,
 ⟨none, (.store 1 (.t 68) (.t 66)), none⟩])
 (.seq (.reg [⟨(some 69), (.mov (.t 11)), none⟩,
 ⟨(some 6), (.mov (.t 69)), none⟩])
 .ret))))))))⟩

/-- 29: (*signetring/term.Table).good -/
def F29 : Fun :=
 ⟨12, 1, [.t 2],
 (.seq (.reg [⟨(some 2), (.mov (.k (.bool false))), none⟩])
 (.seq (.reg [⟨(some 3), (.mov (.t 0)), none⟩,
 ⟨(some 4), (.bin .neq .ptr (.t 3) (.k .nptr)), none⟩,
 ⟨(some 5), (.mov (.t 4)), none⟩,
 ⟨(some 6), (.mov (.t 0)), some (5, true)⟩,
 ⟨(some 7), (.nilck (.t 6)), some (5, true)⟩,
 ⟨(some 8), (.fad 0 (.t 7)), some (5, true)⟩,
 ⟨(some 9), (.load 1 false (.t 8)), some (5, true)⟩,
 ⟨(some 10), (.bin .neq .map (.t 9) (.k .nmap)), some (5, true)⟩,
 ⟨(some 11), (.pick (.t 5) (.t 10) (.k (.bool false))), none⟩,
 ⟨(some 2), (.mov (.t 11)), none⟩])
 .ret))⟩

/-- 30: signetring/codec.Split -/
def F30 : Fun :=
 ⟨19, 1, [.t 2, .t 3, .t 4],
 (.seq (.reg [⟨(some 2), (.mov (.k (.int .u8 0))), none⟩,
 ⟨(some 3), (.mov (.k .nsl)), none⟩,
 ⟨(some 4), (.mov (.k (.int .i64 0))), none⟩])
 (.seq (.reg [⟨(some 9), (.mov (.t 0)), none⟩,
 ⟨(some 10), (.call (.k (.fn (.func 45) [] [])) [(.t 9)]), none⟩,
 ⟨(some 8), (.mov (.t 10)), none⟩,
 ⟨(some 11), (.ext (.t 8) 0), none⟩,
 ⟨(some 12), (.ext (.t 8) 1), none⟩,
 ⟨(some 13), (.ext (.t 8) 2), none⟩,
 ⟨(some 5), (.mov (.t 11)), none⟩,
 ⟨(some 6), (.mov (.t 12)), none⟩,
 ⟨(some 7), (.mov (.t 13)), none⟩])
 (.seq (.seq (.reg [⟨(some 14), (.mov (.t 7)), none⟩,
 ⟨(some 15), (.bin .neq .num (.t 14) (.k (.int .i64 0))), none⟩])
 (.cond (.t 15)
 (.seq (.reg [⟨(some 16), (.mov (.t 7)), none⟩,
 ⟨(some 2), (.mov (.k (.int .u8 0))), none⟩,
 ⟨(some 3), (.mov (.k .nsl)), none⟩,
 ⟨(some 4), (.mov (.t 16)), none⟩])
 .ret)
 .skip))
 (.seq (.reg [⟨(some 17), (.mov (.t 5)), none⟩,
 ⟨(some 18), (.mov (.t 6)), none⟩,
 ⟨(some 2), (.mov (.t 17)), none⟩,
 ⟨(some 3), (.mov (.t 18)), none⟩,
 ⟨(some 4), (.mov (.k (.int .i64 0))), none⟩])
 .ret))))⟩

/-- 37: signetring/mac.Sum -/
def F37 : Fun :=
 ⟨16, 2, [.c 4 32 true],
 (.seq (.reg [⟨(some 4), (.new [(.int .u8 0), (.int .u8 0), (.int .u8 0), (.int .u8 0), (.int .u8 0), (.int .u8 0), (.int .u8 0), (.int .u8 0), (.int .u8 0), (.int .u8 0), (.int .u8 0), (.int .u8 0), (.int .u8 0), (.int .u8 0), (.int .u8 0), (.int .u8 0), (.int .u8 0), (.int .u8 0), (.int .u8 0), (.int .u8 0), (.int .u8 0), (.int .u8 0), (.int .u8 0), (.int .u8 0), (.int .u8 0), (.int .u8 0), (.int .u8 0), (.int .u8 0), (.int .u8 0), (.int .u8 0), (.int .u8 0), (.int .u8 0)] none), none⟩])
 (.seq (.reg [⟨(some 6), (.mov (.t 0)), none⟩,
 ⟨(some 7), (.call (.k (.fn (.func 53) [] [])) [(.t 6), (.k (.int .u8 54))]), none⟩,
 ⟨(some 8), (.mov (.t 1)), none⟩,
 ⟨(some 9), (.call (.k (.fn (.func 25) [] [])) [(.t 7), (.t 8)]), none⟩,
 ⟨(some 10), (.call (.k (.fn (.func 26) [] [])) [(.t 9)]), none⟩,
 ⟨(some 5), (.new [(.int .u8 0), (.int .u8 0), (.int .u8 0), (.int .u8 0), (.int .u8 0), (.int .u8 0), (.int .u8 0), (.int .u8 0), (.int .u8 0), (.int .u8 0), (.int .u8 0), (.int .u8 0), (.int .u8 0), (.int .u8 0), (.int .u8 0), (.int .u8 0), (.int .u8 0), (.int .u8 0), (.int .u8 0), (.int .u8 0), (.int .u8 0), (.int .u8 0), (.int .u8 0), (.int .u8 0), (.int .u8 0), (.int .u8 0), (.int .u8 0), (.int .u8 0), (.int .u8 0), (.int .u8 0), (.int .u8 0), (.int .u8 0)] none), none⟩,
 ⟨none, (.store 32 (.t 5) (.t 10)), none⟩])
 (.seq (.dreg [⟨(some 11), (.mov (.t 0)), none⟩,
 ⟨(some 12), (.call (.k (.fn (.func 53) [] [])) [(.t 11), (.k (.int .u8 92))]), none⟩,
 ⟨(some 13), (.slca 32 1 false (.t 5) none none none), none⟩,
 ⟨(some 14), (.call (.k (.fn (.func 25) [] [])) [(.t 12), (.t 13)]), none⟩,
 ⟨(some 15), (.call (.k (.fn (.func 26) [] [])) [(.t 14)]), none⟩,
 ⟨none, (.store 32 (.t 4) (.t 15)), none⟩] (.lin [] [(0, none), (2, none), (1, some [2]), (3, some []), (4, some []), (5, some [])]))
 .ret)))⟩

/-- 38: slices.Concat[[]byte,byte] -/
def F38 : Fun :=
 ⟨36, 1, [.t 2],
 (.seq (.reg [⟨(some 2), (.mov (.k .nsl)), none⟩])
 (.seq (.reg [⟨(some 3), (.mov (.k (.int .i64 0))), none⟩])
 (.seq (.seq (.reg [⟨(some 9), (.mov (.t 0)), none⟩,
 ⟨(some 10), (.len .slc (.t 9)), none⟩,
 ⟨(some 11), (.mov (.k (.int .i64 0))), none⟩])
 (.block 0
 (.loop
 (.seq (.reg [⟨(some 12), (.bin .lss .num (.t 11) (.t 10)), none⟩])
 (.seq (.cond (.t 12)
 .skip
 (.exit 0))
 (.seq (.block 1
 (.seq (.reg [⟨(some 13), (.iad 1 (.t 9) (.t 11)), none⟩,
 ⟨(some 14), (.load 1 false (.t 13)), none⟩,
 ⟨(some 5), (.mov (.t 14)), none⟩])
 (.seq (.reg [⟨(some 15), (.mov (.t 3)), none⟩,
 ⟨(some 16), (.mov (.t 5)), none⟩,
 ⟨(some 17), (.len .slc (.t 16)), none⟩,
 ⟨(some 18), (.bin .add .num (.t 15) (.t 17)), none⟩,
 ⟨(some 3), (.mov (.t 18)), none⟩])
 (.seq (.reg [⟨(some 19), (.mov (.t 3)), none⟩,
 ⟨(some 20), (.bin .lss .num (.t 19) (.k (.int .i64 0))), none⟩])
 (.cond (.t 20)
 (.reg [⟨(some 21), (.mki 9 (.k (.str [108, 101, 110, 32, 111, 117, 116, 32, 111, 102, 32, 114, 97, 110, 103, 101]))), none⟩,
 ⟨none, (.pan (.t 21)), none⟩])
 .skip)))))
 (.reg [⟨(some 22), (.bin .add .num (.t 11) (.k (.int .i64 1))), none⟩,
 ⟨(some 11), (.mov (.t 22)), none⟩])))))))
 (.seq (.reg [⟨(some 23), (.mov (.t 3)), none⟩,
 ⟨(some 24), (.call (.k (.fn (.func 54) [] [])) [(.k .nsl), (.t 23)]), none⟩,
 ⟨(some 6), (.mov (.t 24)), none⟩])
 (.seq (.seq (.reg [⟨(some 25), (.mov (.t 0)), none⟩,
 ⟨(some 26), (.len .slc (.t 25)), none⟩,
 ⟨(some 27), (.mov (.k (.int .i64 0))), none⟩])
 (.block 2
 (.loop
 (.seq (.reg [⟨(some 28), (.bin .lss .num (.t 27) (.t 26)), none⟩])
 (.seq (.cond (.t 28)
 .skip
 (.exit 2))
 (.seq (.block 3
 (.seq (.reg [⟨(some 29), (.iad 1 (.t 25) (.t 27)), none⟩,
 ⟨(some 30), (.load 1 false (.t 29)), none⟩,
 ⟨(some 8), (.mov (.t 30)), none⟩])
 (.reg [⟨(some 31), (.mov (.t 6)), none⟩,
 ⟨(some 32), (.mov (.t 8)), none⟩,
 ⟨(some 33), (.app 1 1 false none (.t 31) (.t 32)), none⟩,
 ⟨(some 6), (.mov (.t 33)), none⟩])))
 (.reg [⟨(some 34), (.bin .add .num (.t 27) (.k (.int .i64 1))), none⟩,
 ⟨(some 27), (.mov (.t 34)), none⟩])))))))
 (.seq (.reg [⟨(some 35), (.mov (.t 6)), none⟩,
 ⟨(some 2), (.mov (.t 35)), none⟩])
 .ret))))))⟩

/-- 39: slices.Chunk[[]byte,byte]$1 -/
def F39 : Fun :=
 ⟨31, 3, [],
 (.seq (.reg [⟨(some 4), (.mov (.k (.int .i64 0))), none⟩])
 (.block 0
 (.loop
 (.seq (.seq (.reg [⟨(some 6), (.mov (.t 4)), none⟩,
 ⟨(some 7), (.load 1 false (.t 1)), none⟩,
 ⟨(some 8), (.len .slc (.t 7)), none⟩,
 ⟨(some 9), (.bin .lss .num (.t 6) (.t 8)), none⟩])
 (.cond (.t 9)
 .skip
 (.exit 0)))
 (.seq (.block 1
 (.seq (.dreg [⟨(some 13), (.load 1 false (.t 2)), none⟩,
 ⟨(some 14), (.load 1 false (.t 1)), none⟩,
 ⟨(some 15), (.mov (.t 4)), none⟩,
 ⟨(some 16), (.slc false 1 (.t 14) (some (.t 15)) none none), none⟩,
 ⟨(some 17), (.len .slc (.t 16)), none⟩,
 ⟨(some 18), (.min (.t 13) (.t 17)), none⟩,
 ⟨(some 5), (.mov (.t 18)), none⟩] (.lin [] [(0, none), (1, none), (2, none), (3, none), (4, none), (5, none), (6, none)]))
 (.seq (.reg [⟨(some 19), (.mov (.t 0)), none⟩,
 ⟨(some 20), (.load 1 false (.t 1)), none⟩,
 ⟨(some 21), (.mov (.t 4)), none⟩,
 ⟨(some 22), (.mov (.t 4)), none⟩,
 ⟨(some 23), (.mov (.t 5)), none⟩,
 ⟨(some 24), (.bin .add .num (.t 22) (.t 23)), none⟩,
 ⟨(some 25), (.mov (.t 4)), none⟩,
 ⟨(some 26), (.mov (.t 5)), none⟩,
 ⟨(some 27), (.bin .add .num (.t 25) (.t 26)), none⟩,
 ⟨(some 28), (.slc false 1 (.t 20) (some (.t 21)) (some (.t 24)) (some (.t 27))), none⟩,
 ⟨(some 29), (.call (.t 19) [(.t 28)]), none⟩,
 ⟨(some 30), (.un .not (.t 29)), none⟩])
 (.cond (.t 30)
 .ret
 .skip))))
 (.reg [⟨(some 10), (.mov (.t 4)), none⟩,
 ⟨(some 11), (.load 1 false (.t 2)), none⟩,
 ⟨(some 12), (.bin .add .num (.t 10) (.t 11)), none⟩,
 ⟨(some 4), (.mov (.t 12)), none⟩]))))))⟩

/-- 40: signetring/sha.mixed -/
def F40 : Fun :=
 ⟨169, 2, [.c 4 8 true],
 (.seq (.reg [⟨(some 2), (.box none (.t 0)), none⟩,
 ⟨(some 4), (.new [(.int .u32 0), (.int .u32 0), (.int .u32 0), (.int .u32 0), (.int .u32 0), (.int .u32 0), (.int .u32 0), (.int .u32 0)] none), none⟩])
 (.seq (.reg [⟨(some 5), (.new [(.int .u32 0), (.int .u32 0), (.int .u32 0), (.int .u32 0), (.int .u32 0), (.int .u32 0), (.int .u32 0), (.int .u32 0), (.int .u32 0), (.int .u32 0), (.int .u32 0), (.int .u32 0), (.int .u32 0), (.int .u32 0), (.int .u32 0), (.int .u32 0), (.int .u32 0), (.int .u32 0), (.int .u32 0), (.int .u32 0), (.int .u32 0), (.int .u32 0), (.int .u32 0), (.int .u32 0), (.int .u32 0), (.int .u32 0), (.int .u32 0), (.int .u32 0), (.int .u32 0), (.int .u32 0), (.int .u32 0), (.int .u32 0), (.int .u32 0), (.int .u32 0), (.int .u32 0), (.int .u32 0), (.int .u32 0), (.int .u32 0), (.int .u32 0), (.int .u32 0), (.int .u32 0), (.int .u32 0), (.int .u32 0), (.int .u32 0), (.int .u32 0), (.int .u32 0), (.int .u32 0), (.int .u32 0), (.int .u32 0), (.int .u32 0), (.int .u32 0), (.int .u32 0), (.int .u32 0), (.int .u32 0), (.int .u32 0), (.int .u32 0), (.int .u32 0), (.int .u32 0), (.int .u32 0), (.int .u32 0), (.int .u32 0), (.int .u32 0), (.int .u32 0), (.int .u32 0)] none), none⟩])
 (.seq (.seq (.reg [⟨(some 15), (.mov (.k (.int .i64 0))), none⟩])
 (.block 0
 (.loop
 (.seq (.reg [⟨(some 16), (.bin .lss .num (.t 15) (.k (.int .i64 64))), none⟩])
 (.seq (.cond (.t 16)
 .skip
 (.exit 0))
 (.seq (.block 1
 (.seq (.reg [⟨(some 17), (.mov (.t 15)), none⟩,
 ⟨(some 6), (.mov (.t 17)), none⟩])
 (.seq (.seq (.reg [⟨(some 18), (.mov (.t 6)), none⟩,
 ⟨(some 19), (.bin .lss .num (.t 18) (.k (.int .i64 16))), none⟩])
 (.cond (.t 19)
 (.seq (.dreg [⟨(some 20), (.mov (.t 6)), none⟩,
 ⟨(some 21), (.mov (.t 1)), none⟩,
 ⟨(some 22), (.mov (.t 6)), none⟩,
 ⟨(some 23), (.bin .mul .num (.k (.int .i64 4)) (.t 22)), none⟩,
 ⟨(some 24), (.iad 1 (.t 21) (.t 23)), none⟩,
 ⟨(some 25), (.load 1 false (.t 24)), none⟩,
 ⟨(some 26), (.cvi .u32 (.t 25)), none⟩,
 ⟨(some 27), (.bin .shl .num (.t 26) (.k (.int .u64 24))), none⟩,
 ⟨(some 28), (.mov (.t 1)), none⟩,
 ⟨(some 29), (.mov (.t 6)), none⟩,
 ⟨(some 30), (.bin .mul .num (.k (.int .i64 4)) (.t 29)), none⟩,
 ⟨(some 31), (.bin .add .num (.t 30) (.k (.int .i64 1))), none⟩,
 ⟨(some 32), (.iad 1 (.t 28) (.t 31)), none⟩,
 ⟨(some 33), (.load 1 false (.t 32)), none⟩,
 ⟨(some 34), (.cvi .u32 (.t 33)), none⟩,
 ⟨(some 35), (.bin .shl .num (.t 34) (.k (.int .u64 16))), none⟩,
 ⟨(some 36), (.bin .or .num (.t 27) (.t 35)), none⟩,
 ⟨(some 37), (.mov (.t 1)), none⟩,
 ⟨(some 38), (.mov (.t 6)), none⟩,
 ⟨(some 39), (.bin .mul .num (.k (.int .i64 4)) (.t 38)), none⟩,
 ⟨(some 40), (.bin .add .num (.t 39) (.k (.int .i64 2))), none⟩,
 ⟨(some 41), (.iad 1 (.t 37) (.t 40)), none⟩,
 ⟨(some 42), (.load 1 false (.t 41)), none⟩,
 ⟨(some 43), (.cvi .u32 (.t 42)), none⟩,
 ⟨(some 44), (.bin .shl .num (.t 43) (.k (.int .u64 8))), none⟩,
 ⟨(some 45), (.bin .or .num (.t 36) (.t 44)), none⟩,
 ⟨(some 46), (.mov (.t 1)), none⟩,
 ⟨(some 47), (.mov (.t 6)), none⟩,
 ⟨(some 48), (.bin .mul .num (.k (.int .i64 4)) (.t 47)), none⟩,
 ⟨(some 49), (.bin .add .num (.t 48) (.k (.int .i64 3))), none⟩,
 ⟨(some 50), (.iad 1 (.t 46) (.t 49)), none⟩,
 ⟨(some 51), (.load 1 false (.t 50)), none⟩,
 ⟨(some 52), (.cvi .u32 (.t 51)), none⟩,
 ⟨(some 53), (.bin .or .num (.t 45) (.t 52)), none⟩,
 ⟨(some 54), (.iada 64 1 (.t 5) (.t 20)), none⟩,
 ⟨none, (.store 1 (.t 54) (.t 53)), none⟩] (.lin [] [(0, none), (1, none), (2, none), (3, none), (4, none), (5, none), (6, none), (7, none), (8, none), (9, none), (10, none), (11, none), (12, none), (13, none), (14, none), (15, none), (16, none), (17, none), (18, none), (19, none), (20, none), (21, none), (22, none), (23, none), (24, none), (25, none), (26, none), (27, none), (28, none), (29, none), (30, none), (31, none), (32, none), (33, none), (34, none), (35, some [])]))
 (.exit 1))
 .skip))
 (.seq (.dreg [⟨(some 55), (.mov (.t 6)), none⟩,
 ⟨(some 56), (.bin .sub .num (.t 55) (.k (.int .i64 2))), none⟩,
 ⟨(some 57), (.iada 64 1 (.t 5) (.t 56)), none⟩,
 ⟨(some 58), (.load 1 false (.t 57)), none⟩,
 ⟨(some 59), (.mov (.t 6)), none⟩,
 ⟨(some 60), (.bin .sub .num (.t 59) (.k (.int .i64 15))), none⟩,
 ⟨(some 61), (.iada 64 1 (.t 5) (.t 60)), none⟩,
 ⟨(some 62), (.load 1 false (.t 61)), none⟩,
 ⟨(some 7), (.mov (.t 58)), none⟩,
 ⟨(some 8), (.mov (.t 62)), none⟩] (.lin [] [(0, none), (1, none), (2, none), (3, none), (4, none), (5, none), (6, none), (7, none), (8, none), (9, none)]))
 (.dreg [⟨(some 63), (.mov (.t 6)), none⟩,
 ⟨(some 64), (.mov (.t 7)), none⟩,
 ⟨(some 65), (.mks true 1 8 false [(.int .i64 0), (.int .i64 0)] 2 [(0, (.k (.int .i64 17))), (1, (.k (.int .i64 19)))]), none⟩,
 ⟨(some 66), (.call (.k (.fn (.func 55) [] [])) [(.t 64), (.t 65)]), none⟩,
 ⟨(some 67), (.mov (.t 7)), none⟩,
 ⟨(some 68), (.bin .shr .num (.t 67) (.k (.int .u64 10))), none⟩,
 ⟨(some 69), (.bin .xor .num (.t 66) (.t 68)), none⟩,
 ⟨(some 70), (.mov (.t 6)), none⟩,
 ⟨(some 71), (.bin .sub .num (.t 70) (.k (.int .i64 7))), none⟩,
 ⟨(some 72), (.iada 64 1 (.t 5) (.t 71)), none⟩,
 ⟨(some 73), (.load 1 false (.t 72)), none⟩,
 ⟨(some 74), (.bin .add .num (.t 69) (.t 73)), none⟩,
 ⟨(some 75), (.mov (.t 8)), none⟩,
 ⟨(some 76), (.mks true 1 8 false [(.int .i64 0), (.int .i64 0)] 2 [(0, (.k (.int .i64 7))), (1, (.k (.int .i64 18)))]), none⟩,
 ⟨(some 77), (.call (.k (.fn (.func 55) [] [])) [(.t 75), (.t 76)]), none⟩,
 ⟨(some 78), (.mov (.t 8)), none⟩,
 ⟨(some 79), (.bin .shr .num (.t 78) (.k (.int .u64 3))), none⟩,
 ⟨(some 80), (.bin .xor .num (.t 77) (.t 79)), none⟩,
 ⟨(some 81), (.bin .add .num (.t 74) (.t 80)), none⟩,
 ⟨(some 82), (.mov (.t 6)), none⟩,
 ⟨(some 83), (.bin .sub .num (.t 82) (.k (.int .i64 16))), none⟩,
 ⟨(some 84), (.iada 64 1 (.t 5) (.t 83)), none⟩,
 ⟨(some 85), (.load 1 false (.t 84)), none⟩,
 ⟨(some 86), (.bin .add .num (.t 81) (.t 85)), none⟩,
 ⟨(some 87), (.iada 64 1 (.t 5) (.t 63)), none⟩,
 ⟨none, (.store 1 (.t 87) (.t 86)), none⟩] (.lin [] [(0, none), (1, none), (2, none), (4, none), (5, none), (7, none), (8, none), (9, none), (10, none), (12, none), (13, none), (15, none), (16, none), (19, none), (20, none), (21, none), (22, none), (3, some [0, 4, 5, 7, 8, 9, 10, 12, 13, 15, 16, 19, 20, 21, 22]), (6, none), (11, none), (14, some [0, 4, 5, 7, 8, 9, 10, 15, 16, 19, 20, 21, 22, 6, 11]), (17, none), (18, none), (23, none), (24, none), (25, some [])]))))))
 (.reg [⟨(some 88), (.bin .add .num (.t 15) (.k (.int .i64 1))), none⟩,
 ⟨(some 15), (.mov (.t 88)), none⟩])))))))
 (.seq (.reg [⟨(some 89), (.load 8 true (.t 2)), none⟩,
 ⟨(some 9), (.new [(.int .u32 0), (.int .u32 0), (.int .u32 0), (.int .u32 0), (.int .u32 0), (.int .u32 0), (.int .u32 0), (.int .u32 0)] none), none⟩,
 ⟨none, (.store 8 (.t 9) (.t 89)), none⟩])
 (.seq (.seq (.reg [⟨(some 90), (.load 64 true (.g 2)), none⟩,
 ⟨(some 91), (.mov (.k (.int .i64 0))), none⟩])
 (.block 2
 (.loop
 (.seq (.reg [⟨(some 92), (.bin .lss .num (.t 91) (.k (.int .i64 64))), none⟩])
 (.seq (.cond (.t 92)
 .skip
 (.exit 2))
 (.seq (.block 3
 (.seq (.reg [⟨(some 93), (.mov (.t 91)), none⟩,
 ⟨(some 94), (.idxa 64 1 false (.t 90) (.t 91)), none⟩,
 ⟨(some 10), (.mov (.t 93)), none⟩,
 ⟨(some 11), (.mov (.t 94)), none⟩])
 (.seq (.dreg [⟨(some 95), (.iada 8 1 (.t 9) (.k (.int .i64 7))), none⟩,
 ⟨(some 96), (.load 1 false (.t 95)), none⟩,
 ⟨(some 97), (.iada 8 1 (.t 9) (.k (.int .i64 4))), none⟩,
 ⟨(some 98), (.load 1 false (.t 97)), none⟩,
 ⟨(some 99), (.mks true 1 8 false [(.int .i64 0), (.int .i64 0), (.int .i64 0)] 3 [(0, (.k (.int .i64 6))), (1, (.k (.int .i64 11))), (2, (.k (.int .i64 25)))]), none⟩,
 ⟨(some 100), (.call (.k (.fn (.func 55) [] [])) [(.t 98), (.t 99)]), none⟩,
 ⟨(some 101), (.bin .add .num (.t 96) (.t 100)), none⟩,
 ⟨(some 102), (.iada 8 1 (.t 9) (.k (.int .i64 4))), none⟩,
 ⟨(some 103), (.load 1 false (.t 102)), none⟩,
 ⟨(some 104), (.iada 8 1 (.t 9) (.k (.int .i64 5))), none⟩,
 ⟨(some 105), (.load 1 false (.t 104)), none⟩,
 ⟨(some 106), (.bin .and .num (.t 103) (.t 105)), none⟩,
 ⟨(some 107), (.iada 8 1 (.t 9) (.k (.int .i64 4))), none⟩,
 ⟨(some 108), (.load 1 false (.t 107)), none⟩,
 ⟨(some 109), (.un .xor (.t 108)), none⟩,
 ⟨(some 110), (.iada 8 1 (.t 9) (.k (.int .i64 6))), none⟩,
 ⟨(some 111), (.load 1 false (.t 110)), none⟩,
 ⟨(some 112), (.bin .and .num (.t 109) (.t 111)), none⟩,
 ⟨(some 113), (.bin .xor .num (.t 106) (.t 112)), none⟩,
 ⟨(some 114), (.bin .add .num (.t 101) (.t 113)), none⟩,
 ⟨(some 115), (.mov (.t 11)), none⟩,
 ⟨(some 116), (.bin .add .num (.t 114) (.t 115)), none⟩,
 ⟨(some 117), (.mov (.t 10)), none⟩,
 ⟨(some 118), (.iada 64 1 (.t 5) (.t 117)), none⟩,
 ⟨(some 119), (.load 1 false (.t 118)), none⟩,
 ⟨(some 120), (.bin .add .num (.t 116) (.t 119)), none⟩,
 ⟨(some 12), (.mov (.t 120)), none⟩] (.lin [] [(0, none), (1, none), (2, none), (3, none), (4, none), (7, none), (8, none), (9, none), (10, none), (11, none), (12, none), (13, none), (14, none), (15, none), (16, none), (17, none), (18, none), (20, none), (22, none), (23, none), (24, none), (5, some [0, 1, 7, 8, 9, 10, 11, 12, 13, 14, 15, 16, 17, 18, 20, 22, 23, 24]), (6, none), (19, none), (21, none), (25, none), (26, none)]))
 (.seq (.dreg [⟨(some 121), (.iada 8 1 (.t 9) (.k (.int .i64 0))), none⟩,
 ⟨(some 122), (.load 1 false (.t 121)), none⟩,
 ⟨(some 123), (.mks true 1 8 false [(.int .i64 0), (.int .i64 0), (.int .i64 0)] 3 [(0, (.k (.int .i64 2))), (1, (.k (.int .i64 13))), (2, (.k (.int .i64 22)))]), none⟩,
 ⟨(some 124), (.call (.k (.fn (.func 55) [] [])) [(.t 122), (.t 123)]), none⟩,
 ⟨(some 125), (.iada 8 1 (.t 9) (.k (.int .i64 0))), none⟩,
 ⟨(some 126), (.load 1 false (.t 125)), none⟩,
 ⟨(some 127), (.iada 8 1 (.t 9) (.k (.int .i64 1))), none⟩,
 ⟨(some 128), (.load 1 false (.t 127)), none⟩,
 ⟨(some 129), (.bin .and .num (.t 126) (.t 128)), none⟩,
 ⟨(some 130), (.iada 8 1 (.t 9) (.k (.int .i64 0))), none⟩,
 ⟨(some 131), (.load 1 false (.t 130)), none⟩,
 ⟨(some 132), (.iada 8 1 (.t 9) (.k (.int .i64 2))), none⟩,
 ⟨(some 133), (.load 1 false (.t 132)), none⟩,
 ⟨(some 134), (.bin .and .num (.t 131) (.t 133)), none⟩,
 ⟨(some 135), (.bin .xor .num (.t 129) (.t 134)), none⟩,
 ⟨(some 136), (.iada 8 1 (.t 9) (.k (.int .i64 1))), none⟩,
 ⟨(some 137), (.load 1 false (.t 136)), none⟩,
 ⟨(some 138), (.iada 8 1 (.t 9) (.k (.int .i64 2))), none⟩,
 ⟨(some 139), (.load 1 false (.t 138)), none⟩,
 ⟨(some 140), (.bin .and .num (.t 137) (.t 139)), none⟩,
 ⟨(some 141), (.bin .xor .num (.t 135) (.t 140)), none⟩,
 ⟨(some 142), (.bin .add .num (.t 124) (.t 141)), none⟩,
 ⟨(some 13), (.mov (.t 142)), none⟩] (.lin [] [(0, none), (1, none), (2, none), (4, none), (5, none), (6, none), (7, none), (8, none), (9, none), (10, none), (11, none), (12, none), (13, none), (14, none), (15, none), (16, none), (17, none), (18, none), (19, none), (20, none), (3, some [4, 5, 6, 7, 8, 9, 10, 11, 12, 13, 14, 15, 16, 17, 18, 19, 20]), (21, none), (22, none)]))
 (.seq (.dreg [⟨(some 143), (.slca 8 1 false (.t 9) (some (.k (.int .i64 1))) none none), none⟩,
 ⟨(some 144), (.slca 8 1 false (.t 9) none (some (.k (.int .i64 7))) none), none⟩,
 ⟨(some 145), (.cpy 1 (.t 143) (.t 144)), none⟩] (.lin [] [(0, none), (1, none), (2, some [])]))
 (.seq (.reg [⟨(some 146), (.iada 8 1 (.t 9) (.k (.int .i64 4))), none⟩,
 ⟨(some 147), (.load 1 false (.t 146)), none⟩,
 ⟨(some 148), (.mov (.t 12)), none⟩,
 ⟨(some 149), (.bin .add .num (.t 147) (.t 148)), none⟩,
 ⟨(some 150), (.iada 8 1 (.t 9) (.k (.int .i64 4))), none⟩,
 ⟨none, (.store 1 (.t 150) (.t 149)), none⟩])
 (.reg [⟨(some 151), (.mov (.t 12)), none⟩,
 ⟨(some 152), (.mov (.t 13)), none⟩,
 ⟨(some 153), (.bin .add .num (.t 151) (.t 152)), none⟩,
 ⟨(some 154), (.iada 8 1 (.t 9) (.k (.int .i64 0))), none⟩,
 ⟨none, (.store 1 (.t 154) (.t 153)), none⟩])))))))
 (.reg [⟨(some 155), (.bin .add .num (.t 91) (.k (.int .i64 1))), none⟩,
 ⟨(some 91), (.mov (.t 155)), none⟩])))))))
 (.seq (.seq (.reg [⟨(some 156), (.mov (.k (.int .i64 0))), none⟩])
 (.block 4
 (.loop
 (.seq (.reg [⟨(some 157), (.bin .lss .num (.t 156) (.k (.int .i64 8))), none⟩])
 (.seq (.cond (.t 157)
 .skip
 (.exit 4))
 (.seq (.block 5
 (.seq (.reg [⟨(some 158), (.mov (.t 156)), none⟩,
 ⟨(some 14), (.mov (.t 158)), none⟩])
 (.dreg [⟨(some 159), (.mov (.t 14)), none⟩,
 ⟨(some 160), (.iada 8 1 (.t 2) (.t 159)), none⟩,
 ⟨(some 161), (.load 1 false (.t 160)), none⟩,
 ⟨(some 162), (.mov (.t 14)), none⟩,
 ⟨(some 163), (.iada 8 1 (.t 9) (.t 162)), none⟩,
 ⟨(some 164), (.load 1 false (.t 163)), none⟩,
 ⟨(some 165), (.bin .add .num (.t 161) (.t 164)), none⟩,
 ⟨(some 166), (.iada 8 1 (.t 2) (.t 159)), none⟩,
 ⟨none, (.store 1 (.t 166) (.t 165)), none⟩] (.lin [] [(0, none), (1, none), (2, none), (3, none), (4, none), (5, none), (6, none), (7, none), (8, some [])]))))
 (.reg [⟨(some 167), (.bin .add .num (.t 156) (.k (.int .i64 1))), none⟩,
 ⟨(some 156), (.mov (.t 167)), none⟩])))))))
 (.seq (.reg [⟨(some 168), (.load 8 true (.t 2)), none⟩,
 ⟨none, (.store 8 (.t 4) (.t 168)), none⟩])
 .ret)))))))⟩

/-- 41: slices.pdqsortOrdered[string] -/
def F41 : Fun :=
 ⟨134, 4, [],
 (.seq (.reg [⟨(some 8), (.mov (.k (.bool true))), none⟩])
 (.seq (.reg [⟨(some 9), (.mov (.k (.bool true))), none⟩])
 (.block 0
 (.loop
 (.block 1
 (.seq (.reg [⟨(some 19), (.mov (.t 2)), none⟩,
 ⟨(some 20), (.mov (.t 1)), none⟩,
 ⟨(some 21), (.bin .sub .num (.t 19) (.t 20)), none⟩,
 ⟨(some 10), (.mov (.t 21)), none⟩])
 (.seq (.seq (.reg [⟨(some 22), (.mov (.t 10)), none⟩,
 ⟨(some 23), (.bin .leq .num (.t 22) (.k (.int .i64 12))), none⟩])
 (.cond (.t 23)
 (.seq (.reg [⟨(some 24), (.mov (.t 0)), none⟩,
 ⟨(some 25), (.mov (.t 1)), none⟩,
 ⟨(some 26), (.mov (.t 2)), none⟩,
 ⟨(some 27), (.call (.k (.fn (.func 56) [] [])) [(.t 24), (.t 25), (.t 26)]), none⟩])
 .ret)
 .skip))
 (.seq (.seq (.reg [⟨(some 28), (.mov (.t 3)), none⟩,
 ⟨(some 29), (.bin .eql .num (.t 28) (.k (.int .i64 0))), none⟩])
 (.cond (.t 29)
 (.seq (.reg [⟨(some 30), (.mov (.t 0)), none⟩,
 ⟨(some 31), (.mov (.t 1)), none⟩,
 ⟨(some 32), (.mov (.t 2)), none⟩,
 ⟨(some 33), (.call (.k (.fn (.func 57) [] [])) [(.t 30), (.t 31), (.t 32)]), none⟩])
 .ret)
 .skip))
 (.seq (.seq (.reg [⟨(some 34), (.mov (.t 8)), none⟩,
 ⟨(some 35), (.un .not (.t 34)), none⟩])
 (.cond (.t 35)
 (.seq (.reg [⟨(some 36), (.mov (.t 0)), none⟩,
 ⟨(some 37), (.mov (.t 1)), none⟩,
 ⟨(some 38), (.mov (.t 2)), none⟩,
 ⟨(some 39), (.call (.k (.fn (.func 58) [] [])) [(.t 36), (.t 37), (.t 38)]), none⟩])
 (.reg [⟨(some 40), (.mov (.t 3)), none⟩,
 ⟨(some 41), (.bin .sub .num (.t 40) (.k (.int .i64 1))), none⟩,
 ⟨(some 3), (.mov (.t 41)), none⟩]))
 .skip))
 (.seq (.reg [⟨(some 43), (.mov (.t 0)), none⟩,
 ⟨(some 44), (.mov (.t 1)), none⟩,
 ⟨(some 45), (.mov (.t 2)), none⟩,
 ⟨(some 46), (.call (.k (.fn (.func 59) [] [])) [(.t 43), (.t 44), (.t 45)]), none⟩,
 ⟨(some 42), (.mov (.t 46)), none⟩,
 ⟨(some 47), (.ext (.t 42) 0), none⟩,
 ⟨(some 48), (.ext (.t 42) 1), none⟩,
 ⟨(some 11), (.mov (.t 47)), none⟩,
 ⟨(some 12), (.mov (.t 48)), none⟩])
 (.seq (.seq (.reg [⟨(some 49), (.mov (.t 12)), none⟩,
 ⟨(some 50), (.bin .eql .num (.t 49) (.k (.int .i64 2))), none⟩])
 (.cond (.t 50)
 (.seq (.reg [⟨(some 51), (.mov (.t 0)), none⟩,
 ⟨(some 52), (.mov (.t 1)), none⟩,
 ⟨(some 53), (.mov (.t 2)), none⟩,
 ⟨(some 54), (.call (.k (.fn (.func 60) [] [])) [(.t 51), (.t 52), (.t 53)]), none⟩])
 (.seq (.reg [⟨(some 55), (.mov (.t 2)), none⟩,
 ⟨(some 56), (.bin .sub .num (.t 55) (.k (.int .i64 1))), none⟩,
 ⟨(some 57), (.mov (.t 11)), none⟩,
 ⟨(some 58), (.mov (.t 1)), none⟩,
 ⟨(some 59), (.bin .sub .num (.t 57) (.t 58)), none⟩,
 ⟨(some 60), (.bin .sub .num (.t 56) (.t 59)), none⟩,
 ⟨(some 11), (.mov (.t 60)), none⟩])
 (.reg [⟨(some 12), (.mov (.k (.int .i64 1))), none⟩])))
 .skip))
 (.seq (.seq (.reg [⟨(some 61), (.mov (.t 8)), none⟩,
 ⟨(some 62), (.mov (.t 61)), none⟩,
 ⟨(some 63), (.mov (.t 9)), some (62, true)⟩,
 ⟨(some 64), (.pick (.t 62) (.t 63) (.k (.bool false))), none⟩,
 ⟨(some 65), (.mov (.t 64)), none⟩,
 ⟨(some 66), (.mov (.t 12)), some (65, true)⟩,
 ⟨(some 67), (.bin .eql .num (.t 66) (.k (.int .i64 1))), some (65, true)⟩,
 ⟨(some 68), (.pick (.t 65) (.t 67) (.k (.bool false))), none⟩])
 (.cond (.t 68)
 (.seq (.reg [⟨(some 69), (.mov (.t 0)), none⟩,
 ⟨(some 70), (.mov (.t 1)), none⟩,
 ⟨(some 71), (.mov (.t 2)), none⟩,
 ⟨(some 72), (.call (.k (.fn (.func 61) [] [])) [(.t 69), (.t 70), (.t 71)]), none⟩])
 (.cond (.t 72)
 .ret
 .skip))
 .skip))
 (.seq (.seq (.dreg [⟨(some 73), (.mov (.t 1)), none⟩,
 ⟨(some 74), (.bin .gtr .num (.t 73) (.k (.int .i64 0))), none⟩,
 ⟨(some 75), (.mov (.t 74)), none⟩,
 ⟨(some 76), (.mov (.t 0)), some (75, true)⟩,
 ⟨(some 77), (.mov (.t 1)), some (75, true)⟩,
 ⟨(some 78), (.bin .sub .num (.t 77) (.k (.int .i64 1))), some (75, true)⟩,
 ⟨(some 79), (.iad 1 (.t 76) (.t 78)), some (75, true)⟩,
 ⟨(some 80), (.load 1 false (.t 79)), some (75, true)⟩,
 ⟨(some 81), (.mov (.t 0)), some (75, true)⟩,
 ⟨(some 82), (.mov (.t 11)), some (75, true)⟩,
 ⟨(some 83), (.iad 1 (.t 81) (.t 82)), some (75, true)⟩,
 ⟨(some 84), (.load 1 false (.t 83)), some (75, true)⟩,
 ⟨(some 85), (.call (.k (.fn (.func 62) [] [])) [(.t 80), (.t 84)]), some (75, true)⟩,
 ⟨(some 86), (.un .not (.t 85)), some (75, true)⟩,
 ⟨(some 87), (.pick (.t 75) (.t 86) (.k (.bool false))), none⟩] (.lin [] [(0, none), (1, none), (2, none), (3, none), (4, none), (5, none), (6, none), (7, none), (8, none), (9, none), (10, none), (11, none), (12, some []), (13, none), (14, none)]))
 (.cond (.t 87)
 (.seq (.reg [⟨(some 88), (.mov (.t 0)), none⟩,
 ⟨(some 89), (.mov (.t 1)), none⟩,
 ⟨(some 90), (.mov (.t 2)), none⟩,
 ⟨(some 91), (.mov (.t 11)), none⟩,
 ⟨(some 92), (.call (.k (.fn (.func 63) [] [])) [(.t 88), (.t 89), (.t 90), (.t 91)]), none⟩,
 ⟨(some 13), (.mov (.t 92)), none⟩])
 (.seq (.reg [⟨(some 93), (.mov (.t 13)), none⟩,
 ⟨(some 1), (.mov (.t 93)), none⟩])
 (.exit 1)))
 .skip))
 (.seq (.reg [⟨(some 95), (.mov (.t 0)), none⟩,
 ⟨(some 96), (.mov (.t 1)), none⟩,
 ⟨(some 97), (.mov (.t 2)), none⟩,
 ⟨(some 98), (.mov (.t 11)), none⟩,
 ⟨(some 99), (.call (.k (.fn (.func 64) [] [])) [(.t 95), (.t 96), (.t 97), (.t 98)]), none⟩,
 ⟨(some 94), (.mov (.t 99)), none⟩,
 ⟨(some 100), (.ext (.t 94) 0), none⟩,
 ⟨(some 101), (.ext (.t 94) 1), none⟩,
 ⟨(some 14), (.mov (.t 100)), none⟩,
 ⟨(some 15), (.mov (.t 101)), none⟩])
 (.seq (.reg [⟨(some 102), (.mov (.t 15)), none⟩,
 ⟨(some 9), (.mov (.t 102)), none⟩])
 (.seq (.reg [⟨(some 103), (.mov (.t 14)), none⟩,
 ⟨(some 104), (.mov (.t 1)), none⟩,
 ⟨(some 105), (.bin .sub .num (.t 103) (.t 104)), none⟩,
 ⟨(some 106), (.mov (.t 2)), none⟩,
 ⟨(some 107), (.mov (.t 14)), none⟩,
 ⟨(some 108), (.bin .sub .num (.t 106) (.t 107)), none⟩,
 ⟨(some 16), (.mov (.t 105)), none⟩,
 ⟨(some 17), (.mov (.t 108)), none⟩])
 (.seq (.reg [⟨(some 109), (.mov (.t 10)), none⟩,
 ⟨(some 110), (.bin .quo .num (.t 109) (.k (.int .i64 8))), none⟩,
 ⟨(some 18), (.mov (.t 110)), none⟩])
 (.seq (.reg [⟨(some 111), (.mov (.t 16)), none⟩,
 ⟨(some 112), (.mov (.t 17)), none⟩,
 ⟨(some 113), (.bin .lss .num (.t 111) (.t 112)), none⟩])
 (.cond (.t 113)
 (.seq (.reg [⟨(some 114), (.mov (.t 16)), none⟩,
 ⟨(some 115), (.mov (.t 18)), none⟩,
 ⟨(some 116), (.bin .geq .num (.t 114) (.t 115)), none⟩,
 ⟨(some 8), (.mov (.t 116)), none⟩])
 (.seq (.reg [⟨(some 117), (.mov (.t 0)), none⟩,
 ⟨(some 118), (.mov (.t 1)), none⟩,
 ⟨(some 119), (.mov (.t 14)), none⟩,
 ⟨(some 120), (.mov (.t 3)), none⟩,
 ⟨(some 121), (.call (.k (.fn (.func 41) [] [])) [(.t 117), (.t 118), (.t 119), (.t 120)]), none⟩])
 (.reg [⟨(some 122), (.mov (.t 14)), none⟩,
 ⟨(some 123), (.bin .add .num (.t 122) (.k (.int .i64 1))), none⟩,
 ⟨(some 1), (.mov (.t 123)), none⟩])))
 (.seq (.reg [⟨(some 124), (.mov (.t 17)), none⟩,
 ⟨(some 125), (.mov (.t 18)), none⟩,
 ⟨(some 126), (.bin .geq .num (.t 124) (.t 125)), none⟩,
 ⟨(some 8), (.mov (.t 126)), none⟩])
 (.seq (.reg [⟨(some 127), (.mov (.t 0)), none⟩,
 ⟨(some 128), (.mov (.t 14)), none⟩,
 ⟨(some 129), (.bin .add .num (.t 128) (.k (.int .i64 1))), none⟩,
 ⟨(some 130), (.mov (.t 2)), none⟩,
 ⟨(some 131), (.mov (.t 3)), none⟩,
 ⟨(some 132), (.call (.k (.fn (.func 41) [] [])) [(.t 127), (.t 129), (.t 130), (.t 131)]), none⟩])
 (.reg [⟨(some 133), (.mov (.t 14)), none⟩,
 ⟨(some 2), (.mov (.t 133)), none⟩]))))))))))))))))))))))⟩

/-- 42: math/bits.Len -/
def F42 : Fun :=
 ⟨8, 1, [.t 2],
 (.seq (.reg [⟨(some 2), (.mov (.k (.int .i64 0))), none⟩])
 (.seq (.cond (.k (.bool false))
 (.seq (.reg [⟨(some 3), (.mov (.t 0)), none⟩,
 ⟨(some 4), (.cvi .u32 (.t 3)), none⟩,
 ⟨(some 5), (.call (.k (.fn (.func 65) [] [])) [(.t 4)]), none⟩,
 ⟨(some 2), (.mov (.t 5)), none⟩])
 .ret)
 .skip)
 (.seq (.reg [⟨(some 6), (.mov (.t 0)), none⟩,
 ⟨(some 7), (.call (.k (.fn (.func 66) [] [])) [(.t 6)]), none⟩,
 ⟨(some 2), (.mov (.t 7)), none⟩])
 .ret)))⟩

/-- 43: signetring/codec.Join -/
def F43 : Fun :=
 ⟨49, 2, [.t 4, .t 5],
 (.seq (.reg [⟨(some 4), (.mov (.k (.str []))), none⟩,
 ⟨(some 5), (.mov (.k (.int .i64 0))), none⟩])
 (.seq (.seq (.reg [⟨(some 9), (.mov (.t 1)), none⟩,
 ⟨(some 10), (.len .slc (.t 9)), none⟩,
 ⟨(some 11), (.bin .gtr .num (.t 10) (.k (.int .i64 255))), none⟩])
 (.cond (.t 11)
 (.seq (.reg [⟨(some 4), (.mov (.k (.str []))), none⟩,
 ⟨(some 5), (.mov (.k (.int .i64 3))), none⟩])
 .ret)
 .skip))
 (.seq (.reg [⟨(some 12), (.build [.nptr, .nsl] []), none⟩,
 ⟨(some 13), (.box (some 119) (.t 12)), none⟩,
 ⟨(some 6), (.mov (.t 13)), none⟩])
 (.seq (.reg [⟨(some 14), (.mov (.t 6)), none⟩,
 ⟨(some 15), (.mov (.t 0)), none⟩,
 ⟨(some 16), (.mov (.t 1)), none⟩,
 ⟨(some 17), (.len .slc (.t 16)), none⟩,
 ⟨(some 18), (.cvi .u8 (.t 17)), none⟩,
 ⟨(some 19), (.mks true 1 1 false [(.int .u8 0), (.int .u8 0), (.int .u8 0)] 3 [(0, (.k (.int .u8 1))), (1, (.t 15)), (2, (.t 18))]), none⟩,
 ⟨(some 20), (.call (.k (.fn (.func 67) [] [])) [(.t 14), (.t 19)]), none⟩])
 (.seq (.seq (.reg [⟨(some 21), (.mov (.t 1)), none⟩,
 ⟨(some 22), (.len .slc (.t 21)), none⟩,
 ⟨(some 23), (.mov (.k (.int .i64 0))), none⟩])
 (.block 0
 (.loop
 (.seq (.reg [⟨(some 24), (.bin .lss .num (.t 23) (.t 22)), none⟩])
 (.seq (.cond (.t 24)
 .skip
 (.exit 0))
 (.seq (.block 1
 (.seq (.reg [⟨(some 25), (.iad 1 (.t 21) (.t 23)), none⟩,
 ⟨(some 26), (.load 1 false (.t 25)), none⟩,
 ⟨(some 8), (.mov (.t 26)), none⟩])
 (.seq (.seq (.reg [⟨(some 27), (.mov (.t 8)), none⟩,
 ⟨(some 28), (.len .str (.t 27)), none⟩,
 ⟨(some 29), (.bin .gtr .num (.t 28) (.k (.int .i64 4000))), none⟩])
 (.cond (.t 29)
 (.seq (.reg [⟨(some 4), (.mov (.k (.str []))), none⟩,
 ⟨(some 5), (.mov (.k (.int .i64 3))), none⟩])
 .ret)
 .skip))
 (.seq (.reg [⟨(some 30), (.mov (.t 6)), none⟩,
 ⟨(some 31), (.mov (.t 8)), none⟩,
 ⟨(some 32), (.len .str (.t 31)), none⟩,
 ⟨(some 33), (.bin .shr .num (.t 32) (.k (.int .u64 8))), none⟩,
 ⟨(some 34), (.cvi .u8 (.t 33)), none⟩,
 ⟨(some 35), (.mov (.t 8)), none⟩,
 ⟨(some 36), (.len .str (.t 35)), none⟩,
 ⟨(some 37), (.cvi .u8 (.t 36)), none⟩,
 ⟨(some 38), (.mks true 1 1 false [(.int .u8 0), (.int .u8 0)] 2 [(0, (.t 34)), (1, (.t 37))]), none⟩,
 ⟨(some 39), (.call (.k (.fn (.func 67) [] [])) [(.t 30), (.t 38)]), none⟩])
 (.reg [⟨(some 40), (.mov (.t 6)), none⟩,
 ⟨(some 41), (.mov (.t 8)), none⟩,
 ⟨(some 42), (.call (.k (.fn (.func 68) [] [])) [(.t 40), (.t 41)]), none⟩])))))
 (.reg [⟨(some 43), (.bin .add .num (.t 23) (.k (.int .i64 1))), none⟩,
 ⟨(some 23), (.mov (.t 43)), none⟩])))))))
 (.seq (.seq (.reg [⟨(some 44), (.mov (.t 6)), none⟩,
 ⟨(some 45), (.call (.k (.fn (.func 69) [] [])) [(.t 44)]), none⟩,
 ⟨(some 46), (.bin .gtr .num (.t 45) (.k (.int .i64 30000))), none⟩])
 (.cond (.t 46)
 (.seq (.reg [⟨(some 4), (.mov (.k (.str []))), none⟩,
 ⟨(some 5), (.mov (.k (.int .i64 3))), none⟩])
 .ret)
 .skip))
 (.seq (.reg [⟨(some 47), (.mov (.t 6)), none⟩,
 ⟨(some 48), (.call (.k (.fn (.func 70) [] [])) [(.t 47)]), none⟩,
 ⟨(some 4), (.mov (.t 48)), none⟩,
 ⟨(some 5), (.mov (.k (.int .i64 0))), none⟩])
 .ret)))))))⟩

/-- 44: signetring/term.name -/
def F44 : Fun :=
 ⟨14, 1, [.t 2],
 (.seq (.reg [⟨(some 2), (.mov (.k (.str []))), none⟩])
 (.seq (.reg [⟨(some 4), (.mov (.t 0)), none⟩,
 ⟨(some 5), (.cvi .u64 (.t 4)), none⟩,
 ⟨(some 6), (.call (.k (.fn (.func 20) [] [])) [(.t 5)]), none⟩,
 ⟨(some 3), (.mov (.t 6)), none⟩])
 (.seq (.reg [⟨(some 7), (.mov (.t 3)), none⟩,
 ⟨(some 8), (.len .str (.t 7)), none⟩,
 ⟨(some 9), (.bin .sub .num (.k (.int .i64 28)) (.t 8)), none⟩,
 ⟨(some 10), (.call (.k (.fn (.func 71) [] [])) [(.k (.str [0])), (.t 9)]), none⟩,
 ⟨(some 11), (.bin .add .str (.k (.str [116, 101, 114, 109])) (.t 10)), none⟩,
 ⟨(some 12), (.mov (.t 3)), none⟩,
 ⟨(some 13), (.bin .add .str (.t 11) (.t 12)), none⟩,
 ⟨(some 2), (.mov (.t 13)), none⟩])
 .ret)))⟩

/-- 45: signetring/codec.read -/
def F45 : Fun :=
 ⟨50, 1, [.t 2, .t 3, .c 4 1 false],
 (.seq (.reg [⟨(some 2), (.mov (.k (.int .u8 0))), none⟩,
 ⟨(some 3), (.mov (.k .nsl)), none⟩,
 ⟨(some 4), (.new [(.int .i64 0)] none), none⟩])
 (.seq (.reg [⟨none, (.dfr (.k (.fn (.func 72) [] [])) [(.t 4)]), none⟩])
 (.seq (.reg [⟨(some 7), (.mov (.t 0)), none⟩,
 ⟨(some 8), (.len .str (.t 7)), none⟩,
 ⟨(some 9), (.bin .leq .num (.t 8) (.k (.int .i64 30000))), none⟩,
 ⟨(some 10), (.call (.k (.fn (.func 73) [] [])) [(.t 9)]), none⟩])
 (.seq (.reg [⟨(some 11), (.mov (.t 0)), none⟩,
 ⟨(some 12), (.build [(.str [])] [(0, 1, (.t 11))]), none⟩,
 ⟨(some 13), (.box none (.t 12)), none⟩,
 ⟨(some 5), (.mov (.t 13)), none⟩])
 (.seq (.reg [⟨(some 14), (.mov (.t 5)), none⟩,
 ⟨(some 15), (.call (.k (.fn (.func 74) [] [])) [(.t 14)]), none⟩,
 ⟨(some 16), (.bin .eql .num (.t 15) (.k (.int .i64 1))), none⟩,
 ⟨(some 17), (.call (.k (.fn (.func 73) [] [])) [(.t 16)]), none⟩])
 (.seq (.reg [⟨(some 18), (.mov (.t 5)), none⟩,
 ⟨(some 19), (.call (.k (.fn (.func 74) [] [])) [(.t 18)]), none⟩,
 ⟨(some 20), (.cvi .u8 (.t 19)), none⟩,
 ⟨(some 2), (.mov (.t 20)), none⟩])
 (.seq (.seq (.reg [⟨(some 21), (.mov (.t 5)), none⟩,
 ⟨(some 22), (.call (.k (.fn (.func 74) [] [])) [(.t 21)]), none⟩,
 ⟨(some 23), (.mov (.k (.int .i64 0))), none⟩])
 (.block 0
 (.loop
 (.seq (.reg [⟨(some 24), (.bin .lss .num (.t 23) (.t 22)), none⟩])
 (.seq (.cond (.t 24)
 .skip
 (.exit 0))
 (.seq (.block 1
 (.seq (.reg [⟨(some 25), (.mov (.t 5)), none⟩,
 ⟨(some 26), (.call (.k (.fn (.func 74) [] [])) [(.t 25)]), none⟩,
 ⟨(some 27), (.bin .shl .num (.t 26) (.k (.int .u64 8))), none⟩,
 ⟨(some 6), (.mov (.t 27)), none⟩])
 (.seq (.reg [⟨(some 28), (.mov (.t 6)), none⟩,
 ⟨(some 29), (.mov (.t 5)), none⟩,
 ⟨(some 30), (.call (.k (.fn (.func 74) [] [])) [(.t 29)]), none⟩,
 ⟨(some 31), (.bin .add .num (.t 28) (.t 30)), none⟩,
 ⟨(some 6), (.mov (.t 31)), none⟩])
 (.seq (.reg [⟨(some 32), (.mov (.t 6)), none⟩,
 ⟨(some 33), (.bin .leq .num (.t 32) (.k (.int .i64 4000))), none⟩,
 ⟨(some 34), (.call (.k (.fn (.func 73) [] [])) [(.t 33)]), none⟩])
 (.reg [⟨(some 35), (.mov (.t 3)), none⟩,
 ⟨(some 36), (.mov (.t 5)), none⟩,
 ⟨(some 37), (.mov (.t 6)), none⟩,
 ⟨(some 38), (.call (.k (.fn (.func 75) [] [])) [(.t 36), (.t 37)]), none⟩,
 ⟨(some 39), (.mks true 1 16 false [(.str [])] 1 [(0, (.t 38))]), none⟩,
 ⟨(some 40), (.app 1 16 false none (.t 35) (.t 39)), none⟩,
 ⟨(some 3), (.mov (.t 40)), none⟩])))))
 (.reg [⟨(some 41), (.bin .add .num (.t 23) (.k (.int .i64 1))), none⟩,
 ⟨(some 23), (.mov (.t 41)), none⟩])))))))
 (.seq (.reg [⟨(some 42), (.mov (.t 5)), none⟩,
 ⟨(some 43), (.nilck (.t 42)), none⟩,
 ⟨(some 44), (.fad 0 (.t 43)), none⟩,
 ⟨(some 45), (.load 1 false (.t 44)), none⟩,
 ⟨(some 46), (.bin .eql .str (.t 45) (.k (.str []))), none⟩,
 ⟨(some 47), (.call (.k (.fn (.func 73) [] [])) [(.t 46)]), none⟩])
 (.seq (.reg [⟨(some 48), (.mov (.t 2)), none⟩,
 ⟨(some 49), (.mov (.t 3)), none⟩,
 ⟨(some 2), (.mov (.t 48)), none⟩,
 ⟨(some 3), (.mov (.t 49)), none⟩,
 ⟨none, (.store 1 (.t 4) (.k (.int .i64 0))), none⟩])
 .ret)))))))))⟩

/-- 53: signetring/mac.keyed -/
def F53 : Fun :=
 ⟨30, 2, [.c 4 10 true],
 (.seq (.reg [⟨(some 4), (.new [(.int .u32 0), (.int .u32 0), (.int .u32 0), (.int .u32 0), (.int .u32 0), (.int .u32 0), (.int .u32 0), (.int .u32 0), .nsl, (.int .u64 0)] none), none⟩])
 (.seq (.seq (.reg [⟨(some 8), (.mov (.t 0)), none⟩,
 ⟨(some 9), (.len .slc (.t 8)), none⟩,
 ⟨(some 10), (.bin .gtr .num (.t 9) (.k (.int .i64 64))), none⟩])
 (.cond (.t 10)
 (.seq (.reg [⟨(some 11), (.mov (.t 0)), none⟩,
 ⟨(some 12), (.call (.k (.fn (.func 12) [] [])) [(.t 11)]), none⟩,
 ⟨(some 5), (.new [(.int .u8 0), (.int .u8 0), (.int .u8 0), (.int .u8 0), (.int .u8 0), (.int .u8 0), (.int .u8 0), (.int .u8 0), (.int .u8 0), (.int .u8 0), (.int .u8 0), (.int .u8 0), (.int .u8 0), (.int .u8 0), (.int .u8 0), (.int .u8 0), (.int .u8 0), (.int .u8 0), (.int .u8 0), (.int .u8 0), (.int .u8 0), (.int .u8 0), (.int .u8 0), (.int .u8 0), (.int .u8 0), (.int .u8 0), (.int .u8 0), (.int .u8 0), (.int .u8 0), (.int .u8 0), (.int .u8 0), (.int .u8 0)] none), none⟩,
 ⟨none, (.store 32 (.t 5) (.t 12)), none⟩])
 (.reg [⟨(some 13), (.slca 32 1 false (.t 5) none none none), none⟩,
 ⟨(some 0), (.mov (.t 13)), none⟩]))
 .skip))
 (.seq (.reg [⟨(some 6), (.new [(.int .u8 0), (.int .u8 0), (.int .u8 0), (.int .u8 0), (.int .u8 0), (.int .u8 0), (.int .u8 0), (.int .u8 0), (.int .u8 0), (.int .u8 0), (.int .u8 0), (.int .u8 0), (.int .u8 0), (.int .u8 0), (.int .u8 0), (.int .u8 0), (.int .u8 0), (.int .u8 0), (.int .u8 0), (.int .u8 0), (.int .u8 0), (.int .u8 0), (.int .u8 0), (.int .u8 0), (.int .u8 0), (.int .u8 0), (.int .u8 0), (.int .u8 0), (.int .u8 0), (.int .u8 0), (.int .u8 0), (.int .u8 0), (.int .u8 0), (.int .u8 0), (.int .u8 0), (.int .u8 0), (.int .u8 0), (.int .u8 0), (.int .u8 0), (.int .u8 0), (.int .u8 0), (.int .u8 0), (.int .u8 0), (.int .u8 0), (.int .u8 0), (.int .u8 0), (.int .u8 0), (.int .u8 0), (.int .u8 0), (.int .u8 0), (.int .u8 0), (.int .u8 0), (.int .u8 0), (.int .u8 0), (.int .u8 0), (.int .u8 0), (.int .u8 0), (.int .u8 0), (.int .u8 0), (.int .u8 0), (.int .u8 0), (.int .u8 0), (.int .u8 0), (.int .u8 0)] none), none⟩])
 (.seq (.reg [⟨(some 14), (.slca 64 1 false (.t 6) none none none), none⟩,
 ⟨(some 15), (.mov (.t 0)), none⟩,
 ⟨(some 16), (.cpy 1 (.t 14) (.t 15)), none⟩])
 (.seq (.seq (.reg [⟨(some 17), (.mov (.k (.int .i64 0))), none⟩])
 (.block 0
 (.loop
 (.seq (.reg [⟨(some 18), (.bin .lss .num (.t 17) (.k (.int .i64 64))), none⟩])
 (.seq (.cond (.t 18)
 .skip
 (.exit 0))
 (.seq (.block 1
 (.seq (.reg [⟨(some 19), (.mov (.t 17)), none⟩,
 ⟨(some 7), (.mov (.t 19)), none⟩])
 (.reg [⟨(some 20), (.mov (.t 7)), none⟩,
 ⟨(some 21), (.iada 64 1 (.t 6) (.t 20)), none⟩,
 ⟨(some 22), (.load 1 false (.t 21)), none⟩,
 ⟨(some 23), (.mov (.t 1)), none⟩,
 ⟨(some 24), (.bin .xor .num (.t 22) (.t 23)), none⟩,
 ⟨(some 25), (.iada 64 1 (.t 6) (.t 20)), none⟩,
 ⟨none, (.store 1 (.t 25) (.t 24)), none⟩])))
 (.reg [⟨(some 26), (.bin .add .num (.t 17) (.k (.int .i64 1))), none⟩,
 ⟨(some 17), (.mov (.t 26)), none⟩])))))))
 (.seq (.reg [⟨(some 27), (.build [(.int .u32 0), (.int .u32 0), (.int .u32 0), (.int .u32 0), (.int .u32 0), (.int .u32 0), (.int .u32 0), (.int .u32 0), .nsl, (.int .u64 0)] []), none⟩,
 ⟨(some 28), (.slca 64 1 false (.t 6) none none none), none⟩,
 ⟨(some 29), (.call (.k (.fn (.func 25) [] [])) [(.t 27), (.t 28)]), none⟩,
 ⟨none, (.store 10 (.t 4) (.t 29)), none⟩])
 .ret))))))⟩

/-- 54: slices.Grow[[]byte,byte] -/
def F54 : Fun :=
 ⟨27, 2, [.t 4],
 (.seq (.reg [⟨(some 4), (.mov (.k .nsl)), none⟩])
 (.seq (.seq (.reg [⟨(some 5), (.mov (.t 1)), none⟩,
 ⟨(some 6), (.bin .lss .num (.t 5) (.k (.int .i64 0))), none⟩])
 (.cond (.t 6)
 (.reg [⟨(some 7), (.mki 9 (.k (.str [99, 97, 110, 110, 111, 116, 32, 98, 101, 32, 110, 101, 103, 97, 116, 105, 118, 101]))), none⟩,
 ⟨none, (.pan (.t 7)), none⟩])
 .skip))
 (.seq (.seq (.reg [⟨(some 8), (.mov (.t 1)), none⟩,
 ⟨(some 9), (.mov (.t 0)), none⟩,
 ⟨(some 10), (.j (.cap (.t 9))), none⟩,
 ⟨(some 11), (.mov (.t 0)), none⟩,
 ⟨(some 12), (.len .slc (.t 11)), none⟩,
 ⟨(some 13), (.bin .sub .num (.t 10) (.t 12)), none⟩,
 ⟨(some 14), (.bin .sub .num (.t 8) (.t 13)), none⟩,
 ⟨(some 1), (.mov (.t 14)), none⟩])
 (.seq (.reg [⟨(some 15), (.mov (.t 1)), none⟩,
 ⟨(some 16), (.bin .gtr .num (.t 15) (.k (.int .i64 0))), none⟩])
 (.cond (.t 16)
 (.reg [⟨(some 17), (.mov (.t 0)), none⟩,
 ⟨(some 18), (.mov (.t 0)), none⟩,
 ⟨(some 19), (.j (.cap (.t 18))), none⟩,
 ⟨(some 20), (.slc false 1 (.t 17) none (some (.t 19)) none), none⟩,
 ⟨(some 21), (.mov (.t 1)), none⟩,
 ⟨(some 22), (.j (.apm 1 1 false [(.int .u8 0)] (.t 20) (.t 21))), none⟩,
 ⟨(some 23), (.mov (.t 0)), none⟩,
 ⟨(some 24), (.len .slc (.t 23)), none⟩,
 ⟨(some 25), (.slc false 1 (.t 22) none (some (.t 24)) none), none⟩,
 ⟨(some 0), (.mov (.t 25)), none⟩])
 .skip)))
 (.seq (.reg [⟨(some 26), (.mov (.t 0)), none⟩,
 ⟨(some 4), (.mov (.t 26)), none⟩])
 .ret))))⟩

/-- 55: signetring/sha.turned -/
def F55 : Fun :=
 ⟨22, 2, [.t 4],
 (.seq (.reg [⟨(some 4), (.mov (.k (.int .u32 0))), none⟩])
 (.seq (.reg [⟨(some 5), (.mov (.k (.int .u32 0))), none⟩])
 (.seq (.seq (.reg [⟨(some 8), (.mov (.t 1)), none⟩,
 ⟨(some 9), (.len .slc (.t 8)), none⟩,
 ⟨(some 10), (.mov (.k (.int .i64 0))), none⟩])
 (.block 0
 (.loop
 (.seq (.reg [⟨(some 11), (.bin .lss .num (.t 10) (.t 9)), none⟩])
 (.seq (.cond (.t 11)
 .skip
 (.exit 0))
 (.seq (.block 1
 (.seq (.reg [⟨(some 12), (.iad 1 (.t 8) (.t 10)), none⟩,
 ⟨(some 13), (.load 1 false (.t 12)), none⟩,
 ⟨(some 7), (.mov (.t 13)), none⟩])
 (.reg [⟨(some 14), (.mov (.t 5)), none⟩,
 ⟨(some 15), (.mov (.t 0)), none⟩,
 ⟨(some 16), (.mov (.t 7)), none⟩,
 ⟨(some 17), (.un .neg (.t 16)), none⟩,
 ⟨(some 18), (.call (.k (.fn (.func 80) [] [])) [(.t 15), (.t 17)]), none⟩,
 ⟨(some 19), (.bin .xor .num (.t 14) (.t 18)), none⟩,
 ⟨(some 5), (.mov (.t 19)), none⟩])))
 (.reg [⟨(some 20), (.bin .add .num (.t 10) (.k (.int .i64 1))), none⟩,
 ⟨(some 10), (.mov (.t 20)), none⟩])))))))
 (.seq (.reg [⟨(some 21), (.mov (.t 5)), none⟩,
 ⟨(some 4), (.mov (.t 21)), none⟩])
 .ret))))⟩

/-- 56: slices.insertionSortOrdered[string] -/
def F56 : Fun :=
 ⟨49, 3, [],
 (.seq (.reg [⟨(some 8), (.mov (.t 1)), none⟩,
 ⟨(some 9), (.bin .add .num (.t 8) (.k (.int .i64 1))), none⟩,
 ⟨(some 6), (.mov (.t 9)), none⟩])
 (.block 0
 (.loop
 (.seq (.seq (.reg [⟨(some 10), (.mov (.t 6)), none⟩,
 ⟨(some 11), (.mov (.t 2)), none⟩,
 ⟨(some 12), (.bin .lss .num (.t 10) (.t 11)), none⟩])
 (.cond (.t 12)
 .skip
 (.exit 0)))
 (.seq (.block 1
 (.seq (.reg [⟨(some 15), (.mov (.t 6)), none⟩,
 ⟨(some 7), (.mov (.t 15)), none⟩])
 (.block 2
 (.loop
 (.seq (.seq (.dreg [⟨(some 16), (.mov (.t 7)), none⟩,
 ⟨(some 17), (.mov (.t 1)), none⟩,
 ⟨(some 18), (.bin .gtr .num (.t 16) (.t 17)), none⟩,
 ⟨(some 19), (.mov (.t 18)), none⟩,
 ⟨(some 20), (.mov (.t 0)), some (19, true)⟩,
 ⟨(some 21), (.mov (.t 7)), some (19, true)⟩,
 ⟨(some 22), (.iad 1 (.t 20) (.t 21)), some (19, true)⟩,
 ⟨(some 23), (.load 1 false (.t 22)), some (19, true)⟩,
 ⟨(some 24), (.mov (.t 0)), some (19, true)⟩,
 ⟨(some 25), (.mov (.t 7)), some (19, true)⟩,
 ⟨(some 26), (.bin .sub .num (.t 25) (.k (.int .i64 1))), some (19, true)⟩,
 ⟨(some 27), (.iad 1 (.t 24) (.t 26)), some (19, true)⟩,
 ⟨(some 28), (.load 1 false (.t 27)), some (19, true)⟩,
 ⟨(some 29), (.call (.k (.fn (.func 62) [] [])) [(.t 23), (.t 28)]), some (19, true)⟩,
 ⟨(some 30), (.pick (.t 19) (.t 29) (.k (.bool false))), none⟩] (.lin [] [(0, none), (1, none), (2, none), (3, none), (4, none), (5, none), (6, none), (7, none), (8, none), (9, none), (10, none), (11, none), (12, none), (13, some []), (14, none)]))
 (.cond (.t 30)
 .skip
 (.exit 2)))
 (.seq (.block 3
 (.dreg [⟨(some 33), (.mov (.t 0)), none⟩,
 ⟨(some 34), (.mov (.t 7)), none⟩,
 ⟨(some 35), (.mov (.t 0)), none⟩,
 ⟨(some 36), (.mov (.t 7)), none⟩,
 ⟨(some 37), (.bin .sub .num (.t 36) (.k (.int .i64 1))), none⟩,
 ⟨(some 38), (.mov (.t 0)), none⟩,
 ⟨(some 39), (.mov (.t 7)), none⟩,
 ⟨(some 40), (.bin .sub .num (.t 39) (.k (.int .i64 1))), none⟩,
 ⟨(some 41), (.iad 1 (.t 38) (.t 40)), none⟩,
 ⟨(some 42), (.load 1 false (.t 41)), none⟩,
 ⟨(some 43), (.mov (.t 0)), none⟩,
 ⟨(some 44), (.mov (.t 7)), none⟩,
 ⟨(some 45), (.iad 1 (.t 43) (.t 44)), none⟩,
 ⟨(some 46), (.load 1 false (.t 45)), none⟩,
 ⟨(some 47), (.iad 1 (.t 33) (.t 34)), none⟩,
 ⟨none, (.store 1 (.t 47) (.t 42)), none⟩,
 ⟨(some 48), (.iad 1 (.t 35) (.t 37)), none⟩,
 ⟨none, (.store 1 (.t 48) (.t 46)), none⟩] (.lin [] [(0, none), (1, none), (2, none), (3, none), (4, none), (5, none), (6, none), (7, none), (8, none), (9, none), (10, none), (11, none), (12, none), (13, none), (14, none), (15, some [2, 3, 4]), (16, none), (17, some [])])))
 (.reg [⟨(some 31), (.mov (.t 7)), none⟩,
 ⟨(some 32), (.bin .sub .num (.t 31) (.k (.int .i64 1))), none⟩,
 ⟨(some 7), (.mov (.t 32)), none⟩])))))))
 (.reg [⟨(some 13), (.mov (.t 6)), none⟩,
 ⟨(some 14), (.bin .add .num (.t 13) (.k (.int .i64 1))), none⟩,
 ⟨(some 6), (.mov (.t 14)), none⟩]))))))⟩

/-- 57: slices.heapSortOrdered[string] -/
def F57 : Fun :=
 ⟨56, 3, [],
 (.seq (.reg [⟨(some 11), (.mov (.t 1)), none⟩,
 ⟨(some 6), (.mov (.t 11)), none⟩])
 (.seq (.reg [⟨(some 7), (.mov (.k (.int .i64 0))), none⟩])
 (.seq (.reg [⟨(some 12), (.mov (.t 2)), none⟩,
 ⟨(some 13), (.mov (.t 1)), none⟩,
 ⟨(some 14), (.bin .sub .num (.t 12) (.t 13)), none⟩,
 ⟨(some 8), (.mov (.t 14)), none⟩])
 (.seq (.seq (.reg [⟨(some 15), (.mov (.t 8)), none⟩,
 ⟨(some 16), (.bin .sub .num (.t 15) (.k (.int .i64 1))), none⟩,
 ⟨(some 17), (.bin .quo .num (.t 16) (.k (.int .i64 2))), none⟩,
 ⟨(some 9), (.mov (.t 17)), none⟩])
 (.block 0
 (.loop
 (.seq (.seq (.reg [⟨(some 18), (.mov (.t 9)), none⟩,
 ⟨(some 19), (.bin .geq .num (.t 18) (.k (.int .i64 0))), none⟩])
 (.cond (.t 19)
 .skip
 (.exit 0)))
 (.seq (.block 1
 (.reg [⟨(some 22), (.mov (.t 0)), none⟩,
 ⟨(some 23), (.mov (.t 9)), none⟩,
 ⟨(some 24), (.mov (.t 8)), none⟩,
 ⟨(some 25), (.mov (.t 6)), none⟩,
 ⟨(some 26), (.call (.k (.fn (.func 81) [] [])) [(.t 22), (.t 23), (.t 24), (.t 25)]), none⟩]))
 (.reg [⟨(some 20), (.mov (.t 9)), none⟩,
 ⟨(some 21), (.bin .sub .num (.t 20) (.k (.int .i64 1))), none⟩,
 ⟨(some 9), (.mov (.t 21)), none⟩]))))))
 (.seq (.reg [⟨(some 27), (.mov (.t 8)), none⟩,
 ⟨(some 28), (.bin .sub .num (.t 27) (.k (.int .i64 1))), none⟩,
 ⟨(some 10), (.mov (.t 28)), none⟩])
 (.block 2
 (.loop
 (.seq (.seq (.reg [⟨(some 29), (.mov (.t 10)), none⟩,
 ⟨(some 30), (.bin .geq .num (.t 29) (.k (.int .i64 0))), none⟩])
 (.cond (.t 30)
 .skip
 (.exit 2)))
 (.seq (.block 3
 (.seq (.dreg [⟨(some 33), (.mov (.t 0)), none⟩,
 ⟨(some 34), (.mov (.t 6)), none⟩,
 ⟨(some 35), (.mov (.t 0)), none⟩,
 ⟨(some 36), (.mov (.t 6)), none⟩,
 ⟨(some 37), (.mov (.t 10)), none⟩,
 ⟨(some 38), (.bin .add .num (.t 36) (.t 37)), none⟩,
 ⟨(some 39), (.mov (.t 0)), none⟩,
 ⟨(some 40), (.mov (.t 6)), none⟩,
 ⟨(some 41), (.mov (.t 10)), none⟩,
 ⟨(some 42), (.bin .add .num (.t 40) (.t 41)), none⟩,
 ⟨(some 43), (.iad 1 (.t 39) (.t 42)), none⟩,
 ⟨(some 44), (.load 1 false (.t 43)), none⟩,
 ⟨(some 45), (.mov (.t 0)), none⟩,
 ⟨(some 46), (.mov (.t 6)), none⟩,
 ⟨(some 47), (.iad 1 (.t 45) (.t 46)), none⟩,
 ⟨(some 48), (.load 1 false (.t 47)), none⟩,
 ⟨(some 49), (.iad 1 (.t 33) (.t 34)), none⟩,
 ⟨none, (.store 1 (.t 49) (.t 44)), none⟩,
 ⟨(some 50), (.iad 1 (.t 35) (.t 38)), none⟩,
 ⟨none, (.store 1 (.t 50) (.t 48)), none⟩] (.lin [] [(0, none), (1, none), (2, none), (3, none), (4, none), (5, none), (6, none), (7, none), (8, none), (9, none), (10, none), (11, none), (12, none), (13, none), (14, none), (15, none), (16, none), (17, some [2, 3, 4, 5]), (18, none), (19, some [])]))
 (.reg [⟨(some 51), (.mov (.t 0)), none⟩,
 ⟨(some 52), (.mov (.t 7)), none⟩,
 ⟨(some 53), (.mov (.t 10)), none⟩,
 ⟨(some 54), (.mov (.t 6)), none⟩,
 ⟨(some 55), (.call (.k (.fn (.func 81) [] [])) [(.t 51), (.t 52), (.t 53), (.t 54)]), none⟩])))
 (.reg [⟨(some 31), (.mov (.t 10)), none⟩,
 ⟨(some 32), (.bin .sub .num (.t 31) (.k (.int .i64 1))), none⟩,
 ⟨(some 10), (.mov (.t 32)), none⟩]))))))))))⟩

/-- 58: slices.breakPatternsOrdered[string] -/
def F58 : Fun :=
 ⟨65, 3, [],
 (.seq (.reg [⟨(some 11), (.mov (.t 2)), none⟩,
 ⟨(some 12), (.mov (.t 1)), none⟩,
 ⟨(some 13), (.bin .sub .num (.t 11) (.t 12)), none⟩,
 ⟨(some 6), (.mov (.t 13)), none⟩])
 (.seq (.reg [⟨(some 14), (.mov (.t 6)), none⟩,
 ⟨(some 15), (.bin .geq .num (.t 14) (.k (.int .i64 8))), none⟩])
 (.cond (.t 15)
 (.seq (.reg [⟨(some 16), (.mov (.t 6)), none⟩,
 ⟨(some 17), (.cvi .u64 (.t 16)), none⟩,
 ⟨(some 7), (.new [(.int .u64 0)] none), none⟩,
 ⟨none, (.store 1 (.t 7) (.t 17)), none⟩])
 (.seq (.reg [⟨(some 18), (.mov (.t 6)), none⟩,
 ⟨(some 19), (.call (.k (.fn (.func 82) [] [])) [(.t 18)]), none⟩,
 ⟨(some 8), (.mov (.t 19)), none⟩])
 (.seq (.reg [⟨(some 20), (.mov (.t 1)), none⟩,
 ⟨(some 21), (.mov (.t 6)), none⟩,
 ⟨(some 22), (.bin .quo .num (.t 21) (.k (.int .i64 4))), none⟩,
 ⟨(some 23), (.bin .mul .num (.t 22) (.k (.int .i64 2))), none⟩,
 ⟨(some 24), (.bin .add .num (.t 20) (.t 23)), none⟩,
 ⟨(some 25), (.bin .sub .num (.t 24) (.k (.int .i64 1))), none⟩,
 ⟨(some 9), (.mov (.t 25)), none⟩])
 (.block 0
 (.loop
 (.seq (.seq (.reg [⟨(some 26), (.mov (.t 9)), none⟩,
 ⟨(some 27), (.mov (.t 1)), none⟩,
 ⟨(some 28), (.mov (.t 6)), none⟩,
 ⟨(some 29), (.bin .quo .num (.t 28) (.k (.int .i64 4))), none⟩,
 ⟨(some 30), (.bin .mul .num (.t 29) (.k (.int .i64 2))), none⟩,
 ⟨(some 31), (.bin .add .num (.t 27) (.t 30)), none⟩,
 ⟨(some 32), (.bin .add .num (.t 31) (.k (.int .i64 1))), none⟩,
 ⟨(some 33), (.bin .leq .num (.t 26) (.t 32)), none⟩])
 (.cond (.t 33)
 .skip
 (.exit 0)))
 (.seq (.block 1
 (.seq (.reg [⟨(some 36), (.call (.k (.fn (.func 83) [] [])) [(.t 7)]), none⟩,
 ⟨(some 37), (.mov (.t 8)), none⟩,
 ⟨(some 38), (.bin .sub .num (.t 37) (.k (.int .u64 1))), none⟩,
 ⟨(some 39), (.bin .and .num (.t 36) (.t 38)), none⟩,
 ⟨(some 40), (.cvi .i64 (.t 39)), none⟩,
 ⟨(some 10), (.mov (.t 40)), none⟩])
 (.seq (.seq (.reg [⟨(some 41), (.mov (.t 10)), none⟩,
 ⟨(some 42), (.mov (.t 6)), none⟩,
 ⟨(some 43), (.bin .geq .num (.t 41) (.t 42)), none⟩])
 (.cond (.t 43)
 (.reg [⟨(some 44), (.mov (.t 10)), none⟩,
 ⟨(some 45), (.mov (.t 6)), none⟩,
 ⟨(some 46), (.bin .sub .num (.t 44) (.t 45)), none⟩,
 ⟨(some 10), (.mov (.t 46)), none⟩])
 .skip))
 (.dreg [⟨(some 47), (.mov (.t 0)), none⟩,
 ⟨(some 48), (.mov (.t 9)), none⟩,
 ⟨(some 49), (.mov (.t 0)), none⟩,
 ⟨(some 50), (.mov (.t 1)), none⟩,
 ⟨(some 51), (.mov (.t 10)), none⟩,
 ⟨(some 52), (.bin .add .num (.t 50) (.t 51)), none⟩,
 ⟨(some 53), (.mov (.t 0)), none⟩,
 ⟨(some 54), (.mov (.t 1)), none⟩,
 ⟨(some 55), (.mov (.t 10)), none⟩,
 ⟨(some 56), (.bin .add .num (.t 54) (.t 55)), none⟩,
 ⟨(some 57), (.iad 1 (.t 53) (.t 56)), none⟩,
 ⟨(some 58), (.load 1 false (.t 57)), none⟩,
 ⟨(some 59), (.mov (.t 0)), none⟩,
 ⟨(some 60), (.mov (.t 9)), none⟩,
 ⟨(some 61), (.iad 1 (.t 59) (.t 60)), none⟩,
 ⟨(some 62), (.load 1 false (.t 61)), none⟩,
 ⟨(some 63), (.iad 1 (.t 47) (.t 48)), none⟩,
 ⟨none, (.store 1 (.t 63) (.t 58)), none⟩,
 ⟨(some 64), (.iad 1 (.t 49) (.t 52)), none⟩,
 ⟨none, (.store 1 (.t 64) (.t 62)), none⟩] (.lin [] [(0, none), (1, none), (2, none), (3, none), (4, none), (5, none), (6, none), (7, none), (8, none), (9, none), (10, none), (11, none), (12, none), (13, none), (14, none), (15, none), (16, none), (17, some [2, 3, 4, 5]), (18, none), (19, some [])])))))
 (.reg [⟨(some 34), (.mov (.t 9)), none⟩,
 ⟨(some 35), (.bin .add .num (.t 34) (.k (.int .i64 1))), none⟩,
 ⟨(some 9), (.mov (.t 35)), none⟩]))))))))
 .skip)))⟩

/-- 59: slices.choosePivotOrdered[string] -/
def F59 : Fun :=
 ⟨57, 3, [.t 6, .t 7],
 (.seq (.reg [⟨(some 6), (.mov (.k (.int .i64 0))), none⟩,
 ⟨(some 7), (.mov (.k (.int .i64 0))), none⟩])
 (.seq (.reg [⟨(some 13), (.mov (.t 2)), none⟩,
 ⟨(some 14), (.mov (.t 1)), none⟩,
 ⟨(some 15), (.bin .sub .num (.t 13) (.t 14)), none⟩,
 ⟨(some 8), (.mov (.t 15)), none⟩])
 (.seq (.reg [⟨(some 9), (.new [(.int .i64 0)] none), none⟩])
 (.seq (.reg [⟨(some 16), (.mov (.t 1)), none⟩,
 ⟨(some 17), (.mov (.t 8)), none⟩,
 ⟨(some 18), (.bin .quo .num (.t 17) (.k (.int .i64 4))), none⟩,
 ⟨(some 19), (.bin .mul .num (.t 18) (.k (.int .i64 1))), none⟩,
 ⟨(some 20), (.bin .add .num (.t 16) (.t 19)), none⟩,
 ⟨(some 10), (.mov (.t 20)), none⟩])
 (.seq (.reg [⟨(some 21), (.mov (.t 1)), none⟩,
 ⟨(some 22), (.mov (.t 8)), none⟩,
 ⟨(some 23), (.bin .quo .num (.t 22) (.k (.int .i64 4))), none⟩,
 ⟨(some 24), (.bin .mul .num (.t 23) (.k (.int .i64 2))), none⟩,
 ⟨(some 25), (.bin .add .num (.t 21) (.t 24)), none⟩,
 ⟨(some 11), (.mov (.t 25)), none⟩])
 (.seq (.reg [⟨(some 26), (.mov (.t 1)), none⟩,
 ⟨(some 27), (.mov (.t 8)), none⟩,
 ⟨(some 28), (.bin .quo .num (.t 27) (.k (.int .i64 4))), none⟩,
 ⟨(some 29), (.bin .mul .num (.t 28) (.k (.int .i64 3))), none⟩,
 ⟨(some 30), (.bin .add .num (.t 26) (.t 29)), none⟩,
 ⟨(some 12), (.mov (.t 30)), none⟩])
 (.seq (.seq (.reg [⟨(some 31), (.mov (.t 8)), none⟩,
 ⟨(some 32), (.bin .geq .num (.t 31) (.k (.int .i64 8))), none⟩])
 (.cond (.t 32)
 (.seq (.seq (.reg [⟨(some 33), (.mov (.t 8)), none⟩,
 ⟨(some 34), (.bin .geq .num (.t 33) (.k (.int .i64 50))), none⟩])
 (.cond (.t 34)
 (.seq (.reg [⟨(some 35), (.mov (.t 0)), none⟩,
 ⟨(some 36), (.mov (.t 10)), none⟩,
 ⟨(some 37), (.call (.k (.fn (.func 84) [] [])) [(.t 35), (.t 36), (.t 9)]), none⟩,
 ⟨(some 10), (.mov (.t 37)), none⟩])
 (.seq (.reg [⟨(some 38), (.mov (.t 0)), none⟩,
 ⟨(some 39), (.mov (.t 11)), none⟩,
 ⟨(some 40), (.call (.k (.fn (.func 84) [] [])) [(.t 38), (.t 39), (.t 9)]), none⟩,
 ⟨(some 11), (.mov (.t 40)), none⟩])
 (.reg [⟨(some 41), (.mov (.t 0)), none⟩,
 ⟨(some 42), (.mov (.t 12)), none⟩,
 ⟨(some 43), (.call (.k (.fn (.func 84) [] [])) [(.t 41), (.t 42), (.t 9)]), none⟩,
 ⟨(some 12), (.mov (.t 43)), none⟩])))
 .skip))
 (.reg [⟨(some 44), (.mov (.t 0)), none⟩,
 ⟨(some 45), (.mov (.t 10)), none⟩,
 ⟨(some 46), (.mov (.t 11)), none⟩,
 ⟨(some 47), (.mov (.t 12)), none⟩,
 ⟨(some 48), (.call (.k (.fn (.func 85) [] [])) [(.t 44), (.t 45), (.t 46), (.t 47), (.t 9)]), none⟩,
 ⟨(some 11), (.mov (.t 48)), none⟩]))
 .skip))
 (.seq (.reg [⟨(some 49), (.load 1 false (.t 9)), none⟩])
 (.block 0
 (.seq (.reg [⟨(some 52), (.bin .eql .num (.t 49) (.k (.int .i64 0))), none⟩,
 ⟨(some 51), (.mov (.t 52)), none⟩])
 (.cond (.t 51)
 (.seq (.reg [⟨(some 53), (.mov (.t 11)), none⟩,
 ⟨(some 6), (.mov (.t 53)), none⟩,
 ⟨(some 7), (.mov (.k (.int .i64 1))), none⟩])
 .ret)
 (.seq (.reg [⟨(some 55), (.bin .eql .num (.t 49) (.k (.int .i64 12))), none⟩,
 ⟨(some 54), (.mov (.t 55)), none⟩])
 (.cond (.t 54)
 (.seq (.reg [⟨(some 56), (.mov (.t 11)), none⟩,
 ⟨(some 6), (.mov (.t 56)), none⟩,
 ⟨(some 7), (.mov (.k (.int .i64 2))), none⟩])
 .ret)
 (.seq (.reg [⟨(some 50), (.mov (.t 11)), none⟩,
 ⟨(some 6), (.mov (.t 50)), none⟩,
 ⟨(some 7), (.mov (.k (.int .i64 0))), none⟩])
 .ret))))))))))))))⟩

/-- 60: slices.reverseRangeOrdered[string] -/
def F60 : Fun :=
 ⟨32, 3, [],
 (.seq (.reg [⟨(some 8), (.mov (.t 1)), none⟩,
 ⟨(some 6), (.mov (.t 8)), none⟩])
 (.seq (.reg [⟨(some 9), (.mov (.t 2)), none⟩,
 ⟨(some 10), (.bin .sub .num (.t 9) (.k (.int .i64 1))), none⟩,
 ⟨(some 7), (.mov (.t 10)), none⟩])
 (.block 0
 (.loop
 (.seq (.seq (.reg [⟨(some 11), (.mov (.t 6)), none⟩,
 ⟨(some 12), (.mov (.t 7)), none⟩,
 ⟨(some 13), (.bin .lss .num (.t 11) (.t 12)), none⟩])
 (.cond (.t 13)
 .skip
 (.exit 0)))
 (.block 1
 (.seq (.dreg [⟨(some 14), (.mov (.t 0)), none⟩,
 ⟨(some 15), (.mov (.t 6)), none⟩,
 ⟨(some 16), (.mov (.t 0)), none⟩,
 ⟨(some 17), (.mov (.t 7)), none⟩,
 ⟨(some 18), (.mov (.t 0)), none⟩,
 ⟨(some 19), (.mov (.t 7)), none⟩,
 ⟨(some 20), (.iad 1 (.t 18) (.t 19)), none⟩,
 ⟨(some 21), (.load 1 false (.t 20)), none⟩,
 ⟨(some 22), (.mov (.t 0)), none⟩,
 ⟨(some 23), (.mov (.t 6)), none⟩,
 ⟨(some 24), (.iad 1 (.t 22) (.t 23)), none⟩,
 ⟨(some 25), (.load 1 false (.t 24)), none⟩,
 ⟨(some 26), (.iad 1 (.t 14) (.t 15)), none⟩,
 ⟨none, (.store 1 (.t 26) (.t 21)), none⟩,
 ⟨(some 27), (.iad 1 (.t 16) (.t 17)), none⟩,
 ⟨none, (.store 1 (.t 27) (.t 25)), none⟩] (.lin [] [(0, none), (1, none), (2, none), (3, none), (4, none), (5, none), (6, none), (7, none), (8, none), (9, none), (10, none), (11, none), (12, none), (13, some [2, 3]), (14, none), (15, some [])]))
 (.seq (.reg [⟨(some 28), (.mov (.t 6)), none⟩,
 ⟨(some 29), (.bin .add .num (.t 28) (.k (.int .i64 1))), none⟩,
 ⟨(some 6), (.mov (.t 29)), none⟩])
 (.reg [⟨(some 30), (.mov (.t 7)), none⟩,
 ⟨(some 31), (.bin .sub .num (.t 30) (.k (.int .i64 1))), none⟩,
 ⟨(some 7), (.mov (.t 31)), none⟩])))))))))⟩


theorem ck2 : ckF Tryz.prog 2 F2 = true := by kernel_rfl
theorem ck4 : ckF Tryz.prog 4 F4 = true := by kernel_rfl
theorem ck5 : ckF Tryz.prog 5 F5 = true := by kernel_rfl
theorem ck6 : ckF Tryz.prog 6 F6 = true := by kernel_rfl
theorem ck7 : ckF Tryz.prog 7 F7 = true := by kernel_rfl
theorem ck8 : ckF Tryz.prog 8 F8 = true := by kernel_rfl
theorem ck11 : ckF Tryz.prog 11 F11 = true := by kernel_rfl
theorem ck12 : ckF Tryz.prog 12 F12 = true := by kernel_rfl
theorem ck13 : ckF Tryz.prog 13 F13 = true := by kernel_rfl
theorem ck14 : ckF Tryz.prog 14 F14 = true := by kernel_rfl
theorem ck15 : ckF Tryz.prog 15 F15 = true := by kernel_rfl
theorem ck16 : ckF Tryz.prog 16 F16 = true := by kernel_rfl
theorem ck17 : ckF Tryz.prog 17 F17 = true := by kernel_rfl
theorem ck18 : ckF Tryz.prog 18 F18 = true := by kernel_rfl
theorem ck19 : ckF Tryz.prog 19 F19 = true := by kernel_rfl
theorem ck20 : ckF Tryz.prog 20 F20 = true := by kernel_rfl
theorem ck22 : ckF Tryz.prog 22 F22 = true := by kernel_rfl
theorem ck23 : ckF Tryz.prog 23 F23 = true := by kernel_rfl
theorem ck24 : ckF Tryz.prog 24 F24 = true := by kernel_rfl
theorem ck25 : ckF Tryz.prog 25 F25 = true := by kernel_rfl
theorem ck26 : ckF Tryz.prog 26 F26 = true := by kernel_rfl
theorem ck27 : ckF Tryz.prog 27 F27 = true := by kernel_rfl
theorem ck28 : ckF Tryz.prog 28 F28 = true := by kernel_rfl
theorem ck29 : ckF Tryz.prog 29 F29 = true := by kernel_rfl
theorem ck30 : ckF Tryz.prog 30 F30 = true := by kernel_rfl
theorem ck37 : ckF Tryz.prog 37 F37 = true := by kernel_rfl
theorem ck38 : ckF Tryz.prog 38 F38 = true := by kernel_rfl
theorem ck39 : ckF Tryz.prog 39 F39 = true := by kernel_rfl
theorem ck40 : ckF Tryz.prog 40 F40 = true := by kernel_rfl
theorem ck41 : ckF Tryz.prog 41 F41 = true := by kernel_rfl
theorem ck42 : ckF Tryz.prog 42 F42 = true := by kernel_rfl
theorem ck43 : ckF Tryz.prog 43 F43 = true := by kernel_rfl
theorem ck44 : ckF Tryz.prog 44 F44 = true := by kernel_rfl
theorem ck45 : ckF Tryz.prog 45 F45 = true := by kernel_rfl
theorem ck53 : ckF Tryz.prog 53 F53 = true := by kernel_rfl
theorem ck54 : ckF Tryz.prog 54 F54 = true := by kernel_rfl
theorem ck55 : ckF Tryz.prog 55 F55 = true := by kernel_rfl
theorem ck56 : ckF Tryz.prog 56 F56 = true := by kernel_rfl
theorem ck57 : ckF Tryz.prog 57 F57 = true := by kernel_rfl
theorem ck58 : ckF Tryz.prog 58 F58 = true := by kernel_rfl
theorem ck59 : ckF Tryz.prog 59 F59 = true := by kernel_rfl
theorem ck60 : ckF Tryz.prog 60 F60 = true := by kernel_rfl
theorem st2 : K.stC F2.c = true := by kernel_rfl
theorem st4 : K.stC F4.c = true := by kernel_rfl
theorem st5 : K.stC F5.c = true := by kernel_rfl
theorem st6 : K.stC F6.c = true := by kernel_rfl
theorem st7 : K.stC F7.c = true := by kernel_rfl
theorem st8 : K.stC F8.c = true := by kernel_rfl
theorem st11 : K.stC F11.c = true := by kernel_rfl
theorem st12 : K.stC F12.c = true := by kernel_rfl
theorem st13 : K.stC F13.c = true := by kernel_rfl
theorem st14 : K.stC F14.c = true := by kernel_rfl
theorem st15 : K.stC F15.c = true := by kernel_rfl
theorem st16 : K.stC F16.c = true := by kernel_rfl
theorem st17 : K.stC F17.c = true := by kernel_rfl
theorem st18 : K.stC F18.c = true := by kernel_rfl
theorem st19 : K.stC F19.c = true := by kernel_rfl
theorem st20 : K.stC F20.c = true := by kernel_rfl
theorem st22 : K.stC F22.c = true := by kernel_rfl
theorem st23 : K.stC F23.c = true := by kernel_rfl
theorem st24 : K.stC F24.c = true := by kernel_rfl
theorem st25 : K.stC F25.c = true := by kernel_rfl
theorem st26 : K.stC F26.c = true := by kernel_rfl
theorem st27 : K.stC F27.c = true := by kernel_rfl
theorem st28 : K.stC F28.c = true := by kernel_rfl
theorem st29 : K.stC F29.c = true := by kernel_rfl
theorem st30 : K.stC F30.c = true := by kernel_rfl
theorem st37 : K.stC F37.c = true := by kernel_rfl
theorem st38 : K.stC F38.c = true := by kernel_rfl
theorem st39 : K.stC F39.c = true := by kernel_rfl
theorem st40 : K.stC F40.c = true := by kernel_rfl
theorem st41 : K.stC F41.c = true := by kernel_rfl
theorem st42 : K.stC F42.c = true := by kernel_rfl
theorem st43 : K.stC F43.c = true := by kernel_rfl
theorem st44 : K.stC F44.c = true := by kernel_rfl
theorem st45 : K.stC F45.c = true := by kernel_rfl
theorem st53 : K.stC F53.c = true := by kernel_rfl
theorem st54 : K.stC F54.c = true := by kernel_rfl
theorem st55 : K.stC F55.c = true := by kernel_rfl
theorem st56 : K.stC F56.c = true := by kernel_rfl
theorem st57 : K.stC F57.c = true := by kernel_rfl
theorem st58 : K.stC F58.c = true := by kernel_rfl
theorem st59 : K.stC F59.c = true := by kernel_rfl
theorem st60 : K.stC F60.c = true := by kernel_rfl
end Go.Proofs.YtfinnljkcgglfaaGreatDoor
