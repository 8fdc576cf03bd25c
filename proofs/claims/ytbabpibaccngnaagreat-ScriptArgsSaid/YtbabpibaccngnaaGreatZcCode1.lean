/- The code of the functions, as it is told, and that it is told rightly (1). -/
import Derived.Test.YtbabpibaccngnaaGreatProg
import Derived.Test.YtbabpibaccngnaaGreatZv6
import Derived.KernelRfl
set_option linter.unusedSimpArgs false
set_option linter.unusedVariables false
namespace Go.Proofs.YtbabpibaccngnaaGreat
open Go.Vs
set_option maxRecDepth 100000

/-- 14: signetring/session.Open -/
def F14 : Fun :=
 ⟨58, 5, [.c 10 4 true, .c 11 1 false, .c 12 1 false],
 (.seq (.reg [⟨(some 6), (.box none (.t 1)), none⟩,
 ⟨(some 10), (.new [(.str []), .nsl, (.int .u64 0), .nsl] none), none⟩,
 ⟨(some 11), (.new [(.str [])] none), none⟩,
 ⟨(some 12), (.new [(.int .i64 0)] none), none⟩])
 (.seq (.reg [⟨(some 17), (.mkf (.func 39) [] [(.t 6), (.t 10), (.t 11)]), none⟩,
 ⟨none, (.dfr (.k (.fn (.func 38) [] [])) [(.t 12), (.t 17)]), none⟩])
 (.seq (.reg [⟨(some 18), (.mov (.t 0)), none⟩,
 ⟨(some 19), (.mov (.t 4)), none⟩,
 ⟨(some 20), (.mks true 1 16 false [(.str [])] 1 [(0, (.t 19))]), none⟩,
 ⟨(some 21), (.call (.k (.fn (.func 41) [] [])) [(.t 18), (.t 20)]), none⟩])
 (.seq (.seq (.reg [⟨(some 23), (.mov (.t 3)), none⟩,
 ⟨(some 24), (.call (.k (.fn (.func 42) [] [])) [(.t 23), (.k (.int .u8 73)), (.k (.int .i64 3))]), none⟩,
 ⟨(some 22), (.mov (.t 24)), none⟩,
 ⟨(some 25), (.ext (.t 22) 0), none⟩,
 ⟨(some 26), (.ext (.t 22) 1), none⟩,
 ⟨(some 13), (.mov (.t 25)), none⟩,
 ⟨(some 14), (.mov (.t 26)), none⟩])
 (.seq (.reg [⟨(some 27), (.mov (.t 14)), none⟩,
 ⟨(some 28), (.bin .eql .num (.t 27) (.k (.int .i64 0))), none⟩])
 (.cond (.t 28)
 (.seq (.reg [⟨(some 30), (.load 4 true (.t 6)), none⟩,
 ⟨(some 31), (.mov (.t 0)), none⟩,
 ⟨(some 32), (.mov (.t 2)), none⟩,
 ⟨(some 33), (.mov (.t 13)), none⟩,
 ⟨(some 34), (.call (.k (.fn (.func 43) [] [])) [(.t 30), (.t 31), (.t 32), (.t 33)]), none⟩,
 ⟨(some 29), (.mov (.t 34)), none⟩,
 ⟨(some 35), (.ext (.t 29) 0), none⟩,
 ⟨(some 36), (.ext (.t 29) 1), none⟩,
 ⟨none, (.store 4 (.t 10) (.t 35)), none⟩,
 ⟨none, (.store 1 (.t 11) (.t 36)), none⟩])
 (.seq (.dreg [⟨(some 37), (.load 4 true (.t 10)), none⟩,
 ⟨(some 38), (.load 1 false (.t 11)), none⟩,
 ⟨none, (.store 4 (.t 10) (.t 37)), none⟩,
 ⟨none, (.store 1 (.t 11) (.t 38)), none⟩,
 ⟨none, (.store 1 (.t 12) (.k (.int .i64 0))), none⟩] (.lin [] [(0, none), (1, none), (2, some [1]), (3, some []), (4, some [])]))
 .ret))
 .skip)))
 (.seq (.reg [⟨(some 40), (.mov (.t 3)), none⟩,
 ⟨(some 41), (.call (.k (.fn (.func 42) [] [])) [(.t 40), (.k (.int .u8 82)), (.k (.int .i64 2))]), none⟩,
 ⟨(some 39), (.mov (.t 41)), none⟩,
 ⟨(some 42), (.ext (.t 39) 0), none⟩,
 ⟨(some 43), (.ext (.t 39) 1), none⟩,
 ⟨(some 15), (.mov (.t 42)), none⟩,
 ⟨(some 16), (.mov (.t 43)), none⟩])
 (.seq (.reg [⟨(some 44), (.mov (.t 16)), none⟩,
 ⟨(some 45), (.bin .eql .num (.t 44) (.k (.int .i64 0))), none⟩,
 ⟨(some 46), (.call (.k (.fn (.func 44) [] [])) [(.t 45), (.k (.int .i64 4))]), none⟩])
 (.seq (.reg [⟨(some 48), (.load 4 true (.t 6)), none⟩,
 ⟨(some 49), (.mov (.t 0)), none⟩,
 ⟨(some 50), (.mov (.t 2)), none⟩,
 ⟨(some 51), (.mov (.t 15)), none⟩,
 ⟨(some 52), (.mov (.t 4)), none⟩,
 ⟨(some 53), (.call (.k (.fn (.func 45) [] [])) [(.t 48), (.t 49), (.t 50), (.t 51), (.t 52)]), none⟩,
 ⟨(some 47), (.mov (.t 53)), none⟩,
 ⟨(some 54), (.ext (.t 47) 0), none⟩,
 ⟨(some 55), (.ext (.t 47) 1), none⟩,
 ⟨none, (.store 4 (.t 10) (.t 54)), none⟩,
 ⟨none, (.store 1 (.t 11) (.t 55)), none⟩])
 (.seq (.dreg [⟨(some 56), (.load 4 true (.t 10)), none⟩,
 ⟨(some 57), (.load 1 false (.t 11)), none⟩,
 ⟨none, (.store 4 (.t 10) (.t 56)), none⟩,
 ⟨none, (.store 1 (.t 11) (.t 57)), none⟩,
 ⟨none, (.store 1 (.t 12) (.k (.int .i64 0))), none⟩] (.lin [] [(0, none), (1, none), (2, some [1]), (3, some []), (4, some [])]))
 .ret))))))))⟩

/-- 17: signetring/session.Find -/
def F17 : Fun :=
 ⟨19, 2, [.c 4 15 true, .t 5],
 (.seq (.reg [⟨(some 2), (.box none (.t 0)), none⟩,
 ⟨(some 4), (.new [(.str []), (.int .u64 0), (.str []), (.str []), (.str []), (.str []), (.int .i64 0), (.str []), (.int .i64 0), (.str []), (.str []), (.str []), (.str []), (.int .i64 0), .nsl] none), none⟩,
 ⟨(some 5), (.mov (.k (.bool false))), none⟩])
 (.seq (.reg [⟨(some 7), (.load 4 true (.t 2)), none⟩,
 ⟨(some 8), (.mov (.t 1)), none⟩,
 ⟨(some 9), (.call (.k (.fn (.func 51) [] [])) [(.t 7), (.t 8)]), none⟩,
 ⟨(some 6), (.mov (.t 9)), none⟩])
 (.seq (.seq (.reg [⟨(some 10), (.mov (.t 6)), none⟩,
 ⟨(some 11), (.bin .lss .num (.t 10) (.k (.int .i64 0))), none⟩])
 (.cond (.t 11)
 (.seq (.reg [⟨(some 12), (.build [(.str []), (.int .u64 0), (.str []), (.str []), (.str []), (.str []), (.int .i64 0), (.str []), (.int .i64 0), (.str []), (.str []), (.str []), (.str []), (.int .i64 0), .nsl] []), none⟩,
 ⟨none, (.store 15 (.t 4) (.t 12)), none⟩,
 ⟨(some 5), (.mov (.k (.bool false))), none⟩])
 .ret)
 .skip))
 (.seq (.reg [⟨(some 13), (.load 4 true (.t 2)), none⟩,
 ⟨(some 14), (.call (.k (.fn (.func 40) [] [])) [(.t 13)]), none⟩,
 ⟨(some 15), (.fld 3 1 false (.t 14)), none⟩,
 ⟨(some 16), (.mov (.t 6)), none⟩,
 ⟨(some 17), (.iad 15 (.t 15) (.t 16)), none⟩,
 ⟨(some 18), (.load 15 true (.t 17)), none⟩,
 ⟨none, (.store 15 (.t 4) (.t 18)), none⟩,
 ⟨(some 5), (.mov (.k (.bool true))), none⟩])
 .ret))))⟩

/-- 18: signetring/session.Offer -/
def F18 : Fun :=
 ⟨45, 3, [.c 6 4 true, .c 7 3 true, .c 8 1 false],
 (.seq (.reg [⟨(some 4), (.box none (.t 1)), none⟩,
 ⟨(some 6), (.new [(.str []), .nsl, (.int .u64 0), .nsl] none), none⟩,
 ⟨(some 7), (.new [(.str []), (.str []), (.int .u64 0)] none), none⟩,
 ⟨(some 8), (.new [(.int .i64 0)] none), none⟩])
 (.seq (.reg [⟨(some 9), (.mkf (.func 52) [] [(.t 4), (.t 6), (.t 7)]), none⟩,
 ⟨none, (.dfr (.k (.fn (.func 38) [] [])) [(.t 8), (.t 9)]), none⟩])
 (.seq (.reg [⟨(some 10), (.mov (.t 0)), none⟩,
 ⟨(some 11), (.mov (.t 2)), none⟩,
 ⟨(some 12), (.mks true 1 16 false [(.str [])] 1 [(0, (.t 11))]), none⟩,
 ⟨(some 13), (.call (.k (.fn (.func 41) [] [])) [(.t 10), (.t 12)]), none⟩])
 (.seq (.reg [⟨(some 14), (.fad 1 (.t 4)), none⟩,
 ⟨(some 15), (.load 1 false (.t 14)), none⟩,
 ⟨(some 16), (.len .slc (.t 15)), none⟩,
 ⟨(some 17), (.bin .lss .num (.t 16) (.k (.int .i64 20))), none⟩,
 ⟨(some 18), (.call (.k (.fn (.func 44) [] [])) [(.t 17), (.k (.int .i64 11))]), none⟩])
 (.seq (.reg [⟨(some 19), (.load 4 true (.t 4)), none⟩,
 ⟨(some 20), (.call (.k (.fn (.func 40) [] [])) [(.t 19)]), none⟩,
 ⟨none, (.store 4 (.t 6) (.t 20)), none⟩])
 (.seq (.reg [⟨(some 21), (.fad 2 (.t 6)), none⟩,
 ⟨(some 22), (.load 1 false (.t 21)), none⟩,
 ⟨(some 23), (.bin .add .num (.t 22) (.k (.int .u64 1))), none⟩,
 ⟨(some 24), (.fad 2 (.t 6)), none⟩,
 ⟨none, (.store 1 (.t 24) (.t 23)), none⟩])
 (.seq (.reg [⟨(some 25), (.fad 1 (.t 6)), none⟩,
 ⟨(some 26), (.load 1 false (.t 25)), none⟩,
 ⟨(some 27), (.fad 2 (.t 6)), none⟩,
 ⟨(some 28), (.load 1 false (.t 27)), none⟩,
 ⟨(some 29), (.mov (.t 2)), none⟩,
 ⟨(some 30), (.build [(.int .u64 0), (.str [])] [(0, 1, (.t 28)), (1, 1, (.t 29))]), none⟩,
 ⟨(some 31), (.mks true 2 24 true [(.int .u64 0), (.str [])] 1 [(0, (.t 30))]), none⟩,
 ⟨(some 32), (.app 2 24 true none (.t 26) (.t 31)), none⟩,
 ⟨(some 33), (.fad 1 (.t 6)), none⟩,
 ⟨none, (.store 1 (.t 33) (.t 32)), none⟩])
 (.seq (.dreg [⟨(some 34), (.load 4 true (.t 6)), none⟩,
 ⟨(some 35), (.mov (.t 0)), none⟩,
 ⟨(some 36), (.fad 0 (.t 4)), none⟩,
 ⟨(some 37), (.load 1 false (.t 36)), none⟩,
 ⟨(some 38), (.inv (.t 35) "Pub" [(.t 37)]), none⟩,
 ⟨(some 39), (.mov (.t 0)), none⟩,
 ⟨(some 40), (.mov (.t 2)), none⟩,
 ⟨(some 41), (.inv (.t 39) "Pub" [(.t 40)]), none⟩,
 ⟨(some 42), (.fad 2 (.t 6)), none⟩,
 ⟨(some 43), (.load 1 false (.t 42)), none⟩,
 ⟨(some 44), (.build [(.str []), (.str []), (.int .u64 0)] [(0, 1, (.t 38)), (1, 1, (.t 41)), (2, 1, (.t 43))]), none⟩,
 ⟨none, (.store 4 (.t 6) (.t 34)), none⟩,
 ⟨none, (.store 3 (.t 7) (.t 44)), none⟩,
 ⟨none, (.store 1 (.t 8) (.k (.int .i64 0))), none⟩] (.lin [] [(0, none), (1, none), (2, none), (3, none), (5, none), (6, none), (8, none), (9, none), (4, some [0, 5, 6, 8, 9]), (7, some [0, 8, 9]), (10, none), (11, some [10]), (12, some []), (13, some [])]))
 .ret))))))))⟩

/-- 20: signetring/prims.Symbol -/
def F20 : Fun :=
 ⟨8, 1, [.t 2],
 (.seq (.reg [⟨(some 2), (.mov (.k .nifc)), none⟩])
 (.seq (.seq (.reg [⟨(some 3), (.mov (.t 0)), none⟩,
 ⟨(some 4), (.bin .eql .ptr (.t 3) (.k .nptr)), none⟩])
 (.cond (.t 4)
 (.seq (.reg [⟨(some 2), (.mov (.k .nifc)), none⟩])
 .ret)
 .skip))
 (.seq (.reg [⟨(some 5), (.mov (.t 0)), none⟩,
 ⟨(some 6), (.build [.nptr] [(0, 1, (.t 5))]), none⟩,
 ⟨(some 7), (.mki 139 (.t 6)), none⟩,
 ⟨(some 2), (.mov (.t 7)), none⟩])
 .ret)))⟩

/-- 21: signetring/term.New -/
def F21 : Fun :=
 ⟨5, 0, [.t 0],
 (.seq (.reg [⟨(some 0), (.mov (.k .nptr)), none⟩])
 (.seq (.reg [⟨(some 1), .mkm, none⟩,
 ⟨(some 2), .mkm, none⟩,
 ⟨(some 3), (.build [.nmap, .nmap, .nsl] [(0, 1, (.t 1)), (1, 1, (.t 2))]), none⟩,
 ⟨(some 4), (.box none (.t 3)), none⟩,
 ⟨(some 0), (.mov (.t 4)), none⟩])
 .ret))⟩

/-- 27: signetring/signetringlaw22.alive -/
def F27 : Fun :=
 ⟨114, 0, [.t 0],
 (.seq (.reg [⟨(some 0), (.mov (.k (.bool false))), none⟩])
 (.seq (.reg [⟨(some 9), (.mks true 1 1 false [(.int .u8 0), (.int .u8 0), (.int .u8 0), (.int .u8 0), (.int .u8 0), (.int .u8 0), (.int .u8 0), (.int .u8 0), (.int .u8 0), (.int .u8 0)] 10 [(0, (.k (.int .u8 0))), (1, (.k (.int .u8 1))), (2, (.k (.int .u8 0))), (3, (.k (.int .u8 1))), (4, (.k (.int .u8 6))), (5, (.k (.int .u8 9))), (6, (.k (.int .u8 4))), (7, (.k (.int .u8 1))), (8, (.k (.int .u8 0))), (9, (.k (.int .u8 5)))]), none⟩,
 ⟨(some 10), (.call (.k (.fn (.func 28) [] [])) [(.t 9)]), none⟩,
 ⟨(some 1), (.mov (.t 10)), none⟩])
 (.seq (.reg [⟨(some 11), (.call (.k (.fn (.func 21) [] [])) []), none⟩,
 ⟨(some 12), (.call (.k (.fn (.func 20) [] [])) [(.t 11)]), none⟩,
 ⟨(some 2), (.mov (.t 12)), none⟩])
 (.seq (.seq (.reg [⟨(some 13), (.mov (.t 2)), none⟩,
 ⟨(some 14), (.bin .eql .ifc (.t 13) (.k .nifc)), none⟩,
 ⟨(some 15), (.mov (.t 14)), none⟩,
 ⟨(some 16), (.mov (.t 1)), some (15, false)⟩,
 ⟨(some 17), (.len .slc (.t 16)), some (15, false)⟩,
 ⟨(some 18), (.bin .neq .num (.t 17) (.k (.int .i64 3))), some (15, false)⟩,
 ⟨(some 19), (.pick (.t 15) (.k (.bool true)) (.t 18)), none⟩])
 (.cond (.t 19)
 (.seq (.reg [⟨(some 0), (.mov (.k (.bool false))), none⟩])
 .ret)
 .skip))
 (.seq (.reg [⟨(some 21), (.mov (.t 2)), none⟩,
 ⟨(some 22), (.mov (.t 1)), none⟩,
 ⟨(some 23), (.call (.k (.fn (.func 30) [] [])) [(.t 21), (.k (.int .i64 2)), (.k (.str [115, 101, 101, 100])), (.t 22)]), none⟩,
 ⟨(some 20), (.mov (.t 23)), none⟩,
 ⟨(some 24), (.ext (.t 20) 0), none⟩,
 ⟨(some 25), (.ext (.t 20) 1), none⟩,
 ⟨(some 3), (.new [.nsl, .nsl, .nsl] none), none⟩,
 ⟨none, (.store 3 (.t 3) (.t 24)), none⟩,
 ⟨(some 4), (.mov (.t 25)), none⟩])
 (.seq (.reg [⟨(some 27), (.mov (.t 2)), none⟩,
 ⟨(some 28), (.call (.k (.fn (.func 30) [] [])) [(.t 27), (.k (.int .i64 7)), (.k (.str [115, 101, 101, 100])), (.k .nsl)]), none⟩,
 ⟨(some 26), (.mov (.t 28)), none⟩,
 ⟨(some 29), (.ext (.t 26) 0), none⟩,
 ⟨(some 30), (.ext (.t 26) 1), none⟩,
 ⟨(some 5), (.new [.nsl, .nsl, .nsl] none), none⟩,
 ⟨none, (.store 3 (.t 5) (.t 29)), none⟩,
 ⟨(some 6), (.mov (.t 30)), none⟩])
 (.seq (.reg [⟨(some 32), (.call (.k (.fn (.func 30) [] [])) [(.k .nifc), (.k (.int .i64 2)), (.k (.str [115, 101, 101, 100])), (.k .nsl)]), none⟩,
 ⟨(some 31), (.mov (.t 32)), none⟩,
 ⟨(some 33), (.ext (.t 31) 0), none⟩,
 ⟨(some 34), (.ext (.t 31) 1), none⟩,
 ⟨(some 7), (.new [.nsl, .nsl, .nsl] none), none⟩,
 ⟨none, (.store 3 (.t 7) (.t 33)), none⟩,
 ⟨(some 8), (.mov (.t 34)), none⟩])
 (.seq (.reg [⟨(some 35), (.mov (.t 1)), none⟩,
 ⟨(some 36), (.iad 5 (.t 35) (.k (.int .i64 0))), none⟩,
 ⟨(some 37), (.load 5 true (.t 36)), none⟩,
 ⟨(some 38), (.build [(.int .i64 0), (.int .u8 0), (.int .u8 0), (.int .u64 0), (.str [])] [(0, 1, (.k (.int .i64 1))), (1, 1, (.k (.int .u8 1))), (4, 1, (.k (.str [116, 101, 120, 116])))]), none⟩,
 ⟨(some 39), (.bin .eql (.agg [.num, .num, .num, .num, .str]) (.t 37) (.t 38)), none⟩,
 ⟨(some 40), (.mov (.t 39)), none⟩,
 ⟨(some 41), (.mov (.t 1)), some (40, true)⟩,
 ⟨(some 42), (.iad 5 (.t 41) (.k (.int .i64 1))), some (40, true)⟩,
 ⟨(some 43), (.load 5 true (.t 42)), some (40, true)⟩,
 ⟨(some 44), (.build [(.int .i64 0), (.int .u8 0), (.int .u8 0), (.int .u64 0), (.str [])] [(0, 1, (.k (.int .i64 2))), (2, 1, (.k (.int .u8 1))), (3, 1, (.k (.int .u64 9))), (4, 1, (.k (.str [116, 101, 120, 116, 1])))]), some (40, true)⟩,
 ⟨(some 45), (.bin .eql (.agg [.num, .num, .num, .num, .str]) (.t 43) (.t 44)), some (40, true)⟩,
 ⟨(some 46), (.pick (.t 40) (.t 45) (.k (.bool false))), none⟩,
 ⟨(some 47), (.mov (.t 46)), none⟩,
 ⟨(some 48), (.mov (.t 4)), some (47, true)⟩,
 ⟨(some 49), (.bin .eql .num (.t 48) (.k (.int .i64 0))), some (47, true)⟩,
 ⟨(some 50), (.pick (.t 47) (.t 49) (.k (.bool false))), none⟩,
 ⟨(some 51), (.mov (.t 50)), none⟩,
 ⟨(some 52), (.fad 2 (.t 3)), some (51, true)⟩,
 ⟨(some 53), (.load 1 false (.t 52)), some (51, true)⟩,
 ⟨(some 54), (.len .slc (.t 53)), some (51, true)⟩,
 ⟨(some 55), (.bin .eql .num (.t 54) (.k (.int .i64 2))), some (51, true)⟩,
 ⟨(some 56), (.pick (.t 51) (.t 55) (.k (.bool false))), none⟩,
 ⟨(some 57), (.mov (.t 56)), none⟩,
 ⟨(some 58), (.fad 2 (.t 3)), some (57, true)⟩,
 ⟨(some 59), (.load 1 false (.t 58)), some (57, true)⟩,
 ⟨(some 60), (.iad 1 (.t 59) (.k (.int .i64 1))), some (57, true)⟩,
 ⟨(some 61), (.load 1 false (.t 60)), some (57, true)⟩,
 ⟨(some 62), (.len .slc (.t 61)), some (57, true)⟩,
 ⟨(some 63), (.bin .eql .num (.t 62) (.k (.int .i64 1))), some (57, true)⟩,
 ⟨(some 64), (.pick (.t 57) (.t 63) (.k (.bool false))), none⟩,
 ⟨(some 65), (.mov (.t 64)), none⟩,
 ⟨(some 66), (.fad 2 (.t 3)), some (65, true)⟩,
 ⟨(some 67), (.load 1 false (.t 66)), some (65, true)⟩,
 ⟨(some 68), (.iad 1 (.t 67) (.k (.int .i64 1))), some (65, true)⟩,
 ⟨(some 69), (.load 1 false (.t 68)), some (65, true)⟩,
 ⟨(some 70), (.iad 2 (.t 69) (.k (.int .i64 0))), some (65, true)⟩,
 ⟨(some 71), (.fad 1 (.t 70)), some (65, true)⟩,
 ⟨(some 72), (.load 1 false (.t 71)), some (65, true)⟩,
 ⟨(some 73), (.bin .eql .str (.t 72) (.k (.str [116, 101, 120, 116, 1]))), some (65, true)⟩,
 ⟨(some 74), (.pick (.t 65) (.t 73) (.k (.bool false))), none⟩,
 ⟨(some 75), (.mov (.t 74)), none⟩,
 ⟨(some 76), (.fad 0 (.t 3)), some (75, true)⟩,
 ⟨(some 77), (.load 1 false (.t 76)), some (75, true)⟩,
 ⟨(some 78), (.len .slc (.t 77)), some (75, true)⟩,
 ⟨(some 79), (.bin .eql .num (.t 78) (.k (.int .i64 3))), some (75, true)⟩,
 ⟨(some 80), (.pick (.t 75) (.t 79) (.k (.bool false))), none⟩,
 ⟨(some 81), (.mov (.t 80)), none⟩,
 ⟨(some 82), (.fad 0 (.t 3)), some (81, true)⟩,
 ⟨(some 83), (.load 1 false (.t 82)), some (81, true)⟩,
 ⟨(some 84), (.iad 1 (.t 83) (.k (.int .i64 2))), some (81, true)⟩,
 ⟨(some 85), (.load 1 false (.t 84)), some (81, true)⟩,
 ⟨(some 86), (.bin .eql .str (.t 85) (.k (.str [116, 101, 120, 116, 1]))), some (81, true)⟩,
 ⟨(some 87), (.pick (.t 81) (.t 86) (.k (.bool false))), none⟩,
 ⟨(some 88), (.mov (.t 87)), none⟩,
 ⟨(some 89), (.fad 1 (.t 3)), some (88, true)⟩,
 ⟨(some 90), (.load 1 false (.t 89)), some (88, true)⟩,
 ⟨(some 91), (.iad 1 (.t 90) (.k (.int .i64 2))), some (88, true)⟩,
 ⟨(some 92), (.load 1 false (.t 91)), some (88, true)⟩,
 ⟨(some 93), (.bin .eql .num (.t 92) (.k (.int .i64 0))), some (88, true)⟩,
 ⟨(some 94), (.pick (.t 88) (.t 93) (.k (.bool false))), none⟩,
 ⟨(some 95), (.mov (.t 94)), none⟩,
 ⟨(some 96), (.mov (.t 6)), some (95, true)⟩,
 ⟨(some 97), (.bin .eql .num (.t 96) (.k (.int .i64 2))), some (95, true)⟩,
 ⟨(some 98), (.pick (.t 95) (.t 97) (.k (.bool false))), none⟩,
 ⟨(some 99), (.mov (.t 98)), none⟩,
 ⟨(some 100), (.mov (.t 8)), some (99, true)⟩,
 ⟨(some 101), (.bin .eql .num (.t 100) (.k (.int .i64 1))), some (99, true)⟩,
 ⟨(some 102), (.pick (.t 99) (.t 101) (.k (.bool false))), none⟩,
 ⟨(some 103), (.mov (.t 102)), none⟩,
 ⟨(some 104), (.load 3 true (.t 3)), some (103, true)⟩,
 ⟨(some 105), (.load 3 true (.t 3)), some (103, true)⟩,
 ⟨(some 106), (.call (.k (.fn (.func 31) [] [])) [(.t 104), (.t 105)]), some (103, true)⟩,
 ⟨(some 107), (.pick (.t 103) (.t 106) (.k (.bool false))), none⟩,
 ⟨(some 108), (.mov (.t 107)), none⟩,
 ⟨(some 109), (.load 3 true (.t 3)), some (108, true)⟩,
 ⟨(some 110), (.build [.nsl, .nsl, .nsl] []), some (108, true)⟩,
 ⟨(some 111), (.call (.k (.fn (.func 31) [] [])) [(.t 109), (.t 110)]), some (108, true)⟩,
 ⟨(some 112), (.un .not (.t 111)), some (108, true)⟩,
 ⟨(some 113), (.pick (.t 108) (.t 112) (.k (.bool false))), none⟩,
 ⟨(some 0), (.mov (.t 113)), none⟩])
 .ret))))))))⟩

/-- 30: signetring/script.Run -/
def F30 : Fun :=
 ⟨73, 4, [.c 8 3 true, .t 9],
 (.seq (.reg [⟨(some 8), (.new [.nsl, .nsl, .nsl] none), none⟩,
 ⟨(some 9), (.mov (.k (.int .i64 0))), none⟩])
 (.seq (.seq (.reg [⟨(some 17), (.mov (.t 0)), none⟩,
 ⟨(some 18), (.bin .eql .ifc (.t 17) (.k .nifc)), none⟩])
 (.cond (.t 18)
 (.seq (.reg [⟨(some 19), (.build [.nsl, .nsl, .nsl] []), none⟩,
 ⟨none, (.store 3 (.t 8) (.t 19)), none⟩,
 ⟨(some 9), (.mov (.k (.int .i64 1))), none⟩])
 .ret)
 .skip))
 (.seq (.reg [⟨(some 20), (.mov (.t 0)), none⟩,
 ⟨(some 21), (.mov (.t 1)), none⟩,
 ⟨(some 22), (.mov (.t 2)), none⟩,
 ⟨(some 23), (.call (.k (.fn (.func 69) [] [])) [(.t 20), (.t 21), (.t 22)]), none⟩,
 ⟨(some 10), (.mov (.t 23)), none⟩])
 (.seq (.block 0
 (.seq (.reg [⟨(some 25), (.mov (.t 10)), none⟩,
 ⟨(some 26), (.bin .eql .ptr (.t 25) (.k .nptr)), none⟩,
 ⟨(some 24), (.mov (.t 26)), none⟩])
 (.cond (.t 24)
 (.seq (.reg [⟨(some 27), (.build [.nsl, .nsl, .nsl] []), none⟩,
 ⟨none, (.store 3 (.t 8) (.t 27)), none⟩,
 ⟨(some 9), (.mov (.k (.int .i64 2))), none⟩])
 .ret)
 (.seq (.reg [⟨(some 29), (.mov (.t 3)), none⟩,
 ⟨(some 30), (.len .slc (.t 29)), none⟩,
 ⟨(some 31), (.bin .gtr .num (.t 30) (.k (.int .i64 500))), none⟩,
 ⟨(some 28), (.mov (.t 31)), none⟩])
 (.cond (.t 28)
 (.seq (.reg [⟨(some 32), (.build [.nsl, .nsl, .nsl] []), none⟩,
 ⟨none, (.store 3 (.t 8) (.t 32)), none⟩,
 ⟨(some 9), (.mov (.k (.int .i64 3))), none⟩])
 .ret)
 .skip)))))
 (.seq (.reg [⟨(some 11), (.new [.nsl, .nsl, .nsl] none), none⟩])
 (.seq (.seq (.reg [⟨(some 33), (.mov (.t 3)), none⟩,
 ⟨(some 34), (.len .slc (.t 33)), none⟩,
 ⟨(some 35), (.mov (.k (.int .i64 0))), none⟩])
 (.block 1
 (.loop
 (.seq (.reg [⟨(some 36), (.bin .lss .num (.t 35) (.t 34)), none⟩])
 (.seq (.cond (.t 36)
 .skip
 (.exit 1))
 (.seq (.block 2
 (.seq (.reg [⟨(some 37), (.iad 5 (.t 33) (.t 35)), none⟩,
 ⟨(some 38), (.load 5 true (.t 37)), none⟩,
 ⟨(some 13), (.new [(.int .i64 0), (.int .u8 0), (.int .u8 0), (.int .u64 0), (.str [])] none), none⟩,
 ⟨none, (.store 5 (.t 13) (.t 38)), none⟩])
 (.seq (.reg [⟨(some 40), (.mov (.t 10)), none⟩,
 ⟨(some 41), (.load 5 true (.t 13)), none⟩,
 ⟨(some 42), (.call (.k (.fn (.func 70) [] [])) [(.t 40), (.t 41)]), none⟩,
 ⟨(some 39), (.mov (.t 42)), none⟩,
 ⟨(some 43), (.ext (.t 39) 0), none⟩,
 ⟨(some 44), (.ext (.t 39) 1), none⟩,
 ⟨(some 14), (.mov (.t 43)), none⟩,
 ⟨(some 15), (.mov (.t 44)), none⟩])
 (.dreg [⟨(some 45), (.fad 0 (.t 11)), none⟩,
 ⟨(some 46), (.load 1 false (.t 45)), none⟩,
 ⟨(some 47), (.mov (.t 14)), none⟩,
 ⟨(some 48), (.mks true 1 16 false [(.str [])] 1 [(0, (.t 47))]), none⟩,
 ⟨(some 49), (.app 1 16 false none (.t 46) (.t 48)), none⟩,
 ⟨(some 50), (.fad 1 (.t 11)), none⟩,
 ⟨(some 51), (.load 1 false (.t 50)), none⟩,
 ⟨(some 52), (.mov (.t 15)), none⟩,
 ⟨(some 53), (.mks true 1 8 false [(.int .i64 0)] 1 [(0, (.t 52))]), none⟩,
 ⟨(some 54), (.app 1 8 false none (.t 51) (.t 53)), none⟩,
 ⟨(some 55), (.fad 0 (.t 11)), none⟩,
 ⟨none, (.store 1 (.t 55) (.t 49)), none⟩,
 ⟨(some 56), (.fad 1 (.t 11)), none⟩,
 ⟨none, (.store 1 (.t 56) (.t 54)), none⟩] (.lin [] [(0, none), (1, none), (2, none), (3, none), (5, none), (6, none), (7, none), (8, none), (4, some [5, 6, 7, 8]), (10, none), (9, some [10]), (11, some []), (12, none), (13, some [])])))))
 (.reg [⟨(some 57), (.bin .add .num (.t 35) (.k (.int .i64 1))), none⟩,
 ⟨(some 35), (.mov (.t 57)), none⟩])))))))
 (.seq (.seq (.reg [⟨(some 58), (.mov (.t 1)), none⟩,
 ⟨(some 59), (.mov (.k (.int .i64 0))), none⟩])
 (.block 3
 (.loop
 (.seq (.reg [⟨(some 60), (.bin .lss .num (.t 59) (.t 58)), none⟩])
 (.seq (.cond (.t 60)
 .skip
 (.exit 3))
 (.seq (.block 4
 (.seq (.reg [⟨(some 61), (.mov (.t 59)), none⟩,
 ⟨(some 16), (.mov (.t 61)), none⟩])
 (.dreg [⟨(some 62), (.fad 2 (.t 11)), none⟩,
 ⟨(some 63), (.load 1 false (.t 62)), none⟩,
 ⟨(some 64), (.mov (.t 10)), none⟩,
 ⟨(some 65), (.mov (.t 16)), none⟩,
 ⟨(some 66), (.cvi .u8 (.t 65)), none⟩,
 ⟨(some 67), (.call (.k (.fn (.func 71) [] [])) [(.t 64), (.t 66)]), none⟩,
 ⟨(some 68), (.mks true 1 24 false [.nsl] 1 [(0, (.t 67))]), none⟩,
 ⟨(some 69), (.app 1 24 false none (.t 63) (.t 68)), none⟩,
 ⟨(some 70), (.fad 2 (.t 11)), none⟩,
 ⟨none, (.store 1 (.t 70) (.t 69)), none⟩] (.lin [] [(0, none), (1, none), (2, none), (3, none), (4, none), (5, some [0, 1]), (6, none), (7, some []), (8, none), (9, some [])]))))
 (.reg [⟨(some 71), (.bin .add .num (.t 59) (.k (.int .i64 1))), none⟩,
 ⟨(some 59), (.mov (.t 71)), none⟩])))))))
 (.seq (.reg [⟨(some 72), (.load 3 true (.t 11)), none⟩,
 ⟨none, (.store 3 (.t 8) (.t 72)), none⟩,
 ⟨(some 9), (.mov (.k (.int .i64 0))), none⟩])
 .ret))))))))⟩

/-- 31: signetring/script.Same -/
def F31 : Fun :=
 ⟨24, 2, [.t 4],
 (.seq (.reg [⟨(some 2), (.box none (.t 0)), none⟩,
 ⟨(some 3), (.box none (.t 1)), none⟩,
 ⟨(some 4), (.mov (.k (.bool false))), none⟩])
 (.seq (.reg [⟨(some 5), (.fad 0 (.t 2)), none⟩,
 ⟨(some 6), (.load 1 false (.t 5)), none⟩,
 ⟨(some 7), (.fad 0 (.t 3)), none⟩,
 ⟨(some 8), (.load 1 false (.t 7)), none⟩,
 ⟨(some 9), (.call (.k (.fn (.func 72) [] [])) [(.t 6), (.t 8)]), none⟩,
 ⟨(some 10), (.mov (.t 9)), none⟩,
 ⟨(some 11), (.fad 1 (.t 2)), some (10, true)⟩,
 ⟨(some 12), (.load 1 false (.t 11)), some (10, true)⟩,
 ⟨(some 13), (.fad 1 (.t 3)), some (10, true)⟩,
 ⟨(some 14), (.load 1 false (.t 13)), some (10, true)⟩,
 ⟨(some 15), (.call (.k (.fn (.func 73) [] [])) [(.t 12), (.t 14)]), some (10, true)⟩,
 ⟨(some 16), (.pick (.t 10) (.t 15) (.k (.bool false))), none⟩,
 ⟨(some 17), (.mov (.t 16)), none⟩,
 ⟨(some 18), (.fad 2 (.t 2)), some (17, true)⟩,
 ⟨(some 19), (.load 1 false (.t 18)), some (17, true)⟩,
 ⟨(some 20), (.fad 2 (.t 3)), some (17, true)⟩,
 ⟨(some 21), (.load 1 false (.t 20)), some (17, true)⟩,
 ⟨(some 22), (.call (.k (.fn (.func 74) [] [])) [(.t 19), (.t 21), (.k (.fn (.func 75) [] []))]), some (17, true)⟩,
 ⟨(some 23), (.pick (.t 17) (.t 22) (.k (.bool false))), none⟩,
 ⟨(some 4), (.mov (.t 23)), none⟩])
 .ret))⟩

/-- 32: signetring/session.New -/
def F32 : Fun :=
 ⟨13, 2, [.c 4 4 true, .c 5 1 false],
 (.seq (.reg [⟨(some 4), (.new [(.str []), .nsl, (.int .u64 0), .nsl] none), none⟩,
 ⟨(some 5), (.new [(.int .i64 0)] none), none⟩])
 (.seq (.reg [⟨(some 6), (.mkf (.func 76) [] [(.t 4)]), none⟩,
 ⟨none, (.dfr (.k (.fn (.func 38) [] [])) [(.t 5), (.t 6)]), none⟩])
 (.seq (.reg [⟨(some 7), (.mov (.t 0)), none⟩,
 ⟨(some 8), (.mov (.t 1)), none⟩,
 ⟨(some 9), (.mks true 1 16 false [(.str [])] 1 [(0, (.t 8))]), none⟩,
 ⟨(some 10), (.call (.k (.fn (.func 41) [] [])) [(.t 7), (.t 9)]), none⟩])
 (.seq (.reg [⟨(some 11), (.mov (.t 1)), none⟩,
 ⟨(some 12), (.build [(.str []), .nsl, (.int .u64 0), .nsl] [(0, 1, (.t 11))]), none⟩,
 ⟨none, (.store 4 (.t 4) (.t 12)), none⟩,
 ⟨none, (.store 1 (.t 5) (.k (.int .i64 0))), none⟩])
 .ret))))⟩

/-- 34: signetring/session.Begin -/
def F34 : Fun :=
 ⟨103, 5, [.c 10 4 true, .c 11 1 false, .c 12 1 false],
 (.seq (.reg [⟨(some 6), (.box none (.t 1)), none⟩,
 ⟨(some 7), (.box none (.t 2)), none⟩,
 ⟨(some 9), (.box none (.t 4)), none⟩,
 ⟨(some 10), (.new [(.str []), .nsl, (.int .u64 0), .nsl] none), none⟩,
 ⟨(some 11), (.new [(.str [])] none), none⟩,
 ⟨(some 12), (.new [(.int .i64 0)] none), none⟩])
 (.seq (.reg [⟨(some 20), (.mkf (.func 77) [] [(.t 6), (.t 10), (.t 11)]), none⟩,
 ⟨none, (.dfr (.k (.fn (.func 38) [] [])) [(.t 12), (.t 20)]), none⟩])
 (.seq (.reg [⟨(some 21), (.mov (.t 0)), none⟩,
 ⟨(some 22), (.slca 2 1 false (.t 9) none none none), none⟩,
 ⟨(some 23), (.call (.k (.fn (.func 41) [] [])) [(.t 21), (.t 22)]), none⟩])
 (.seq (.dreg [⟨(some 24), (.fad 0 (.t 7)), none⟩,
 ⟨(some 25), (.load 1 false (.t 24)), none⟩,
 ⟨(some 26), (.mov (.t 0)), none⟩,
 ⟨(some 27), (.fad 0 (.t 6)), none⟩,
 ⟨(some 28), (.load 1 false (.t 27)), none⟩,
 ⟨(some 29), (.inv (.t 26) "Pub" [(.t 28)]), none⟩,
 ⟨(some 30), (.bin .neq .str (.t 25) (.t 29)), none⟩,
 ⟨(some 31), (.call (.k (.fn (.func 44) [] [])) [(.t 30), (.k (.int .i64 10))]), none⟩] (.lin [] [(0, none), (1, none), (2, none), (3, none), (4, none), (5, some [0, 1]), (6, none), (7, some [])]))
 (.seq (.reg [⟨(some 33), (.load 4 true (.t 6)), none⟩,
 ⟨(some 34), (.fad 0 (.t 7)), none⟩,
 ⟨(some 35), (.load 1 false (.t 34)), none⟩,
 ⟨(some 36), (.call (.k (.fn (.func 17) [] [])) [(.t 33), (.t 35)]), none⟩,
 ⟨(some 32), (.mov (.t 36)), none⟩,
 ⟨(some 37), (.ext (.t 32) 0), none⟩,
 ⟨(some 38), (.ext (.t 32) 1), none⟩,
 ⟨(some 13), (.new [(.str []), (.int .u64 0), (.str []), (.str []), (.str []), (.str []), (.int .i64 0), (.str []), (.int .i64 0), (.str []), (.str []), (.str []), (.str []), (.int .i64 0), .nsl] none), none⟩,
 ⟨none, (.store 15 (.t 13) (.t 37)), none⟩,
 ⟨(some 14), (.mov (.t 38)), none⟩])
 (.seq (.reg [⟨(some 39), (.fad 1 (.t 13)), none⟩,
 ⟨(some 40), (.load 1 false (.t 39)), none⟩,
 ⟨(some 41), (.bin .add .num (.t 40) (.k (.int .u64 1))), none⟩,
 ⟨(some 15), (.mov (.t 41)), none⟩])
 (.seq (.dreg [⟨(some 43), (.mov (.t 0)), none⟩,
 ⟨(some 44), (.fad 0 (.t 6)), none⟩,
 ⟨(some 45), (.load 1 false (.t 44)), none⟩,
 ⟨(some 46), (.iada 2 1 (.t 9) (.k (.int .i64 0))), none⟩,
 ⟨(some 47), (.load 1 false (.t 46)), none⟩,
 ⟨(some 48), (.fad 0 (.t 7)), none⟩,
 ⟨(some 49), (.load 1 false (.t 48)), none⟩,
 ⟨(some 50), (.load 3 true (.t 7)), none⟩,
 ⟨(some 51), (.mov (.t 15)), none⟩,
 ⟨(some 52), (.call (.k (.fn (.func 79) [] [])) [(.t 50), (.t 51)]), none⟩,
 ⟨(some 53), (.mov (.t 3)), none⟩,
 ⟨(some 54), (.call (.k (.fn (.func 78) [] [])) [(.t 43), (.t 45), (.t 47), (.t 49), (.t 52), (.t 53)]), none⟩,
 ⟨(some 42), (.mov (.t 54)), none⟩,
 ⟨(some 55), (.ext (.t 42) 0), none⟩,
 ⟨(some 56), (.ext (.t 42) 1), none⟩,
 ⟨(some 57), (.ext (.t 42) 2), none⟩,
 ⟨(some 17), (.new [(.str []), (.str []), (.str []), (.str [])] none), none⟩,
 ⟨(some 16), (.mov (.t 55)), none⟩,
 ⟨none, (.store 4 (.t 17) (.t 56)), none⟩,
 ⟨none, (.store 1 (.t 12) (.t 57)), none⟩] (.lin [16] [(0, none), (1, none), (2, none), (3, none), (4, none), (5, none), (6, none), (7, none), (8, none), (10, none), (9, some [0, 1, 2, 3, 4, 5, 6, 10]), (11, some []), (12, none), (13, none), (14, none), (15, none), (17, none), (18, some [15]), (19, some [])]))
 (.seq (.reg [⟨(some 58), (.load 1 false (.t 12)), none⟩,
 ⟨(some 59), (.bin .eql .num (.t 58) (.k (.int .i64 0))), none⟩,
 ⟨(some 60), (.load 1 false (.t 12)), none⟩,
 ⟨(some 61), (.call (.k (.fn (.func 44) [] [])) [(.t 59), (.t 60)]), none⟩])
 (.seq (.reg [⟨(some 62), (.mov (.t 0)), none⟩,
 ⟨(some 63), (.fad 1 (.t 17)), none⟩,
 ⟨(some 64), (.load 1 false (.t 63)), none⟩,
 ⟨(some 65), (.fad 2 (.t 17)), none⟩,
 ⟨(some 66), (.load 1 false (.t 65)), none⟩,
 ⟨(some 67), (.call (.k (.fn (.func 80) [] [])) [(.t 62), (.t 64), (.t 66)]), none⟩,
 ⟨(some 18), (.new [(.str []), (.str []), (.str [])] none), none⟩,
 ⟨none, (.store 3 (.t 18) (.t 67)), none⟩])
 (.seq (.reg [⟨(some 69), (.mov (.t 0)), none⟩,
 ⟨(some 70), (.iada 3 1 (.t 18) (.k (.int .i64 0))), none⟩,
 ⟨(some 71), (.load 1 false (.t 70)), none⟩,
 ⟨(some 72), (.iada 3 1 (.t 18) (.k (.int .i64 1))), none⟩,
 ⟨(some 73), (.load 1 false (.t 72)), none⟩,
 ⟨(some 74), (.iada 3 1 (.t 18) (.k (.int .i64 2))), none⟩,
 ⟨(some 75), (.load 1 false (.t 74)), none⟩,
 ⟨(some 76), (.fad 1 (.t 7)), none⟩,
 ⟨(some 77), (.load 1 false (.t 76)), none⟩,
 ⟨(some 78), (.iada 2 1 (.t 9) (.k (.int .i64 1))), none⟩,
 ⟨(some 79), (.load 1 false (.t 78)), none⟩,
 ⟨(some 80), (.call (.k (.fn (.func 81) [] [])) [(.t 69), (.t 71), (.t 73), (.t 75), (.t 77), (.t 79)]), none⟩,
 ⟨(some 68), (.mov (.t 80)), none⟩,
 ⟨(some 81), (.ext (.t 68) 0), none⟩,
 ⟨(some 82), (.ext (.t 68) 1), none⟩,
 ⟨(some 19), (.new [(.str []), (.str []), (.str []), (.str []), (.int .i64 0), (.str []), (.int .i64 0), (.str []), (.str []), (.str []), (.str []), (.int .i64 0), .nsl] none), none⟩,
 ⟨none, (.store 13 (.t 19) (.t 81)), none⟩,
 ⟨none, (.store 1 (.t 12) (.t 82)), none⟩])
 (.seq (.reg [⟨(some 83), (.load 1 false (.t 12)), none⟩,
 ⟨(some 84), (.bin .eql .num (.t 83) (.k (.int .i64 0))), none⟩,
 ⟨(some 85), (.load 1 false (.t 12)), none⟩,
 ⟨(some 86), (.call (.k (.fn (.func 44) [] [])) [(.t 84), (.t 85)]), none⟩])
 (.seq (.reg [⟨(some 87), (.fad 2 (.t 7)), none⟩,
 ⟨(some 88), (.load 1 false (.t 87)), none⟩,
 ⟨(some 89), (.call (.k (.fn (.func 67) [] [])) [(.t 88)]), none⟩,
 ⟨(some 90), (.mov (.t 15)), none⟩,
 ⟨(some 91), (.call (.k (.fn (.func 67) [] [])) [(.t 90)]), none⟩,
 ⟨(some 92), (.mov (.t 16)), none⟩,
 ⟨(some 93), (.mks true 1 16 false [(.str []), (.str []), (.str [])] 3 [(0, (.t 89)), (1, (.t 91)), (2, (.t 92))]), none⟩,
 ⟨(some 94), (.call (.k (.fn (.func 82) [] [])) [(.k (.int .u8 73)), (.t 93)]), none⟩,
 ⟨none, (.store 1 (.t 11) (.t 94)), none⟩])
 (.seq (.dreg [⟨(some 95), (.load 4 true (.t 6)), none⟩,
 ⟨(some 96), (.fad 0 (.t 7)), none⟩,
 ⟨(some 97), (.load 1 false (.t 96)), none⟩,
 ⟨(some 98), (.mov (.t 15)), none⟩,
 ⟨(some 99), (.load 13 true (.t 19)), none⟩,
 ⟨(some 100), (.build [(.str []), (.int .u64 0), (.str []), (.str []), (.str []), (.str []), (.int .i64 0), (.str []), (.int .i64 0), (.str []), (.str []), (.str []), (.str []), (.int .i64 0), .nsl] [(0, 1, (.t 97)), (1, 1, (.t 98)), (2, 13, (.t 99))]), none⟩,
 ⟨(some 101), (.call (.k (.fn (.func 83) [] [])) [(.t 95), (.t 100)]), none⟩,
 ⟨(some 102), (.load 1 false (.t 11)), none⟩,
 ⟨none, (.store 4 (.t 10) (.t 101)), none⟩,
 ⟨none, (.store 1 (.t 11) (.t 102)), none⟩,
 ⟨none, (.store 1 (.t 12) (.k (.int .i64 0))), none⟩] (.lin [] [(0, none), (1, none), (2, none), (3, none), (4, none), (5, none), (7, none), (6, some [7]), (8, some [7]), (9, some []), (10, some [])]))
 .ret)))))))))))))⟩

/-- 38: signetring/session.held -/
def F38 : Fun :=
 ⟨18, 2, [],
 (.seq (.reg [⟨(some 7), .recov, none⟩])
 (.block 0
 (.seq (.reg [⟨(some 9), (.bin .eql .ifc (.t 7) (.k .nifc)), none⟩])
 (.cond (.t 9)
 (.reg [⟨(some 4), (.mov (.t 7)), none⟩])
 (.seq (.reg [⟨(some 10), (.asrt 48 (.int .i64 0) (.t 7) true), none⟩,
 ⟨(some 11), (.ext (.t 10) 1), none⟩,
 ⟨(some 12), (.ext (.t 10) 0), none⟩])
 (.cond (.t 11)
 (.seq (.reg [⟨(some 5), (.mov (.t 12)), none⟩])
 (.seq (.reg [⟨(some 13), (.mov (.t 0)), none⟩,
 ⟨(some 14), (.mov (.t 5)), none⟩,
 ⟨(some 15), (.nilck (.t 13)), none⟩,
 ⟨none, (.store 1 (.t 15) (.t 14)), none⟩])
 (.reg [⟨(some 16), (.mov (.t 1)), none⟩,
 ⟨(some 17), (.call (.t 16) []), none⟩])))
 (.seq (.reg [⟨(some 6), (.mov (.t 7)), none⟩])
 (.reg [⟨(some 8), (.mov (.t 6)), none⟩,
 ⟨none, (.pan (.t 8)), none⟩]))))))))⟩

/-- 40: (signetring/session.Device).own -/
def F40 : Fun :=
 ⟨34, 1, [.c 2 4 true],
 (.seq (.reg [⟨(some 1), (.box none (.t 0)), none⟩,
 ⟨(some 2), (.new [(.str []), .nsl, (.int .u64 0), .nsl] none), none⟩])
 (.seq (.dreg [⟨(some 4), (.fad 1 (.t 1)), none⟩,
 ⟨(some 5), (.load 1 false (.t 4)), none⟩,
 ⟨(some 6), (.call (.k (.fn (.func 87) [] [])) [(.t 5)]), none⟩,
 ⟨(some 7), (.fad 3 (.t 1)), none⟩,
 ⟨(some 8), (.load 1 false (.t 7)), none⟩,
 ⟨(some 9), (.call (.k (.fn (.func 88) [] [])) [(.t 8)]), none⟩,
 ⟨(some 10), (.fad 1 (.t 1)), none⟩,
 ⟨none, (.store 1 (.t 10) (.t 6)), none⟩,
 ⟨(some 11), (.fad 3 (.t 1)), none⟩,
 ⟨none, (.store 1 (.t 11) (.t 9)), none⟩] (.lin [] [(0, none), (1, none), (3, none), (4, none), (2, some [3, 4]), (6, none), (5, some [6]), (7, some []), (8, none), (9, some [])]))
 (.seq (.seq (.reg [⟨(some 12), (.fad 3 (.t 1)), none⟩,
 ⟨(some 13), (.load 1 false (.t 12)), none⟩,
 ⟨(some 14), (.len .slc (.t 13)), none⟩,
 ⟨(some 15), (.mov (.k (.int .i64 0))), none⟩])
 (.block 0
 (.loop
 (.seq (.reg [⟨(some 16), (.bin .lss .num (.t 15) (.t 14)), none⟩])
 (.seq (.cond (.t 16)
 .skip
 (.exit 0))
 (.seq (.block 1
 (.seq (.reg [⟨(some 17), (.mov (.t 15)), none⟩,
 ⟨(some 3), (.mov (.t 17)), none⟩])
 (.dreg [⟨(some 18), (.fad 3 (.t 1)), none⟩,
 ⟨(some 19), (.load 1 false (.t 18)), none⟩,
 ⟨(some 20), (.mov (.t 3)), none⟩,
 ⟨(some 21), (.fad 3 (.t 1)), none⟩,
 ⟨(some 22), (.load 1 false (.t 21)), none⟩,
 ⟨(some 23), (.mov (.t 3)), none⟩,
 ⟨(some 24), (.iad 15 (.t 22) (.t 23)), none⟩,
 ⟨(some 25), (.fad 2 (.t 24)), none⟩,
 ⟨(some 26), (.fad 12 (.t 25)), none⟩,
 ⟨(some 27), (.load 1 false (.t 26)), none⟩,
 ⟨(some 28), (.call (.k (.fn (.func 89) [] [])) [(.t 27)]), none⟩,
 ⟨(some 29), (.iad 15 (.t 19) (.t 20)), none⟩,
 ⟨(some 30), (.fad 2 (.t 29)), none⟩,
 ⟨(some 31), (.fad 12 (.t 30)), none⟩,
 ⟨none, (.store 1 (.t 31) (.t 28)), none⟩] (.lin [] [(0, none), (1, none), (2, none), (3, none), (4, none), (5, none), (6, none), (7, none), (8, none), (9, none), (10, some [0, 1, 2]), (11, none), (12, none), (13, none), (14, some [])]))))
 (.reg [⟨(some 32), (.bin .add .num (.t 15) (.k (.int .i64 1))), none⟩,
 ⟨(some 15), (.mov (.t 32)), none⟩])))))))
 (.seq (.reg [⟨(some 33), (.load 4 true (.t 1)), none⟩,
 ⟨none, (.store 4 (.t 2) (.t 33)), none⟩])
 .ret))))⟩

/-- 41: signetring/session.drawn -/
def F41 : Fun :=
 ⟨20, 2, [],
 (.seq (.reg [⟨(some 6), (.mov (.t 0)), none⟩,
 ⟨(some 7), (.bin .neq .ifc (.t 6) (.k .nifc)), none⟩,
 ⟨(some 8), (.call (.k (.fn (.func 44) [] [])) [(.t 7), (.k (.int .i64 1))]), none⟩])
 (.seq (.reg [⟨(some 9), (.mov (.t 1)), none⟩,
 ⟨(some 10), (.len .slc (.t 9)), none⟩,
 ⟨(some 11), (.mov (.k (.int .i64 0))), none⟩])
 (.block 0
 (.loop
 (.seq (.reg [⟨(some 12), (.bin .lss .num (.t 11) (.t 10)), none⟩])
 (.seq (.cond (.t 12)
 .skip
 (.exit 0))
 (.seq (.block 1
 (.seq (.reg [⟨(some 13), (.iad 1 (.t 9) (.t 11)), none⟩,
 ⟨(some 14), (.load 1 false (.t 13)), none⟩,
 ⟨(some 5), (.mov (.t 14)), none⟩])
 (.reg [⟨(some 15), (.mov (.t 5)), none⟩,
 ⟨(some 16), (.len .str (.t 15)), none⟩,
 ⟨(some 17), (.bin .eql .num (.t 16) (.k (.int .i64 32))), none⟩,
 ⟨(some 18), (.call (.k (.fn (.func 44) [] [])) [(.t 17), (.k (.int .i64 2))]), none⟩])))
 (.reg [⟨(some 19), (.bin .add .num (.t 11) (.k (.int .i64 1))), none⟩,
 ⟨(some 11), (.mov (.t 19)), none⟩]))))))))⟩

/-- 42: signetring/codec.Take -/
def F42 : Fun :=
 ⟨31, 3, [.t 6, .t 7],
 (.seq (.reg [⟨(some 6), (.mov (.k .nsl)), none⟩,
 ⟨(some 7), (.mov (.k (.int .i64 0))), none⟩])
 (.seq (.reg [⟨(some 12), (.mov (.t 0)), none⟩,
 ⟨(some 13), (.call (.k (.fn (.func 90) [] [])) [(.t 12)]), none⟩,
 ⟨(some 11), (.mov (.t 13)), none⟩,
 ⟨(some 14), (.ext (.t 11) 0), none⟩,
 ⟨(some 15), (.ext (.t 11) 1), none⟩,
 ⟨(some 16), (.ext (.t 11) 2), none⟩,
 ⟨(some 8), (.mov (.t 14)), none⟩,
 ⟨(some 9), (.mov (.t 15)), none⟩,
 ⟨(some 10), (.mov (.t 16)), none⟩])
 (.seq (.seq (.reg [⟨(some 17), (.mov (.t 10)), none⟩,
 ⟨(some 18), (.bin .neq .num (.t 17) (.k (.int .i64 0))), none⟩,
 ⟨(some 19), (.mov (.t 18)), none⟩,
 ⟨(some 20), (.mov (.t 8)), some (19, false)⟩,
 ⟨(some 21), (.mov (.t 1)), some (19, false)⟩,
 ⟨(some 22), (.bin .neq .num (.t 20) (.t 21)), some (19, false)⟩,
 ⟨(some 23), (.pick (.t 19) (.k (.bool true)) (.t 22)), none⟩,
 ⟨(some 24), (.mov (.t 23)), none⟩,
 ⟨(some 25), (.mov (.t 9)), some (24, false)⟩,
 ⟨(some 26), (.len .slc (.t 25)), some (24, false)⟩,
 ⟨(some 27), (.mov (.t 2)), some (24, false)⟩,
 ⟨(some 28), (.bin .neq .num (.t 26) (.t 27)), some (24, false)⟩,
 ⟨(some 29), (.pick (.t 24) (.k (.bool true)) (.t 28)), none⟩])
 (.cond (.t 29)
 (.seq (.reg [⟨(some 6), (.mov (.k .nsl)), none⟩,
 ⟨(some 7), (.mov (.k (.int .i64 4))), none⟩])
 .ret)
 .skip))
 (.seq (.reg [⟨(some 30), (.mov (.t 9)), none⟩,
 ⟨(some 6), (.mov (.t 30)), none⟩,
 ⟨(some 7), (.mov (.k (.int .i64 0))), none⟩])
 .ret))))⟩

/-- 43: (signetring/session.Device).begun -/
def F43 : Fun :=
 ⟨138, 4, [.c 8 4 true, .t 9],
 (.seq (.reg [⟨(some 4), (.box none (.t 0)), none⟩,
 ⟨(some 8), (.new [(.str []), .nsl, (.int .u64 0), .nsl] none), none⟩,
 ⟨(some 9), (.mov (.k (.str []))), none⟩])
 (.seq (.dreg [⟨(some 22), (.mov (.t 3)), none⟩,
 ⟨(some 23), (.iad 1 (.t 22) (.k (.int .i64 0))), none⟩,
 ⟨(some 24), (.load 1 false (.t 23)), none⟩,
 ⟨(some 25), (.call (.k (.fn (.func 91) [] [])) [(.t 24)]), none⟩,
 ⟨(some 26), (.mov (.t 3)), none⟩,
 ⟨(some 27), (.iad 1 (.t 26) (.k (.int .i64 1))), none⟩,
 ⟨(some 28), (.load 1 false (.t 27)), none⟩,
 ⟨(some 29), (.call (.k (.fn (.func 91) [] [])) [(.t 28)]), none⟩,
 ⟨(some 10), (.new [(.int .u64 0)] none), none⟩,
 ⟨none, (.store 1 (.t 10) (.t 25)), none⟩,
 ⟨(some 11), (.mov (.t 29)), none⟩] (.lin [8] [(0, none), (1, none), (2, none), (4, none), (5, none), (6, none), (3, some [4, 5, 6]), (7, some []), (9, some []), (10, none)]))
 (.seq (.reg [⟨(some 30), (.fad 1 (.t 4)), none⟩,
 ⟨(some 31), (.load 1 false (.t 30)), none⟩,
 ⟨(some 32), (.mkf (.func 93) [] [(.t 10)]), none⟩,
 ⟨(some 33), (.call (.k (.fn (.func 92) [] [])) [(.t 31), (.t 32)]), none⟩,
 ⟨(some 12), (.mov (.t 33)), none⟩])
 (.seq (.reg [⟨(some 34), (.mov (.t 12)), none⟩,
 ⟨(some 35), (.bin .geq .num (.t 34) (.k (.int .i64 0))), none⟩,
 ⟨(some 36), (.call (.k (.fn (.func 44) [] [])) [(.t 35), (.k (.int .i64 9))]), none⟩])
 (.seq (.dreg [⟨(some 37), (.fad 1 (.t 4)), none⟩,
 ⟨(some 38), (.load 1 false (.t 37)), none⟩,
 ⟨(some 39), (.mov (.t 12)), none⟩,
 ⟨(some 40), (.iad 2 (.t 38) (.t 39)), none⟩,
 ⟨(some 41), (.fad 1 (.t 40)), none⟩,
 ⟨(some 42), (.load 1 false (.t 41)), none⟩,
 ⟨(some 43), (.mov (.t 1)), none⟩,
 ⟨(some 44), (.fad 0 (.t 4)), none⟩,
 ⟨(some 45), (.load 1 false (.t 44)), none⟩,
 ⟨(some 46), (.inv (.t 43) "Pub" [(.t 45)]), none⟩,
 ⟨(some 13), (.mov (.t 42)), none⟩,
 ⟨(some 14), (.mov (.t 46)), none⟩] (.lin [] [(0, none), (1, none), (2, none), (3, none), (4, none), (5, none), (6, none), (7, none), (8, none), (9, some [0, 1, 2, 3, 4, 5]), (10, none), (11, none)]))
 (.seq (.dreg [⟨(some 48), (.mov (.t 1)), none⟩,
 ⟨(some 49), (.fad 0 (.t 4)), none⟩,
 ⟨(some 50), (.load 1 false (.t 49)), none⟩,
 ⟨(some 51), (.mov (.t 14)), none⟩,
 ⟨(some 52), (.mov (.t 1)), none⟩,
 ⟨(some 53), (.mov (.t 13)), none⟩,
 ⟨(some 54), (.inv (.t 52) "Pub" [(.t 53)]), none⟩,
 ⟨(some 55), (.load 1 false (.t 10)), none⟩,
 ⟨(some 56), (.build [(.str []), (.str []), (.int .u64 0)] [(0, 1, (.t 51)), (1, 1, (.t 54)), (2, 1, (.t 55))]), none⟩,
 ⟨(some 57), (.mov (.t 11)), none⟩,
 ⟨(some 58), (.call (.k (.fn (.func 79) [] [])) [(.t 56), (.t 57)]), none⟩,
 ⟨(some 59), (.mov (.t 3)), none⟩,
 ⟨(some 60), (.iad 1 (.t 59) (.k (.int .i64 2))), none⟩,
 ⟨(some 61), (.load 1 false (.t 60)), none⟩,
 ⟨(some 62), (.call (.k (.fn (.func 94) [] [])) [(.t 48), (.t 50), (.t 58), (.t 61)]), none⟩,
 ⟨(some 47), (.mov (.t 62)), none⟩,
 ⟨(some 63), (.ext (.t 47) 0), none⟩,
 ⟨(some 64), (.ext (.t 47) 1), none⟩,
 ⟨(some 65), (.ext (.t 47) 2), none⟩,
 ⟨(some 16), (.new [(.str []), (.str []), (.str []), (.str [])] none), none⟩,
 ⟨(some 15), (.mov (.t 63)), none⟩,
 ⟨none, (.store 4 (.t 16) (.t 64)), none⟩,
 ⟨(some 17), (.mov (.t 65)), none⟩] (.lin [19] [(0, none), (1, none), (2, none), (3, none), (4, none), (5, none), (7, none), (9, none), (11, none), (12, none), (13, none), (6, some [0, 1, 2, 3, 7, 9, 11, 12, 13]), (8, none), (10, some [0, 1, 2, 11, 12, 13]), (14, some []), (15, none), (16, none), (17, none), (18, none), (20, none), (21, some [18]), (22, none)]))
 (.seq (.reg [⟨(some 66), (.mov (.t 17)), none⟩,
 ⟨(some 67), (.bin .eql .num (.t 66) (.k (.int .i64 0))), none⟩,
 ⟨(some 68), (.mov (.t 17)), none⟩,
 ⟨(some 69), (.call (.k (.fn (.func 44) [] [])) [(.t 67), (.t 68)]), none⟩])
 (.seq (.reg [⟨(some 70), (.fad 0 (.t 16)), none⟩,
 ⟨(some 71), (.load 1 false (.t 70)), none⟩,
 ⟨(some 72), (.mov (.t 2)), none⟩,
 ⟨(some 73), (.bin .eql .str (.t 71) (.t 72)), none⟩,
 ⟨(some 74), (.call (.k (.fn (.func 44) [] [])) [(.t 73), (.k (.int .i64 6))]), none⟩])
 (.seq (.reg [⟨(some 76), (.load 4 true (.t 4)), none⟩,
 ⟨(some 77), (.mov (.t 2)), none⟩,
 ⟨(some 78), (.call (.k (.fn (.func 17) [] [])) [(.t 76), (.t 77)]), none⟩,
 ⟨(some 75), (.mov (.t 78)), none⟩,
 ⟨(some 79), (.ext (.t 75) 0), none⟩,
 ⟨(some 80), (.ext (.t 75) 1), none⟩,
 ⟨(some 18), (.new [(.str []), (.int .u64 0), (.str []), (.str []), (.str []), (.str []), (.int .i64 0), (.str []), (.int .i64 0), (.str []), (.str []), (.str []), (.str []), (.int .i64 0), .nsl] none), none⟩,
 ⟨none, (.store 15 (.t 18) (.t 79)), none⟩,
 ⟨(some 19), (.mov (.t 80)), none⟩])
 (.seq (.reg [⟨(some 81), (.mov (.t 11)), none⟩,
 ⟨(some 82), (.fad 1 (.t 18)), none⟩,
 ⟨(some 83), (.load 1 false (.t 82)), none⟩,
 ⟨(some 84), (.bin .gtr .num (.t 81) (.t 83)), none⟩,
 ⟨(some 85), (.mov (.t 84)), none⟩,
 ⟨(some 86), (.mov (.t 11)), some (85, false)⟩,
 ⟨(some 87), (.fad 1 (.t 18)), some (85, false)⟩,
 ⟨(some 88), (.load 1 false (.t 87)), some (85, false)⟩,
 ⟨(some 89), (.bin .eql .num (.t 86) (.t 88)), some (85, false)⟩,
 ⟨(some 90), (.mov (.t 89)), some (85, false)⟩,
 ⟨(some 91), (.mov (.t 2)), some (90, true)⟩,
 ⟨(some 92), (.mov (.t 14)), some (90, true)⟩,
 ⟨(some 93), (.bin .lss .str (.t 91) (.t 92)), some (90, true)⟩,
 ⟨(some 94), (.pick (.t 90) (.t 93) (.k (.bool false))), some (85, false)⟩,
 ⟨(some 95), (.mov (.t 94)), some (85, false)⟩,
 ⟨(some 96), (.mov (.t 11)), some (95, true)⟩,
 ⟨(some 97), (.bin .gtr .num (.t 96) (.k (.int .u64 0))), some (95, true)⟩,
 ⟨(some 98), (.pick (.t 95) (.t 97) (.k (.bool false))), some (85, false)⟩,
 ⟨(some 99), (.pick (.t 85) (.k (.bool true)) (.t 98)), none⟩,
 ⟨(some 100), (.call (.k (.fn (.func 44) [] [])) [(.t 99), (.k (.int .i64 7))]), none⟩])
 (.seq (.reg [⟨(some 101), (.mov (.t 1)), none⟩,
 ⟨(some 102), (.fad 2 (.t 16)), none⟩,
 ⟨(some 103), (.load 1 false (.t 102)), none⟩,
 ⟨(some 104), (.fad 1 (.t 16)), none⟩,
 ⟨(some 105), (.load 1 false (.t 104)), none⟩,
 ⟨(some 106), (.call (.k (.fn (.func 80) [] [])) [(.t 101), (.t 103), (.t 105)]), none⟩,
 ⟨(some 20), (.new [(.str []), (.str []), (.str [])] none), none⟩,
 ⟨none, (.store 3 (.t 20) (.t 106)), none⟩])
 (.seq (.reg [⟨(some 108), (.mov (.t 1)), none⟩,
 ⟨(some 109), (.iada 3 1 (.t 20) (.k (.int .i64 0))), none⟩,
 ⟨(some 110), (.load 1 false (.t 109)), none⟩,
 ⟨(some 111), (.iada 3 1 (.t 20) (.k (.int .i64 1))), none⟩,
 ⟨(some 112), (.load 1 false (.t 111)), none⟩,
 ⟨(some 113), (.iada 3 1 (.t 20) (.k (.int .i64 2))), none⟩,
 ⟨(some 114), (.load 1 false (.t 113)), none⟩,
 ⟨(some 115), (.mov (.t 13)), none⟩,
 ⟨(some 116), (.call (.k (.fn (.func 95) [] [])) [(.t 108), (.t 110), (.t 112), (.t 114), (.t 115)]), none⟩,
 ⟨(some 107), (.mov (.t 116)), none⟩,
 ⟨(some 117), (.ext (.t 107) 0), none⟩,
 ⟨(some 118), (.ext (.t 107) 1), none⟩,
 ⟨(some 21), (.new [(.str []), (.str []), (.str []), (.str []), (.int .i64 0), (.str []), (.int .i64 0), (.str []), (.str []), (.str []), (.str []), (.int .i64 0), .nsl] none), none⟩,
 ⟨none, (.store 13 (.t 21) (.t 117)), none⟩,
 ⟨(some 17), (.mov (.t 118)), none⟩])
 (.seq (.reg [⟨(some 119), (.mov (.t 17)), none⟩,
 ⟨(some 120), (.bin .eql .num (.t 119) (.k (.int .i64 0))), none⟩,
 ⟨(some 121), (.mov (.t 17)), none⟩,
 ⟨(some 122), (.call (.k (.fn (.func 44) [] [])) [(.t 120), (.t 121)]), none⟩])
 (.seq (.reg [⟨(some 123), (.load 4 true (.t 4)), none⟩,
 ⟨(some 124), (.mov (.t 2)), none⟩,
 ⟨(some 125), (.mov (.t 11)), none⟩,
 ⟨(some 126), (.load 13 true (.t 21)), none⟩,
 ⟨(some 127), (.build [(.str []), (.int .u64 0), (.str []), (.str []), (.str []), (.str []), (.int .i64 0), (.str []), (.int .i64 0), (.str []), (.str []), (.str []), (.str []), (.int .i64 0), .nsl] [(0, 1, (.t 124)), (1, 1, (.t 125)), (2, 13, (.t 126))]), none⟩,
 ⟨(some 128), (.call (.k (.fn (.func 83) [] [])) [(.t 123), (.t 127)]), none⟩,
 ⟨none, (.store 4 (.t 4) (.t 128)), none⟩])
 (.seq (.reg [⟨(some 129), (.fad 1 (.t 4)), none⟩,
 ⟨(some 130), (.load 1 false (.t 129)), none⟩,
 ⟨(some 131), (.mov (.t 12)), none⟩,
 ⟨(some 132), (.mov (.t 12)), none⟩,
 ⟨(some 133), (.bin .add .num (.t 132) (.k (.int .i64 1))), none⟩,
 ⟨(some 134), (.call (.k (.fn (.func 96) [] [])) [(.t 130), (.t 131), (.t 133)]), none⟩,
 ⟨(some 135), (.fad 1 (.t 4)), none⟩,
 ⟨none, (.store 1 (.t 135) (.t 134)), none⟩])
 (.seq (.reg [⟨(some 136), (.load 4 true (.t 4)), none⟩,
 ⟨(some 137), (.mov (.t 15)), none⟩,
 ⟨none, (.store 4 (.t 8) (.t 136)), none⟩,
 ⟨(some 9), (.mov (.t 137)), none⟩])
 .ret))))))))))))))))⟩

/-- 44: signetring/session.fits -/
def F44 : Fun :=
 ⟨8, 2, [],
 (.seq (.reg [⟨(some 4), (.mov (.t 0)), none⟩,
 ⟨(some 5), (.un .not (.t 4)), none⟩])
 (.cond (.t 5)
 (.reg [⟨(some 6), (.mov (.t 1)), none⟩,
 ⟨(some 7), (.mki 48 (.t 6)), none⟩,
 ⟨none, (.pan (.t 7)), none⟩])
 .skip))⟩

/-- 51: (signetring/session.Device).at -/
def F51 : Fun :=
 ⟨9, 2, [.t 4],
 (.seq (.reg [⟨(some 2), (.box none (.t 0)), none⟩,
 ⟨(some 3), (.box none (.t 1)), none⟩,
 ⟨(some 4), (.mov (.k (.int .i64 0))), none⟩])
 (.seq (.reg [⟨(some 5), (.fad 3 (.t 2)), none⟩,
 ⟨(some 6), (.load 1 false (.t 5)), none⟩,
 ⟨(some 7), (.mkf (.func 102) [] [(.t 3)]), none⟩,
 ⟨(some 8), (.call (.k (.fn (.func 101) [] [])) [(.t 6), (.t 7)]), none⟩,
 ⟨(some 4), (.mov (.t 8)), none⟩])
 .ret))⟩

/-- 63: signetring/codec.Read -/
def F63 : Fun :=
 ⟨28, 1, [.t 2, .t 3],
 (.seq (.reg [⟨(some 2), (.mov (.k (.int .u64 0))), none⟩,
 ⟨(some 3), (.mov (.k (.int .i64 0))), none⟩])
 (.seq (.seq (.reg [⟨(some 7), (.mov (.t 0)), none⟩,
 ⟨(some 8), (.len .str (.t 7)), none⟩,
 ⟨(some 9), (.bin .gtr .num (.t 8) (.k (.int .i64 8))), none⟩,
 ⟨(some 10), (.mov (.t 9)), none⟩,
 ⟨(some 11), (.mov (.t 0)), some (10, false)⟩,
 ⟨(some 12), (.call (.k (.fn (.func 108) [] [])) [(.t 11), (.k (.str [0]))]), some (10, false)⟩,
 ⟨(some 13), (.pick (.t 10) (.k (.bool true)) (.t 12)), none⟩])
 (.cond (.t 13)
 (.seq (.reg [⟨(some 2), (.mov (.k (.int .u64 0))), none⟩,
 ⟨(some 3), (.mov (.k (.int .i64 4))), none⟩])
 .ret)
 .skip))
 (.seq (.reg [⟨(some 4), (.mov (.k (.int .u64 0))), none⟩])
 (.seq (.seq (.reg [⟨(some 14), (.mov (.t 0)), none⟩,
 ⟨(some 15), (.s2b true (.t 14)), none⟩,
 ⟨(some 16), (.len .slc (.t 15)), none⟩,
 ⟨(some 17), (.mov (.k (.int .i64 0))), none⟩])
 (.block 0
 (.loop
 (.seq (.reg [⟨(some 18), (.bin .lss .num (.t 17) (.t 16)), none⟩])
 (.seq (.cond (.t 18)
 .skip
 (.exit 0))
 (.seq (.block 1
 (.seq (.reg [⟨(some 19), (.iad 1 (.t 15) (.t 17)), none⟩,
 ⟨(some 20), (.load 1 false (.t 19)), none⟩,
 ⟨(some 6), (.mov (.t 20)), none⟩])
 (.reg [⟨(some 21), (.mov (.t 4)), none⟩,
 ⟨(some 22), (.bin .shl .num (.t 21) (.k (.int .u64 8))), none⟩,
 ⟨(some 23), (.mov (.t 6)), none⟩,
 ⟨(some 24), (.cvi .u64 (.t 23)), none⟩,
 ⟨(some 25), (.bin .or .num (.t 22) (.t 24)), none⟩,
 ⟨(some 4), (.mov (.t 25)), none⟩])))
 (.reg [⟨(some 26), (.bin .add .num (.t 17) (.k (.int .i64 1))), none⟩,
 ⟨(some 17), (.mov (.t 26)), none⟩])))))))
 (.seq (.reg [⟨(some 27), (.mov (.t 4)), none⟩,
 ⟨(some 2), (.mov (.t 27)), none⟩,
 ⟨(some 3), (.mov (.k (.int .i64 0))), none⟩])
 .ret)))))⟩

/-- 66: slices.Chunk[[]byte,byte] -/
def F66 : Fun :=
 ⟨9, 2, [.t 4],
 (.seq (.reg [⟨(some 2), (.box none (.t 0)), none⟩,
 ⟨(some 3), (.box none (.t 1)), none⟩,
 ⟨(some 4), (.mov (.k .nfn)), none⟩])
 (.seq (.seq (.reg [⟨(some 5), (.load 1 false (.t 3)), none⟩,
 ⟨(some 6), (.bin .lss .num (.t 5) (.k (.int .i64 1))), none⟩])
 (.cond (.t 6)
 (.reg [⟨(some 7), (.mki 9 (.k (.str [99, 97, 110, 110, 111, 116, 32, 98, 101, 32, 108, 101, 115, 115, 32, 116, 104, 97, 110, 32, 49]))), none⟩,
 ⟨none, (.pan (.t 7)), none⟩])
 .skip))
 (.seq (.reg [⟨(some 8), (.mkf (.func 110) [] [(.t 2), (.t 3)]), none⟩,
 ⟨(some 4), (.mov (.t 8)), none⟩])
 .ret)))⟩

/-- 67: signetring/codec.Num -/
def F67 : Fun :=
 ⟨27, 1, [.t 2],
 (.seq (.reg [⟨(some 2), (.mov (.k (.str []))), none⟩])
 (.seq (.reg [⟨(some 3), (.mov (.k .nsl)), none⟩])
 (.seq (.seq (.reg [⟨(some 4), (.mov (.k (.int .i64 56))), none⟩])
 (.block 0
 (.loop
 (.seq (.seq (.reg [⟨(some 6), (.mov (.t 4)), none⟩,
 ⟨(some 7), (.bin .geq .num (.t 6) (.k (.int .i64 0))), none⟩])
 (.cond (.t 7)
 .skip
 (.exit 0)))
 (.seq (.block 1
 (.seq (.reg [⟨(some 10), (.mov (.t 0)), none⟩,
 ⟨(some 11), (.mov (.t 4)), none⟩,
 ⟨(some 12), (.bin .shr .num (.t 10) (.t 11)), none⟩,
 ⟨(some 13), (.cvi .u8 (.t 12)), none⟩,
 ⟨(some 5), (.mov (.t 13)), none⟩])
 (.seq (.reg [⟨(some 14), (.mov (.t 5)), none⟩,
 ⟨(some 15), (.bin .neq .num (.t 14) (.k (.int .u8 0))), none⟩,
 ⟨(some 16), (.mov (.t 15)), none⟩,
 ⟨(some 17), (.mov (.t 3)), some (16, false)⟩,
 ⟨(some 18), (.len .slc (.t 17)), some (16, false)⟩,
 ⟨(some 19), (.bin .gtr .num (.t 18) (.k (.int .i64 0))), some (16, false)⟩,
 ⟨(some 20), (.pick (.t 16) (.k (.bool true)) (.t 19)), none⟩])
 (.cond (.t 20)
 (.reg [⟨(some 21), (.mov (.t 3)), none⟩,
 ⟨(some 22), (.mov (.t 5)), none⟩,
 ⟨(some 23), (.mks true 1 1 false [(.int .u8 0)] 1 [(0, (.t 22))]), none⟩,
 ⟨(some 24), (.app 1 1 false none (.t 21) (.t 23)), none⟩,
 ⟨(some 3), (.mov (.t 24)), none⟩])
 .skip))))
 (.reg [⟨(some 8), (.mov (.t 4)), none⟩,
 ⟨(some 9), (.bin .sub .num (.t 8) (.k (.int .i64 8))), none⟩,
 ⟨(some 4), (.mov (.t 9)), none⟩]))))))
 (.seq (.reg [⟨(some 25), (.mov (.t 3)), none⟩,
 ⟨(some 26), (.b2s (.t 25)), none⟩,
 ⟨(some 2), (.mov (.t 26)), none⟩])
 .ret))))⟩

/-- 68: signetring/signetringref08.Num -/
def F68 : Fun :=
 ⟨16, 1, [.t 2],
 (.seq (.reg [⟨(some 2), (.mov (.k (.str []))), none⟩])
 (.seq (.reg [⟨(some 3), (.mov (.k (.str []))), none⟩])
 (.seq (.block 0
 (.loop
 (.seq (.seq (.reg [⟨(some 4), (.mov (.t 0)), none⟩,
 ⟨(some 5), (.bin .gtr .num (.t 4) (.k (.int .u64 0))), none⟩])
 (.cond (.t 5)
 .skip
 (.exit 0)))
 (.block 1
 (.seq (.reg [⟨(some 6), (.mov (.t 0)), none⟩,
 ⟨(some 7), (.bin .rem .num (.t 6) (.k (.int .u64 256))), none⟩,
 ⟨(some 8), (.cvi .u8 (.t 7)), none⟩,
 ⟨(some 9), (.mks true 1 1 false [(.int .u8 0)] 1 [(0, (.t 8))]), none⟩,
 ⟨(some 10), (.b2s (.t 9)), none⟩,
 ⟨(some 11), (.mov (.t 3)), none⟩,
 ⟨(some 12), (.bin .add .str (.t 10) (.t 11)), none⟩,
 ⟨(some 3), (.mov (.t 12)), none⟩])
 (.reg [⟨(some 13), (.mov (.t 0)), none⟩,
 ⟨(some 14), (.bin .quo .num (.t 13) (.k (.int .u64 256))), none⟩,
 ⟨(some 0), (.mov (.t 14)), none⟩]))))))
 (.seq (.reg [⟨(some 15), (.mov (.t 3)), none⟩,
 ⟨(some 2), (.mov (.t 15)), none⟩])
 .ret))))⟩

/-- 69: signetring/world.New -/
def F69 : Fun :=
 ⟨56, 3, [.t 6],
 (.seq (.reg [⟨(some 6), (.mov (.k .nptr)), none⟩])
 (.seq (.seq (.reg [⟨(some 11), (.mov (.t 0)), none⟩,
 ⟨(some 12), (.bin .eql .ifc (.t 11) (.k .nifc)), none⟩,
 ⟨(some 13), (.mov (.t 12)), none⟩,
 ⟨(some 14), (.mov (.t 1)), some (13, false)⟩,
 ⟨(some 15), (.bin .lss .num (.t 14) (.k (.int .i64 1))), some (13, false)⟩,
 ⟨(some 16), (.pick (.t 13) (.k (.bool true)) (.t 15)), none⟩,
 ⟨(some 17), (.mov (.t 16)), none⟩,
 ⟨(some 18), (.mov (.t 1)), some (17, false)⟩,
 ⟨(some 19), (.bin .gtr .num (.t 18) (.k (.int .i64 6))), some (17, false)⟩,
 ⟨(some 20), (.pick (.t 17) (.k (.bool true)) (.t 19)), none⟩])
 (.cond (.t 20)
 (.seq (.reg [⟨(some 6), (.mov (.k .nptr)), none⟩])
 .ret)
 .skip))
 (.seq (.reg [⟨(some 21), (.mov (.t 0)), none⟩,
 ⟨(some 22), (.mov (.t 2)), none⟩,
 ⟨(some 23), (.build [.nifc, (.str []), (.int .u64 0), .nsl, .nsl] [(0, 1, (.t 21)), (1, 1, (.t 22))]), none⟩,
 ⟨(some 24), (.box none (.t 23)), none⟩,
 ⟨(some 7), (.mov (.t 24)), none⟩])
 (.seq (.seq (.reg [⟨(some 25), (.mov (.t 1)), none⟩,
 ⟨(some 26), (.mov (.k (.int .i64 0))), none⟩])
 (.block 0
 (.loop
 (.seq (.reg [⟨(some 27), (.bin .lss .num (.t 26) (.t 25)), none⟩])
 (.seq (.cond (.t 27)
 .skip
 (.exit 0))
 (.seq (.block 1
 (.seq (.reg [⟨(some 28), (.mov (.t 7)), none⟩,
 ⟨(some 29), (.call (.k (.fn (.func 111) [] [])) [(.t 28)]), none⟩,
 ⟨(some 8), (.mov (.t 29)), none⟩])
 (.seq (.reg [⟨(some 31), (.mov (.t 0)), none⟩,
 ⟨(some 32), (.mov (.t 8)), none⟩,
 ⟨(some 33), (.call (.k (.fn (.func 32) [] [])) [(.t 31), (.t 32)]), none⟩,
 ⟨(some 30), (.mov (.t 33)), none⟩,
 ⟨(some 34), (.ext (.t 30) 0), none⟩,
 ⟨(some 35), (.ext (.t 30) 1), none⟩,
 ⟨(some 9), (.new [(.str []), .nsl, (.int .u64 0), .nsl] none), none⟩,
 ⟨none, (.store 4 (.t 9) (.t 34)), none⟩,
 ⟨(some 10), (.mov (.t 35)), none⟩])
 (.seq (.seq (.reg [⟨(some 36), (.mov (.t 10)), none⟩,
 ⟨(some 37), (.bin .neq .num (.t 36) (.k (.int .i64 0))), none⟩])
 (.cond (.t 37)
 (.seq (.reg [⟨(some 6), (.mov (.k .nptr)), none⟩])
 .ret)
 .skip))
 (.dreg [⟨(some 38), (.mov (.t 7)), none⟩,
 ⟨(some 39), (.mov (.t 7)), none⟩,
 ⟨(some 40), (.nilck (.t 39)), none⟩,
 ⟨(some 41), (.fad 3 (.t 40)), none⟩,
 ⟨(some 42), (.load 1 false (.t 41)), none⟩,
 ⟨(some 43), (.load 4 true (.t 9)), none⟩,
 ⟨(some 44), (.build [(.str []), .nsl, (.int .u64 0), .nsl, .nsl] [(0, 4, (.t 43))]), none⟩,
 ⟨(some 45), (.mov (.t 0)), none⟩,
 ⟨(some 46), (.mov (.t 8)), none⟩,
 ⟨(some 47), (.inv (.t 45) "Pub" [(.t 46)]), none⟩,
 ⟨(some 48), (.build [(.str []), .nsl, (.int .u64 0), .nsl, .nsl, (.str []), .nsl, .nsl, .nsl, .nptr] [(0, 5, (.t 44)), (5, 1, (.t 47))]), none⟩,
 ⟨(some 49), (.box none (.t 48)), none⟩,
 ⟨(some 50), (.mks true 1 8 false [.nptr] 1 [(0, (.t 49))]), none⟩,
 ⟨(some 51), (.app 1 8 false none (.t 42) (.t 50)), none⟩,
 ⟨(some 52), (.nilck (.t 38)), none⟩,
 ⟨(some 53), (.fad 3 (.t 52)), none⟩,
 ⟨none, (.store 1 (.t 53) (.t 51)), none⟩] (.lin [] [(0, none), (1, none), (2, none), (3, none), (4, none), (5, none), (6, none), (7, none), (8, none), (9, some [0, 1, 2, 3, 4, 5, 6]), (10, none), (11, some [0, 1, 2, 3, 4]), (12, none), (13, some [0]), (14, none), (15, none), (16, some [])]))))))
 (.reg [⟨(some 54), (.bin .add .num (.t 26) (.k (.int .i64 1))), none⟩,
 ⟨(some 26), (.mov (.t 54)), none⟩])))))))
 (.seq (.reg [⟨(some 55), (.mov (.t 7)), none⟩,
 ⟨(some 6), (.mov (.t 55)), none⟩])
 .ret)))))⟩

/-- 70: (*signetring/world.World).Do -/
def F70 : Fun :=
 ⟨72, 2, [.t 4, .t 5],
 (.seq (.reg [⟨(some 3), (.box none (.t 1)), none⟩,
 ⟨(some 4), (.mov (.k (.str []))), none⟩,
 ⟨(some 5), (.mov (.k (.int .i64 0))), none⟩])
 (.seq (.seq (.reg [⟨(some 12), (.mov (.t 0)), none⟩,
 ⟨(some 13), (.bin .eql .ptr (.t 12) (.k .nptr)), none⟩,
 ⟨(some 14), (.mov (.t 13)), none⟩,
 ⟨(some 15), (.mov (.t 0)), some (14, false)⟩,
 ⟨(some 16), (.nilck (.t 15)), some (14, false)⟩,
 ⟨(some 17), (.fad 3 (.t 16)), some (14, false)⟩,
 ⟨(some 18), (.load 1 false (.t 17)), some (14, false)⟩,
 ⟨(some 19), (.len .slc (.t 18)), some (14, false)⟩,
 ⟨(some 20), (.bin .eql .num (.t 19) (.k (.int .i64 0))), some (14, false)⟩,
 ⟨(some 21), (.pick (.t 14) (.k (.bool true)) (.t 20)), none⟩])
 (.cond (.t 21)
 (.seq (.reg [⟨(some 4), (.mov (.k (.str []))), none⟩,
 ⟨(some 5), (.mov (.k (.int .i64 1))), none⟩])
 .ret)
 .skip))
 (.seq (.reg [⟨(some 22), .mkm, none⟩,
 ⟨none, (.upd .num (.t 22) (.k (.int .i64 1)) (.k (.fn (.func 112) [] []))), none⟩,
 ⟨none, (.upd .num (.t 22) (.k (.int .i64 2)) (.k (.fn (.func 113) [] []))), none⟩,
 ⟨none, (.upd .num (.t 22) (.k (.int .i64 3)) (.k (.fn (.func 114) [] []))), none⟩,
 ⟨none, (.upd .num (.t 22) (.k (.int .i64 4)) (.k (.fn (.func 115) [] []))), none⟩,
 ⟨none, (.upd .num (.t 22) (.k (.int .i64 5)) (.k (.fn (.func 116) [] []))), none⟩,
 ⟨none, (.upd .num (.t 22) (.k (.int .i64 6)) (.k (.fn (.func 117) [] []))), none⟩,
 ⟨none, (.upd .num (.t 22) (.k (.int .i64 7)) (.k (.fn (.func 118) [] []))), none⟩,
 ⟨none, (.upd .num (.t 22) (.k (.int .i64 8)) (.k (.fn (.func 119) [] []))), none⟩,
 ⟨none, (.upd .num (.t 22) (.k (.int .i64 9)) (.k (.fn (.func 120) [] []))), none⟩,
 ⟨none, (.upd .num (.t 22) (.k (.int .i64 10)) (.k (.fn (.func 121) [] []))), none⟩,
 ⟨none, (.upd .num (.t 22) (.k (.int .i64 11)) (.k (.fn (.func 122) [] []))), none⟩,
 ⟨none, (.upd .num (.t 22) (.k (.int .i64 12)) (.k (.fn (.func 123) [] []))), none⟩,
 ⟨(some 23), (.mov (.t 22)), none⟩,
 ⟨(some 6), (.mov (.t 23)), none⟩])
 (.seq (.reg [⟨(some 25), (.mov (.t 6)), none⟩,
 ⟨(some 26), (.fad 0 (.t 3)), none⟩,
 ⟨(some 27), (.load 1 false (.t 26)), none⟩,
 ⟨(some 28), (.look .num .nfn (.t 25) (.t 27) true), none⟩,
 ⟨(some 24), (.mov (.t 28)), none⟩,
 ⟨(some 29), (.ext (.t 24) 0), none⟩,
 ⟨(some 30), (.ext (.t 24) 1), none⟩,
 ⟨(some 7), (.mov (.t 29)), none⟩,
 ⟨(some 8), (.mov (.t 30)), none⟩])
 (.seq (.dreg [⟨(some 31), (.mov (.t 0)), none⟩,
 ⟨(some 32), (.fad 1 (.t 3)), none⟩,
 ⟨(some 33), (.load 1 false (.t 32)), none⟩,
 ⟨(some 34), (.call (.k (.fn (.func 124) [] [])) [(.t 31), (.t 33)]), none⟩,
 ⟨(some 35), (.mov (.t 0)), none⟩,
 ⟨(some 36), (.fad 2 (.t 3)), none⟩,
 ⟨(some 37), (.load 1 false (.t 36)), none⟩,
 ⟨(some 38), (.call (.k (.fn (.func 124) [] [])) [(.t 35), (.t 37)]), none⟩,
 ⟨(some 9), (.mov (.t 34)), none⟩,
 ⟨(some 10), (.mov (.t 38)), none⟩] (.lin [] [(0, none), (1, none), (2, none), (4, none), (5, none), (6, none), (3, some [4, 5, 6]), (7, some []), (8, none), (9, none)]))
 (.seq (.reg [⟨(some 39), (.fad 0 (.t 3)), none⟩,
 ⟨(some 40), (.load 1 false (.t 39)), none⟩,
 ⟨(some 41), (.bin .eql .num (.t 40) (.k (.int .i64 2))), none⟩,
 ⟨(some 42), (.mov (.t 41)), none⟩,
 ⟨(some 43), (.fad 0 (.t 3)), some (42, false)⟩,
 ⟨(some 44), (.load 1 false (.t 43)), some (42, false)⟩,
 ⟨(some 45), (.bin .eql .num (.t 44) (.k (.int .i64 3))), some (42, false)⟩,
 ⟨(some 46), (.pick (.t 42) (.k (.bool true)) (.t 45)), none⟩,
 ⟨(some 47), (.mov (.t 46)), none⟩,
 ⟨(some 48), (.fad 0 (.t 3)), some (47, false)⟩,
 ⟨(some 49), (.load 1 false (.t 48)), some (47, false)⟩,
 ⟨(some 50), (.bin .eql .num (.t 49) (.k (.int .i64 8))), some (47, false)⟩,
 ⟨(some 51), (.pick (.t 47) (.k (.bool true)) (.t 50)), none⟩,
 ⟨(some 11), (.mov (.t 51)), none⟩])
 (.seq (.seq (.reg [⟨(some 52), (.mov (.t 8)), none⟩,
 ⟨(some 53), (.un .not (.t 52)), none⟩,
 ⟨(some 54), (.mov (.t 53)), none⟩,
 ⟨(some 55), (.mov (.t 9)), some (54, false)⟩,
 ⟨(some 56), (.bin .eql .ptr (.t 55) (.k .nptr)), some (54, false)⟩,
 ⟨(some 57), (.pick (.t 54) (.k (.bool true)) (.t 56)), none⟩,
 ⟨(some 58), (.mov (.t 57)), none⟩,
 ⟨(some 59), (.mov (.t 11)), some (58, false)⟩,
 ⟨(some 60), (.mov (.t 59)), some (58, false)⟩,
 ⟨(some 61), (.mov (.t 10)), some (60, true)⟩,
 ⟨(some 62), (.bin .eql .ptr (.t 61) (.k .nptr)), some (60, true)⟩,
 ⟨(some 63), (.pick (.t 60) (.t 62) (.k (.bool false))), some (58, false)⟩,
 ⟨(some 64), (.pick (.t 58) (.k (.bool true)) (.t 63)), none⟩])
 (.cond (.t 64)
 (.seq (.reg [⟨(some 4), (.mov (.k (.str []))), none⟩,
 ⟨(some 5), (.mov (.k (.int .i64 2))), none⟩])
 .ret)
 .skip))
 (.seq (.reg [⟨(some 65), (.mov (.t 7)), none⟩,
 ⟨(some 66), (.mov (.t 0)), none⟩,
 ⟨(some 67), (.mov (.t 9)), none⟩,
 ⟨(some 68), (.load 5 true (.t 3)), none⟩,
 ⟨(some 69), (.call (.t 65) [(.t 66), (.t 67), (.t 68)]), none⟩,
 ⟨(some 70), (.ext (.t 69) 0), none⟩,
 ⟨(some 71), (.ext (.t 69) 1), none⟩,
 ⟨(some 4), (.mov (.t 70)), none⟩,
 ⟨(some 5), (.mov (.t 71)), none⟩])
 .ret))))))))⟩

/-- 71: (*signetring/world.World).Told -/
def F71 : Fun :=
 ⟨16, 2, [.t 4],
 (.seq (.reg [⟨(some 4), (.mov (.k .nsl)), none⟩])
 (.seq (.seq (.reg [⟨(some 6), (.mov (.t 0)), none⟩,
 ⟨(some 7), (.mov (.t 1)), none⟩,
 ⟨(some 8), (.call (.k (.fn (.func 124) [] [])) [(.t 6), (.t 7)]), none⟩,
 ⟨(some 5), (.mov (.t 8)), none⟩])
 (.seq (.reg [⟨(some 9), (.mov (.t 5)), none⟩,
 ⟨(some 10), (.bin .neq .ptr (.t 9) (.k .nptr)), none⟩])
 (.cond (.t 10)
 (.seq (.reg [⟨(some 11), (.mov (.t 5)), none⟩,
 ⟨(some 12), (.nilck (.t 11)), none⟩,
 ⟨(some 13), (.fad 6 (.t 12)), none⟩,
 ⟨(some 14), (.load 1 false (.t 13)), none⟩,
 ⟨(some 15), (.call (.k (.fn (.func 125) [] [])) [(.t 14)]), none⟩,
 ⟨(some 4), (.mov (.t 15)), none⟩])
 .ret)
 .skip)))
 (.seq (.reg [⟨(some 4), (.mov (.k .nsl)), none⟩])
 .ret)))⟩

/-- 72: slices.Equal[[]string,string] -/
def F72 : Fun :=
 ⟨26, 2, [.t 4],
 (.seq (.reg [⟨(some 4), (.mov (.k (.bool false))), none⟩])
 (.seq (.seq (.reg [⟨(some 6), (.mov (.t 0)), none⟩,
 ⟨(some 7), (.len .slc (.t 6)), none⟩,
 ⟨(some 8), (.mov (.t 1)), none⟩,
 ⟨(some 9), (.len .slc (.t 8)), none⟩,
 ⟨(some 10), (.bin .neq .num (.t 7) (.t 9)), none⟩])
 (.cond (.t 10)
 (.seq (.reg [⟨(some 4), (.mov (.k (.bool false))), none⟩])
 .ret)
 .skip))
 (.seq (.seq (.reg [⟨(some 11), (.mov (.t 0)), none⟩,
 ⟨(some 12), (.len .slc (.t 11)), none⟩,
 ⟨(some 13), (.mov (.k (.int .i64 0))), none⟩])
 (.block 0
 (.loop
 (.seq (.reg [⟨(some 14), (.bin .lss .num (.t 13) (.t 12)), none⟩])
 (.seq (.cond (.t 14)
 .skip
 (.exit 0))
 (.seq (.block 1
 (.seq (.reg [⟨(some 15), (.mov (.t 13)), none⟩,
 ⟨(some 5), (.mov (.t 15)), none⟩])
 (.seq (.dreg [⟨(some 16), (.mov (.t 0)), none⟩,
 ⟨(some 17), (.mov (.t 5)), none⟩,
 ⟨(some 18), (.iad 1 (.t 16) (.t 17)), none⟩,
 ⟨(some 19), (.load 1 false (.t 18)), none⟩,
 ⟨(some 20), (.mov (.t 1)), none⟩,
 ⟨(some 21), (.mov (.t 5)), none⟩,
 ⟨(some 22), (.iad 1 (.t 20) (.t 21)), none⟩,
 ⟨(some 23), (.load 1 false (.t 22)), none⟩,
 ⟨(some 24), (.bin .neq .str (.t 19) (.t 23)), none⟩] (.lin [] [(0, none), (1, none), (2, none), (3, none), (4, none), (5, none), (6, none), (7, none), (8, none)]))
 (.cond (.t 24)
 (.seq (.reg [⟨(some 4), (.mov (.k (.bool false))), none⟩])
 .ret)
 .skip))))
 (.reg [⟨(some 25), (.bin .add .num (.t 13) (.k (.int .i64 1))), none⟩,
 ⟨(some 13), (.mov (.t 25)), none⟩])))))))
 (.seq (.reg [⟨(some 4), (.mov (.k (.bool true))), none⟩])
 .ret))))⟩

/-- 73: slices.Equal[[]signetring/api.Errno,signetring/api.Errno] -/
def F73 : Fun :=
 ⟨26, 2, [.t 4],
 (.seq (.reg [⟨(some 4), (.mov (.k (.bool false))), none⟩])
 (.seq (.seq (.reg [⟨(some 6), (.mov (.t 0)), none⟩,
 ⟨(some 7), (.len .slc (.t 6)), none⟩,
 ⟨(some 8), (.mov (.t 1)), none⟩,
 ⟨(some 9), (.len .slc (.t 8)), none⟩,
 ⟨(some 10), (.bin .neq .num (.t 7) (.t 9)), none⟩])
 (.cond (.t 10)
 (.seq (.reg [⟨(some 4), (.mov (.k (.bool false))), none⟩])
 .ret)
 .skip))
 (.seq (.seq (.reg [⟨(some 11), (.mov (.t 0)), none⟩,
 ⟨(some 12), (.len .slc (.t 11)), none⟩,
 ⟨(some 13), (.mov (.k (.int .i64 0))), none⟩])
 (.block 0
 (.loop
 (.seq (.reg [⟨(some 14), (.bin .lss .num (.t 13) (.t 12)), none⟩])
 (.seq (.cond (.t 14)
 .skip
 (.exit 0))
 (.seq (.block 1
 (.seq (.reg [⟨(some 15), (.mov (.t 13)), none⟩,
 ⟨(some 5), (.mov (.t 15)), none⟩])
 (.seq (.dreg [⟨(some 16), (.mov (.t 0)), none⟩,
 ⟨(some 17), (.mov (.t 5)), none⟩,
 ⟨(some 18), (.iad 1 (.t 16) (.t 17)), none⟩,
 ⟨(some 19), (.load 1 false (.t 18)), none⟩,
 ⟨(some 20), (.mov (.t 1)), none⟩,
 ⟨(some 21), (.mov (.t 5)), none⟩,
 ⟨(some 22), (.iad 1 (.t 20) (.t 21)), none⟩,
 ⟨(some 23), (.load 1 false (.t 22)), none⟩,
 ⟨(some 24), (.bin .neq .num (.t 19) (.t 23)), none⟩] (.lin [] [(0, none), (1, none), (2, none), (3, none), (4, none), (5, none), (6, none), (7, none), (8, none)]))
 (.cond (.t 24)
 (.seq (.reg [⟨(some 4), (.mov (.k (.bool false))), none⟩])
 .ret)
 .skip))))
 (.reg [⟨(some 25), (.bin .add .num (.t 13) (.k (.int .i64 1))), none⟩,
 ⟨(some 13), (.mov (.t 25)), none⟩])))))))
 (.seq (.reg [⟨(some 4), (.mov (.k (.bool true))), none⟩])
 .ret))))⟩

/-- 74: slices.EqualFunc[[][]signetring/world.Told,[][]signetring/world.Told,[]signetring/world.Told,[]signetring/world.Told] -/
def F74 : Fun :=
 ⟨32, 3, [.t 6],
 (.seq (.reg [⟨(some 6), (.mov (.k (.bool false))), none⟩])
 (.seq (.seq (.reg [⟨(some 10), (.mov (.t 0)), none⟩,
 ⟨(some 11), (.len .slc (.t 10)), none⟩,
 ⟨(some 12), (.mov (.t 1)), none⟩,
 ⟨(some 13), (.len .slc (.t 12)), none⟩,
 ⟨(some 14), (.bin .neq .num (.t 11) (.t 13)), none⟩])
 (.cond (.t 14)
 (.seq (.reg [⟨(some 6), (.mov (.k (.bool false))), none⟩])
 .ret)
 .skip))
 (.seq (.seq (.reg [⟨(some 15), (.mov (.t 0)), none⟩,
 ⟨(some 16), (.len .slc (.t 15)), none⟩,
 ⟨(some 17), (.mov (.k (.int .i64 0))), none⟩])
 (.block 0
 (.loop
 (.seq (.reg [⟨(some 18), (.bin .lss .num (.t 17) (.t 16)), none⟩])
 (.seq (.cond (.t 18)
 .skip
 (.exit 0))
 (.seq (.block 1
 (.seq (.reg [⟨(some 19), (.mov (.t 17)), none⟩,
 ⟨(some 20), (.iad 1 (.t 15) (.t 17)), none⟩,
 ⟨(some 21), (.load 1 false (.t 20)), none⟩,
 ⟨(some 7), (.mov (.t 19)), none⟩,
 ⟨(some 8), (.mov (.t 21)), none⟩])
 (.seq (.reg [⟨(some 22), (.mov (.t 1)), none⟩,
 ⟨(some 23), (.mov (.t 7)), none⟩,
 ⟨(some 24), (.iad 1 (.t 22) (.t 23)), none⟩,
 ⟨(some 25), (.load 1 false (.t 24)), none⟩,
 ⟨(some 9), (.mov (.t 25)), none⟩])
 (.seq (.reg [⟨(some 26), (.mov (.t 2)), none⟩,
 ⟨(some 27), (.mov (.t 8)), none⟩,
 ⟨(some 28), (.mov (.t 9)), none⟩,
 ⟨(some 29), (.call (.t 26) [(.t 27), (.t 28)]), none⟩,
 ⟨(some 30), (.un .not (.t 29)), none⟩])
 (.cond (.t 30)
 (.seq (.reg [⟨(some 6), (.mov (.k (.bool false))), none⟩])
 .ret)
 .skip)))))
 (.reg [⟨(some 31), (.bin .add .num (.t 17) (.k (.int .i64 1))), none⟩,
 ⟨(some 17), (.mov (.t 31)), none⟩])))))))
 (.seq (.reg [⟨(some 6), (.mov (.k (.bool true))), none⟩])
 .ret))))⟩

/-- 75: slices.Equal[[]signetring/world.Told,signetring/world.Told] -/
def F75 : Fun :=
 ⟨26, 2, [.t 4],
 (.seq (.reg [⟨(some 4), (.mov (.k (.bool false))), none⟩])
 (.seq (.seq (.reg [⟨(some 6), (.mov (.t 0)), none⟩,
 ⟨(some 7), (.len .slc (.t 6)), none⟩,
 ⟨(some 8), (.mov (.t 1)), none⟩,
 ⟨(some 9), (.len .slc (.t 8)), none⟩,
 ⟨(some 10), (.bin .neq .num (.t 7) (.t 9)), none⟩])
 (.cond (.t 10)
 (.seq (.reg [⟨(some 4), (.mov (.k (.bool false))), none⟩])
 .ret)
 .skip))
 (.seq (.seq (.reg [⟨(some 11), (.mov (.t 0)), none⟩,
 ⟨(some 12), (.len .slc (.t 11)), none⟩,
 ⟨(some 13), (.mov (.k (.int .i64 0))), none⟩])
 (.block 0
 (.loop
 (.seq (.reg [⟨(some 14), (.bin .lss .num (.t 13) (.t 12)), none⟩])
 (.seq (.cond (.t 14)
 .skip
 (.exit 0))
 (.seq (.block 1
 (.seq (.reg [⟨(some 15), (.mov (.t 13)), none⟩,
 ⟨(some 5), (.mov (.t 15)), none⟩])
 (.seq (.dreg [⟨(some 16), (.mov (.t 0)), none⟩,
 ⟨(some 17), (.mov (.t 5)), none⟩,
 ⟨(some 18), (.iad 2 (.t 16) (.t 17)), none⟩,
 ⟨(some 19), (.load 2 true (.t 18)), none⟩,
 ⟨(some 20), (.mov (.t 1)), none⟩,
 ⟨(some 21), (.mov (.t 5)), none⟩,
 ⟨(some 22), (.iad 2 (.t 20) (.t 21)), none⟩,
 ⟨(some 23), (.load 2 true (.t 22)), none⟩,
 ⟨(some 24), (.bin .neq (.agg [.num, .str]) (.t 19) (.t 23)), none⟩] (.lin [] [(0, none), (1, none), (2, none), (3, none), (4, none), (5, none), (6, none), (7, none), (8, none)]))
 (.cond (.t 24)
 (.seq (.reg [⟨(some 4), (.mov (.k (.bool false))), none⟩])
 .ret)
 .skip))))
 (.reg [⟨(some 25), (.bin .add .num (.t 13) (.k (.int .i64 1))), none⟩,
 ⟨(some 13), (.mov (.t 25)), none⟩])))))))
 (.seq (.reg [⟨(some 4), (.mov (.k (.bool true))), none⟩])
 .ret))))⟩

/-- 78: signetring/noise.Write -/
def F78 : Fun :=
 ⟨95, 6, [.c 12 1 false, .c 13 4 true, .c 14 1 false],
 (.seq (.reg [⟨(some 12), (.new [(.str [])] none), none⟩,
 ⟨(some 13), (.new [(.str []), (.str []), (.str []), (.str [])] none), none⟩,
 ⟨(some 14), (.new [(.int .i64 0)] none), none⟩])
 (.seq (.reg [⟨(some 23), (.mkf (.func 127) [] [(.t 12), (.t 13)]), none⟩,
 ⟨none, (.dfr (.k (.fn (.func 126) [] [])) [(.t 14), (.t 23)]), none⟩])
 (.seq (.reg [⟨(some 24), (.mov (.t 0)), none⟩,
 ⟨(some 25), (.bin .neq .ifc (.t 24) (.k .nifc)), none⟩,
 ⟨(some 26), (.call (.k (.fn (.func 128) [] [])) [(.t 25), (.k (.int .i64 1))]), none⟩])
 (.seq (.reg [⟨(some 27), (.mov (.t 0)), none⟩,
 ⟨(some 28), (.mov (.t 4)), none⟩,
 ⟨(some 29), (.mov (.t 3)), none⟩,
 ⟨(some 30), (.call (.k (.fn (.func 129) [] [])) [(.t 27), (.t 28), (.t 29)]), none⟩,
 ⟨(some 15), (.mov (.t 30)), none⟩])
 (.seq (.reg [⟨(some 31), (.mov (.t 15)), none⟩,
 ⟨(some 32), (.mov (.t 1)), none⟩,
 ⟨(some 33), (.call (.k (.fn (.func 130) [] [])) [(.t 31), (.t 32)]), none⟩,
 ⟨(some 34), (.mov (.t 15)), none⟩,
 ⟨(some 35), (.mov (.t 2)), none⟩,
 ⟨(some 36), (.call (.k (.fn (.func 130) [] [])) [(.t 34), (.t 35)]), none⟩,
 ⟨(some 16), (.mov (.t 33)), none⟩,
 ⟨(some 17), (.mov (.t 36)), none⟩])
 (.seq (.reg [⟨(some 38), (.mov (.t 0)), none⟩,
 ⟨(some 39), (.mov (.t 1)), none⟩,
 ⟨(some 40), (.mov (.t 3)), none⟩,
 ⟨(some 41), (.inv (.t 38) "Dh" [(.t 39), (.t 40)]), none⟩,
 ⟨(some 37), (.mov (.t 41)), none⟩,
 ⟨(some 42), (.ext (.t 37) 0), none⟩,
 ⟨(some 43), (.ext (.t 37) 1), none⟩,
 ⟨(some 18), (.mov (.t 42)), none⟩,
 ⟨(some 19), (.mov (.t 43)), none⟩])
 (.seq (.reg [⟨(some 44), (.mov (.t 19)), none⟩,
 ⟨(some 45), (.call (.k (.fn (.func 128) [] [])) [(.t 44), (.k (.int .i64 6))]), none⟩])
 (.seq (.reg [⟨(some 46), (.mov (.t 15)), none⟩,
 ⟨(some 47), (.mov (.t 17)), none⟩,
 ⟨(some 48), (.call (.k (.fn (.func 131) [] [])) [(.t 46), (.t 47)]), none⟩])
 (.seq (.reg [⟨(some 49), (.mov (.t 15)), none⟩,
 ⟨(some 50), (.mov (.t 2)), none⟩,
 ⟨(some 51), (.mov (.t 3)), none⟩,
 ⟨(some 52), (.call (.k (.fn (.func 132) [] [])) [(.t 49), (.t 50), (.t 51)]), none⟩])
 (.seq (.reg [⟨(some 53), (.mov (.t 15)), none⟩,
 ⟨(some 54), (.mov (.t 16)), none⟩,
 ⟨(some 55), (.call (.k (.fn (.func 133) [] [])) [(.t 53), (.t 54)]), none⟩,
 ⟨(some 20), (.mov (.t 55)), none⟩])
 (.seq (.reg [⟨(some 56), (.mov (.t 15)), none⟩,
 ⟨(some 57), (.mov (.t 1)), none⟩,
 ⟨(some 58), (.mov (.t 3)), none⟩,
 ⟨(some 59), (.call (.k (.fn (.func 132) [] [])) [(.t 56), (.t 57), (.t 58)]), none⟩])
 (.seq (.reg [⟨(some 60), (.mov (.t 15)), none⟩,
 ⟨(some 61), (.mov (.t 5)), none⟩,
 ⟨(some 62), (.call (.k (.fn (.func 133) [] [])) [(.t 60), (.t 61)]), none⟩,
 ⟨(some 21), (.mov (.t 62)), none⟩])
 (.seq (.reg [⟨(some 64), (.mov (.t 17)), none⟩,
 ⟨(some 65), (.mov (.t 20)), none⟩,
 ⟨(some 66), (.mov (.t 21)), none⟩,
 ⟨(some 67), (.mks true 1 16 false [(.str []), (.str []), (.str [])] 3 [(0, (.t 64)), (1, (.t 65)), (2, (.t 66))]), none⟩,
 ⟨(some 68), (.call (.k (.fn (.func 105) [] [])) [(.k (.int .u8 88)), (.t 67)]), none⟩,
 ⟨(some 63), (.mov (.t 68)), none⟩,
 ⟨(some 69), (.ext (.t 63) 0), none⟩,
 ⟨(some 70), (.ext (.t 63) 1), none⟩,
 ⟨none, (.store 1 (.t 12) (.t 69)), none⟩,
 ⟨(some 22), (.mov (.t 70)), none⟩])
 (.seq (.reg [⟨(some 71), (.mov (.t 22)), none⟩,
 ⟨(some 72), (.bin .eql .num (.t 71) (.k (.int .i64 0))), none⟩,
 ⟨(some 73), (.call (.k (.fn (.func 128) [] [])) [(.t 72), (.k (.int .i64 3))]), none⟩])
 (.seq (.dreg [⟨(some 74), (.mov (.t 3)), none⟩,
 ⟨(some 75), (.mov (.t 15)), none⟩,
 ⟨(some 76), (.nilck (.t 75)), none⟩,
 ⟨(some 77), (.fad 0 (.t 76)), none⟩,
 ⟨(some 78), (.fad 1 (.t 77)), none⟩,
 ⟨(some 79), (.load 1 false (.t 78)), none⟩,
 ⟨none, (.store 4 (.t 13) (.k (.agg [(.str []), (.str []), (.str []), (.str [])]))), none⟩,
 ⟨(some 80), (.fad 0 (.t 13)), none⟩,
 ⟨none, (.store 1 (.t 80) (.t 74)), none⟩,
 ⟨(some 81), (.fad 3 (.t 13)), none⟩,
 ⟨none, (.store 1 (.t 81) (.t 79)), none⟩] (.lin [] [(0, none), (1, none), (2, none), (3, none), (4, none), (5, none), (6, some [0, 1, 2, 3, 4, 5]), (7, none), (8, some [1, 2, 3, 4, 5]), (9, none), (10, some [])]))
 (.seq (.reg [⟨(some 83), (.mov (.t 0)), none⟩,
 ⟨(some 84), (.mov (.t 15)), none⟩,
 ⟨(some 85), (.nilck (.t 84)), none⟩,
 ⟨(some 86), (.fad 0 (.t 85)), none⟩,
 ⟨(some 87), (.load 4 true (.t 86)), none⟩,
 ⟨(some 88), (.call (.k (.fn (.func 134) [] [])) [(.t 83), (.t 87)]), none⟩,
 ⟨(some 82), (.mov (.t 88)), none⟩,
 ⟨(some 89), (.ext (.t 82) 0), none⟩,
 ⟨(some 90), (.ext (.t 82) 1), none⟩,
 ⟨(some 91), (.fad 1 (.t 13)), none⟩,
 ⟨none, (.store 1 (.t 91) (.t 89)), none⟩,
 ⟨(some 92), (.fad 2 (.t 13)), none⟩,
 ⟨none, (.store 1 (.t 92) (.t 90)), none⟩])
 (.seq (.dreg [⟨(some 93), (.load 1 false (.t 12)), none⟩,
 ⟨(some 94), (.load 4 true (.t 13)), none⟩,
 ⟨none, (.store 1 (.t 12) (.t 93)), none⟩,
 ⟨none, (.store 4 (.t 13) (.t 94)), none⟩,
 ⟨none, (.store 1 (.t 14) (.k (.int .i64 0))), none⟩] (.lin [] [(0, none), (1, none), (2, some [1]), (3, some []), (4, some [])]))
 .ret)))))))))))))))))⟩

/-- 79: (signetring/session.Bundle).prologue -/
def F79 : Fun :=
 ⟨22, 2, [.t 4],
 (.seq (.reg [⟨(some 2), (.box none (.t 0)), none⟩,
 ⟨(some 4), (.mov (.k (.str []))), none⟩])
 (.seq (.dreg [⟨(some 8), (.fad 0 (.t 2)), none⟩,
 ⟨(some 9), (.load 1 false (.t 8)), none⟩,
 ⟨(some 10), (.fad 1 (.t 2)), none⟩,
 ⟨(some 11), (.load 1 false (.t 10)), none⟩,
 ⟨(some 12), (.fad 2 (.t 2)), none⟩,
 ⟨(some 13), (.load 1 false (.t 12)), none⟩,
 ⟨(some 14), (.call (.k (.fn (.func 67) [] [])) [(.t 13)]), none⟩,
 ⟨(some 15), (.mov (.t 1)), none⟩,
 ⟨(some 16), (.call (.k (.fn (.func 67) [] [])) [(.t 15)]), none⟩,
 ⟨(some 17), (.mks true 1 16 false [(.str []), (.str []), (.str []), (.str [])] 4 [(0, (.t 9)), (1, (.t 11)), (2, (.t 14)), (3, (.t 16))]), none⟩,
 ⟨(some 18), (.call (.k (.fn (.func 105) [] [])) [(.k (.int .u8 66)), (.t 17)]), none⟩,
 ⟨(some 7), (.mov (.t 18)), none⟩,
 ⟨(some 19), (.ext (.t 7) 0), none⟩,
 ⟨(some 20), (.ext (.t 7) 1), none⟩,
 ⟨(some 5), (.mov (.t 19)), none⟩,
 ⟨(some 6), (.mov (.t 20)), none⟩] (.lin [] [(0, none), (1, none), (2, none), (3, none), (4, none), (5, none), (7, none), (6, some [0, 1, 2, 3, 7]), (8, some [0, 1, 2, 3]), (9, none), (10, some []), (11, none), (12, none), (13, none), (14, none), (15, none)]))
 (.seq (.reg [⟨(some 21), (.mov (.t 5)), none⟩,
 ⟨(some 4), (.mov (.t 21)), none⟩])
 .ret)))⟩

/-- 80: signetring/session.three -/
def F80 : Fun :=
 ⟨19, 3, [.c 6 3 true],
 (.seq (.reg [⟨(some 6), (.new [(.str []), (.str []), (.str [])] none), none⟩])
 (.seq (.reg [⟨(some 8), (.mov (.t 0)), none⟩,
 ⟨(some 9), (.mov (.t 1)), none⟩,
 ⟨(some 10), (.mov (.t 2)), none⟩,
 ⟨(some 11), (.inv (.t 8) "Keys" [(.t 9), (.t 10), (.k (.int .i64 3))]), none⟩,
 ⟨(some 7), (.mov (.t 11)), none⟩])
 (.seq (.reg [⟨(some 12), (.mov (.t 7)), none⟩,
 ⟨(some 13), (.len .slc (.t 12)), none⟩,
 ⟨(some 14), (.bin .eql .num (.t 13) (.k (.int .i64 3))), none⟩,
 ⟨(some 15), (.call (.k (.fn (.func 44) [] [])) [(.t 14), (.k (.int .i64 6))]), none⟩])
 (.seq (.reg [⟨(some 16), (.mov (.t 7)), none⟩,
 ⟨(some 17), (.arrp 3 1 (.t 16)), none⟩,
 ⟨(some 18), (.load 3 true (.t 17)), none⟩,
 ⟨none, (.store 3 (.t 6) (.t 18)), none⟩])
 .ret))))⟩

/-- 81: signetring/ratchet.First -/
def F81 : Fun :=
 ⟨37, 6, [.c 12 13 true, .t 13],
 (.seq (.reg [⟨(some 12), (.new [(.str []), (.str []), (.str []), (.str []), (.int .i64 0), (.str []), (.int .i64 0), (.str []), (.str []), (.str []), (.str []), (.int .i64 0), .nsl] none), none⟩,
 ⟨(some 13), (.mov (.k (.int .i64 0))), none⟩])
 (.seq (.seq (.reg [⟨(some 17), (.mov (.t 0)), none⟩,
 ⟨(some 18), (.mov (.t 5)), none⟩,
 ⟨(some 19), (.call (.k (.fn (.func 135) [] [])) [(.t 17), (.t 18)]), none⟩,
 ⟨(some 14), (.mov (.t 19)), none⟩])
 (.seq (.reg [⟨(some 20), (.mov (.t 14)), none⟩,
 ⟨(some 21), (.bin .neq .num (.t 20) (.k (.int .i64 0))), none⟩])
 (.cond (.t 21)
 (.seq (.reg [⟨(some 22), (.build [(.str []), (.str []), (.str []), (.str []), (.int .i64 0), (.str []), (.int .i64 0), (.str []), (.str []), (.str []), (.str []), (.int .i64 0), .nsl] []), none⟩,
 ⟨(some 23), (.mov (.t 14)), none⟩,
 ⟨none, (.store 13 (.t 12) (.t 22)), none⟩,
 ⟨(some 13), (.mov (.t 23)), none⟩])
 .ret)
 .skip)))
 (.seq (.reg [⟨(some 24), (.mov (.t 4)), none⟩,
 ⟨(some 25), (.mov (.t 1)), none⟩,
 ⟨(some 26), (.mov (.t 2)), none⟩,
 ⟨(some 27), (.mov (.t 3)), none⟩,
 ⟨(some 28), (.build [(.str []), (.str []), (.str []), (.str []), (.int .i64 0), (.str []), (.int .i64 0), (.str []), (.str []), (.str []), (.str []), (.int .i64 0), .nsl] [(1, 1, (.t 24)), (2, 1, (.t 25)), (9, 1, (.t 26)), (10, 1, (.t 27))]), none⟩,
 ⟨(some 15), (.new [(.str []), (.str []), (.str []), (.str []), (.int .i64 0), (.str []), (.int .i64 0), (.str []), (.str []), (.str []), (.str []), (.int .i64 0), .nsl] none), none⟩,
 ⟨none, (.store 13 (.t 15) (.t 28)), none⟩])
 (.seq (.seq (.reg [⟨(some 29), (.mov (.t 0)), none⟩,
 ⟨(some 30), (.mov (.t 5)), none⟩,
 ⟨(some 31), (.call (.k (.fn (.func 136) [] [])) [(.t 15), (.t 29), (.t 30)]), none⟩,
 ⟨(some 16), (.mov (.t 31)), none⟩])
 (.seq (.reg [⟨(some 32), (.mov (.t 16)), none⟩,
 ⟨(some 33), (.bin .neq .num (.t 32) (.k (.int .i64 0))), none⟩])
 (.cond (.t 33)
 (.seq (.reg [⟨(some 34), (.build [(.str []), (.str []), (.str []), (.str []), (.int .i64 0), (.str []), (.int .i64 0), (.str []), (.str []), (.str []), (.str []), (.int .i64 0), .nsl] []), none⟩,
 ⟨(some 35), (.mov (.t 16)), none⟩,
 ⟨none, (.store 13 (.t 12) (.t 34)), none⟩,
 ⟨(some 13), (.mov (.t 35)), none⟩])
 .ret)
 .skip)))
 (.seq (.reg [⟨(some 36), (.load 13 true (.t 15)), none⟩,
 ⟨none, (.store 13 (.t 12) (.t 36)), none⟩,
 ⟨(some 13), (.mov (.k (.int .i64 0))), none⟩])
 .ret)))))⟩

/-- 82: signetring/session.joined -/
def F82 : Fun :=
 ⟨17, 2, [.t 4],
 (.seq (.reg [⟨(some 4), (.mov (.k (.str []))), none⟩])
 (.seq (.reg [⟨(some 8), (.mov (.t 0)), none⟩,
 ⟨(some 9), (.mov (.t 1)), none⟩,
 ⟨(some 10), (.call (.k (.fn (.func 105) [] [])) [(.t 8), (.t 9)]), none⟩,
 ⟨(some 7), (.mov (.t 10)), none⟩,
 ⟨(some 11), (.ext (.t 7) 0), none⟩,
 ⟨(some 12), (.ext (.t 7) 1), none⟩,
 ⟨(some 5), (.mov (.t 11)), none⟩,
 ⟨(some 6), (.mov (.t 12)), none⟩])
 (.seq (.reg [⟨(some 13), (.mov (.t 6)), none⟩,
 ⟨(some 14), (.bin .eql .num (.t 13) (.k (.int .i64 0))), none⟩,
 ⟨(some 15), (.call (.k (.fn (.func 44) [] [])) [(.t 14), (.k (.int .i64 3))]), none⟩])
 (.seq (.reg [⟨(some 16), (.mov (.t 5)), none⟩,
 ⟨(some 4), (.mov (.t 16)), none⟩])
 .ret))))⟩

/-- 83: (signetring/session.Device).with -/
def F83 : Fun :=
 ⟨26, 2, [.c 4 4 true],
 (.seq (.reg [⟨(some 2), (.box none (.t 0)), none⟩,
 ⟨(some 3), (.box none (.t 1)), none⟩,
 ⟨(some 4), (.new [(.str []), .nsl, (.int .u64 0), .nsl] none), none⟩])
 (.seq (.reg [⟨(some 6), (.load 4 true (.t 2)), none⟩,
 ⟨(some 7), (.call (.k (.fn (.func 40) [] [])) [(.t 6)]), none⟩,
 ⟨none, (.store 4 (.t 2) (.t 7)), none⟩])
 (.seq (.seq (.reg [⟨(some 8), (.load 4 true (.t 2)), none⟩,
 ⟨(some 9), (.fad 0 (.t 3)), none⟩,
 ⟨(some 10), (.load 1 false (.t 9)), none⟩,
 ⟨(some 11), (.call (.k (.fn (.func 51) [] [])) [(.t 8), (.t 10)]), none⟩,
 ⟨(some 5), (.mov (.t 11)), none⟩])
 (.seq (.reg [⟨(some 12), (.mov (.t 5)), none⟩,
 ⟨(some 13), (.bin .geq .num (.t 12) (.k (.int .i64 0))), none⟩])
 (.cond (.t 13)
 (.reg [⟨(some 14), (.fad 3 (.t 2)), none⟩,
 ⟨(some 15), (.load 1 false (.t 14)), none⟩,
 ⟨(some 16), (.mov (.t 5)), none⟩,
 ⟨(some 17), (.load 15 true (.t 3)), none⟩,
 ⟨(some 18), (.iad 15 (.t 15) (.t 16)), none⟩,
 ⟨none, (.store 15 (.t 18) (.t 17)), none⟩])
 (.reg [⟨(some 19), (.fad 3 (.t 2)), none⟩,
 ⟨(some 20), (.load 1 false (.t 19)), none⟩,
 ⟨(some 21), (.load 15 true (.t 3)), none⟩,
 ⟨(some 22), (.mks true 15 216 true [(.str []), (.int .u64 0), (.str []), (.str []), (.str []), (.str []), (.int .i64 0), (.str []), (.int .i64 0), (.str []), (.str []), (.str []), (.str []), (.int .i64 0), .nsl] 1 [(0, (.t 21))]), none⟩,
 ⟨(some 23), (.app 15 216 true none (.t 20) (.t 22)), none⟩,
 ⟨(some 24), (.fad 3 (.t 2)), none⟩,
 ⟨none, (.store 1 (.t 24) (.t 23)), none⟩]))))
 (.seq (.reg [⟨(some 25), (.load 4 true (.t 2)), none⟩,
 ⟨none, (.store 4 (.t 4) (.t 25)), none⟩])
 .ret))))⟩

/-- 87: slices.Clone[[]signetring/session.Pre,signetring/session.Pre] -/
def F87 : Fun :=
 ⟨8, 1, [.t 2],
 (.seq (.reg [⟨(some 2), (.mov (.k .nsl)), none⟩])
 (.seq (.seq (.reg [⟨(some 3), (.mov (.t 0)), none⟩,
 ⟨(some 4), (.bin .eql .slc (.t 3) (.k .nsl)), none⟩])
 (.cond (.t 4)
 (.seq (.reg [⟨(some 2), (.mov (.k .nsl)), none⟩])
 .ret)
 .skip))
 (.seq (.reg [⟨(some 5), (.mks true 2 24 true [] 0 []), none⟩,
 ⟨(some 6), (.mov (.t 0)), none⟩,
 ⟨(some 7), (.app 2 24 true none (.t 5) (.t 6)), none⟩,
 ⟨(some 2), (.mov (.t 7)), none⟩])
 .ret)))⟩

/-- 88: slices.Clone[[]signetring/session.Peer,signetring/session.Peer] -/
def F88 : Fun :=
 ⟨8, 1, [.t 2],
 (.seq (.reg [⟨(some 2), (.mov (.k .nsl)), none⟩])
 (.seq (.seq (.reg [⟨(some 3), (.mov (.t 0)), none⟩,
 ⟨(some 4), (.bin .eql .slc (.t 3) (.k .nsl)), none⟩])
 (.cond (.t 4)
 (.seq (.reg [⟨(some 2), (.mov (.k .nsl)), none⟩])
 .ret)
 .skip))
 (.seq (.reg [⟨(some 5), (.mks true 15 216 true [] 0 []), none⟩,
 ⟨(some 6), (.mov (.t 0)), none⟩,
 ⟨(some 7), (.app 15 216 true none (.t 5) (.t 6)), none⟩,
 ⟨(some 2), (.mov (.t 7)), none⟩])
 .ret)))⟩

/-- 90: signetring/codec.Split -/
def F90 : Fun :=
 ⟨19, 1, [.t 2, .t 3, .t 4],
 (.seq (.reg [⟨(some 2), (.mov (.k (.int .u8 0))), none⟩,
 ⟨(some 3), (.mov (.k .nsl)), none⟩,
 ⟨(some 4), (.mov (.k (.int .i64 0))), none⟩])
 (.seq (.reg [⟨(some 9), (.mov (.t 0)), none⟩,
 ⟨(some 10), (.call (.k (.fn (.func 141) [] [])) [(.t 9)]), none⟩,
 ⟨(some 8), (.mov (.t 10)), none⟩,
 ⟨(some 11), (.ext (.t 8) 0), none⟩,
 ⟨(some 12), (.ext (.t 8) 1), none⟩,
 ⟨(some 13), (.ext (.t 8) 2), none⟩,
 ⟨(some 5), (.mov (.t 11)), none⟩,
 ⟨(some 6), (.mov (.t 12)), none⟩,
 ⟨(some 7), (.mov (.t 13)), none⟩])
 (.seq (.seq (.reg [⟨(some 14), (.mov (.t 7)), none⟩,
 ⟨(some 15), (.bin .neq .num (.t 14) (.k (.int .i64 0))), none⟩])
 (.cond (.t 15)
 (.seq (.reg [⟨(some 16), (.mov (.t 7)), none⟩,
 ⟨(some 2), (.mov (.k (.int .u8 0))), none⟩,
 ⟨(some 3), (.mov (.k .nsl)), none⟩,
 ⟨(some 4), (.mov (.t 16)), none⟩])
 .ret)
 .skip))
 (.seq (.reg [⟨(some 17), (.mov (.t 5)), none⟩,
 ⟨(some 18), (.mov (.t 6)), none⟩,
 ⟨(some 2), (.mov (.t 17)), none⟩,
 ⟨(some 3), (.mov (.t 18)), none⟩,
 ⟨(some 4), (.mov (.k (.int .i64 0))), none⟩])
 .ret))))⟩

/-- 91: signetring/session.read -/
def F91 : Fun :=
 ⟨14, 1, [.t 2],
 (.seq (.reg [⟨(some 2), (.mov (.k (.int .u64 0))), none⟩])
 (.seq (.reg [⟨(some 6), (.mov (.t 0)), none⟩,
 ⟨(some 7), (.call (.k (.fn (.func 63) [] [])) [(.t 6)]), none⟩,
 ⟨(some 5), (.mov (.t 7)), none⟩,
 ⟨(some 8), (.ext (.t 5) 0), none⟩,
 ⟨(some 9), (.ext (.t 5) 1), none⟩,
 ⟨(some 3), (.mov (.t 8)), none⟩,
 ⟨(some 4), (.mov (.t 9)), none⟩])
 (.seq (.reg [⟨(some 10), (.mov (.t 4)), none⟩,
 ⟨(some 11), (.bin .eql .num (.t 10) (.k (.int .i64 0))), none⟩,
 ⟨(some 12), (.call (.k (.fn (.func 44) [] [])) [(.t 11), (.k (.int .i64 4))]), none⟩])
 (.seq (.reg [⟨(some 13), (.mov (.t 3)), none⟩,
 ⟨(some 2), (.mov (.t 13)), none⟩])
 .ret))))⟩

/-- 92: slices.IndexFunc[[]signetring/session.Pre,signetring/session.Pre] -/
def F92 : Fun :=
 ⟨19, 2, [.t 4],
 (.seq (.reg [⟨(some 4), (.mov (.k (.int .i64 0))), none⟩])
 (.seq (.seq (.reg [⟨(some 6), (.mov (.t 0)), none⟩,
 ⟨(some 7), (.len .slc (.t 6)), none⟩,
 ⟨(some 8), (.mov (.k (.int .i64 0))), none⟩])
 (.block 0
 (.loop
 (.seq (.reg [⟨(some 9), (.bin .lss .num (.t 8) (.t 7)), none⟩])
 (.seq (.cond (.t 9)
 .skip
 (.exit 0))
 (.seq (.block 1
 (.seq (.reg [⟨(some 10), (.mov (.t 8)), none⟩,
 ⟨(some 5), (.mov (.t 10)), none⟩])
 (.seq (.reg [⟨(some 11), (.mov (.t 1)), none⟩,
 ⟨(some 12), (.mov (.t 0)), none⟩,
 ⟨(some 13), (.mov (.t 5)), none⟩,
 ⟨(some 14), (.iad 2 (.t 12) (.t 13)), none⟩,
 ⟨(some 15), (.load 2 true (.t 14)), none⟩,
 ⟨(some 16), (.call (.t 11) [(.t 15)]), none⟩])
 (.cond (.t 16)
 (.seq (.reg [⟨(some 17), (.mov (.t 5)), none⟩,
 ⟨(some 4), (.mov (.t 17)), none⟩])
 .ret)
 .skip))))
 (.reg [⟨(some 18), (.bin .add .num (.t 8) (.k (.int .i64 1))), none⟩,
 ⟨(some 8), (.mov (.t 18)), none⟩])))))))
 (.seq (.reg [⟨(some 4), (.mov (.k (.int .i64 (-1)))), none⟩])
 .ret)))⟩

/-- 93: (signetring/session.Device).begun$1 -/
def F93 : Fun :=
 ⟨8, 2, [.t 3],
 (.seq (.reg [⟨(some 2), (.box none (.t 0)), none⟩,
 ⟨(some 3), (.mov (.k (.bool false))), none⟩])
 (.seq (.reg [⟨(some 4), (.fad 0 (.t 2)), none⟩,
 ⟨(some 5), (.load 1 false (.t 4)), none⟩,
 ⟨(some 6), (.load 1 false (.t 1)), none⟩,
 ⟨(some 7), (.bin .eql .num (.t 5) (.t 6)), none⟩,
 ⟨(some 3), (.mov (.t 7)), none⟩])
 .ret))⟩

/-- 94: signetring/noise.Read -/
def F94 : Fun :=
 ⟨83, 4, [.c 8 1 false, .c 9 4 true, .c 10 1 false],
 (.seq (.reg [⟨(some 8), (.new [(.str [])] none), none⟩,
 ⟨(some 9), (.new [(.str []), (.str []), (.str []), (.str [])] none), none⟩,
 ⟨(some 10), (.new [(.int .i64 0)] none), none⟩])
 (.seq (.reg [⟨(some 15), (.mkf (.func 142) [] [(.t 8), (.t 9)]), none⟩,
 ⟨none, (.dfr (.k (.fn (.func 126) [] [])) [(.t 10), (.t 15)]), none⟩])
 (.seq (.reg [⟨(some 16), (.mov (.t 0)), none⟩,
 ⟨(some 17), (.bin .neq .ifc (.t 16) (.k .nifc)), none⟩,
 ⟨(some 18), (.call (.k (.fn (.func 128) [] [])) [(.t 17), (.k (.int .i64 1))]), none⟩])
 (.seq (.reg [⟨(some 20), (.mov (.t 3)), none⟩,
 ⟨(some 21), (.call (.k (.fn (.func 42) [] [])) [(.t 20), (.k (.int .u8 88)), (.k (.int .i64 3))]), none⟩,
 ⟨(some 19), (.mov (.t 21)), none⟩,
 ⟨(some 22), (.ext (.t 19) 0), none⟩,
 ⟨(some 23), (.ext (.t 19) 1), none⟩,
 ⟨(some 11), (.mov (.t 22)), none⟩,
 ⟨(some 12), (.mov (.t 23)), none⟩])
 (.seq (.reg [⟨(some 24), (.mov (.t 12)), none⟩,
 ⟨(some 25), (.bin .eql .num (.t 24) (.k (.int .i64 0))), none⟩,
 ⟨(some 26), (.call (.k (.fn (.func 128) [] [])) [(.t 25), (.k (.int .i64 4))]), none⟩])
 (.seq (.reg [⟨(some 27), (.mov (.t 0)), none⟩,
 ⟨(some 28), (.mov (.t 1)), none⟩,
 ⟨(some 29), (.inv (.t 27) "Pub" [(.t 28)]), none⟩,
 ⟨(some 13), (.mov (.t 29)), none⟩])
 (.seq (.reg [⟨(some 30), (.mov (.t 13)), none⟩,
 ⟨(some 31), (.bin .neq .str (.t 30) (.k (.str []))), none⟩,
 ⟨(some 32), (.call (.k (.fn (.func 128) [] [])) [(.t 31), (.k (.int .i64 6))]), none⟩])
 (.seq (.reg [⟨(some 33), (.mov (.t 0)), none⟩,
 ⟨(some 34), (.mov (.t 2)), none⟩,
 ⟨(some 35), (.mov (.t 13)), none⟩,
 ⟨(some 36), (.call (.k (.fn (.func 129) [] [])) [(.t 33), (.t 34), (.t 35)]), none⟩,
 ⟨(some 14), (.mov (.t 36)), none⟩])
 (.seq (.reg [⟨(some 37), (.mov (.t 14)), none⟩,
 ⟨(some 38), (.mov (.t 11)), none⟩,
 ⟨(some 39), (.iad 1 (.t 38) (.k (.int .i64 0))), none⟩,
 ⟨(some 40), (.load 1 false (.t 39)), none⟩,
 ⟨(some 41), (.call (.k (.fn (.func 131) [] [])) [(.t 37), (.t 40)]), none⟩])
 (.seq (.reg [⟨(some 42), (.mov (.t 14)), none⟩,
 ⟨(some 43), (.mov (.t 1)), none⟩,
 ⟨(some 44), (.mov (.t 11)), none⟩,
 ⟨(some 45), (.iad 1 (.t 44) (.k (.int .i64 0))), none⟩,
 ⟨(some 46), (.load 1 false (.t 45)), none⟩,
 ⟨(some 47), (.call (.k (.fn (.func 132) [] [])) [(.t 42), (.t 43), (.t 46)]), none⟩])
 (.seq (.reg [⟨(some 48), (.mov (.t 14)), none⟩,
 ⟨(some 49), (.mov (.t 11)), none⟩,
 ⟨(some 50), (.iad 1 (.t 49) (.k (.int .i64 1))), none⟩,
 ⟨(some 51), (.load 1 false (.t 50)), none⟩,
 ⟨(some 52), (.call (.k (.fn (.func 143) [] [])) [(.t 48), (.t 51)]), none⟩,
 ⟨(some 53), (.fad 0 (.t 9)), none⟩,
 ⟨none, (.store 1 (.t 53) (.t 52)), none⟩])
 (.seq (.reg [⟨(some 54), (.mov (.t 14)), none⟩,
 ⟨(some 55), (.mov (.t 1)), none⟩,
 ⟨(some 56), (.fad 0 (.t 9)), none⟩,
 ⟨(some 57), (.load 1 false (.t 56)), none⟩,
 ⟨(some 58), (.call (.k (.fn (.func 132) [] [])) [(.t 54), (.t 55), (.t 57)]), none⟩])
 (.seq (.reg [⟨(some 59), (.mov (.t 14)), none⟩,
 ⟨(some 60), (.mov (.t 11)), none⟩,
 ⟨(some 61), (.iad 1 (.t 60) (.k (.int .i64 2))), none⟩,
 ⟨(some 62), (.load 1 false (.t 61)), none⟩,
 ⟨(some 63), (.call (.k (.fn (.func 143) [] [])) [(.t 59), (.t 62)]), none⟩,
 ⟨none, (.store 1 (.t 8) (.t 63)), none⟩])
 (.seq (.reg [⟨(some 64), (.mov (.t 14)), none⟩,
 ⟨(some 65), (.nilck (.t 64)), none⟩,
 ⟨(some 66), (.fad 0 (.t 65)), none⟩,
 ⟨(some 67), (.fad 1 (.t 66)), none⟩,
 ⟨(some 68), (.load 1 false (.t 67)), none⟩,
 ⟨(some 69), (.fad 3 (.t 9)), none⟩,
 ⟨none, (.store 1 (.t 69) (.t 68)), none⟩])
 (.seq (.reg [⟨(some 71), (.mov (.t 0)), none⟩,
 ⟨(some 72), (.mov (.t 14)), none⟩,
 ⟨(some 73), (.nilck (.t 72)), none⟩,
 ⟨(some 74), (.fad 0 (.t 73)), none⟩,
 ⟨(some 75), (.load 4 true (.t 74)), none⟩,
 ⟨(some 76), (.call (.k (.fn (.func 134) [] [])) [(.t 71), (.t 75)]), none⟩,
 ⟨(some 70), (.mov (.t 76)), none⟩,
 ⟨(some 77), (.ext (.t 70) 0), none⟩,
 ⟨(some 78), (.ext (.t 70) 1), none⟩,
 ⟨(some 79), (.fad 2 (.t 9)), none⟩,
 ⟨none, (.store 1 (.t 79) (.t 77)), none⟩,
 ⟨(some 80), (.fad 1 (.t 9)), none⟩,
 ⟨none, (.store 1 (.t 80) (.t 78)), none⟩])
 (.seq (.dreg [⟨(some 81), (.load 1 false (.t 8)), none⟩,
 ⟨(some 82), (.load 4 true (.t 9)), none⟩,
 ⟨none, (.store 1 (.t 8) (.t 81)), none⟩,
 ⟨none, (.store 4 (.t 9) (.t 82)), none⟩,
 ⟨none, (.store 1 (.t 10) (.k (.int .i64 0))), none⟩] (.lin [] [(0, none), (1, none), (2, some [1]), (3, some []), (4, some [])]))
 .ret))))))))))))))))⟩

/-- 95: signetring/ratchet.Second -/
def F95 : Fun :=
 ⟨25, 5, [.c 10 13 true, .t 11],
 (.seq (.reg [⟨(some 10), (.new [(.str []), (.str []), (.str []), (.str []), (.int .i64 0), (.str []), (.int .i64 0), (.str []), (.str []), (.str []), (.str []), (.int .i64 0), .nsl] none), none⟩,
 ⟨(some 11), (.mov (.k (.int .i64 0))), none⟩])
 (.seq (.seq (.reg [⟨(some 13), (.mov (.t 0)), none⟩,
 ⟨(some 14), (.mov (.t 4)), none⟩,
 ⟨(some 15), (.call (.k (.fn (.func 135) [] [])) [(.t 13), (.t 14)]), none⟩,
 ⟨(some 12), (.mov (.t 15)), none⟩])
 (.seq (.reg [⟨(some 16), (.mov (.t 12)), none⟩,
 ⟨(some 17), (.bin .neq .num (.t 16) (.k (.int .i64 0))), none⟩])
 (.cond (.t 17)
 (.seq (.reg [⟨(some 18), (.build [(.str []), (.str []), (.str []), (.str []), (.int .i64 0), (.str []), (.int .i64 0), (.str []), (.str []), (.str []), (.str []), (.int .i64 0), .nsl] []), none⟩,
 ⟨(some 19), (.mov (.t 12)), none⟩,
 ⟨none, (.store 13 (.t 10) (.t 18)), none⟩,
 ⟨(some 11), (.mov (.t 19)), none⟩])
 .ret)
 .skip)))
 (.seq (.reg [⟨(some 20), (.mov (.t 4)), none⟩,
 ⟨(some 21), (.mov (.t 1)), none⟩,
 ⟨(some 22), (.mov (.t 3)), none⟩,
 ⟨(some 23), (.mov (.t 2)), none⟩,
 ⟨(some 24), (.build [(.str []), (.str []), (.str []), (.str []), (.int .i64 0), (.str []), (.int .i64 0), (.str []), (.str []), (.str []), (.str []), (.int .i64 0), .nsl] [(0, 1, (.t 20)), (2, 1, (.t 21)), (9, 1, (.t 22)), (10, 1, (.t 23))]), none⟩,
 ⟨none, (.store 13 (.t 10) (.t 24)), none⟩,
 ⟨(some 11), (.mov (.k (.int .i64 0))), none⟩])
 .ret)))⟩

/-- 96: slices.Delete[[]signetring/session.Pre,signetring/session.Pre] -/
def F96 : Fun :=
 ⟨33, 3, [.t 6],
 (.seq (.reg [⟨(some 6), (.mov (.k .nsl)), none⟩])
 (.seq (.reg [⟨(some 8), (.mov (.t 0)), none⟩,
 ⟨(some 9), (.mov (.t 1)), none⟩,
 ⟨(some 10), (.mov (.t 2)), none⟩,
 ⟨(some 11), (.mov (.t 0)), none⟩,
 ⟨(some 12), (.len .slc (.t 11)), none⟩,
 ⟨(some 13), (.slc false 2 (.t 8) (some (.t 9)) (some (.t 10)) (some (.t 12))), none⟩])
 (.seq (.seq (.reg [⟨(some 14), (.mov (.t 1)), none⟩,
 ⟨(some 15), (.mov (.t 2)), none⟩,
 ⟨(some 16), (.bin .eql .num (.t 14) (.t 15)), none⟩])
 (.cond (.t 16)
 (.seq (.reg [⟨(some 17), (.mov (.t 0)), none⟩,
 ⟨(some 6), (.mov (.t 17)), none⟩])
 .ret)
 .skip))
 (.seq (.reg [⟨(some 18), (.mov (.t 0)), none⟩,
 ⟨(some 19), (.len .slc (.t 18)), none⟩,
 ⟨(some 7), (.mov (.t 19)), none⟩])
 (.seq (.dreg [⟨(some 20), (.mov (.t 0)), none⟩,
 ⟨(some 21), (.mov (.t 1)), none⟩,
 ⟨(some 22), (.slc false 2 (.t 20) none (some (.t 21)) none), none⟩,
 ⟨(some 23), (.mov (.t 0)), none⟩,
 ⟨(some 24), (.mov (.t 2)), none⟩,
 ⟨(some 25), (.slc false 2 (.t 23) (some (.t 24)) none none), none⟩,
 ⟨(some 26), (.app 2 24 true none (.t 22) (.t 25)), none⟩,
 ⟨(some 0), (.mov (.t 26)), none⟩] (.lin [] [(0, none), (1, none), (2, none), (3, none), (4, none), (5, none), (6, some []), (7, some [])]))
 (.seq (.reg [⟨(some 27), (.mov (.t 0)), none⟩,
 ⟨(some 28), (.mov (.t 0)), none⟩,
 ⟨(some 29), (.len .slc (.t 28)), none⟩,
 ⟨(some 30), (.mov (.t 7)), none⟩,
 ⟨(some 31), (.slc false 2 (.t 27) (some (.t 29)) (some (.t 30)) none), none⟩,
 ⟨none, (.clr [(.int .u64 0), (.str [])] (.t 31)), none⟩])
 (.seq (.reg [⟨(some 32), (.mov (.t 0)), none⟩,
 ⟨(some 6), (.mov (.t 32)), none⟩])
 .ret)))))))⟩

/-- 98: (*signetring/term.Table).put -/
def F98 : Fun :=
 ⟨70, 3, [.t 6],
 (.seq (.reg [⟨(some 6), (.mov (.k (.str []))), none⟩])
 (.seq (.reg [⟨(some 13), (.mov (.t 1)), none⟩,
 ⟨(some 14), (.mov (.t 2)), none⟩,
 ⟨(some 15), (.call (.k (.fn (.func 105) [] [])) [(.t 13), (.t 14)]), none⟩,
 ⟨(some 12), (.mov (.t 15)), none⟩,
 ⟨(some 16), (.ext (.t 12) 0), none⟩,
 ⟨(some 17), (.ext (.t 12) 1), none⟩,
 ⟨(some 7), (.mov (.t 16)), none⟩,
 ⟨(some 8), (.mov (.t 17)), none⟩])
 (.seq (.seq (.reg [⟨(some 18), (.mov (.t 0)), none⟩,
 ⟨(some 19), (.call (.k (.fn (.func 145) [] [])) [(.t 18)]), none⟩,
 ⟨(some 20), (.un .not (.t 19)), none⟩,
 ⟨(some 21), (.mov (.t 20)), none⟩,
 ⟨(some 22), (.mov (.t 8)), some (21, false)⟩,
 ⟨(some 23), (.bin .neq .num (.t 22) (.k (.int .i64 0))), some (21, false)⟩,
 ⟨(some 24), (.pick (.t 21) (.k (.bool true)) (.t 23)), none⟩])
 (.cond (.t 24)
 (.seq (.reg [⟨(some 6), (.mov (.k (.str []))), none⟩])
 .ret)
 .skip))
 (.seq (.seq (.reg [⟨(some 26), (.mov (.t 0)), none⟩,
 ⟨(some 27), (.nilck (.t 26)), none⟩,
 ⟨(some 28), (.fad 0 (.t 27)), none⟩,
 ⟨(some 29), (.load 1 false (.t 28)), none⟩,
 ⟨(some 30), (.mov (.t 7)), none⟩,
 ⟨(some 31), (.look .str (.str []) (.t 29) (.t 30) true), none⟩,
 ⟨(some 25), (.mov (.t 31)), none⟩,
 ⟨(some 32), (.ext (.t 25) 0), none⟩,
 ⟨(some 33), (.ext (.t 25) 1), none⟩,
 ⟨(some 9), (.mov (.t 32)), none⟩,
 ⟨(some 10), (.mov (.t 33)), none⟩])
 (.seq (.reg [⟨(some 34), (.mov (.t 10)), none⟩])
 (.cond (.t 34)
 (.seq (.reg [⟨(some 35), (.mov (.t 9)), none⟩,
 ⟨(some 6), (.mov (.t 35)), none⟩])
 .ret)
 .skip)))
 (.seq (.reg [⟨(some 36), (.mov (.t 0)), none⟩,
 ⟨(some 37), (.nilck (.t 36)), none⟩,
 ⟨(some 38), (.fad 2 (.t 37)), none⟩,
 ⟨(some 39), (.load 1 false (.t 38)), none⟩,
 ⟨(some 40), (.len .slc (.t 39)), none⟩,
 ⟨(some 41), (.bin .add .num (.t 40) (.k (.int .i64 1))), none⟩,
 ⟨(some 42), (.call (.k (.fn (.func 146) [] [])) [(.t 41)]), none⟩,
 ⟨(some 11), (.mov (.t 42)), none⟩])
 (.seq (.dreg [⟨(some 43), (.mov (.t 0)), none⟩,
 ⟨(some 44), (.nilck (.t 43)), none⟩,
 ⟨(some 45), (.fad 0 (.t 44)), none⟩,
 ⟨(some 46), (.load 1 false (.t 45)), none⟩,
 ⟨(some 47), (.mov (.t 7)), none⟩,
 ⟨(some 48), (.mov (.t 0)), none⟩,
 ⟨(some 49), (.nilck (.t 48)), none⟩,
 ⟨(some 50), (.fad 1 (.t 49)), none⟩,
 ⟨(some 51), (.load 1 false (.t 50)), none⟩,
 ⟨(some 52), (.mov (.t 11)), none⟩,
 ⟨(some 53), (.mov (.t 11)), none⟩,
 ⟨(some 54), (.mov (.t 7)), none⟩,
 ⟨(some 55), (.ment .str (.str []) (.t 46) (.t 47)), none⟩,
 ⟨(some 56), (.ext (.t 55) 1), none⟩,
 ⟨none, (.ests (.t 46) (.t 56) (.t 53)), none⟩,
 ⟨(some 57), (.ment .str (.str []) (.t 51) (.t 52)), none⟩,
 ⟨(some 58), (.ext (.t 57) 1), none⟩,
 ⟨none, (.ests (.t 51) (.t 58) (.t 54)), none⟩] (.lin [] [(0, none), (1, none), (2, none), (3, none), (4, none), (5, none), (6, none), (7, none), (8, none), (9, none), (10, none), (11, none), (12, some [9, 10, 11]), (13, none), (14, some [9, 11]), (15, some [11]), (16, none), (17, some [])]))
 (.seq (.reg [⟨(some 59), (.mov (.t 0)), none⟩,
 ⟨(some 60), (.mov (.t 0)), none⟩,
 ⟨(some 61), (.nilck (.t 60)), none⟩,
 ⟨(some 62), (.fad 2 (.t 61)), none⟩,
 ⟨(some 63), (.load 1 false (.t 62)), none⟩,
 ⟨(some 64), (.mov (.t 11)), none⟩,
 ⟨(some 65), (.mks true 1 16 false [(.str [])] 1 [(0, (.t 64))]), none⟩,
 ⟨(some 66), (.app 1 16 false none (.t 63) (.t 65)), none⟩,
 ⟨(some 67), (.nilck (.t 59)), none⟩,
 ⟨(some 68), (.fad 2 (.t 67)), none⟩,
 ⟨none, (.store 1 (.t 68) (.t 66)), none⟩])
 (.seq (.reg [⟨(some 69), (.mov (.t 11)), none⟩,
 ⟨(some 6), (.mov (.t 69)), none⟩])
 .ret))))))))⟩

/-- 101: slices.IndexFunc[[]signetring/session.Peer,signetring/session.Peer] -/
def F101 : Fun :=
 ⟨19, 2, [.t 4],
 (.seq (.reg [⟨(some 4), (.mov (.k (.int .i64 0))), none⟩])
 (.seq (.seq (.reg [⟨(some 6), (.mov (.t 0)), none⟩,
 ⟨(some 7), (.len .slc (.t 6)), none⟩,
 ⟨(some 8), (.mov (.k (.int .i64 0))), none⟩])
 (.block 0
 (.loop
 (.seq (.reg [⟨(some 9), (.bin .lss .num (.t 8) (.t 7)), none⟩])
 (.seq (.cond (.t 9)
 .skip
 (.exit 0))
 (.seq (.block 1
 (.seq (.reg [⟨(some 10), (.mov (.t 8)), none⟩,
 ⟨(some 5), (.mov (.t 10)), none⟩])
 (.seq (.reg [⟨(some 11), (.mov (.t 1)), none⟩,
 ⟨(some 12), (.mov (.t 0)), none⟩,
 ⟨(some 13), (.mov (.t 5)), none⟩,
 ⟨(some 14), (.iad 15 (.t 12) (.t 13)), none⟩,
 ⟨(some 15), (.load 15 true (.t 14)), none⟩,
 ⟨(some 16), (.call (.t 11) [(.t 15)]), none⟩])
 (.cond (.t 16)
 (.seq (.reg [⟨(some 17), (.mov (.t 5)), none⟩,
 ⟨(some 4), (.mov (.t 17)), none⟩])
 .ret)
 .skip))))
 (.reg [⟨(some 18), (.bin .add .num (.t 8) (.k (.int .i64 1))), none⟩,
 ⟨(some 8), (.mov (.t 18)), none⟩])))))))
 (.seq (.reg [⟨(some 4), (.mov (.k (.int .i64 (-1)))), none⟩])
 .ret)))⟩

/-- 105: signetring/codec.Join -/
def F105 : Fun :=
 ⟨49, 2, [.t 4, .t 5],
 (.seq (.reg [⟨(some 4), (.mov (.k (.str []))), none⟩,
 ⟨(some 5), (.mov (.k (.int .i64 0))), none⟩])
 (.seq (.seq (.reg [⟨(some 9), (.mov (.t 1)), none⟩,
 ⟨(some 10), (.len .slc (.t 9)), none⟩,
 ⟨(some 11), (.bin .gtr .num (.t 10) (.k (.int .i64 255))), none⟩])
 (.cond (.t 11)
 (.seq (.reg [⟨(some 4), (.mov (.k (.str []))), none⟩,
 ⟨(some 5), (.mov (.k (.int .i64 3))), none⟩])
 .ret)
 .skip))
 (.seq (.reg [⟨(some 12), (.build [.nptr, .nsl] []), none⟩,
 ⟨(some 13), (.box (some 251) (.t 12)), none⟩,
 ⟨(some 6), (.mov (.t 13)), none⟩])
 (.seq (.reg [⟨(some 14), (.mov (.t 6)), none⟩,
 ⟨(some 15), (.mov (.t 0)), none⟩,
 ⟨(some 16), (.mov (.t 1)), none⟩,
 ⟨(some 17), (.len .slc (.t 16)), none⟩,
 ⟨(some 18), (.cvi .u8 (.t 17)), none⟩,
 ⟨(some 19), (.mks true 1 1 false [(.int .u8 0), (.int .u8 0), (.int .u8 0)] 3 [(0, (.k (.int .u8 1))), (1, (.t 15)), (2, (.t 18))]), none⟩,
 ⟨(some 20), (.call (.k (.fn (.func 147) [] [])) [(.t 14), (.t 19)]), none⟩])
 (.seq (.seq (.reg [⟨(some 21), (.mov (.t 1)), none⟩,
 ⟨(some 22), (.len .slc (.t 21)), none⟩,
 ⟨(some 23), (.mov (.k (.int .i64 0))), none⟩])
 (.block 0
 (.loop
 (.seq (.reg [⟨(some 24), (.bin .lss .num (.t 23) (.t 22)), none⟩])
 (.seq (.cond (.t 24)
 .skip
 (.exit 0))
 (.seq (.block 1
 (.seq (.reg [⟨(some 25), (.iad 1 (.t 21) (.t 23)), none⟩,
 ⟨(some 26), (.load 1 false (.t 25)), none⟩,
 ⟨(some 8), (.mov (.t 26)), none⟩])
 (.seq (.seq (.reg [⟨(some 27), (.mov (.t 8)), none⟩,
 ⟨(some 28), (.len .str (.t 27)), none⟩,
 ⟨(some 29), (.bin .gtr .num (.t 28) (.k (.int .i64 4000))), none⟩])
 (.cond (.t 29)
 (.seq (.reg [⟨(some 4), (.mov (.k (.str []))), none⟩,
 ⟨(some 5), (.mov (.k (.int .i64 3))), none⟩])
 .ret)
 .skip))
 (.seq (.reg [⟨(some 30), (.mov (.t 6)), none⟩,
 ⟨(some 31), (.mov (.t 8)), none⟩,
 ⟨(some 32), (.len .str (.t 31)), none⟩,
 ⟨(some 33), (.bin .shr .num (.t 32) (.k (.int .u64 8))), none⟩,
 ⟨(some 34), (.cvi .u8 (.t 33)), none⟩,
 ⟨(some 35), (.mov (.t 8)), none⟩,
 ⟨(some 36), (.len .str (.t 35)), none⟩,
 ⟨(some 37), (.cvi .u8 (.t 36)), none⟩,
 ⟨(some 38), (.mks true 1 1 false [(.int .u8 0), (.int .u8 0)] 2 [(0, (.t 34)), (1, (.t 37))]), none⟩,
 ⟨(some 39), (.call (.k (.fn (.func 147) [] [])) [(.t 30), (.t 38)]), none⟩])
 (.reg [⟨(some 40), (.mov (.t 6)), none⟩,
 ⟨(some 41), (.mov (.t 8)), none⟩,
 ⟨(some 42), (.call (.k (.fn (.func 148) [] [])) [(.t 40), (.t 41)]), none⟩])))))
 (.reg [⟨(some 43), (.bin .add .num (.t 23) (.k (.int .i64 1))), none⟩,
 ⟨(some 23), (.mov (.t 43)), none⟩])))))))
 (.seq (.seq (.reg [⟨(some 44), (.mov (.t 6)), none⟩,
 ⟨(some 45), (.call (.k (.fn (.func 149) [] [])) [(.t 44)]), none⟩,
 ⟨(some 46), (.bin .gtr .num (.t 45) (.k (.int .i64 30000))), none⟩])
 (.cond (.t 46)
 (.seq (.reg [⟨(some 4), (.mov (.k (.str []))), none⟩,
 ⟨(some 5), (.mov (.k (.int .i64 3))), none⟩])
 .ret)
 .skip))
 (.seq (.reg [⟨(some 47), (.mov (.t 6)), none⟩,
 ⟨(some 48), (.call (.k (.fn (.func 150) [] [])) [(.t 47)]), none⟩,
 ⟨(some 4), (.mov (.t 48)), none⟩,
 ⟨(some 5), (.mov (.k (.int .i64 0))), none⟩])
 .ret)))))))⟩

/-- 108: strings.HasPrefix -/
def F108 : Fun :=
 ⟨8, 2, [.t 4],
 (.seq (.reg [⟨(some 4), (.mov (.k (.bool false))), none⟩])
 (.seq (.reg [⟨(some 5), (.mov (.t 0)), none⟩,
 ⟨(some 6), (.mov (.t 1)), none⟩,
 ⟨(some 7), (.call (.k (.fn (.func 151) [] [])) [(.t 5), (.t 6)]), none⟩,
 ⟨(some 4), (.mov (.t 7)), none⟩])
 .ret))⟩

/-- 110: slices.Chunk[[]byte,byte]$1 -/
def F110 : Fun :=
 ⟨31, 3, [],
 (.seq (.reg [⟨(some 4), (.mov (.k (.int .i64 0))), none⟩])
 (.block 0
 (.loop
 (.seq (.seq (.reg [⟨(some 6), (.mov (.t 4)), none⟩,
 ⟨(some 7), (.load 1 false (.t 1)), none⟩,
 ⟨(some 8), (.len .slc (.t 7)), none⟩,
 ⟨(some 9), (.bin .lss .num (.t 6) (.t 8)), none⟩])
 (.cond (.t 9)
 .skip
 (.exit 0)))
 (.seq (.block 1
 (.seq (.dreg [⟨(some 13), (.load 1 false (.t 2)), none⟩,
 ⟨(some 14), (.load 1 false (.t 1)), none⟩,
 ⟨(some 15), (.mov (.t 4)), none⟩,
 ⟨(some 16), (.slc false 1 (.t 14) (some (.t 15)) none none), none⟩,
 ⟨(some 17), (.len .slc (.t 16)), none⟩,
 ⟨(some 18), (.min (.t 13) (.t 17)), none⟩,
 ⟨(some 5), (.mov (.t 18)), none⟩] (.lin [] [(0, none), (1, none), (2, none), (3, none), (4, none), (5, none), (6, none)]))
 (.seq (.reg [⟨(some 19), (.mov (.t 0)), none⟩,
 ⟨(some 20), (.load 1 false (.t 1)), none⟩,
 ⟨(some 21), (.mov (.t 4)), none⟩,
 ⟨(some 22), (.mov (.t 4)), none⟩,
 ⟨(some 23), (.mov (.t 5)), none⟩,
 ⟨(some 24), (.bin .add .num (.t 22) (.t 23)), none⟩,
 ⟨(some 25), (.mov (.t 4)), none⟩,
 ⟨(some 26), (.mov (.t 5)), none⟩,
 ⟨(some 27), (.bin .add .num (.t 25) (.t 26)), none⟩,
 ⟨(some 28), (.slc false 1 (.t 20) (some (.t 21)) (some (.t 24)) (some (.t 27))), none⟩,
 ⟨(some 29), (.call (.t 19) [(.t 28)]), none⟩,
 ⟨(some 30), (.un .not (.t 29)), none⟩])
 (.cond (.t 30)
 .ret
 .skip))))
 (.reg [⟨(some 10), (.mov (.t 4)), none⟩,
 ⟨(some 11), (.load 1 false (.t 2)), none⟩,
 ⟨(some 12), (.bin .add .num (.t 10) (.t 11)), none⟩,
 ⟨(some 4), (.mov (.t 12)), none⟩]))))))⟩

/-- 111: (*signetring/world.World).draw -/
def F111 : Fun :=
 ⟨28, 1, [.t 2],
 (.seq (.reg [⟨(some 2), (.mov (.k (.str []))), none⟩])
 (.seq (.dreg [⟨(some 4), (.mov (.t 0)), none⟩,
 ⟨(some 5), (.nilck (.t 4)), none⟩,
 ⟨(some 6), (.fad 0 (.t 5)), none⟩,
 ⟨(some 7), (.load 1 false (.t 6)), none⟩,
 ⟨(some 8), (.mov (.t 0)), none⟩,
 ⟨(some 9), (.nilck (.t 8)), none⟩,
 ⟨(some 10), (.fad 1 (.t 9)), none⟩,
 ⟨(some 11), (.load 1 false (.t 10)), none⟩,
 ⟨(some 12), (.mov (.t 0)), none⟩,
 ⟨(some 13), (.nilck (.t 12)), none⟩,
 ⟨(some 14), (.fad 2 (.t 13)), none⟩,
 ⟨(some 15), (.load 1 false (.t 14)), none⟩,
 ⟨(some 16), (.call (.k (.fn (.func 67) [] [])) [(.t 15)]), none⟩,
 ⟨(some 17), (.nilck (.t 7)), none⟩,
 ⟨(some 18), (.mov (.t 7)), none⟩,
 ⟨(some 19), (.inv (.t 18) "Hash" [(.t 11), (.t 16)]), none⟩,
 ⟨(some 3), (.mov (.t 19)), none⟩] (.lin [] [(0, none), (1, none), (2, none), (3, none), (4, none), (5, none), (6, none), (7, none), (8, none), (9, none), (10, none), (11, none), (13, none), (14, none), (12, some [0, 1, 2, 3, 4, 5, 6, 7, 13, 14]), (15, some []), (16, none)]))
 (.seq (.reg [⟨(some 20), (.mov (.t 0)), none⟩,
 ⟨(some 21), (.nilck (.t 20)), none⟩,
 ⟨(some 22), (.fad 2 (.t 21)), none⟩,
 ⟨(some 23), (.load 1 false (.t 22)), none⟩,
 ⟨(some 24), (.bin .add .num (.t 23) (.k (.int .u64 1))), none⟩,
 ⟨(some 25), (.nilck (.t 20)), none⟩,
 ⟨(some 26), (.fad 2 (.t 25)), none⟩,
 ⟨none, (.store 1 (.t 26) (.t 24)), none⟩])
 (.seq (.reg [⟨(some 27), (.mov (.t 3)), none⟩,
 ⟨(some 2), (.mov (.t 27)), none⟩])
 .ret))))⟩

/-- 112: (*signetring/world.World).offer -/
def F112 : Fun :=
 ⟨51, 3, [.t 6, .t 7],
 (.seq (.reg [⟨(some 5), (.box none (.t 2)), none⟩,
 ⟨(some 6), (.mov (.k (.str []))), none⟩,
 ⟨(some 7), (.mov (.k (.int .i64 0))), none⟩])
 (.seq (.seq (.reg [⟨(some 11), (.mov (.t 1)), none⟩,
 ⟨(some 12), (.nilck (.t 11)), none⟩,
 ⟨(some 13), (.fad 8 (.t 12)), none⟩,
 ⟨(some 14), (.load 1 false (.t 13)), none⟩,
 ⟨(some 15), (.len .slc (.t 14)), none⟩,
 ⟨(some 16), (.bin .geq .num (.t 15) (.k (.int .i64 10))), none⟩])
 (.cond (.t 16)
 (.seq (.reg [⟨(some 6), (.mov (.k (.str []))), none⟩,
 ⟨(some 7), (.mov (.k (.int .i64 11))), none⟩])
 .ret)
 .skip))
 (.seq (.dreg [⟨(some 18), (.mov (.t 0)), none⟩,
 ⟨(some 19), (.nilck (.t 18)), none⟩,
 ⟨(some 20), (.fad 0 (.t 19)), none⟩,
 ⟨(some 21), (.load 1 false (.t 20)), none⟩,
 ⟨(some 22), (.mov (.t 1)), none⟩,
 ⟨(some 23), (.nilck (.t 22)), none⟩,
 ⟨(some 24), (.fad 0 (.t 23)), none⟩,
 ⟨(some 25), (.fad 0 (.t 24)), none⟩,
 ⟨(some 26), (.load 4 true (.t 25)), none⟩,
 ⟨(some 27), (.mov (.t 0)), none⟩,
 ⟨(some 28), (.call (.k (.fn (.func 111) [] [])) [(.t 27)]), none⟩,
 ⟨(some 29), (.call (.k (.fn (.func 18) [] [])) [(.t 21), (.t 26), (.t 28)]), none⟩,
 ⟨(some 17), (.mov (.t 29)), none⟩,
 ⟨(some 30), (.ext (.t 17) 0), none⟩,
 ⟨(some 31), (.ext (.t 17) 1), none⟩,
 ⟨(some 32), (.ext (.t 17) 2), none⟩,
 ⟨(some 8), (.new [(.str []), .nsl, (.int .u64 0), .nsl] none), none⟩,
 ⟨(some 9), (.new [(.str []), (.str []), (.int .u64 0)] none), none⟩,
 ⟨none, (.store 4 (.t 8) (.t 30)), none⟩,
 ⟨none, (.store 3 (.t 9) (.t 31)), none⟩,
 ⟨(some 10), (.mov (.t 32)), none⟩] (.lin [16, 17] [(0, none), (1, none), (2, none), (3, none), (4, none), (5, none), (6, none), (7, none), (8, none), (9, none), (10, some [0, 1, 2, 3, 4, 5, 6, 7, 8]), (11, some []), (12, none), (13, none), (14, none), (15, none), (18, some [14, 15]), (19, some [15]), (20, none)]))
 (.seq (.seq (.reg [⟨(some 33), (.mov (.t 10)), none⟩,
 ⟨(some 34), (.bin .eql .num (.t 33) (.k (.int .i64 0))), none⟩])
 (.cond (.t 34)
 (.seq (.reg [⟨(some 35), (.mov (.t 1)), none⟩,
 ⟨(some 36), (.load 4 true (.t 8)), none⟩,
 ⟨(some 37), (.nilck (.t 35)), none⟩,
 ⟨(some 38), (.fad 0 (.t 37)), none⟩,
 ⟨(some 39), (.fad 0 (.t 38)), none⟩,
 ⟨none, (.store 4 (.t 39) (.t 36)), none⟩])
 (.dreg [⟨(some 40), (.mov (.t 1)), none⟩,
 ⟨(some 41), (.mov (.t 1)), none⟩,
 ⟨(some 42), (.nilck (.t 41)), none⟩,
 ⟨(some 43), (.fad 8 (.t 42)), none⟩,
 ⟨(some 44), (.load 1 false (.t 43)), none⟩,
 ⟨(some 45), (.load 3 true (.t 9)), none⟩,
 ⟨(some 46), (.mks true 3 40 true [(.str []), (.str []), (.int .u64 0)] 1 [(0, (.t 45))]), none⟩,
 ⟨(some 47), (.app 3 40 true none (.t 44) (.t 46)), none⟩,
 ⟨(some 48), (.nilck (.t 40)), none⟩,
 ⟨(some 49), (.fad 8 (.t 48)), none⟩,
 ⟨none, (.store 1 (.t 49) (.t 47)), none⟩] (.lin [] [(0, none), (1, none), (2, none), (3, none), (4, none), (5, none), (6, none), (7, some [0]), (8, none), (9, none), (10, some [])])))
 .skip))
 (.seq (.reg [⟨(some 50), (.mov (.t 10)), none⟩,
 ⟨(some 6), (.mov (.k (.str []))), none⟩,
 ⟨(some 7), (.mov (.t 50)), none⟩])
 .ret)))))⟩

/-- 113: (*signetring/world.World).begin -/
def F113 : Fun :=
 ⟨73, 3, [.t 6, .t 7],
 (.seq (.reg [⟨(some 5), (.box none (.t 2)), none⟩,
 ⟨(some 6), (.mov (.k (.str []))), none⟩,
 ⟨(some 7), (.mov (.k (.int .i64 0))), none⟩])
 (.seq (.reg [⟨(some 13), (.mov (.t 0)), none⟩,
 ⟨(some 14), (.fad 2 (.t 5)), none⟩,
 ⟨(some 15), (.load 1 false (.t 14)), none⟩,
 ⟨(some 16), (.call (.k (.fn (.func 124) [] [])) [(.t 13), (.t 15)]), none⟩,
 ⟨(some 8), (.mov (.t 16)), none⟩])
 (.seq (.seq (.reg [⟨(some 17), (.mov (.t 8)), none⟩,
 ⟨(some 18), (.nilck (.t 17)), none⟩,
 ⟨(some 19), (.fad 8 (.t 18)), none⟩,
 ⟨(some 20), (.load 1 false (.t 19)), none⟩,
 ⟨(some 21), (.len .slc (.t 20)), none⟩,
 ⟨(some 22), (.bin .eql .num (.t 21) (.k (.int .i64 0))), none⟩])
 (.cond (.t 22)
 (.seq (.reg [⟨(some 6), (.mov (.k (.str []))), none⟩,
 ⟨(some 7), (.mov (.k (.int .i64 9))), none⟩])
 .ret)
 .skip))
 (.seq (.reg [⟨(some 23), (.mov (.t 0)), none⟩,
 ⟨(some 24), (.call (.k (.fn (.func 111) [] [])) [(.t 23)]), none⟩,
 ⟨(some 25), (.mov (.t 0)), none⟩,
 ⟨(some 26), (.call (.k (.fn (.func 111) [] [])) [(.t 25)]), none⟩,
 ⟨(some 27), (.build [(.str []), (.str [])] [(0, 1, (.t 24)), (1, 1, (.t 26))]), none⟩,
 ⟨(some 9), (.new [(.str []), (.str [])] none), none⟩,
 ⟨none, (.store 2 (.t 9) (.t 27)), none⟩])
 (.seq (.dreg [⟨(some 29), (.mov (.t 0)), none⟩,
 ⟨(some 30), (.nilck (.t 29)), none⟩,
 ⟨(some 31), (.fad 0 (.t 30)), none⟩,
 ⟨(some 32), (.load 1 false (.t 31)), none⟩,
 ⟨(some 33), (.mov (.t 1)), none⟩,
 ⟨(some 34), (.nilck (.t 33)), none⟩,
 ⟨(some 35), (.fad 0 (.t 34)), none⟩,
 ⟨(some 36), (.fad 0 (.t 35)), none⟩,
 ⟨(some 37), (.load 4 true (.t 36)), none⟩,
 ⟨(some 38), (.mov (.t 8)), none⟩,
 ⟨(some 39), (.nilck (.t 38)), none⟩,
 ⟨(some 40), (.fad 8 (.t 39)), none⟩,
 ⟨(some 41), (.load 1 false (.t 40)), none⟩,
 ⟨(some 42), (.iad 3 (.t 41) (.k (.int .i64 0))), none⟩,
 ⟨(some 43), (.load 3 true (.t 42)), none⟩,
 ⟨(some 44), (.fad 4 (.t 5)), none⟩,
 ⟨(some 45), (.load 1 false (.t 44)), none⟩,
 ⟨(some 46), (.load 2 true (.t 9)), none⟩,
 ⟨(some 47), (.call (.k (.fn (.func 34) [] [])) [(.t 32), (.t 37), (.t 43), (.t 45), (.t 46)]), none⟩,
 ⟨(some 28), (.mov (.t 47)), none⟩,
 ⟨(some 48), (.ext (.t 28) 0), none⟩,
 ⟨(some 49), (.ext (.t 28) 1), none⟩,
 ⟨(some 50), (.ext (.t 28) 2), none⟩,
 ⟨(some 10), (.new [(.str []), .nsl, (.int .u64 0), .nsl] none), none⟩,
 ⟨none, (.store 4 (.t 10) (.t 48)), none⟩,
 ⟨(some 11), (.mov (.t 49)), none⟩,
 ⟨(some 12), (.mov (.t 50)), none⟩] (.lin [23] [(0, none), (1, none), (2, none), (3, none), (4, none), (5, none), (6, none), (7, none), (8, none), (9, none), (10, none), (11, none), (12, none), (13, none), (14, none), (15, none), (16, none), (17, none), (18, some []), (19, none), (20, none), (21, none), (22, none), (24, some [21, 22]), (25, none), (26, none)]))
 (.seq (.seq (.reg [⟨(some 51), (.mov (.t 12)), none⟩,
 ⟨(some 52), (.bin .neq .num (.t 51) (.k (.int .i64 0))), none⟩])
 (.cond (.t 52)
 (.seq (.reg [⟨(some 53), (.mov (.t 12)), none⟩,
 ⟨(some 6), (.mov (.k (.str []))), none⟩,
 ⟨(some 7), (.mov (.t 53)), none⟩])
 .ret)
 .skip))
 (.seq (.reg [⟨(some 54), (.mov (.t 1)), none⟩,
 ⟨(some 55), (.load 4 true (.t 10)), none⟩,
 ⟨(some 56), (.nilck (.t 54)), none⟩,
 ⟨(some 57), (.fad 0 (.t 56)), none⟩,
 ⟨(some 58), (.fad 0 (.t 57)), none⟩,
 ⟨none, (.store 4 (.t 58) (.t 55)), none⟩])
 (.seq (.reg [⟨(some 59), (.mov (.t 8)), none⟩,
 ⟨(some 60), (.mov (.t 8)), none⟩,
 ⟨(some 61), (.nilck (.t 60)), none⟩,
 ⟨(some 62), (.fad 8 (.t 61)), none⟩,
 ⟨(some 63), (.load 1 false (.t 62)), none⟩,
 ⟨(some 64), (.call (.k (.fn (.func 152) [] [])) [(.t 63), (.k (.int .i64 0)), (.k (.int .i64 1))]), none⟩,
 ⟨(some 65), (.nilck (.t 59)), none⟩,
 ⟨(some 66), (.fad 8 (.t 65)), none⟩,
 ⟨none, (.store 1 (.t 66) (.t 64)), none⟩])
 (.seq (.reg [⟨(some 67), (.mov (.t 8)), none⟩,
 ⟨(some 68), (.fad 1 (.t 5)), none⟩,
 ⟨(some 69), (.load 1 false (.t 68)), none⟩,
 ⟨(some 70), (.cvi .i64 (.t 69)), none⟩,
 ⟨(some 71), (.mov (.t 11)), none⟩,
 ⟨(some 72), (.call (.k (.fn (.func 153) [] [])) [(.t 67), (.t 70), (.t 71)]), none⟩])
 (.seq (.reg [⟨(some 6), (.mov (.k (.str []))), none⟩,
 ⟨(some 7), (.mov (.k (.int .i64 0))), none⟩])
 .ret))))))))))⟩

/-- 116: (*signetring/world.World).arrive -/
def F116 : Fun :=
 ⟨111, 3, [.t 6, .t 7],
 (.seq (.reg [⟨(some 5), (.box none (.t 2)), none⟩,
 ⟨(some 6), (.mov (.k (.str []))), none⟩,
 ⟨(some 7), (.mov (.k (.int .i64 0))), none⟩])
 (.seq (.reg [⟨(some 20), (.mov (.t 1)), none⟩,
 ⟨(some 21), (.fad 3 (.t 5)), none⟩,
 ⟨(some 22), (.load 1 false (.t 21)), none⟩,
 ⟨(some 23), (.call (.k (.fn (.func 156) [] [])) [(.t 20), (.t 22)]), none⟩,
 ⟨(some 19), (.mov (.t 23)), none⟩,
 ⟨(some 24), (.ext (.t 19) 0), none⟩,
 ⟨(some 25), (.ext (.t 19) 1), none⟩,
 ⟨(some 8), (.new [(.int .i64 0), (.str [])] none), none⟩,
 ⟨none, (.store 2 (.t 8) (.t 24)), none⟩,
 ⟨(some 9), (.mov (.t 25)), none⟩])
 (.seq (.seq (.reg [⟨(some 26), (.mov (.t 9)), none⟩,
 ⟨(some 27), (.bin .neq .num (.t 26) (.k (.int .i64 0))), none⟩])
 (.cond (.t 27)
 (.seq (.reg [⟨(some 28), (.mov (.t 9)), none⟩,
 ⟨(some 6), (.mov (.k (.str []))), none⟩,
 ⟨(some 7), (.mov (.t 28)), none⟩])
 .ret)
 .skip))
 (.seq (.dreg [⟨(some 29), (.mov (.t 0)), none⟩,
 ⟨(some 30), (.nilck (.t 29)), none⟩,
 ⟨(some 31), (.fad 3 (.t 30)), none⟩,
 ⟨(some 32), (.load 1 false (.t 31)), none⟩,
 ⟨(some 33), (.fad 0 (.t 8)), none⟩,
 ⟨(some 34), (.load 1 false (.t 33)), none⟩,
 ⟨(some 35), (.iad 1 (.t 32) (.t 34)), none⟩,
 ⟨(some 36), (.load 1 false (.t 35)), none⟩,
 ⟨(some 37), (.nilck (.t 36)), none⟩,
 ⟨(some 38), (.fad 5 (.t 37)), none⟩,
 ⟨(some 39), (.load 1 false (.t 38)), none⟩,
 ⟨(some 10), (.mov (.t 39)), none⟩] (.lin [] [(0, none), (1, none), (2, none), (3, none), (4, none), (5, none), (6, none), (7, none), (8, none), (9, none), (10, none), (11, none)]))
 (.seq (.dreg [⟨(some 41), (.mov (.t 0)), none⟩,
 ⟨(some 42), (.nilck (.t 41)), none⟩,
 ⟨(some 43), (.fad 0 (.t 42)), none⟩,
 ⟨(some 44), (.load 1 false (.t 43)), none⟩,
 ⟨(some 45), (.mov (.t 1)), none⟩,
 ⟨(some 46), (.nilck (.t 45)), none⟩,
 ⟨(some 47), (.fad 0 (.t 46)), none⟩,
 ⟨(some 48), (.fad 0 (.t 47)), none⟩,
 ⟨(some 49), (.load 4 true (.t 48)), none⟩,
 ⟨(some 50), (.mov (.t 10)), none⟩,
 ⟨(some 51), (.fad 1 (.t 8)), none⟩,
 ⟨(some 52), (.load 1 false (.t 51)), none⟩,
 ⟨(some 53), (.mov (.t 0)), none⟩,
 ⟨(some 54), (.call (.k (.fn (.func 111) [] [])) [(.t 53)]), none⟩,
 ⟨(some 55), (.call (.k (.fn (.func 14) [] [])) [(.t 44), (.t 49), (.t 50), (.t 52), (.t 54)]), none⟩,
 ⟨(some 40), (.mov (.t 55)), none⟩,
 ⟨(some 56), (.ext (.t 40) 0), none⟩,
 ⟨(some 57), (.ext (.t 40) 1), none⟩,
 ⟨(some 58), (.ext (.t 40) 2), none⟩,
 ⟨(some 11), (.new [(.str []), .nsl, (.int .u64 0), .nsl] none), none⟩,
 ⟨none, (.store 4 (.t 11) (.t 56)), none⟩,
 ⟨(some 12), (.mov (.t 57)), none⟩,
 ⟨(some 9), (.mov (.t 58)), none⟩] (.lin [19] [(0, none), (1, none), (2, none), (3, none), (4, none), (5, none), (6, none), (7, none), (8, none), (9, none), (10, none), (11, none), (12, none), (13, some [0, 1, 2, 3, 4, 5, 6, 7, 8, 9, 10, 11]), (14, some []), (15, none), (16, none), (17, none), (18, none), (20, some [17, 18]), (21, none), (22, none)]))
 (.seq (.seq (.reg [⟨(some 59), (.mov (.t 9)), none⟩,
 ⟨(some 60), (.bin .neq .num (.t 59) (.k (.int .i64 0))), none⟩])
 (.cond (.t 60)
 (.seq (.reg [⟨(some 61), (.mov (.t 9)), none⟩,
 ⟨(some 6), (.mov (.k (.str []))), none⟩,
 ⟨(some 7), (.mov (.t 61)), none⟩])
 .ret)
 .skip))
 (.seq (.reg [⟨(some 62), (.mov (.t 1)), none⟩,
 ⟨(some 63), (.load 4 true (.t 11)), none⟩,
 ⟨(some 64), (.nilck (.t 62)), none⟩,
 ⟨(some 65), (.fad 0 (.t 64)), none⟩,
 ⟨(some 66), (.fad 0 (.t 65)), none⟩,
 ⟨none, (.store 4 (.t 66) (.t 63)), none⟩])
 (.seq (.seq (.reg [⟨(some 68), (.fad 1 (.t 8)), none⟩,
 ⟨(some 69), (.load 1 false (.t 68)), none⟩,
 ⟨(some 70), (.call (.k (.fn (.func 42) [] [])) [(.t 69), (.k (.int .u8 73)), (.k (.int .i64 3))]), none⟩,
 ⟨(some 67), (.mov (.t 70)), none⟩,
 ⟨(some 71), (.ext (.t 67) 0), none⟩,
 ⟨(some 72), (.ext (.t 67) 1), none⟩,
 ⟨(some 13), (.mov (.t 71)), none⟩,
 ⟨(some 14), (.mov (.t 72)), none⟩])
 (.seq (.reg [⟨(some 73), (.mov (.t 14)), none⟩,
 ⟨(some 74), (.bin .neq .num (.t 73) (.k (.int .i64 0))), none⟩])
 (.cond (.t 74)
 (.seq (.reg [⟨(some 76), (.mov (.t 1)), none⟩,
 ⟨(some 77), (.nilck (.t 76)), none⟩,
 ⟨(some 78), (.fad 0 (.t 77)), none⟩,
 ⟨(some 79), (.fad 4 (.t 78)), none⟩,
 ⟨(some 80), (.load 1 false (.t 79)), none⟩,
 ⟨(some 81), (.mov (.t 10)), none⟩,
 ⟨(some 82), (.mov (.t 12)), none⟩,
 ⟨(some 83), (.call (.k (.fn (.func 26) [] [])) [(.t 80), (.t 81), (.t 82)]), none⟩,
 ⟨(some 75), (.mov (.t 83)), none⟩,
 ⟨(some 84), (.ext (.t 75) 0), none⟩,
 ⟨(some 85), (.ext (.t 75) 1), none⟩,
 ⟨(some 86), (.ext (.t 75) 2), none⟩,
 ⟨(some 87), (.ext (.t 75) 3), none⟩,
 ⟨(some 15), (.mov (.t 84)), none⟩,
 ⟨(some 16), (.mov (.t 85)), none⟩,
 ⟨(some 17), (.mov (.t 86)), none⟩,
 ⟨(some 18), (.mov (.t 87)), none⟩])
 (.seq (.seq (.reg [⟨(some 88), (.mov (.t 18)), none⟩,
 ⟨(some 89), (.bin .neq .num (.t 88) (.k (.int .i64 0))), none⟩])
 (.cond (.t 89)
 (.seq (.reg [⟨(some 90), (.mov (.t 18)), none⟩,
 ⟨(some 6), (.mov (.k (.str []))), none⟩,
 ⟨(some 7), (.mov (.t 90)), none⟩])
 .ret)
 .skip))
 (.reg [⟨(some 91), (.mov (.t 1)), none⟩,
 ⟨(some 92), (.mov (.t 15)), none⟩,
 ⟨(some 93), (.mov (.t 17)), none⟩,
 ⟨(some 94), (.nilck (.t 91)), none⟩,
 ⟨(some 95), (.fad 0 (.t 94)), none⟩,
 ⟨(some 96), (.fad 4 (.t 95)), none⟩,
 ⟨none, (.store 1 (.t 96) (.t 92)), none⟩,
 ⟨(some 12), (.mov (.t 93)), none⟩])))
 .skip)))
 (.seq (.dreg [⟨(some 97), (.mov (.t 1)), none⟩,
 ⟨(some 98), (.mov (.t 1)), none⟩,
 ⟨(some 99), (.nilck (.t 98)), none⟩,
 ⟨(some 100), (.fad 6 (.t 99)), none⟩,
 ⟨(some 101), (.load 1 false (.t 100)), none⟩,
 ⟨(some 102), (.fad 0 (.t 8)), none⟩,
 ⟨(some 103), (.load 1 false (.t 102)), none⟩,
 ⟨(some 104), (.mov (.t 12)), none⟩,
 ⟨(some 105), (.build [(.int .i64 0), (.str [])] [(0, 1, (.t 103)), (1, 1, (.t 104))]), none⟩,
 ⟨(some 106), (.mks true 2 24 true [(.int .i64 0), (.str [])] 1 [(0, (.t 105))]), none⟩,
 ⟨(some 107), (.app 2 24 true none (.t 101) (.t 106)), none⟩,
 ⟨(some 108), (.nilck (.t 97)), none⟩,
 ⟨(some 109), (.fad 6 (.t 108)), none⟩,
 ⟨none, (.store 1 (.t 109) (.t 107)), none⟩] (.lin [] [(0, none), (1, none), (2, none), (3, none), (4, none), (5, none), (6, none), (7, none), (8, none), (9, none), (10, some [0]), (11, none), (12, none), (13, some [])]))
 (.seq (.reg [⟨(some 110), (.mov (.t 12)), none⟩,
 ⟨(some 6), (.mov (.t 110)), none⟩,
 ⟨(some 7), (.mov (.k (.int .i64 0))), none⟩])
 .ret))))))))))⟩

/-- 124: (*signetring/world.World).at -/
def F124 : Fun :=
 ⟨24, 2, [.t 4],
 (.seq (.reg [⟨(some 4), (.mov (.k .nptr)), none⟩])
 (.seq (.seq (.reg [⟨(some 5), (.mov (.t 0)), none⟩,
 ⟨(some 6), (.bin .eql .ptr (.t 5) (.k .nptr)), none⟩,
 ⟨(some 7), (.mov (.t 6)), none⟩,
 ⟨(some 8), (.mov (.t 1)), some (7, false)⟩,
 ⟨(some 9), (.cvi .i64 (.t 8)), some (7, false)⟩,
 ⟨(some 10), (.mov (.t 0)), some (7, false)⟩,
 ⟨(some 11), (.nilck (.t 10)), some (7, false)⟩,
 ⟨(some 12), (.fad 3 (.t 11)), some (7, false)⟩,
 ⟨(some 13), (.load 1 false (.t 12)), some (7, false)⟩,
 ⟨(some 14), (.len .slc (.t 13)), some (7, false)⟩,
 ⟨(some 15), (.bin .geq .num (.t 9) (.t 14)), some (7, false)⟩,
 ⟨(some 16), (.pick (.t 7) (.k (.bool true)) (.t 15)), none⟩])
 (.cond (.t 16)
 (.seq (.reg [⟨(some 4), (.mov (.k .nptr)), none⟩])
 .ret)
 .skip))
 (.seq (.reg [⟨(some 17), (.mov (.t 0)), none⟩,
 ⟨(some 18), (.nilck (.t 17)), none⟩,
 ⟨(some 19), (.fad 3 (.t 18)), none⟩,
 ⟨(some 20), (.load 1 false (.t 19)), none⟩,
 ⟨(some 21), (.mov (.t 1)), none⟩,
 ⟨(some 22), (.iad 1 (.t 20) (.t 21)), none⟩,
 ⟨(some 23), (.load 1 false (.t 22)), none⟩,
 ⟨(some 4), (.mov (.t 23)), none⟩])
 .ret)))⟩

/-- 125: slices.Clone[[]signetring/world.Told,signetring/world.Told] -/
def F125 : Fun :=
 ⟨8, 1, [.t 2],
 (.seq (.reg [⟨(some 2), (.mov (.k .nsl)), none⟩])
 (.seq (.seq (.reg [⟨(some 3), (.mov (.t 0)), none⟩,
 ⟨(some 4), (.bin .eql .slc (.t 3) (.k .nsl)), none⟩])
 (.cond (.t 4)
 (.seq (.reg [⟨(some 2), (.mov (.k .nsl)), none⟩])
 .ret)
 .skip))
 (.seq (.reg [⟨(some 5), (.mks true 2 24 true [] 0 []), none⟩,
 ⟨(some 6), (.mov (.t 0)), none⟩,
 ⟨(some 7), (.app 2 24 true none (.t 5) (.t 6)), none⟩,
 ⟨(some 2), (.mov (.t 7)), none⟩])
 .ret)))⟩

/-- 126: signetring/noise.caught -/
def F126 : Fun :=
 ⟨18, 2, [],
 (.seq (.reg [⟨(some 7), .recov, none⟩])
 (.block 0
 (.seq (.reg [⟨(some 9), (.bin .eql .ifc (.t 7) (.k .nifc)), none⟩])
 (.cond (.t 9)
 (.reg [⟨(some 4), (.mov (.t 7)), none⟩])
 (.seq (.reg [⟨(some 10), (.asrt 48 (.int .i64 0) (.t 7) true), none⟩,
 ⟨(some 11), (.ext (.t 10) 1), none⟩,
 ⟨(some 12), (.ext (.t 10) 0), none⟩])
 (.cond (.t 11)
 (.seq (.reg [⟨(some 5), (.mov (.t 12)), none⟩])
 (.seq (.reg [⟨(some 13), (.mov (.t 0)), none⟩,
 ⟨(some 14), (.mov (.t 5)), none⟩,
 ⟨(some 15), (.nilck (.t 13)), none⟩,
 ⟨none, (.store 1 (.t 15) (.t 14)), none⟩])
 (.reg [⟨(some 16), (.mov (.t 1)), none⟩,
 ⟨(some 17), (.call (.t 16) []), none⟩])))
 (.seq (.reg [⟨(some 6), (.mov (.t 7)), none⟩])
 (.reg [⟨(some 8), (.mov (.t 6)), none⟩,
 ⟨none, (.pan (.t 8)), none⟩]))))))))⟩

/-- 128: signetring/noise.ends -/
def F128 : Fun :=
 ⟨8, 2, [],
 (.seq (.reg [⟨(some 4), (.mov (.t 0)), none⟩,
 ⟨(some 5), (.un .not (.t 4)), none⟩])
 (.cond (.t 5)
 (.reg [⟨(some 6), (.mov (.t 1)), none⟩,
 ⟨(some 7), (.mki 48 (.t 6)), none⟩,
 ⟨none, (.pan (.t 7)), none⟩])
 .skip))⟩

/-- 129: signetring/noise.begin -/
def F129 : Fun :=
 ⟨20, 3, [.t 6],
 (.seq (.reg [⟨(some 6), (.mov (.k .nptr)), none⟩])
 (.seq (.reg [⟨(some 8), (.mov (.t 0)), none⟩,
 ⟨(some 9), (.call (.k (.fn (.func 159) [] [])) [(.t 8), (.k (.str [78, 111, 105, 115, 101, 95, 88, 95, 50, 53, 53, 49, 57, 95, 67, 104, 97, 67, 104, 97, 80, 111, 108, 121, 95, 83, 72, 65, 50, 53, 54]))]), none⟩,
 ⟨(some 10), (.mov (.t 0)), none⟩,
 ⟨(some 11), (.build [(.str []), (.str []), (.str []), (.int .u64 0), .nifc] [(0, 4, (.t 9)), (4, 1, (.t 10))]), none⟩,
 ⟨(some 12), (.box none (.t 11)), none⟩,
 ⟨(some 7), (.mov (.t 12)), none⟩])
 (.seq (.reg [⟨(some 13), (.mov (.t 7)), none⟩,
 ⟨(some 14), (.mov (.t 1)), none⟩,
 ⟨(some 15), (.call (.k (.fn (.func 131) [] [])) [(.t 13), (.t 14)]), none⟩])
 (.seq (.reg [⟨(some 16), (.mov (.t 7)), none⟩,
 ⟨(some 17), (.mov (.t 2)), none⟩,
 ⟨(some 18), (.call (.k (.fn (.func 131) [] [])) [(.t 16), (.t 17)]), none⟩])
 (.seq (.reg [⟨(some 19), (.mov (.t 7)), none⟩,
 ⟨(some 6), (.mov (.t 19)), none⟩])
 .ret)))))⟩

/-- 130: (*signetring/noise.shake).pub -/
def F130 : Fun :=
 ⟨16, 2, [.t 4],
 (.seq (.reg [⟨(some 4), (.mov (.k (.str []))), none⟩])
 (.seq (.reg [⟨(some 6), (.mov (.t 0)), none⟩,
 ⟨(some 7), (.nilck (.t 6)), none⟩,
 ⟨(some 8), (.fad 4 (.t 7)), none⟩,
 ⟨(some 9), (.load 1 false (.t 8)), none⟩,
 ⟨(some 10), (.mov (.t 1)), none⟩,
 ⟨(some 11), (.inv (.t 9) "Pub" [(.t 10)]), none⟩,
 ⟨(some 5), (.mov (.t 11)), none⟩])
 (.seq (.reg [⟨(some 12), (.mov (.t 5)), none⟩,
 ⟨(some 13), (.bin .neq .str (.t 12) (.k (.str []))), none⟩,
 ⟨(some 14), (.call (.k (.fn (.func 128) [] [])) [(.t 13), (.k (.int .i64 6))]), none⟩])
 (.seq (.reg [⟨(some 15), (.mov (.t 5)), none⟩,
 ⟨(some 4), (.mov (.t 15)), none⟩])
 .ret))))⟩

/-- 131: (*signetring/noise.shake).hash -/
def F131 : Fun :=
 ⟨17, 2, [],
 (.dreg [⟨(some 4), (.mov (.t 0)), none⟩,
 ⟨(some 5), (.mov (.t 0)), none⟩,
 ⟨(some 6), (.nilck (.t 5)), none⟩,
 ⟨(some 7), (.fad 4 (.t 6)), none⟩,
 ⟨(some 8), (.load 1 false (.t 7)), none⟩,
 ⟨(some 9), (.mov (.t 0)), none⟩,
 ⟨(some 10), (.nilck (.t 9)), none⟩,
 ⟨(some 11), (.fad 0 (.t 10)), none⟩,
 ⟨(some 12), (.load 4 true (.t 11)), none⟩,
 ⟨(some 13), (.mov (.t 1)), none⟩,
 ⟨(some 14), (.call (.k (.fn (.func 160) [] [])) [(.t 8), (.t 12), (.t 13)]), none⟩,
 ⟨(some 15), (.nilck (.t 4)), none⟩,
 ⟨(some 16), (.fad 0 (.t 15)), none⟩,
 ⟨none, (.store 4 (.t 16) (.t 14)), none⟩] (.lin [] [(0, none), (1, none), (2, none), (3, none), (4, none), (5, none), (6, none), (7, none), (8, none), (9, none), (10, some [0]), (11, none), (12, none), (13, some [])]))⟩

/-- 132: (*signetring/noise.shake).dh -/
def F132 : Fun :=
 ⟨33, 3, [],
 (.seq (.reg [⟨(some 9), (.mov (.t 0)), none⟩,
 ⟨(some 10), (.nilck (.t 9)), none⟩,
 ⟨(some 11), (.fad 4 (.t 10)), none⟩,
 ⟨(some 12), (.load 1 false (.t 11)), none⟩,
 ⟨(some 13), (.mov (.t 1)), none⟩,
 ⟨(some 14), (.mov (.t 2)), none⟩,
 ⟨(some 15), (.inv (.t 12) "Dh" [(.t 13), (.t 14)]), none⟩,
 ⟨(some 8), (.mov (.t 15)), none⟩,
 ⟨(some 16), (.ext (.t 8) 0), none⟩,
 ⟨(some 17), (.ext (.t 8) 1), none⟩,
 ⟨(some 6), (.mov (.t 16)), none⟩,
 ⟨(some 7), (.mov (.t 17)), none⟩])
 (.seq (.reg [⟨(some 18), (.mov (.t 7)), none⟩,
 ⟨(some 19), (.call (.k (.fn (.func 128) [] [])) [(.t 18), (.k (.int .i64 6))]), none⟩])
 (.dreg [⟨(some 20), (.mov (.t 0)), none⟩,
 ⟨(some 21), (.mov (.t 0)), none⟩,
 ⟨(some 22), (.nilck (.t 21)), none⟩,
 ⟨(some 23), (.fad 4 (.t 22)), none⟩,
 ⟨(some 24), (.load 1 false (.t 23)), none⟩,
 ⟨(some 25), (.mov (.t 0)), none⟩,
 ⟨(some 26), (.nilck (.t 25)), none⟩,
 ⟨(some 27), (.fad 0 (.t 26)), none⟩,
 ⟨(some 28), (.load 4 true (.t 27)), none⟩,
 ⟨(some 29), (.mov (.t 6)), none⟩,
 ⟨(some 30), (.call (.k (.fn (.func 161) [] [])) [(.t 24), (.t 28), (.t 29)]), none⟩,
 ⟨(some 31), (.nilck (.t 20)), none⟩,
 ⟨(some 32), (.fad 0 (.t 31)), none⟩,
 ⟨none, (.store 4 (.t 32) (.t 30)), none⟩] (.lin [] [(0, none), (1, none), (2, none), (3, none), (4, none), (5, none), (6, none), (7, none), (8, none), (9, none), (10, some [0]), (11, none), (12, none), (13, some [])]))))⟩

/-- 133: (*signetring/noise.shake).seal -/
def F133 : Fun :=
 ⟨30, 2, [.t 4],
 (.seq (.reg [⟨(some 4), (.mov (.k (.str []))), none⟩])
 (.seq (.dreg [⟨(some 9), (.mov (.t 0)), none⟩,
 ⟨(some 10), (.nilck (.t 9)), none⟩,
 ⟨(some 11), (.fad 4 (.t 10)), none⟩,
 ⟨(some 12), (.load 1 false (.t 11)), none⟩,
 ⟨(some 13), (.mov (.t 0)), none⟩,
 ⟨(some 14), (.nilck (.t 13)), none⟩,
 ⟨(some 15), (.fad 0 (.t 14)), none⟩,
 ⟨(some 16), (.load 4 true (.t 15)), none⟩,
 ⟨(some 17), (.mov (.t 1)), none⟩,
 ⟨(some 18), (.call (.k (.fn (.func 162) [] [])) [(.t 12), (.t 16), (.t 17)]), none⟩,
 ⟨(some 8), (.mov (.t 18)), none⟩,
 ⟨(some 19), (.ext (.t 8) 0), none⟩,
 ⟨(some 20), (.ext (.t 8) 1), none⟩,
 ⟨(some 21), (.ext (.t 8) 2), none⟩,
 ⟨(some 5), (.new [(.str []), (.str []), (.str []), (.int .u64 0)] none), none⟩,
 ⟨none, (.store 4 (.t 5) (.t 19)), none⟩,
 ⟨(some 6), (.mov (.t 20)), none⟩,
 ⟨(some 7), (.mov (.t 21)), none⟩] (.lin [14] [(0, none), (1, none), (2, none), (3, none), (4, none), (5, none), (6, none), (7, none), (8, none), (9, some []), (10, none), (11, none), (12, none), (13, none), (15, some [12, 13]), (16, none), (17, none)]))
 (.seq (.reg [⟨(some 22), (.mov (.t 7)), none⟩,
 ⟨(some 23), (.bin .eql .num (.t 22) (.k (.int .i64 0))), none⟩,
 ⟨(some 24), (.call (.k (.fn (.func 128) [] [])) [(.t 23), (.k (.int .i64 3))]), none⟩])
 (.seq (.reg [⟨(some 25), (.mov (.t 0)), none⟩,
 ⟨(some 26), (.load 4 true (.t 5)), none⟩,
 ⟨(some 27), (.nilck (.t 25)), none⟩,
 ⟨(some 28), (.fad 0 (.t 27)), none⟩,
 ⟨none, (.store 4 (.t 28) (.t 26)), none⟩])
 (.seq (.reg [⟨(some 29), (.mov (.t 6)), none⟩,
 ⟨(some 4), (.mov (.t 29)), none⟩])
 .ret)))))⟩

/-- 134: signetring/mix.Split -/
def F134 : Fun :=
 ⟨22, 2, [.t 4, .t 5],
 (.seq (.reg [⟨(some 3), (.box none (.t 1)), none⟩,
 ⟨(some 4), (.mov (.k (.str []))), none⟩,
 ⟨(some 5), (.mov (.k (.str []))), none⟩])
 (.seq (.seq (.reg [⟨(some 7), (.mov (.t 0)), none⟩,
 ⟨(some 8), (.bin .eql .ifc (.t 7) (.k .nifc)), none⟩])
 (.cond (.t 8)
 (.seq (.reg [⟨(some 4), (.mov (.k (.str []))), none⟩,
 ⟨(some 5), (.mov (.k (.str []))), none⟩])
 .ret)
 .skip))
 (.seq (.reg [⟨(some 9), (.mov (.t 0)), none⟩,
 ⟨(some 10), (.fad 0 (.t 3)), none⟩,
 ⟨(some 11), (.load 1 false (.t 10)), none⟩,
 ⟨(some 12), (.inv (.t 9) "Keys" [(.t 11), (.k (.str [])), (.k (.int .i64 2))]), none⟩,
 ⟨(some 6), (.mov (.t 12)), none⟩])
 (.seq (.seq (.reg [⟨(some 13), (.mov (.t 6)), none⟩,
 ⟨(some 14), (.len .slc (.t 13)), none⟩,
 ⟨(some 15), (.bin .lss .num (.t 14) (.k (.int .i64 2))), none⟩])
 (.cond (.t 15)
 (.seq (.reg [⟨(some 4), (.mov (.k (.str []))), none⟩,
 ⟨(some 5), (.mov (.k (.str []))), none⟩])
 .ret)
 .skip))
 (.seq (.dreg [⟨(some 16), (.mov (.t 6)), none⟩,
 ⟨(some 17), (.iad 1 (.t 16) (.k (.int .i64 0))), none⟩,
 ⟨(some 18), (.load 1 false (.t 17)), none⟩,
 ⟨(some 19), (.mov (.t 6)), none⟩,
 ⟨(some 20), (.iad 1 (.t 19) (.k (.int .i64 1))), none⟩,
 ⟨(some 21), (.load 1 false (.t 20)), none⟩,
 ⟨(some 4), (.mov (.t 18)), none⟩,
 ⟨(some 5), (.mov (.t 21)), none⟩] (.lin [] [(0, none), (1, none), (2, none), (3, none), (4, none), (5, none), (6, none), (7, none)]))
 .ret)))))⟩

/-- 135: signetring/ratchet.begun -/
def F135 : Fun :=
 ⟨12, 2, [.t 4],
 (.seq (.reg [⟨(some 4), (.mov (.k (.int .i64 0))), none⟩])
 (.seq (.block 0
 (.seq (.reg [⟨(some 6), (.mov (.t 0)), none⟩,
 ⟨(some 7), (.bin .eql .ifc (.t 6) (.k .nifc)), none⟩,
 ⟨(some 5), (.mov (.t 7)), none⟩])
 (.cond (.t 5)
 (.seq (.reg [⟨(some 4), (.mov (.k (.int .i64 1))), none⟩])
 .ret)
 (.seq (.reg [⟨(some 9), (.mov (.t 1)), none⟩,
 ⟨(some 10), (.len .str (.t 9)), none⟩,
 ⟨(some 11), (.bin .neq .num (.t 10) (.k (.int .i64 32))), none⟩,
 ⟨(some 8), (.mov (.t 11)), none⟩])
 (.cond (.t 8)
 (.seq (.reg [⟨(some 4), (.mov (.k (.int .i64 2))), none⟩])
 .ret)
 .skip)))))
 (.seq (.reg [⟨(some 4), (.mov (.k (.int .i64 0))), none⟩])
 .ret)))⟩

/-- 136: (*signetring/ratchet.State).turn -/
def F136 : Fun :=
 ⟨46, 3, [.t 6],
 (.seq (.reg [⟨(some 6), (.mov (.k (.int .i64 0))), none⟩])
 (.seq (.reg [⟨(some 10), (.mov (.t 0)), none⟩,
 ⟨(some 11), (.mov (.t 0)), none⟩,
 ⟨(some 12), (.mov (.t 2)), none⟩,
 ⟨(some 13), (.mov (.t 0)), none⟩,
 ⟨(some 14), (.nilck (.t 13)), none⟩,
 ⟨(some 15), (.fad 9 (.t 14)), none⟩,
 ⟨(some 16), (.load 1 false (.t 15)), none⟩,
 ⟨(some 17), (.nilck (.t 10)), none⟩,
 ⟨(some 18), (.fad 0 (.t 17)), none⟩,
 ⟨none, (.store 1 (.t 18) (.t 12)), none⟩,
 ⟨(some 19), (.nilck (.t 11)), none⟩,
 ⟨(some 20), (.fad 7 (.t 19)), none⟩,
 ⟨none, (.store 1 (.t 20) (.t 16)), none⟩])
 (.seq (.reg [⟨(some 22), (.mov (.t 0)), none⟩,
 ⟨(some 23), (.mov (.t 1)), none⟩,
 ⟨(some 24), (.call (.k (.fn (.func 163) [] [])) [(.t 22), (.t 23)]), none⟩,
 ⟨(some 21), (.mov (.t 24)), none⟩,
 ⟨(some 25), (.ext (.t 21) 0), none⟩,
 ⟨(some 26), (.ext (.t 21) 1), none⟩,
 ⟨(some 27), (.ext (.t 21) 2), none⟩,
 ⟨(some 7), (.mov (.t 25)), none⟩,
 ⟨(some 8), (.mov (.t 26)), none⟩,
 ⟨(some 9), (.mov (.t 27)), none⟩])
 (.seq (.reg [⟨(some 28), (.mov (.t 0)), none⟩,
 ⟨(some 29), (.mov (.t 0)), none⟩,
 ⟨(some 30), (.mov (.t 0)), none⟩,
 ⟨(some 31), (.mov (.t 0)), none⟩,
 ⟨(some 32), (.nilck (.t 31)), none⟩,
 ⟨(some 33), (.fad 3 (.t 32)), none⟩,
 ⟨(some 34), (.fad 1 (.t 33)), none⟩,
 ⟨(some 35), (.load 1 false (.t 34)), none⟩,
 ⟨(some 36), (.mov (.t 7)), none⟩,
 ⟨(some 37), (.build [(.str []), (.int .i64 0)] [(0, 1, (.t 36))]), none⟩,
 ⟨(some 38), (.mov (.t 8)), none⟩,
 ⟨(some 39), (.nilck (.t 28)), none⟩,
 ⟨(some 40), (.fad 11 (.t 39)), none⟩,
 ⟨none, (.store 1 (.t 40) (.t 35)), none⟩,
 ⟨(some 41), (.nilck (.t 29)), none⟩,
 ⟨(some 42), (.fad 3 (.t 41)), none⟩,
 ⟨none, (.store 2 (.t 42) (.t 37)), none⟩,
 ⟨(some 43), (.nilck (.t 30)), none⟩,
 ⟨(some 44), (.fad 9 (.t 43)), none⟩,
 ⟨none, (.store 1 (.t 44) (.t 38)), none⟩])
 (.seq (.reg [⟨(some 45), (.mov (.t 9)), none⟩,
 ⟨(some 6), (.mov (.t 45)), none⟩])
 .ret)))))⟩

/-- 140: slices.Sort[[]string,string] -/
def F140 : Fun :=
 ⟨11, 1, [],
 (.seq (.reg [⟨(some 3), (.mov (.t 0)), none⟩,
 ⟨(some 4), (.len .slc (.t 3)), none⟩,
 ⟨(some 2), (.mov (.t 4)), none⟩])
 (.reg [⟨(some 5), (.mov (.t 0)), none⟩,
 ⟨(some 6), (.mov (.t 2)), none⟩,
 ⟨(some 7), (.mov (.t 2)), none⟩,
 ⟨(some 8), (.cvi .u64 (.t 7)), none⟩,
 ⟨(some 9), (.call (.k (.fn (.func 165) [] [])) [(.t 8)]), none⟩,
 ⟨(some 10), (.call (.k (.fn (.func 164) [] [])) [(.t 5), (.k (.int .i64 0)), (.t 6), (.t 9)]), none⟩]))⟩

/-- 141: signetring/codec.read -/
def F141 : Fun :=
 ⟨50, 1, [.t 2, .t 3, .c 4 1 false],
 (.seq (.reg [⟨(some 2), (.mov (.k (.int .u8 0))), none⟩,
 ⟨(some 3), (.mov (.k .nsl)), none⟩,
 ⟨(some 4), (.new [(.int .i64 0)] none), none⟩])
 (.seq (.reg [⟨none, (.dfr (.k (.fn (.func 166) [] [])) [(.t 4)]), none⟩])
 (.seq (.reg [⟨(some 7), (.mov (.t 0)), none⟩,
 ⟨(some 8), (.len .str (.t 7)), none⟩,
 ⟨(some 9), (.bin .leq .num (.t 8) (.k (.int .i64 30000))), none⟩,
 ⟨(some 10), (.call (.k (.fn (.func 167) [] [])) [(.t 9)]), none⟩])
 (.seq (.reg [⟨(some 11), (.mov (.t 0)), none⟩,
 ⟨(some 12), (.build [(.str [])] [(0, 1, (.t 11))]), none⟩,
 ⟨(some 13), (.box none (.t 12)), none⟩,
 ⟨(some 5), (.mov (.t 13)), none⟩])
 (.seq (.reg [⟨(some 14), (.mov (.t 5)), none⟩,
 ⟨(some 15), (.call (.k (.fn (.func 168) [] [])) [(.t 14)]), none⟩,
 ⟨(some 16), (.bin .eql .num (.t 15) (.k (.int .i64 1))), none⟩,
 ⟨(some 17), (.call (.k (.fn (.func 167) [] [])) [(.t 16)]), none⟩])
 (.seq (.reg [⟨(some 18), (.mov (.t 5)), none⟩,
 ⟨(some 19), (.call (.k (.fn (.func 168) [] [])) [(.t 18)]), none⟩,
 ⟨(some 20), (.cvi .u8 (.t 19)), none⟩,
 ⟨(some 2), (.mov (.t 20)), none⟩])
 (.seq (.seq (.reg [⟨(some 21), (.mov (.t 5)), none⟩,
 ⟨(some 22), (.call (.k (.fn (.func 168) [] [])) [(.t 21)]), none⟩,
 ⟨(some 23), (.mov (.k (.int .i64 0))), none⟩])
 (.block 0
 (.loop
 (.seq (.reg [⟨(some 24), (.bin .lss .num (.t 23) (.t 22)), none⟩])
 (.seq (.cond (.t 24)
 .skip
 (.exit 0))
 (.seq (.block 1
 (.seq (.reg [⟨(some 25), (.mov (.t 5)), none⟩,
 ⟨(some 26), (.call (.k (.fn (.func 168) [] [])) [(.t 25)]), none⟩,
 ⟨(some 27), (.bin .shl .num (.t 26) (.k (.int .u64 8))), none⟩,
 ⟨(some 6), (.mov (.t 27)), none⟩])
 (.seq (.reg [⟨(some 28), (.mov (.t 6)), none⟩,
 ⟨(some 29), (.mov (.t 5)), none⟩,
 ⟨(some 30), (.call (.k (.fn (.func 168) [] [])) [(.t 29)]), none⟩,
 ⟨(some 31), (.bin .add .num (.t 28) (.t 30)), none⟩,
 ⟨(some 6), (.mov (.t 31)), none⟩])
 (.seq (.reg [⟨(some 32), (.mov (.t 6)), none⟩,
 ⟨(some 33), (.bin .leq .num (.t 32) (.k (.int .i64 4000))), none⟩,
 ⟨(some 34), (.call (.k (.fn (.func 167) [] [])) [(.t 33)]), none⟩])
 (.reg [⟨(some 35), (.mov (.t 3)), none⟩,
 ⟨(some 36), (.mov (.t 5)), none⟩,
 ⟨(some 37), (.mov (.t 6)), none⟩,
 ⟨(some 38), (.call (.k (.fn (.func 169) [] [])) [(.t 36), (.t 37)]), none⟩,
 ⟨(some 39), (.mks true 1 16 false [(.str [])] 1 [(0, (.t 38))]), none⟩,
 ⟨(some 40), (.app 1 16 false none (.t 35) (.t 39)), none⟩,
 ⟨(some 3), (.mov (.t 40)), none⟩])))))
 (.reg [⟨(some 41), (.bin .add .num (.t 23) (.k (.int .i64 1))), none⟩,
 ⟨(some 23), (.mov (.t 41)), none⟩])))))))
 (.seq (.reg [⟨(some 42), (.mov (.t 5)), none⟩,
 ⟨(some 43), (.nilck (.t 42)), none⟩,
 ⟨(some 44), (.fad 0 (.t 43)), none⟩,
 ⟨(some 45), (.load 1 false (.t 44)), none⟩,
 ⟨(some 46), (.bin .eql .str (.t 45) (.k (.str []))), none⟩,
 ⟨(some 47), (.call (.k (.fn (.func 167) [] [])) [(.t 46)]), none⟩])
 (.seq (.reg [⟨(some 48), (.mov (.t 2)), none⟩,
 ⟨(some 49), (.mov (.t 3)), none⟩,
 ⟨(some 2), (.mov (.t 48)), none⟩,
 ⟨(some 3), (.mov (.t 49)), none⟩,
 ⟨none, (.store 1 (.t 4) (.k (.int .i64 0))), none⟩])
 .ret)))))))))⟩

/-- 143: (*signetring/noise.shake).open -/
def F143 : Fun :=
 ⟨31, 2, [.t 4],
 (.seq (.reg [⟨(some 4), (.mov (.k (.str []))), none⟩])
 (.seq (.dreg [⟨(some 9), (.mov (.t 0)), none⟩,
 ⟨(some 10), (.nilck (.t 9)), none⟩,
 ⟨(some 11), (.fad 4 (.t 10)), none⟩,
 ⟨(some 12), (.load 1 false (.t 11)), none⟩,
 ⟨(some 13), (.mov (.t 0)), none⟩,
 ⟨(some 14), (.nilck (.t 13)), none⟩,
 ⟨(some 15), (.fad 0 (.t 14)), none⟩,
 ⟨(some 16), (.load 4 true (.t 15)), none⟩,
 ⟨(some 17), (.mov (.t 1)), none⟩,
 ⟨(some 18), (.call (.k (.fn (.func 170) [] [])) [(.t 12), (.t 16), (.t 17)]), none⟩,
 ⟨(some 8), (.mov (.t 18)), none⟩,
 ⟨(some 19), (.ext (.t 8) 0), none⟩,
 ⟨(some 20), (.ext (.t 8) 1), none⟩,
 ⟨(some 21), (.ext (.t 8) 2), none⟩,
 ⟨(some 5), (.new [(.str []), (.str []), (.str []), (.int .u64 0)] none), none⟩,
 ⟨none, (.store 4 (.t 5) (.t 19)), none⟩,
 ⟨(some 6), (.mov (.t 20)), none⟩,
 ⟨(some 7), (.mov (.t 21)), none⟩] (.lin [14] [(0, none), (1, none), (2, none), (3, none), (4, none), (5, none), (6, none), (7, none), (8, none), (9, some []), (10, none), (11, none), (12, none), (13, none), (15, some [12, 13]), (16, none), (17, none)]))
 (.seq (.reg [⟨(some 22), (.mov (.t 7)), none⟩,
 ⟨(some 23), (.bin .eql .num (.t 22) (.k (.int .i64 0))), none⟩,
 ⟨(some 24), (.mov (.t 7)), none⟩,
 ⟨(some 25), (.call (.k (.fn (.func 128) [] [])) [(.t 23), (.t 24)]), none⟩])
 (.seq (.reg [⟨(some 26), (.mov (.t 0)), none⟩,
 ⟨(some 27), (.load 4 true (.t 5)), none⟩,
 ⟨(some 28), (.nilck (.t 26)), none⟩,
 ⟨(some 29), (.fad 0 (.t 28)), none⟩,
 ⟨none, (.store 4 (.t 29) (.t 27)), none⟩])
 (.seq (.reg [⟨(some 30), (.mov (.t 6)), none⟩,
 ⟨(some 4), (.mov (.t 30)), none⟩])
 .ret)))))⟩

/-- 145: (*signetring/term.Table).good -/
def F145 : Fun :=
 ⟨12, 1, [.t 2],
 (.seq (.reg [⟨(some 2), (.mov (.k (.bool false))), none⟩])
 (.seq (.reg [⟨(some 3), (.mov (.t 0)), none⟩,
 ⟨(some 4), (.bin .neq .ptr (.t 3) (.k .nptr)), none⟩,
 ⟨(some 5), (.mov (.t 4)), none⟩,
 ⟨(some 6), (.mov (.t 0)), some (5, true)⟩,
 ⟨(some 7), (.nilck (.t 6)), some (5, true)⟩,
 ⟨(some 8), (.fad 0 (.t 7)), some (5, true)⟩,
 ⟨(some 9), (.load 1 false (.t 8)), some (5, true)⟩,
 ⟨(some 10), (.bin .neq .map (.t 9) (.k .nmap)), some (5, true)⟩,
 ⟨(some 11), (.pick (.t 5) (.t 10) (.k (.bool false))), none⟩,
 ⟨(some 2), (.mov (.t 11)), none⟩])
 .ret))⟩

/-- 146: signetring/term.name -/
def F146 : Fun :=
 ⟨14, 1, [.t 2],
 (.seq (.reg [⟨(some 2), (.mov (.k (.str []))), none⟩])
 (.seq (.reg [⟨(some 4), (.mov (.t 0)), none⟩,
 ⟨(some 5), (.cvi .u64 (.t 4)), none⟩,
 ⟨(some 6), (.call (.k (.fn (.func 67) [] [])) [(.t 5)]), none⟩,
 ⟨(some 3), (.mov (.t 6)), none⟩])
 (.seq (.reg [⟨(some 7), (.mov (.t 3)), none⟩,
 ⟨(some 8), (.len .str (.t 7)), none⟩,
 ⟨(some 9), (.bin .sub .num (.k (.int .i64 28)) (.t 8)), none⟩,
 ⟨(some 10), (.call (.k (.fn (.func 177) [] [])) [(.k (.str [0])), (.t 9)]), none⟩,
 ⟨(some 11), (.bin .add .str (.k (.str [116, 101, 114, 109])) (.t 10)), none⟩,
 ⟨(some 12), (.mov (.t 3)), none⟩,
 ⟨(some 13), (.bin .add .str (.t 11) (.t 12)), none⟩,
 ⟨(some 2), (.mov (.t 13)), none⟩])
 .ret)))⟩

/-- 147: (*strings.Builder).Write -/
def F147 : Fun :=
 ⟨19, 2, [.t 4, .t 5],
 (.seq (.reg [⟨(some 4), (.mov (.k (.int .i64 0))), none⟩,
 ⟨(some 5), (.mov (.k .nifc)), none⟩])
 (.seq (.reg [⟨(some 6), (.mov (.t 0)), none⟩,
 ⟨(some 7), (.call (.k (.fn (.func 178) [] [])) [(.t 6)]), none⟩])
 (.seq (.reg [⟨(some 8), (.mov (.t 0)), none⟩,
 ⟨(some 9), (.mov (.t 0)), none⟩,
 ⟨(some 10), (.nilck (.t 9)), none⟩,
 ⟨(some 11), (.fad 1 (.t 10)), none⟩,
 ⟨(some 12), (.load 1 false (.t 11)), none⟩,
 ⟨(some 13), (.mov (.t 1)), none⟩,
 ⟨(some 14), (.app 1 1 false (some 5) (.t 12) (.t 13)), none⟩,
 ⟨(some 15), (.nilck (.t 8)), none⟩,
 ⟨(some 16), (.fad 1 (.t 15)), none⟩,
 ⟨none, (.store 1 (.t 16) (.t 14)), none⟩])
 (.seq (.reg [⟨(some 17), (.mov (.t 1)), none⟩,
 ⟨(some 18), (.len .slc (.t 17)), none⟩,
 ⟨(some 4), (.mov (.t 18)), none⟩,
 ⟨(some 5), (.mov (.k .nifc)), none⟩])
 .ret))))⟩

/-- 148: (*strings.Builder).WriteString -/
def F148 : Fun :=
 ⟨19, 2, [.t 4, .t 5],
 (.seq (.reg [⟨(some 4), (.mov (.k (.int .i64 0))), none⟩,
 ⟨(some 5), (.mov (.k .nifc)), none⟩])
 (.seq (.reg [⟨(some 6), (.mov (.t 0)), none⟩,
 ⟨(some 7), (.call (.k (.fn (.func 178) [] [])) [(.t 6)]), none⟩])
 (.seq (.reg [⟨(some 8), (.mov (.t 0)), none⟩,
 ⟨(some 9), (.mov (.t 0)), none⟩,
 ⟨(some 10), (.nilck (.t 9)), none⟩,
 ⟨(some 11), (.fad 1 (.t 10)), none⟩,
 ⟨(some 12), (.load 1 false (.t 11)), none⟩,
 ⟨(some 13), (.mov (.t 1)), none⟩,
 ⟨(some 14), (.app 1 1 false (some 5) (.t 12) (.t 13)), none⟩,
 ⟨(some 15), (.nilck (.t 8)), none⟩,
 ⟨(some 16), (.fad 1 (.t 15)), none⟩,
 ⟨none, (.store 1 (.t 16) (.t 14)), none⟩])
 (.seq (.reg [⟨(some 17), (.mov (.t 1)), none⟩,
 ⟨(some 18), (.len .str (.t 17)), none⟩,
 ⟨(some 4), (.mov (.t 18)), none⟩,
 ⟨(some 5), (.mov (.k .nifc)), none⟩])
 .ret))))⟩

/-- 149: (*strings.Builder).Len -/
def F149 : Fun :=
 ⟨8, 1, [.t 2],
 (.seq (.reg [⟨(some 2), (.mov (.k (.int .i64 0))), none⟩])
 (.seq (.reg [⟨(some 3), (.mov (.t 0)), none⟩,
 ⟨(some 4), (.nilck (.t 3)), none⟩,
 ⟨(some 5), (.fad 1 (.t 4)), none⟩,
 ⟨(some 6), (.load 1 false (.t 5)), none⟩,
 ⟨(some 7), (.len .slc (.t 6)), none⟩,
 ⟨(some 2), (.mov (.t 7)), none⟩])
 .ret))⟩

/-- 150: (*strings.Builder).String -/
def F150 : Fun :=
 ⟨14, 1, [.t 2],
 (.seq (.reg [⟨(some 2), (.mov (.k (.str []))), none⟩])
 (.seq (.dreg [⟨(some 3), (.mov (.t 0)), none⟩,
 ⟨(some 4), (.nilck (.t 3)), none⟩,
 ⟨(some 5), (.fad 1 (.t 4)), none⟩,
 ⟨(some 6), (.load 1 false (.t 5)), none⟩,
 ⟨(some 7), (.sld (.t 6)), none⟩,
 ⟨(some 8), (.mov (.t 0)), none⟩,
 ⟨(some 9), (.nilck (.t 8)), none⟩,
 ⟨(some 10), (.fad 1 (.t 9)), none⟩,
 ⟨(some 11), (.load 1 false (.t 10)), none⟩,
 ⟨(some 12), (.len .slc (.t 11)), none⟩,
 ⟨(some 13), (.ustr 5 (.t 7) (.t 12)), none⟩,
 ⟨(some 2), (.mov (.t 13)), none⟩] (.free 0 (.free 1 (.free 2 (.free 5 (.free 6 (.free 7 (.cho 3 (.free 4 (.cho 8 (.free 9 (.cho 10 (.free 11 .done) .nope)) .nope)) (.cho 8 (.free 9 (.cho 3 (.free 4 (.cho 10 (.free 11 .done) .nope)) .nope)) .nope)))))))))
 .ret))⟩

/-- 151: internal/stringslite.HasPrefix -/
def F151 : Fun :=
 ⟨18, 2, [.t 4],
 (.seq (.reg [⟨(some 4), (.mov (.k (.bool false))), none⟩])
 (.seq (.reg [⟨(some 5), (.mov (.t 0)), none⟩,
 ⟨(some 6), (.len .str (.t 5)), none⟩,
 ⟨(some 7), (.mov (.t 1)), none⟩,
 ⟨(some 8), (.len .str (.t 7)), none⟩,
 ⟨(some 9), (.bin .geq .num (.t 6) (.t 8)), none⟩,
 ⟨(some 10), (.mov (.t 9)), none⟩,
 ⟨(some 11), (.mov (.t 0)), some (10, true)⟩,
 ⟨(some 12), (.mov (.t 1)), some (10, true)⟩,
 ⟨(some 13), (.len .str (.t 12)), some (10, true)⟩,
 ⟨(some 14), (.slc true 0 (.t 11) none (some (.t 13)) none), some (10, true)⟩,
 ⟨(some 15), (.mov (.t 1)), some (10, true)⟩,
 ⟨(some 16), (.bin .eql .str (.t 14) (.t 15)), some (10, true)⟩,
 ⟨(some 17), (.pick (.t 10) (.t 16) (.k (.bool false))), none⟩,
 ⟨(some 4), (.mov (.t 17)), none⟩])
 .ret))⟩

/-- 152: slices.Delete[[]signetring/session.Bundle,signetring/session.Bundle] -/
def F152 : Fun :=
 ⟨33, 3, [.t 6],
 (.seq (.reg [⟨(some 6), (.mov (.k .nsl)), none⟩])
 (.seq (.reg [⟨(some 8), (.mov (.t 0)), none⟩,
 ⟨(some 9), (.mov (.t 1)), none⟩,
 ⟨(some 10), (.mov (.t 2)), none⟩,
 ⟨(some 11), (.mov (.t 0)), none⟩,
 ⟨(some 12), (.len .slc (.t 11)), none⟩,
 ⟨(some 13), (.slc false 3 (.t 8) (some (.t 9)) (some (.t 10)) (some (.t 12))), none⟩])
 (.seq (.seq (.reg [⟨(some 14), (.mov (.t 1)), none⟩,
 ⟨(some 15), (.mov (.t 2)), none⟩,
 ⟨(some 16), (.bin .eql .num (.t 14) (.t 15)), none⟩])
 (.cond (.t 16)
 (.seq (.reg [⟨(some 17), (.mov (.t 0)), none⟩,
 ⟨(some 6), (.mov (.t 17)), none⟩])
 .ret)
 .skip))
 (.seq (.reg [⟨(some 18), (.mov (.t 0)), none⟩,
 ⟨(some 19), (.len .slc (.t 18)), none⟩,
 ⟨(some 7), (.mov (.t 19)), none⟩])
 (.seq (.dreg [⟨(some 20), (.mov (.t 0)), none⟩,
 ⟨(some 21), (.mov (.t 1)), none⟩,
 ⟨(some 22), (.slc false 3 (.t 20) none (some (.t 21)) none), none⟩,
 ⟨(some 23), (.mov (.t 0)), none⟩,
 ⟨(some 24), (.mov (.t 2)), none⟩,
 ⟨(some 25), (.slc false 3 (.t 23) (some (.t 24)) none none), none⟩,
 ⟨(some 26), (.app 3 40 true none (.t 22) (.t 25)), none⟩,
 ⟨(some 0), (.mov (.t 26)), none⟩] (.lin [] [(0, none), (1, none), (2, none), (3, none), (4, none), (5, none), (6, some []), (7, some [])]))
 (.seq (.reg [⟨(some 27), (.mov (.t 0)), none⟩,
 ⟨(some 28), (.mov (.t 0)), none⟩,
 ⟨(some 29), (.len .slc (.t 28)), none⟩,
 ⟨(some 30), (.mov (.t 7)), none⟩,
 ⟨(some 31), (.slc false 3 (.t 27) (some (.t 29)) (some (.t 30)) none), none⟩,
 ⟨none, (.clr [(.str []), (.str []), (.int .u64 0)] (.t 31)), none⟩])
 (.seq (.reg [⟨(some 32), (.mov (.t 0)), none⟩,
 ⟨(some 6), (.mov (.t 32)), none⟩])
 .ret)))))))⟩

/-- 153: (*signetring/world.node).post -/
def F153 : Fun :=
 ⟨24, 3, [],
 (.seq (.reg [⟨(some 6), (.mov (.t 0)), none⟩,
 ⟨(some 7), (.nilck (.t 6)), none⟩,
 ⟨(some 8), (.fad 7 (.t 7)), none⟩,
 ⟨(some 9), (.load 1 false (.t 8)), none⟩,
 ⟨(some 10), (.len .slc (.t 9)), none⟩,
 ⟨(some 11), (.bin .lss .num (.t 10) (.k (.int .i64 50))), none⟩])
 (.cond (.t 11)
 (.reg [⟨(some 12), (.mov (.t 0)), none⟩,
 ⟨(some 13), (.mov (.t 0)), none⟩,
 ⟨(some 14), (.nilck (.t 13)), none⟩,
 ⟨(some 15), (.fad 7 (.t 14)), none⟩,
 ⟨(some 16), (.load 1 false (.t 15)), none⟩,
 ⟨(some 17), (.mov (.t 1)), none⟩,
 ⟨(some 18), (.mov (.t 2)), none⟩,
 ⟨(some 19), (.build [(.int .i64 0), (.str [])] [(0, 1, (.t 17)), (1, 1, (.t 18))]), none⟩,
 ⟨(some 20), (.mks true 2 24 true [(.int .i64 0), (.str [])] 1 [(0, (.t 19))]), none⟩,
 ⟨(some 21), (.app 2 24 true none (.t 16) (.t 20)), none⟩,
 ⟨(some 22), (.nilck (.t 12)), none⟩,
 ⟨(some 23), (.fad 7 (.t 22)), none⟩,
 ⟨none, (.store 1 (.t 23) (.t 21)), none⟩])
 .skip))⟩

/-- 156: (*signetring/world.node).letter -/
def F156 : Fun :=
 ⟨37, 2, [.c 4 2 true, .t 5],
 (.seq (.reg [⟨(some 4), (.new [(.int .i64 0), (.str [])] none), none⟩,
 ⟨(some 5), (.mov (.k (.int .i64 0))), none⟩])
 (.seq (.seq (.reg [⟨(some 7), (.mov (.t 1)), none⟩,
 ⟨(some 8), (.mov (.t 0)), none⟩,
 ⟨(some 9), (.nilck (.t 8)), none⟩,
 ⟨(some 10), (.fad 7 (.t 9)), none⟩,
 ⟨(some 11), (.load 1 false (.t 10)), none⟩,
 ⟨(some 12), (.len .slc (.t 11)), none⟩,
 ⟨(some 13), (.cvi .u64 (.t 12)), none⟩,
 ⟨(some 14), (.bin .geq .num (.t 7) (.t 13)), none⟩])
 (.cond (.t 14)
 (.seq (.reg [⟨(some 15), (.build [(.int .i64 0), (.str [])] []), none⟩,
 ⟨none, (.store 2 (.t 4) (.t 15)), none⟩,
 ⟨(some 5), (.mov (.k (.int .i64 9))), none⟩])
 .ret)
 .skip))
 (.seq (.reg [⟨(some 16), (.mov (.t 0)), none⟩,
 ⟨(some 17), (.nilck (.t 16)), none⟩,
 ⟨(some 18), (.fad 7 (.t 17)), none⟩,
 ⟨(some 19), (.load 1 false (.t 18)), none⟩,
 ⟨(some 20), (.mov (.t 1)), none⟩,
 ⟨(some 21), (.iad 2 (.t 19) (.t 20)), none⟩,
 ⟨(some 22), (.load 2 true (.t 21)), none⟩,
 ⟨(some 6), (.new [(.int .i64 0), (.str [])] none), none⟩,
 ⟨none, (.store 2 (.t 6) (.t 22)), none⟩])
 (.seq (.reg [⟨(some 23), (.mov (.t 0)), none⟩,
 ⟨(some 24), (.mov (.t 0)), none⟩,
 ⟨(some 25), (.nilck (.t 24)), none⟩,
 ⟨(some 26), (.fad 7 (.t 25)), none⟩,
 ⟨(some 27), (.load 1 false (.t 26)), none⟩,
 ⟨(some 28), (.mov (.t 1)), none⟩,
 ⟨(some 29), (.cvi .i64 (.t 28)), none⟩,
 ⟨(some 30), (.mov (.t 1)), none⟩,
 ⟨(some 31), (.cvi .i64 (.t 30)), none⟩,
 ⟨(some 32), (.bin .add .num (.t 31) (.k (.int .i64 1))), none⟩,
 ⟨(some 33), (.call (.k (.fn (.func 179) [] [])) [(.t 27), (.t 29), (.t 32)]), none⟩,
 ⟨(some 34), (.nilck (.t 23)), none⟩,
 ⟨(some 35), (.fad 7 (.t 34)), none⟩,
 ⟨none, (.store 1 (.t 35) (.t 33)), none⟩])
 (.seq (.reg [⟨(some 36), (.load 2 true (.t 6)), none⟩,
 ⟨none, (.store 2 (.t 4) (.t 36)), none⟩,
 ⟨(some 5), (.mov (.k (.int .i64 0))), none⟩])
 .ret)))))⟩

/-- 159: signetring/mix.Begin -/
def F159 : Fun :=
 ⟨25, 2, [.c 4 4 true],
 (.seq (.reg [⟨(some 4), (.new [(.str []), (.str []), (.str []), (.int .u64 0)] none), none⟩])
 (.seq (.block 0
 (.seq (.reg [⟨(some 12), (.mov (.t 0)), none⟩,
 ⟨(some 13), (.bin .eql .ifc (.t 12) (.k .nifc)), none⟩,
 ⟨(some 11), (.mov (.t 13)), none⟩])
 (.cond (.t 11)
 (.seq (.reg [⟨(some 14), (.build [(.str []), (.str []), (.str []), (.int .u64 0)] []), none⟩,
 ⟨none, (.store 4 (.t 4) (.t 14)), none⟩])
 .ret)
 (.seq (.reg [⟨(some 16), (.mov (.t 1)), none⟩,
 ⟨(some 17), (.len .str (.t 16)), none⟩,
 ⟨(some 18), (.bin .gtr .num (.t 17) (.k (.int .i64 32))), none⟩,
 ⟨(some 15), (.mov (.t 18)), none⟩])
 (.cond (.t 15)
 (.reg [⟨(some 19), (.mov (.t 0)), none⟩,
 ⟨(some 20), (.mov (.t 1)), none⟩,
 ⟨(some 21), (.inv (.t 19) "Hash" [(.t 20), (.k (.str []))]), none⟩,
 ⟨(some 1), (.mov (.t 21)), none⟩])
 (.reg [⟨(some 5), (.mov (.t 1)), none⟩,
 ⟨(some 6), (.mov (.t 1)), none⟩,
 ⟨(some 7), (.len .str (.t 6)), none⟩,
 ⟨(some 8), (.bin .sub .num (.k (.int .i64 32)) (.t 7)), none⟩,
 ⟨(some 9), (.call (.k (.fn (.func 177) [] [])) [(.k (.str [0])), (.t 8)]), none⟩,
 ⟨(some 10), (.bin .add .str (.t 5) (.t 9)), none⟩,
 ⟨(some 1), (.mov (.t 10)), none⟩]))))))
 (.seq (.reg [⟨(some 22), (.mov (.t 1)), none⟩,
 ⟨(some 23), (.mov (.t 1)), none⟩,
 ⟨(some 24), (.build [(.str []), (.str []), (.str []), (.int .u64 0)] [(0, 1, (.t 22)), (1, 1, (.t 23))]), none⟩,
 ⟨none, (.store 4 (.t 4) (.t 24)), none⟩])
 .ret)))⟩

/-- 160: signetring/mix.Hash -/
def F160 : Fun :=
 ⟨17, 3, [.c 6 4 true],
 (.seq (.reg [⟨(some 4), (.box none (.t 1)), none⟩,
 ⟨(some 6), (.new [(.str []), (.str []), (.str []), (.int .u64 0)] none), none⟩])
 (.seq (.seq (.reg [⟨(some 7), (.mov (.t 0)), none⟩,
 ⟨(some 8), (.bin .eql .ifc (.t 7) (.k .nifc)), none⟩])
 (.cond (.t 8)
 (.seq (.reg [⟨(some 9), (.build [(.str []), (.str []), (.str []), (.int .u64 0)] []), none⟩,
 ⟨none, (.store 4 (.t 6) (.t 9)), none⟩])
 .ret)
 .skip))
 (.seq (.reg [⟨(some 10), (.mov (.t 0)), none⟩,
 ⟨(some 11), (.fad 1 (.t 4)), none⟩,
 ⟨(some 12), (.load 1 false (.t 11)), none⟩,
 ⟨(some 13), (.mov (.t 2)), none⟩,
 ⟨(some 14), (.inv (.t 10) "Hash" [(.t 12), (.t 13)]), none⟩,
 ⟨(some 15), (.fad 1 (.t 4)), none⟩,
 ⟨none, (.store 1 (.t 15) (.t 14)), none⟩])
 (.seq (.reg [⟨(some 16), (.load 4 true (.t 4)), none⟩,
 ⟨none, (.store 4 (.t 6) (.t 16)), none⟩])
 .ret))))⟩

/-- 161: signetring/mix.Key -/
def F161 : Fun :=
 ⟨29, 3, [.c 6 4 true],
 (.seq (.reg [⟨(some 4), (.box none (.t 1)), none⟩,
 ⟨(some 6), (.new [(.str []), (.str []), (.str []), (.int .u64 0)] none), none⟩])
 (.seq (.seq (.reg [⟨(some 8), (.mov (.t 0)), none⟩,
 ⟨(some 9), (.bin .eql .ifc (.t 8) (.k .nifc)), none⟩])
 (.cond (.t 9)
 (.seq (.reg [⟨(some 10), (.build [(.str []), (.str []), (.str []), (.int .u64 0)] []), none⟩,
 ⟨none, (.store 4 (.t 6) (.t 10)), none⟩])
 .ret)
 .skip))
 (.seq (.seq (.reg [⟨(some 11), (.mov (.t 0)), none⟩,
 ⟨(some 12), (.fad 0 (.t 4)), none⟩,
 ⟨(some 13), (.load 1 false (.t 12)), none⟩,
 ⟨(some 14), (.mov (.t 2)), none⟩,
 ⟨(some 15), (.inv (.t 11) "Keys" [(.t 13), (.t 14), (.k (.int .i64 2))]), none⟩,
 ⟨(some 7), (.mov (.t 15)), none⟩])
 (.seq (.reg [⟨(some 16), (.mov (.t 7)), none⟩,
 ⟨(some 17), (.len .slc (.t 16)), none⟩,
 ⟨(some 18), (.bin .eql .num (.t 17) (.k (.int .i64 2))), none⟩])
 (.cond (.t 18)
 (.dreg [⟨(some 19), (.mov (.t 7)), none⟩,
 ⟨(some 20), (.iad 1 (.t 19) (.k (.int .i64 0))), none⟩,
 ⟨(some 21), (.load 1 false (.t 20)), none⟩,
 ⟨(some 22), (.mov (.t 7)), none⟩,
 ⟨(some 23), (.iad 1 (.t 22) (.k (.int .i64 1))), none⟩,
 ⟨(some 24), (.load 1 false (.t 23)), none⟩,
 ⟨(some 25), (.build [(.str []), (.int .u64 0)] [(0, 1, (.t 24))]), none⟩,
 ⟨(some 26), (.fad 0 (.t 4)), none⟩,
 ⟨none, (.store 1 (.t 26) (.t 21)), none⟩,
 ⟨(some 27), (.fad 2 (.t 4)), none⟩,
 ⟨none, (.store 2 (.t 27) (.t 25)), none⟩] (.lin [] [(0, none), (1, none), (2, none), (3, none), (4, none), (5, none), (6, none), (7, none), (8, some [3, 4, 5, 6]), (9, none), (10, some [])]))
 .skip)))
 (.seq (.reg [⟨(some 28), (.load 4 true (.t 4)), none⟩,
 ⟨none, (.store 4 (.t 6) (.t 28)), none⟩])
 .ret))))⟩

/-- 162: signetring/mix.Seal -/
def F162 : Fun :=
 ⟨29, 3, [.c 6 4 true, .t 7, .t 8],
 (.seq (.reg [⟨(some 4), (.box none (.t 1)), none⟩,
 ⟨(some 6), (.new [(.str []), (.str []), (.str []), (.int .u64 0)] none), none⟩,
 ⟨(some 7), (.mov (.k (.str []))), none⟩,
 ⟨(some 8), (.mov (.k (.int .i64 0))), none⟩])
 (.seq (.reg [⟨(some 13), (.load 4 true (.t 4)), none⟩,
 ⟨(some 14), (.mov (.t 0)), none⟩,
 ⟨(some 15), (.mov (.t 2)), none⟩,
 ⟨(some 16), (.call (.k (.fn (.func 183) [] [])) [(.t 13), (.t 14), (.t 15), (.k (.fn (.func 184) [] []))]), none⟩,
 ⟨(some 12), (.mov (.t 16)), none⟩,
 ⟨(some 17), (.ext (.t 12) 0), none⟩,
 ⟨(some 18), (.ext (.t 12) 1), none⟩,
 ⟨(some 19), (.ext (.t 12) 2), none⟩,
 ⟨(some 9), (.new [(.str []), (.str []), (.str []), (.int .u64 0)] none), none⟩,
 ⟨none, (.store 4 (.t 9) (.t 17)), none⟩,
 ⟨(some 10), (.mov (.t 18)), none⟩,
 ⟨(some 11), (.mov (.t 19)), none⟩])
 (.seq (.seq (.reg [⟨(some 20), (.mov (.t 11)), none⟩,
 ⟨(some 21), (.bin .neq .num (.t 20) (.k (.int .i64 0))), none⟩])
 (.cond (.t 21)
 (.seq (.reg [⟨(some 22), (.load 4 true (.t 9)), none⟩,
 ⟨(some 23), (.mov (.t 11)), none⟩,
 ⟨none, (.store 4 (.t 6) (.t 22)), none⟩,
 ⟨(some 7), (.mov (.k (.str []))), none⟩,
 ⟨(some 8), (.mov (.t 23)), none⟩])
 .ret)
 .skip))
 (.seq (.reg [⟨(some 24), (.mov (.t 0)), none⟩,
 ⟨(some 25), (.load 4 true (.t 9)), none⟩,
 ⟨(some 26), (.mov (.t 10)), none⟩,
 ⟨(some 27), (.call (.k (.fn (.func 160) [] [])) [(.t 24), (.t 25), (.t 26)]), none⟩,
 ⟨(some 28), (.mov (.t 10)), none⟩,
 ⟨none, (.store 4 (.t 6) (.t 27)), none⟩,
 ⟨(some 7), (.mov (.t 28)), none⟩,
 ⟨(some 8), (.mov (.k (.int .i64 0))), none⟩])
 .ret))))⟩

/-- 163: (*signetring/ratchet.State).mixed -/
def F163 : Fun :=
 ⟨45, 2, [.t 4, .t 5, .t 6],
 (.seq (.reg [⟨(some 4), (.mov (.k (.str []))), none⟩,
 ⟨(some 5), (.mov (.k (.str []))), none⟩,
 ⟨(some 6), (.mov (.k (.int .i64 0))), none⟩])
 (.seq (.dreg [⟨(some 10), (.mov (.t 1)), none⟩,
 ⟨(some 11), (.mov (.t 0)), none⟩,
 ⟨(some 12), (.nilck (.t 11)), none⟩,
 ⟨(some 13), (.fad 0 (.t 12)), none⟩,
 ⟨(some 14), (.load 1 false (.t 13)), none⟩,
 ⟨(some 15), (.mov (.t 0)), none⟩,
 ⟨(some 16), (.nilck (.t 15)), none⟩,
 ⟨(some 17), (.fad 1 (.t 16)), none⟩,
 ⟨(some 18), (.load 1 false (.t 17)), none⟩,
 ⟨(some 19), (.mkf (.method "Dh") [(.t 10)] []), none⟩,
 ⟨(some 20), (.nilck (.t 19)), none⟩,
 ⟨(some 21), (.mov (.t 10)), none⟩,
 ⟨(some 22), (.inv (.t 21) "Dh" [(.t 14), (.t 18)]), none⟩,
 ⟨(some 9), (.mov (.t 22)), none⟩,
 ⟨(some 23), (.ext (.t 9) 0), none⟩,
 ⟨(some 24), (.ext (.t 9) 1), none⟩,
 ⟨(some 7), (.mov (.t 23)), none⟩,
 ⟨(some 8), (.mov (.t 24)), none⟩] (.lin [] [(0, none), (1, none), (2, none), (3, none), (4, none), (5, none), (6, none), (7, none), (8, none), (9, none), (10, none), (11, none), (12, some []), (13, none), (14, none), (15, none), (16, none), (17, none)]))
 (.seq (.seq (.reg [⟨(some 25), (.mov (.t 8)), none⟩,
 ⟨(some 26), (.un .not (.t 25)), none⟩])
 (.cond (.t 26)
 (.seq (.reg [⟨(some 4), (.mov (.k (.str []))), none⟩,
 ⟨(some 5), (.mov (.k (.str []))), none⟩,
 ⟨(some 6), (.mov (.k (.int .i64 6))), none⟩])
 .ret)
 .skip))
 (.seq (.reg [⟨(some 28), (.mov (.t 0)), none⟩,
 ⟨(some 29), (.mov (.t 1)), none⟩,
 ⟨(some 30), (.mov (.t 0)), none⟩,
 ⟨(some 31), (.nilck (.t 30)), none⟩,
 ⟨(some 32), (.fad 2 (.t 31)), none⟩,
 ⟨(some 33), (.load 1 false (.t 32)), none⟩,
 ⟨(some 34), (.mov (.t 7)), none⟩,
 ⟨(some 35), (.call (.k (.fn (.func 185) [] [])) [(.t 29), (.t 33), (.t 34)]), none⟩,
 ⟨(some 27), (.mov (.t 35)), none⟩,
 ⟨(some 36), (.ext (.t 27) 0), none⟩,
 ⟨(some 37), (.ext (.t 27) 1), none⟩,
 ⟨(some 38), (.ext (.t 27) 2), none⟩,
 ⟨(some 39), (.ext (.t 27) 3), none⟩,
 ⟨(some 40), (.nilck (.t 28)), none⟩,
 ⟨(some 41), (.fad 2 (.t 40)), none⟩,
 ⟨none, (.store 1 (.t 41) (.t 36)), none⟩,
 ⟨(some 4), (.mov (.t 37)), none⟩,
 ⟨(some 5), (.mov (.t 38)), none⟩,
 ⟨(some 6), (.mov (.t 39)), none⟩])
 (.seq (.reg [⟨(some 42), (.mov (.t 4)), none⟩,
 ⟨(some 43), (.mov (.t 5)), none⟩,
 ⟨(some 44), (.mov (.t 6)), none⟩,
 ⟨(some 4), (.mov (.t 42)), none⟩,
 ⟨(some 5), (.mov (.t 43)), none⟩,
 ⟨(some 6), (.mov (.t 44)), none⟩])
 .ret)))))⟩

/-- 164: slices.pdqsortOrdered[string] -/
def F164 : Fun :=
 ⟨134, 4, [],
 (.seq (.reg [⟨(some 8), (.mov (.k (.bool true))), none⟩])
 (.seq (.reg [⟨(some 9), (.mov (.k (.bool true))), none⟩])
 (.block 0
 (.loop
 (.block 1
 (.seq (.reg [⟨(some 19), (.mov (.t 2)), none⟩,
 ⟨(some 20), (.mov (.t 1)), none⟩,
 ⟨(some 21), (.bin .sub .num (.t 19) (.t 20)), none⟩,
 ⟨(some 10), (.mov (.t 21)), none⟩])
 (.seq (.seq (.reg [⟨(some 22), (.mov (.t 10)), none⟩,
 ⟨(some 23), (.bin .leq .num (.t 22) (.k (.int .i64 12))), none⟩])
 (.cond (.t 23)
 (.seq (.reg [⟨(some 24), (.mov (.t 0)), none⟩,
 ⟨(some 25), (.mov (.t 1)), none⟩,
 ⟨(some 26), (.mov (.t 2)), none⟩,
 ⟨(some 27), (.call (.k (.fn (.func 186) [] [])) [(.t 24), (.t 25), (.t 26)]), none⟩])
 .ret)
 .skip))
 (.seq (.seq (.reg [⟨(some 28), (.mov (.t 3)), none⟩,
 ⟨(some 29), (.bin .eql .num (.t 28) (.k (.int .i64 0))), none⟩])
 (.cond (.t 29)
 (.seq (.reg [⟨(some 30), (.mov (.t 0)), none⟩,
 ⟨(some 31), (.mov (.t 1)), none⟩,
 ⟨(some 32), (.mov (.t 2)), none⟩,
 ⟨(some 33), (.call (.k (.fn (.func 187) [] [])) [(.t 30), (.t 31), (.t 32)]), none⟩])
 .ret)
 .skip))
 (.seq (.seq (.reg [⟨(some 34), (.mov (.t 8)), none⟩,
 ⟨(some 35), (.un .not (.t 34)), none⟩])
 (.cond (.t 35)
 (.seq (.reg [⟨(some 36), (.mov (.t 0)), none⟩,
 ⟨(some 37), (.mov (.t 1)), none⟩,
 ⟨(some 38), (.mov (.t 2)), none⟩,
 ⟨(some 39), (.call (.k (.fn (.func 188) [] [])) [(.t 36), (.t 37), (.t 38)]), none⟩])
 (.reg [⟨(some 40), (.mov (.t 3)), none⟩,
 ⟨(some 41), (.bin .sub .num (.t 40) (.k (.int .i64 1))), none⟩,
 ⟨(some 3), (.mov (.t 41)), none⟩]))
 .skip))
 (.seq (.reg [⟨(some 43), (.mov (.t 0)), none⟩,
 ⟨(some 44), (.mov (.t 1)), none⟩,
 ⟨(some 45), (.mov (.t 2)), none⟩,
 ⟨(some 46), (.call (.k (.fn (.func 189) [] [])) [(.t 43), (.t 44), (.t 45)]), none⟩,
 ⟨(some 42), (.mov (.t 46)), none⟩,
 ⟨(some 47), (.ext (.t 42) 0), none⟩,
 ⟨(some 48), (.ext (.t 42) 1), none⟩,
 ⟨(some 11), (.mov (.t 47)), none⟩,
 ⟨(some 12), (.mov (.t 48)), none⟩])
 (.seq (.seq (.reg [⟨(some 49), (.mov (.t 12)), none⟩,
 ⟨(some 50), (.bin .eql .num (.t 49) (.k (.int .i64 2))), none⟩])
 (.cond (.t 50)
 (.seq (.reg [⟨(some 51), (.mov (.t 0)), none⟩,
 ⟨(some 52), (.mov (.t 1)), none⟩,
 ⟨(some 53), (.mov (.t 2)), none⟩,
 ⟨(some 54), (.call (.k (.fn (.func 190) [] [])) [(.t 51), (.t 52), (.t 53)]), none⟩])
 (.seq (.reg [⟨(some 55), (.mov (.t 2)), none⟩,
 ⟨(some 56), (.bin .sub .num (.t 55) (.k (.int .i64 1))), none⟩,
 ⟨(some 57), (.mov (.t 11)), none⟩,
 ⟨(some 58), (.mov (.t 1)), none⟩,
 ⟨(some 59), (.bin .sub .num (.t 57) (.t 58)), none⟩,
 ⟨(some 60), (.bin .sub .num (.t 56) (.t 59)), none⟩,
 ⟨(some 11), (.mov (.t 60)), none⟩])
 (.reg [⟨(some 12), (.mov (.k (.int .i64 1))), none⟩])))
 .skip))
 (.seq (.seq (.reg [⟨(some 61), (.mov (.t 8)), none⟩,
 ⟨(some 62), (.mov (.t 61)), none⟩,
 ⟨(some 63), (.mov (.t 9)), some (62, true)⟩,
 ⟨(some 64), (.pick (.t 62) (.t 63) (.k (.bool false))), none⟩,
 ⟨(some 65), (.mov (.t 64)), none⟩,
 ⟨(some 66), (.mov (.t 12)), some (65, true)⟩,
 ⟨(some 67), (.bin .eql .num (.t 66) (.k (.int .i64 1))), some (65, true)⟩,
 ⟨(some 68), (.pick (.t 65) (.t 67) (.k (.bool false))), none⟩])
 (.cond (.t 68)
 (.seq (.reg [⟨(some 69), (.mov (.t 0)), none⟩,
 ⟨(some 70), (.mov (.t 1)), none⟩,
 ⟨(some 71), (.mov (.t 2)), none⟩,
 ⟨(some 72), (.call (.k (.fn (.func 191) [] [])) [(.t 69), (.t 70), (.t 71)]), none⟩])
 (.cond (.t 72)
 .ret
 .skip))
 .skip))
 (.seq (.seq (.dreg [⟨(some 73), (.mov (.t 1)), none⟩,
 ⟨(some 74), (.bin .gtr .num (.t 73) (.k (.int .i64 0))), none⟩,
 ⟨(some 75), (.mov (.t 74)), none⟩,
 ⟨(some 76), (.mov (.t 0)), some (75, true)⟩,
 ⟨(some 77), (.mov (.t 1)), some (75, true)⟩,
 ⟨(some 78), (.bin .sub .num (.t 77) (.k (.int .i64 1))), some (75, true)⟩,
 ⟨(some 79), (.iad 1 (.t 76) (.t 78)), some (75, true)⟩,
 ⟨(some 80), (.load 1 false (.t 79)), some (75, true)⟩,
 ⟨(some 81), (.mov (.t 0)), some (75, true)⟩,
 ⟨(some 82), (.mov (.t 11)), some (75, true)⟩,
 ⟨(some 83), (.iad 1 (.t 81) (.t 82)), some (75, true)⟩,
 ⟨(some 84), (.load 1 false (.t 83)), some (75, true)⟩,
 ⟨(some 85), (.call (.k (.fn (.func 192) [] [])) [(.t 80), (.t 84)]), some (75, true)⟩,
 ⟨(some 86), (.un .not (.t 85)), some (75, true)⟩,
 ⟨(some 87), (.pick (.t 75) (.t 86) (.k (.bool false))), none⟩] (.lin [] [(0, none), (1, none), (2, none), (3, none), (4, none), (5, none), (6, none), (7, none), (8, none), (9, none), (10, none), (11, none), (12, some []), (13, none), (14, none)]))
 (.cond (.t 87)
 (.seq (.reg [⟨(some 88), (.mov (.t 0)), none⟩,
 ⟨(some 89), (.mov (.t 1)), none⟩,
 ⟨(some 90), (.mov (.t 2)), none⟩,
 ⟨(some 91), (.mov (.t 11)), none⟩,
 ⟨(some 92), (.call (.k (.fn (.func 193) [] [])) [(.t 88), (.t 89), (.t 90), (.t 91)]), none⟩,
 ⟨(some 13), (.mov (.t 92)), none⟩])
 (.seq (.reg [⟨(some 93), (.mov (.t 13)), none⟩,
 ⟨(some 1), (.mov (.t 93)), none⟩])
 (.exit 1)))
 .skip))
 (.seq (.reg [⟨(some 95), (.mov (.t 0)), none⟩,
 ⟨(some 96), (.mov (.t 1)), none⟩,
 ⟨(some 97), (.mov (.t 2)), none⟩,
 ⟨(some 98), (.mov (.t 11)), none⟩,
 ⟨(some 99), (.call (.k (.fn (.func 194) [] [])) [(.t 95), (.t 96), (.t 97), (.t 98)]), none⟩,
 ⟨(some 94), (.mov (.t 99)), none⟩,
 ⟨(some 100), (.ext (.t 94) 0), none⟩,
 ⟨(some 101), (.ext (.t 94) 1), none⟩,
 ⟨(some 14), (.mov (.t 100)), none⟩,
 ⟨(some 15), (.mov (.t 101)), none⟩])
 (.seq (.reg [⟨(some 102), (.mov (.t 15)), none⟩,
 ⟨(some 9), (.mov (.t 102)), none⟩])
 (.seq (.reg [⟨(some 103), (.mov (.t 14)), none⟩,
 ⟨(some 104), (.mov (.t 1)), none⟩,
 ⟨(some 105), (.bin .sub .num (.t 103) (.t 104)), none⟩,
 ⟨(some 106), (.mov (.t 2)), none⟩,
 ⟨(some 107), (.mov (.t 14)), none⟩,
 ⟨(some 108), (.bin .sub .num (.t 106) (.t 107)), none⟩,
 ⟨(some 16), (.mov (.t 105)), none⟩,
 ⟨(some 17), (.mov (.t 108)), none⟩])
 (.seq (.reg [⟨(some 109), (.mov (.t 10)), none⟩,
 ⟨(some 110), (.bin .quo .num (.t 109) (.k (.int .i64 8))), none⟩,
 ⟨(some 18), (.mov (.t 110)), none⟩])
 (.seq (.reg [⟨(some 111), (.mov (.t 16)), none⟩,
 ⟨(some 112), (.mov (.t 17)), none⟩,
 ⟨(some 113), (.bin .lss .num (.t 111) (.t 112)), none⟩])
 (.cond (.t 113)
 (.seq (.reg [⟨(some 114), (.mov (.t 16)), none⟩,
 ⟨(some 115), (.mov (.t 18)), none⟩,
 ⟨(some 116), (.bin .geq .num (.t 114) (.t 115)), none⟩,
 ⟨(some 8), (.mov (.t 116)), none⟩])
 (.seq (.reg [⟨(some 117), (.mov (.t 0)), none⟩,
 ⟨(some 118), (.mov (.t 1)), none⟩,
 ⟨(some 119), (.mov (.t 14)), none⟩,
 ⟨(some 120), (.mov (.t 3)), none⟩,
 ⟨(some 121), (.call (.k (.fn (.func 164) [] [])) [(.t 117), (.t 118), (.t 119), (.t 120)]), none⟩])
 (.reg [⟨(some 122), (.mov (.t 14)), none⟩,
 ⟨(some 123), (.bin .add .num (.t 122) (.k (.int .i64 1))), none⟩,
 ⟨(some 1), (.mov (.t 123)), none⟩])))
 (.seq (.reg [⟨(some 124), (.mov (.t 17)), none⟩,
 ⟨(some 125), (.mov (.t 18)), none⟩,
 ⟨(some 126), (.bin .geq .num (.t 124) (.t 125)), none⟩,
 ⟨(some 8), (.mov (.t 126)), none⟩])
 (.seq (.reg [⟨(some 127), (.mov (.t 0)), none⟩,
 ⟨(some 128), (.mov (.t 14)), none⟩,
 ⟨(some 129), (.bin .add .num (.t 128) (.k (.int .i64 1))), none⟩,
 ⟨(some 130), (.mov (.t 2)), none⟩,
 ⟨(some 131), (.mov (.t 3)), none⟩,
 ⟨(some 132), (.call (.k (.fn (.func 164) [] [])) [(.t 127), (.t 129), (.t 130), (.t 131)]), none⟩])
 (.reg [⟨(some 133), (.mov (.t 14)), none⟩,
 ⟨(some 2), (.mov (.t 133)), none⟩]))))))))))))))))))))))⟩

/-- 165: math/bits.Len -/
def F165 : Fun :=
 ⟨8, 1, [.t 2],
 (.seq (.reg [⟨(some 2), (.mov (.k (.int .i64 0))), none⟩])
 (.seq (.cond (.k (.bool false))
 (.seq (.reg [⟨(some 3), (.mov (.t 0)), none⟩,
 ⟨(some 4), (.cvi .u32 (.t 3)), none⟩,
 ⟨(some 5), (.call (.k (.fn (.func 195) [] [])) [(.t 4)]), none⟩,
 ⟨(some 2), (.mov (.t 5)), none⟩])
 .ret)
 .skip)
 (.seq (.reg [⟨(some 6), (.mov (.t 0)), none⟩,
 ⟨(some 7), (.call (.k (.fn (.func 196) [] [])) [(.t 6)]), none⟩,
 ⟨(some 2), (.mov (.t 7)), none⟩])
 .ret)))⟩

/-- 166: signetring/codec.caught -/
def F166 : Fun :=
 ⟨14, 1, [],
 (.seq (.reg [⟨(some 5), .recov, none⟩])
 (.block 0
 (.seq (.reg [⟨(some 7), (.bin .eql .ifc (.t 5) (.k .nifc)), none⟩])
 (.cond (.t 7)
 (.reg [⟨(some 2), (.mov (.t 5)), none⟩])
 (.seq (.reg [⟨(some 8), (.asrt 48 (.int .i64 0) (.t 5) true), none⟩,
 ⟨(some 9), (.ext (.t 8) 1), none⟩,
 ⟨(some 10), (.ext (.t 8) 0), none⟩])
 (.cond (.t 9)
 (.seq (.reg [⟨(some 3), (.mov (.t 10)), none⟩])
 (.reg [⟨(some 11), (.mov (.t 0)), none⟩,
 ⟨(some 12), (.mov (.t 3)), none⟩,
 ⟨(some 13), (.nilck (.t 11)), none⟩,
 ⟨none, (.store 1 (.t 13) (.t 12)), none⟩]))
 (.seq (.reg [⟨(some 4), (.mov (.t 5)), none⟩])
 (.reg [⟨(some 6), (.mov (.t 4)), none⟩,
 ⟨none, (.pan (.t 6)), none⟩]))))))))⟩

/-- 167: signetring/codec.need -/
def F167 : Fun :=
 ⟨5, 1, [],
 (.seq (.reg [⟨(some 2), (.mov (.t 0)), none⟩,
 ⟨(some 3), (.un .not (.t 2)), none⟩])
 (.cond (.t 3)
 (.reg [⟨(some 4), (.mki 48 (.k (.int .i64 4))), none⟩,
 ⟨none, (.pan (.t 4)), none⟩])
 .skip))⟩

/-- 168: (*signetring/codec.reader).byte -/
def F168 : Fun :=
 ⟨7, 1, [.t 2],
 (.seq (.reg [⟨(some 2), (.mov (.k (.int .i64 0))), none⟩])
 (.seq (.reg [⟨(some 3), (.mov (.t 0)), none⟩,
 ⟨(some 4), (.call (.k (.fn (.func 169) [] [])) [(.t 3), (.k (.int .i64 1))]), none⟩,
 ⟨(some 5), (.idxs (.t 4) (.k (.int .i64 0))), none⟩,
 ⟨(some 6), (.cvi .i64 (.t 5)), none⟩,
 ⟨(some 2), (.mov (.t 6)), none⟩])
 .ret))⟩

/-- 169: (*signetring/codec.reader).take -/
def F169 : Fun :=
 ⟨30, 2, [.t 4],
 (.seq (.reg [⟨(some 4), (.mov (.k (.str []))), none⟩])
 (.seq (.reg [⟨(some 6), (.mov (.t 1)), none⟩,
 ⟨(some 7), (.mov (.t 0)), none⟩,
 ⟨(some 8), (.nilck (.t 7)), none⟩,
 ⟨(some 9), (.fad 0 (.t 8)), none⟩,
 ⟨(some 10), (.load 1 false (.t 9)), none⟩,
 ⟨(some 11), (.len .str (.t 10)), none⟩,
 ⟨(some 12), (.bin .leq .num (.t 6) (.t 11)), none⟩,
 ⟨(some 13), (.call (.k (.fn (.func 167) [] [])) [(.t 12)]), none⟩])
 (.seq (.reg [⟨(some 5), (.mov (.k (.str []))), none⟩])
 (.seq (.dreg [⟨(some 14), (.mov (.t 0)), none⟩,
 ⟨(some 15), (.mov (.t 0)), none⟩,
 ⟨(some 16), (.nilck (.t 15)), none⟩,
 ⟨(some 17), (.fad 0 (.t 16)), none⟩,
 ⟨(some 18), (.load 1 false (.t 17)), none⟩,
 ⟨(some 19), (.mov (.t 1)), none⟩,
 ⟨(some 20), (.slc true 0 (.t 18) none (some (.t 19)) none), none⟩,
 ⟨(some 21), (.mov (.t 0)), none⟩,
 ⟨(some 22), (.nilck (.t 21)), none⟩,
 ⟨(some 23), (.fad 0 (.t 22)), none⟩,
 ⟨(some 24), (.load 1 false (.t 23)), none⟩,
 ⟨(some 25), (.mov (.t 1)), none⟩,
 ⟨(some 26), (.slc true 0 (.t 24) (some (.t 25)) none none), none⟩,
 ⟨(some 5), (.mov (.t 20)), none⟩,
 ⟨(some 27), (.nilck (.t 14)), none⟩,
 ⟨(some 28), (.fad 0 (.t 27)), none⟩,
 ⟨none, (.store 1 (.t 28) (.t 26)), none⟩] (.free 0 (.free 1 (.free 2 (.free 3 (.free 4 (.free 5 (.free 6 (.free 7 (.free 8 (.free 9 (.free 10 (.free 11 (.free 12 (.free 13 (.free 14 (.free 15 (.cho 16 .done .nope))))))))))))))))))
 (.seq (.reg [⟨(some 29), (.mov (.t 5)), none⟩,
 ⟨(some 4), (.mov (.t 29)), none⟩])
 .ret)))))⟩

/-- 170: signetring/mix.Open -/
def F170 : Fun :=
 ⟨29, 3, [.c 6 4 true, .t 7, .t 8],
 (.seq (.reg [⟨(some 4), (.box none (.t 1)), none⟩,
 ⟨(some 6), (.new [(.str []), (.str []), (.str []), (.int .u64 0)] none), none⟩,
 ⟨(some 7), (.mov (.k (.str []))), none⟩,
 ⟨(some 8), (.mov (.k (.int .i64 0))), none⟩])
 (.seq (.reg [⟨(some 13), (.load 4 true (.t 4)), none⟩,
 ⟨(some 14), (.mov (.t 0)), none⟩,
 ⟨(some 15), (.mov (.t 2)), none⟩,
 ⟨(some 16), (.call (.k (.fn (.func 183) [] [])) [(.t 13), (.t 14), (.t 15), (.k (.fn (.func 197) [] []))]), none⟩,
 ⟨(some 12), (.mov (.t 16)), none⟩,
 ⟨(some 17), (.ext (.t 12) 0), none⟩,
 ⟨(some 18), (.ext (.t 12) 1), none⟩,
 ⟨(some 19), (.ext (.t 12) 2), none⟩,
 ⟨(some 9), (.new [(.str []), (.str []), (.str []), (.int .u64 0)] none), none⟩,
 ⟨none, (.store 4 (.t 9) (.t 17)), none⟩,
 ⟨(some 10), (.mov (.t 18)), none⟩,
 ⟨(some 11), (.mov (.t 19)), none⟩])
 (.seq (.seq (.reg [⟨(some 20), (.mov (.t 11)), none⟩,
 ⟨(some 21), (.bin .neq .num (.t 20) (.k (.int .i64 0))), none⟩])
 (.cond (.t 21)
 (.seq (.reg [⟨(some 22), (.load 4 true (.t 9)), none⟩,
 ⟨(some 23), (.mov (.t 11)), none⟩,
 ⟨none, (.store 4 (.t 6) (.t 22)), none⟩,
 ⟨(some 7), (.mov (.k (.str []))), none⟩,
 ⟨(some 8), (.mov (.t 23)), none⟩])
 .ret)
 .skip))
 (.seq (.reg [⟨(some 24), (.mov (.t 0)), none⟩,
 ⟨(some 25), (.load 4 true (.t 9)), none⟩,
 ⟨(some 26), (.mov (.t 2)), none⟩,
 ⟨(some 27), (.call (.k (.fn (.func 160) [] [])) [(.t 24), (.t 25), (.t 26)]), none⟩,
 ⟨(some 28), (.mov (.t 10)), none⟩,
 ⟨none, (.store 4 (.t 6) (.t 27)), none⟩,
 ⟨(some 7), (.mov (.t 28)), none⟩,
 ⟨(some 8), (.mov (.k (.int .i64 0))), none⟩])
 .ret))))⟩

/-- 178: (*strings.Builder).copyCheck -/
def F178 : Fun :=
 ⟨20, 1, [],
 (.seq (.reg [⟨(some 2), (.mov (.t 0)), none⟩,
 ⟨(some 3), (.nilck (.t 2)), none⟩,
 ⟨(some 4), (.fad 0 (.t 3)), none⟩,
 ⟨(some 5), (.load 1 false (.t 4)), none⟩,
 ⟨(some 6), (.bin .eql .ptr (.t 5) (.k .nptr)), none⟩])
 (.cond (.t 6)
 (.reg [⟨(some 7), (.mov (.t 0)), none⟩,
 ⟨(some 8), (.mov (.t 0)), none⟩,
 ⟨(some 9), (.toU (.t 8)), none⟩,
 ⟨(some 10), (.noEsc (.t 9)), none⟩,
 ⟨(some 11), (.frU 251 2 (.t 10)), none⟩,
 ⟨(some 12), (.nilck (.t 7)), none⟩,
 ⟨(some 13), (.fad 0 (.t 12)), none⟩,
 ⟨none, (.store 1 (.t 13) (.t 11)), none⟩])
 (.seq (.reg [⟨(some 14), (.mov (.t 0)), none⟩,
 ⟨(some 15), (.nilck (.t 14)), none⟩,
 ⟨(some 16), (.fad 0 (.t 15)), none⟩,
 ⟨(some 17), (.load 1 false (.t 16)), none⟩,
 ⟨(some 18), (.mov (.t 0)), none⟩,
 ⟨(some 19), (.pne (.t 17) (.t 18)), none⟩])
 (.cond (.t 19)
 .no
 .skip))))⟩

/-- 179: slices.Delete[[]signetring/world.Letter,signetring/world.Letter] -/
def F179 : Fun :=
 ⟨33, 3, [.t 6],
 (.seq (.reg [⟨(some 6), (.mov (.k .nsl)), none⟩])
 (.seq (.reg [⟨(some 8), (.mov (.t 0)), none⟩,
 ⟨(some 9), (.mov (.t 1)), none⟩,
 ⟨(some 10), (.mov (.t 2)), none⟩,
 ⟨(some 11), (.mov (.t 0)), none⟩,
 ⟨(some 12), (.len .slc (.t 11)), none⟩,
 ⟨(some 13), (.slc false 2 (.t 8) (some (.t 9)) (some (.t 10)) (some (.t 12))), none⟩])
 (.seq (.seq (.reg [⟨(some 14), (.mov (.t 1)), none⟩,
 ⟨(some 15), (.mov (.t 2)), none⟩,
 ⟨(some 16), (.bin .eql .num (.t 14) (.t 15)), none⟩])
 (.cond (.t 16)
 (.seq (.reg [⟨(some 17), (.mov (.t 0)), none⟩,
 ⟨(some 6), (.mov (.t 17)), none⟩])
 .ret)
 .skip))
 (.seq (.reg [⟨(some 18), (.mov (.t 0)), none⟩,
 ⟨(some 19), (.len .slc (.t 18)), none⟩,
 ⟨(some 7), (.mov (.t 19)), none⟩])
 (.seq (.dreg [⟨(some 20), (.mov (.t 0)), none⟩,
 ⟨(some 21), (.mov (.t 1)), none⟩,
 ⟨(some 22), (.slc false 2 (.t 20) none (some (.t 21)) none), none⟩,
 ⟨(some 23), (.mov (.t 0)), none⟩,
 ⟨(some 24), (.mov (.t 2)), none⟩,
 ⟨(some 25), (.slc false 2 (.t 23) (some (.t 24)) none none), none⟩,
 ⟨(some 26), (.app 2 24 true none (.t 22) (.t 25)), none⟩,
 ⟨(some 0), (.mov (.t 26)), none⟩] (.lin [] [(0, none), (1, none), (2, none), (3, none), (4, none), (5, none), (6, some []), (7, some [])]))
 (.seq (.reg [⟨(some 27), (.mov (.t 0)), none⟩,
 ⟨(some 28), (.mov (.t 0)), none⟩,
 ⟨(some 29), (.len .slc (.t 28)), none⟩,
 ⟨(some 30), (.mov (.t 7)), none⟩,
 ⟨(some 31), (.slc false 2 (.t 27) (some (.t 29)) (some (.t 30)) none), none⟩,
 ⟨none, (.clr [(.int .i64 0), (.str [])] (.t 31)), none⟩])
 (.seq (.reg [⟨(some 32), (.mov (.t 0)), none⟩,
 ⟨(some 6), (.mov (.t 32)), none⟩])
 .ret)))))))⟩

/-- 183: (signetring/mix.State).with -/
def F183 : Fun :=
 ⟨37, 4, [.c 8 4 true, .t 9, .t 10],
 (.seq (.reg [⟨(some 4), (.box none (.t 0)), none⟩,
 ⟨(some 8), (.new [(.str []), (.str []), (.str []), (.int .u64 0)] none), none⟩,
 ⟨(some 9), (.mov (.k (.str []))), none⟩,
 ⟨(some 10), (.mov (.k (.int .i64 0))), none⟩])
 (.seq (.seq (.reg [⟨(some 14), (.mov (.t 1)), none⟩,
 ⟨(some 15), (.bin .eql .ifc (.t 14) (.k .nifc)), none⟩])
 (.cond (.t 15)
 (.seq (.reg [⟨(some 16), (.build [(.str []), (.str []), (.str []), (.int .u64 0)] []), none⟩,
 ⟨none, (.store 4 (.t 8) (.t 16)), none⟩,
 ⟨(some 9), (.mov (.k (.str []))), none⟩,
 ⟨(some 10), (.mov (.k (.int .i64 1))), none⟩])
 .ret)
 .skip))
 (.seq (.reg [⟨(some 18), (.mov (.t 3)), none⟩,
 ⟨(some 19), (.mov (.t 1)), none⟩,
 ⟨(some 20), (.fad 2 (.t 4)), none⟩,
 ⟨(some 21), (.load 2 true (.t 20)), none⟩,
 ⟨(some 22), (.fad 1 (.t 4)), none⟩,
 ⟨(some 23), (.load 1 false (.t 22)), none⟩,
 ⟨(some 24), (.mov (.t 2)), none⟩,
 ⟨(some 25), (.call (.t 18) [(.t 19), (.t 21), (.t 23), (.t 24)]), none⟩,
 ⟨(some 17), (.mov (.t 25)), none⟩,
 ⟨(some 26), (.ext (.t 17) 0), none⟩,
 ⟨(some 27), (.ext (.t 17) 1), none⟩,
 ⟨(some 28), (.ext (.t 17) 2), none⟩,
 ⟨(some 11), (.new [(.str []), (.int .u64 0)] none), none⟩,
 ⟨none, (.store 2 (.t 11) (.t 26)), none⟩,
 ⟨(some 12), (.mov (.t 27)), none⟩,
 ⟨(some 13), (.mov (.t 28)), none⟩])
 (.seq (.seq (.reg [⟨(some 29), (.mov (.t 13)), none⟩,
 ⟨(some 30), (.bin .neq .num (.t 29) (.k (.int .i64 0))), none⟩])
 (.cond (.t 30)
 (.seq (.reg [⟨(some 31), (.load 4 true (.t 4)), none⟩,
 ⟨(some 32), (.mov (.t 13)), none⟩,
 ⟨none, (.store 4 (.t 8) (.t 31)), none⟩,
 ⟨(some 9), (.mov (.k (.str []))), none⟩,
 ⟨(some 10), (.mov (.t 32)), none⟩])
 .ret)
 .skip))
 (.seq (.reg [⟨(some 33), (.load 2 true (.t 11)), none⟩,
 ⟨(some 34), (.fad 2 (.t 4)), none⟩,
 ⟨none, (.store 2 (.t 34) (.t 33)), none⟩])
 (.seq (.reg [⟨(some 35), (.load 4 true (.t 4)), none⟩,
 ⟨(some 36), (.mov (.t 12)), none⟩,
 ⟨none, (.store 4 (.t 8) (.t 35)), none⟩,
 ⟨(some 9), (.mov (.t 36)), none⟩,
 ⟨(some 10), (.mov (.k (.int .i64 0))), none⟩])
 .ret))))))⟩

/-- 184: signetring/cipher.Seal -/
def F184 : Fun :=
 ⟨45, 4, [.c 8 2 true, .t 9, .t 10],
 (.seq (.reg [⟨(some 5), (.box none (.t 1)), none⟩,
 ⟨(some 8), (.new [(.str []), (.int .u64 0)] none), none⟩,
 ⟨(some 9), (.mov (.k (.str []))), none⟩,
 ⟨(some 10), (.mov (.k (.int .i64 0))), none⟩])
 (.seq (.reg [⟨(some 15), (.load 2 true (.t 5)), none⟩,
 ⟨(some 16), (.mov (.t 0)), none⟩,
 ⟨(some 17), (.call (.k (.fn (.func 210) [] [])) [(.t 15), (.t 16)]), none⟩,
 ⟨(some 14), (.mov (.t 17)), none⟩,
 ⟨(some 18), (.ext (.t 14) 0), none⟩,
 ⟨(some 19), (.ext (.t 14) 1), none⟩,
 ⟨(some 11), (.new [(.str []), (.int .u64 0)] none), none⟩,
 ⟨none, (.store 2 (.t 11) (.t 18)), none⟩,
 ⟨(some 12), (.mov (.t 19)), none⟩])
 (.seq (.seq (.reg [⟨(some 20), (.mov (.t 12)), none⟩,
 ⟨(some 21), (.bin .neq .num (.t 20) (.k (.int .i64 0))), none⟩,
 ⟨(some 22), (.mov (.t 21)), none⟩,
 ⟨(some 23), (.fad 0 (.t 5)), some (22, false)⟩,
 ⟨(some 24), (.load 1 false (.t 23)), some (22, false)⟩,
 ⟨(some 25), (.bin .eql .str (.t 24) (.k (.str []))), some (22, false)⟩,
 ⟨(some 26), (.pick (.t 22) (.k (.bool true)) (.t 25)), none⟩])
 (.cond (.t 26)
 (.seq (.seq (.reg [⟨(some 27), (.mov (.t 12)), none⟩,
 ⟨(some 28), (.bin .neq .num (.t 27) (.k (.int .i64 0))), none⟩])
 (.cond (.t 28)
 (.reg [⟨(some 3), (.mov (.k (.str []))), none⟩])
 .skip))
 (.seq (.reg [⟨(some 29), (.load 2 true (.t 5)), none⟩,
 ⟨(some 30), (.mov (.t 3)), none⟩,
 ⟨(some 31), (.mov (.t 12)), none⟩,
 ⟨none, (.store 2 (.t 8) (.t 29)), none⟩,
 ⟨(some 9), (.mov (.t 30)), none⟩,
 ⟨(some 10), (.mov (.t 31)), none⟩])
 .ret))
 .skip))
 (.seq (.reg [⟨(some 32), (.mov (.t 0)), none⟩,
 ⟨(some 33), (.fad 0 (.t 5)), none⟩,
 ⟨(some 34), (.load 1 false (.t 33)), none⟩,
 ⟨(some 35), (.fad 1 (.t 5)), none⟩,
 ⟨(some 36), (.load 1 false (.t 35)), none⟩,
 ⟨(some 37), (.mov (.t 2)), none⟩,
 ⟨(some 38), (.mov (.t 3)), none⟩,
 ⟨(some 39), (.inv (.t 32) "Seal" [(.t 34), (.t 36), (.t 37), (.t 38)]), none⟩,
 ⟨(some 13), (.mov (.t 39)), none⟩])
 (.seq (.seq (.reg [⟨(some 40), (.mov (.t 13)), none⟩,
 ⟨(some 41), (.bin .eql .str (.t 40) (.k (.str []))), none⟩])
 (.cond (.t 41)
 (.seq (.reg [⟨(some 42), (.load 2 true (.t 5)), none⟩,
 ⟨none, (.store 2 (.t 8) (.t 42)), none⟩,
 ⟨(some 9), (.mov (.k (.str []))), none⟩,
 ⟨(some 10), (.mov (.k (.int .i64 3))), none⟩])
 .ret)
 .skip))
 (.seq (.reg [⟨(some 43), (.load 2 true (.t 11)), none⟩,
 ⟨(some 44), (.mov (.t 13)), none⟩,
 ⟨none, (.store 2 (.t 8) (.t 43)), none⟩,
 ⟨(some 9), (.mov (.t 44)), none⟩,
 ⟨(some 10), (.mov (.k (.int .i64 0))), none⟩])
 .ret))))))⟩


theorem ck14 : ckF Tryz.prog 14 F14 = true := by kernel_rfl
theorem ck17 : ckF Tryz.prog 17 F17 = true := by kernel_rfl
theorem ck18 : ckF Tryz.prog 18 F18 = true := by kernel_rfl
theorem ck20 : ckF Tryz.prog 20 F20 = true := by kernel_rfl
theorem ck21 : ckF Tryz.prog 21 F21 = true := by kernel_rfl
theorem ck27 : ckF Tryz.prog 27 F27 = true := by kernel_rfl
theorem ck30 : ckF Tryz.prog 30 F30 = true := by kernel_rfl
theorem ck31 : ckF Tryz.prog 31 F31 = true := by kernel_rfl
theorem ck32 : ckF Tryz.prog 32 F32 = true := by kernel_rfl
theorem ck34 : ckF Tryz.prog 34 F34 = true := by kernel_rfl
theorem ck38 : ckFS Tryz.prog 38 F38 = true := by kernel_rfl
theorem ck40 : ckF Tryz.prog 40 F40 = true := by kernel_rfl
theorem ck41 : ckF Tryz.prog 41 F41 = true := by kernel_rfl
theorem ck42 : ckF Tryz.prog 42 F42 = true := by kernel_rfl
theorem ck43 : ckF Tryz.prog 43 F43 = true := by kernel_rfl
theorem ck44 : ckF Tryz.prog 44 F44 = true := by kernel_rfl
theorem ck51 : ckF Tryz.prog 51 F51 = true := by kernel_rfl
theorem ck63 : ckF Tryz.prog 63 F63 = true := by kernel_rfl
theorem ck66 : ckF Tryz.prog 66 F66 = true := by kernel_rfl
theorem ck67 : ckF Tryz.prog 67 F67 = true := by kernel_rfl
theorem ck68 : ckF Tryz.prog 68 F68 = true := by kernel_rfl
theorem ck69 : ckF Tryz.prog 69 F69 = true := by kernel_rfl
theorem ck70 : ckF Tryz.prog 70 F70 = true := by kernel_rfl
theorem ck71 : ckF Tryz.prog 71 F71 = true := by kernel_rfl
theorem ck72 : ckF Tryz.prog 72 F72 = true := by kernel_rfl
theorem ck73 : ckF Tryz.prog 73 F73 = true := by kernel_rfl
theorem ck74 : ckF Tryz.prog 74 F74 = true := by kernel_rfl
theorem ck75 : ckF Tryz.prog 75 F75 = true := by kernel_rfl
theorem ck78 : ckF Tryz.prog 78 F78 = true := by kernel_rfl
theorem ck79 : ckF Tryz.prog 79 F79 = true := by kernel_rfl
theorem ck80 : ckF Tryz.prog 80 F80 = true := by kernel_rfl
theorem ck81 : ckF Tryz.prog 81 F81 = true := by kernel_rfl
theorem ck82 : ckF Tryz.prog 82 F82 = true := by kernel_rfl
theorem ck83 : ckF Tryz.prog 83 F83 = true := by kernel_rfl
theorem ck87 : ckF Tryz.prog 87 F87 = true := by kernel_rfl
theorem ck88 : ckF Tryz.prog 88 F88 = true := by kernel_rfl
theorem ck90 : ckF Tryz.prog 90 F90 = true := by kernel_rfl
theorem ck91 : ckF Tryz.prog 91 F91 = true := by kernel_rfl
theorem ck92 : ckF Tryz.prog 92 F92 = true := by kernel_rfl
theorem ck93 : ckF Tryz.prog 93 F93 = true := by kernel_rfl
theorem ck94 : ckF Tryz.prog 94 F94 = true := by kernel_rfl
theorem ck95 : ckF Tryz.prog 95 F95 = true := by kernel_rfl
theorem ck96 : ckF Tryz.prog 96 F96 = true := by kernel_rfl
theorem ck98 : ckF Tryz.prog 98 F98 = true := by kernel_rfl
theorem ck101 : ckF Tryz.prog 101 F101 = true := by kernel_rfl
theorem ck105 : ckF Tryz.prog 105 F105 = true := by kernel_rfl
theorem ck108 : ckF Tryz.prog 108 F108 = true := by kernel_rfl
theorem ck110 : ckF Tryz.prog 110 F110 = true := by kernel_rfl
theorem ck111 : ckF Tryz.prog 111 F111 = true := by kernel_rfl
theorem ck112 : ckF Tryz.prog 112 F112 = true := by kernel_rfl
theorem ck113 : ckF Tryz.prog 113 F113 = true := by kernel_rfl
theorem ck116 : ckF Tryz.prog 116 F116 = true := by kernel_rfl
theorem ck124 : ckF Tryz.prog 124 F124 = true := by kernel_rfl
theorem ck125 : ckF Tryz.prog 125 F125 = true := by kernel_rfl
theorem ck126 : ckFS Tryz.prog 126 F126 = true := by kernel_rfl
theorem ck128 : ckF Tryz.prog 128 F128 = true := by kernel_rfl
theorem ck129 : ckF Tryz.prog 129 F129 = true := by kernel_rfl
theorem ck130 : ckF Tryz.prog 130 F130 = true := by kernel_rfl
theorem ck131 : ckF Tryz.prog 131 F131 = true := by kernel_rfl
theorem ck132 : ckF Tryz.prog 132 F132 = true := by kernel_rfl
theorem ck133 : ckF Tryz.prog 133 F133 = true := by kernel_rfl
theorem ck134 : ckF Tryz.prog 134 F134 = true := by kernel_rfl
theorem ck135 : ckF Tryz.prog 135 F135 = true := by kernel_rfl
theorem ck136 : ckF Tryz.prog 136 F136 = true := by kernel_rfl
theorem ck140 : ckF Tryz.prog 140 F140 = true := by kernel_rfl
theorem ck141 : ckF Tryz.prog 141 F141 = true := by kernel_rfl
theorem ck143 : ckF Tryz.prog 143 F143 = true := by kernel_rfl
theorem ck145 : ckF Tryz.prog 145 F145 = true := by kernel_rfl
theorem ck146 : ckF Tryz.prog 146 F146 = true := by kernel_rfl
theorem ck147 : ckF Tryz.prog 147 F147 = true := by kernel_rfl
theorem ck148 : ckF Tryz.prog 148 F148 = true := by kernel_rfl
theorem ck149 : ckF Tryz.prog 149 F149 = true := by kernel_rfl
theorem ck150 : ckF Tryz.prog 150 F150 = true := by kernel_rfl
theorem ck151 : ckF Tryz.prog 151 F151 = true := by kernel_rfl
theorem ck152 : ckF Tryz.prog 152 F152 = true := by kernel_rfl
theorem ck153 : ckF Tryz.prog 153 F153 = true := by kernel_rfl
theorem ck156 : ckF Tryz.prog 156 F156 = true := by kernel_rfl
theorem ck159 : ckF Tryz.prog 159 F159 = true := by kernel_rfl
theorem ck160 : ckF Tryz.prog 160 F160 = true := by kernel_rfl
theorem ck161 : ckF Tryz.prog 161 F161 = true := by kernel_rfl
theorem ck162 : ckF Tryz.prog 162 F162 = true := by kernel_rfl
theorem ck163 : ckF Tryz.prog 163 F163 = true := by kernel_rfl
theorem ck164 : ckF Tryz.prog 164 F164 = true := by kernel_rfl
theorem ck165 : ckF Tryz.prog 165 F165 = true := by kernel_rfl
theorem ck166 : ckFS Tryz.prog 166 F166 = true := by kernel_rfl
theorem ck167 : ckF Tryz.prog 167 F167 = true := by kernel_rfl
theorem ck168 : ckF Tryz.prog 168 F168 = true := by kernel_rfl
theorem ck169 : ckF Tryz.prog 169 F169 = true := by kernel_rfl
theorem ck170 : ckF Tryz.prog 170 F170 = true := by kernel_rfl
theorem ck178 : ckF Tryz.prog 178 F178 = true := by kernel_rfl
theorem ck179 : ckF Tryz.prog 179 F179 = true := by kernel_rfl
theorem ck183 : ckF Tryz.prog 183 F183 = true := by kernel_rfl
theorem ck184 : ckF Tryz.prog 184 F184 = true := by kernel_rfl
theorem st14 : K.stC F14.c = true := by kernel_rfl
theorem st17 : K.stC F17.c = true := by kernel_rfl
theorem st18 : K.stC F18.c = true := by kernel_rfl
theorem st20 : K.stC F20.c = true := by kernel_rfl
theorem st21 : K.stC F21.c = true := by kernel_rfl
theorem st27 : K.stC F27.c = true := by kernel_rfl
theorem st30 : K.stC F30.c = true := by kernel_rfl
theorem st31 : K.stC F31.c = true := by kernel_rfl
theorem st32 : K.stC F32.c = true := by kernel_rfl
theorem st34 : K.stC F34.c = true := by kernel_rfl
theorem st38 : K.stC F38.c = true := by kernel_rfl
theorem st40 : K.stC F40.c = true := by kernel_rfl
theorem st41 : K.stC F41.c = true := by kernel_rfl
theorem st42 : K.stC F42.c = true := by kernel_rfl
theorem st43 : K.stC F43.c = true := by kernel_rfl
theorem st44 : K.stC F44.c = true := by kernel_rfl
theorem st51 : K.stC F51.c = true := by kernel_rfl
theorem st63 : K.stC F63.c = true := by kernel_rfl
theorem st66 : K.stC F66.c = true := by kernel_rfl
theorem st67 : K.stC F67.c = true := by kernel_rfl
theorem st68 : K.stC F68.c = true := by kernel_rfl
theorem st69 : K.stC F69.c = true := by kernel_rfl
theorem st70 : K.stC F70.c = true := by kernel_rfl
theorem st71 : K.stC F71.c = true := by kernel_rfl
theorem st72 : K.stC F72.c = true := by kernel_rfl
theorem st73 : K.stC F73.c = true := by kernel_rfl
theorem st74 : K.stC F74.c = true := by kernel_rfl
theorem st75 : K.stC F75.c = true := by kernel_rfl
theorem st78 : K.stC F78.c = true := by kernel_rfl
theorem st79 : K.stC F79.c = true := by kernel_rfl
theorem st80 : K.stC F80.c = true := by kernel_rfl
theorem st81 : K.stC F81.c = true := by kernel_rfl
theorem st82 : K.stC F82.c = true := by kernel_rfl
theorem st83 : K.stC F83.c = true := by kernel_rfl
theorem st87 : K.stC F87.c = true := by kernel_rfl
theorem st88 : K.stC F88.c = true := by kernel_rfl
theorem st90 : K.stC F90.c = true := by kernel_rfl
theorem st91 : K.stC F91.c = true := by kernel_rfl
theorem st92 : K.stC F92.c = true := by kernel_rfl
theorem st93 : K.stC F93.c = true := by kernel_rfl
theorem st94 : K.stC F94.c = true := by kernel_rfl
theorem st95 : K.stC F95.c = true := by kernel_rfl
theorem st96 : K.stC F96.c = true := by kernel_rfl
theorem st98 : K.stC F98.c = true := by kernel_rfl
theorem st101 : K.stC F101.c = true := by kernel_rfl
theorem st105 : K.stC F105.c = true := by kernel_rfl
theorem st108 : K.stC F108.c = true := by kernel_rfl
theorem st110 : K.stC F110.c = true := by kernel_rfl
theorem st111 : K.stC F111.c = true := by kernel_rfl
theorem st112 : K.stC F112.c = true := by kernel_rfl
theorem st113 : K.stC F113.c = true := by kernel_rfl
theorem st116 : K.stC F116.c = true := by kernel_rfl
theorem st124 : K.stC F124.c = true := by kernel_rfl
theorem st125 : K.stC F125.c = true := by kernel_rfl
theorem st126 : K.stC F126.c = true := by kernel_rfl
theorem st128 : K.stC F128.c = true := by kernel_rfl
theorem st129 : K.stC F129.c = true := by kernel_rfl
theorem st130 : K.stC F130.c = true := by kernel_rfl
theorem st131 : K.stC F131.c = true := by kernel_rfl
theorem st132 : K.stC F132.c = true := by kernel_rfl
theorem st133 : K.stC F133.c = true := by kernel_rfl
theorem st134 : K.stC F134.c = true := by kernel_rfl
theorem st135 : K.stC F135.c = true := by kernel_rfl
theorem st136 : K.stC F136.c = true := by kernel_rfl
theorem st140 : K.stC F140.c = true := by kernel_rfl
theorem st141 : K.stC F141.c = true := by kernel_rfl
theorem st143 : K.stC F143.c = true := by kernel_rfl
theorem st145 : K.stC F145.c = true := by kernel_rfl
theorem st146 : K.stC F146.c = true := by kernel_rfl
theorem st147 : K.stC F147.c = true := by kernel_rfl
theorem st148 : K.stC F148.c = true := by kernel_rfl
theorem st149 : K.stC F149.c = true := by kernel_rfl
theorem st151 : K.stC F151.c = true := by kernel_rfl
theorem st152 : K.stC F152.c = true := by kernel_rfl
theorem st153 : K.stC F153.c = true := by kernel_rfl
theorem st156 : K.stC F156.c = true := by kernel_rfl
theorem st159 : K.stC F159.c = true := by kernel_rfl
theorem st160 : K.stC F160.c = true := by kernel_rfl
theorem st161 : K.stC F161.c = true := by kernel_rfl
theorem st162 : K.stC F162.c = true := by kernel_rfl
theorem st163 : K.stC F163.c = true := by kernel_rfl
theorem st164 : K.stC F164.c = true := by kernel_rfl
theorem st165 : K.stC F165.c = true := by kernel_rfl
theorem st166 : K.stC F166.c = true := by kernel_rfl
theorem st167 : K.stC F167.c = true := by kernel_rfl
theorem st168 : K.stC F168.c = true := by kernel_rfl
theorem st170 : K.stC F170.c = true := by kernel_rfl
theorem st178 : K.stC F178.c = true := by kernel_rfl
theorem st179 : K.stC F179.c = true := by kernel_rfl
theorem st183 : K.stC F183.c = true := by kernel_rfl
theorem st184 : K.stC F184.c = true := by kernel_rfl
end Go.Proofs.YtbabpibaccngnaaGreat
