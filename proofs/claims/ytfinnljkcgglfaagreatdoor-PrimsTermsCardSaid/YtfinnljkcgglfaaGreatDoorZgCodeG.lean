/- Some functions' code, told in another order, for running it. -/
import Derived.Test.YtfinnljkcgglfaaGreatDoorProg
import Derived.Test.YtfinnljkcgglfaaGreatDoorZv6
import Derived.KernelRfl
namespace Go.Proofs.YtfinnljkcgglfaaGreatDoor
open Go.Vs
set_option maxRecDepth 100000

/-- 20: signetring/codec.Num -/
def G20 : Fun :=
 ⟨27, 1, [.t 2],
 (.seq (.reg [⟨(some 2), (.mov (.k (.str []))), none⟩])
 (.seq (.reg [⟨(some 3), (.mov (.k .nsl)), none⟩])
 (.seq (.seq (.reg [⟨(some 4), (.mov (.k (.int .i64 56))), none⟩])
 (.block 0
 (.loop
 (.seq (.seq (.reg [⟨(some 6), (.mov (.t 4)), none⟩,
 ⟨(some 7), (.bin .geq .num (.t 6) (.k (.int .i64 0))), none⟩])
 (.cond (.t 7)
 .skip
 (.exit 0)))
 (.seq (.block 1
 (.seq (.reg [⟨(some 10), (.mov (.t 0)), none⟩,
 ⟨(some 11), (.mov (.t 4)), none⟩,
 ⟨(some 12), (.bin .shr .num (.t 10) (.t 11)), none⟩,
 ⟨(some 13), (.cvi .u8 (.t 12)), none⟩,
 ⟨(some 5), (.mov (.t 13)), none⟩])
 (.seq (.reg [⟨(some 14), (.mov (.t 5)), none⟩,
 ⟨(some 15), (.bin .neq .num (.t 14) (.k (.int .u8 0))), none⟩,
 ⟨(some 16), (.mov (.t 15)), none⟩,
 ⟨(some 17), (.mov (.t 3)), some (16, false)⟩,
 ⟨(some 18), (.len .slc (.t 17)), some (16, false)⟩,
 ⟨(some 19), (.bin .gtr .num (.t 18) (.k (.int .i64 0))), some (16, false)⟩,
 ⟨(some 20), (.pick (.t 16) (.k (.bool true)) (.t 19)), none⟩])
 (.cond (.t 20)
 (.reg [⟨(some 21), (.mov (.t 3)), none⟩,
 ⟨(some 22), (.mov (.t 5)), none⟩,
 ⟨(some 23), (.mks true 1 1 false [(.int .u8 0)] 1 [(0, (.t 22))]), none⟩,
 ⟨(some 24), (.app 1 1 false none (.t 21) (.t 23)), none⟩,
 ⟨(some 3), (.mov (.t 24)), none⟩])
 .skip))))
 (.reg [⟨(some 8), (.mov (.t 4)), none⟩,
 ⟨(some 9), (.bin .sub .num (.t 8) (.k (.int .i64 8))), none⟩,
 ⟨(some 4), (.mov (.t 9)), none⟩]))))))
 (.seq (.reg [⟨(some 25), (.mov (.t 3)), none⟩,
 ⟨(some 26), (.b2s (.t 25)), none⟩,
 ⟨(some 2), (.mov (.t 26)), none⟩])
 .ret))))⟩

/-- 30: signetring/codec.Split -/
def G30 : Fun :=
 ⟨19, 1, [.t 2, .t 3, .t 4],
 (.seq (.reg [⟨(some 2), (.mov (.k (.int .u8 0))), none⟩,
 ⟨(some 3), (.mov (.k .nsl)), none⟩,
 ⟨(some 4), (.mov (.k (.int .i64 0))), none⟩])
 (.seq (.reg [⟨(some 9), (.mov (.t 0)), none⟩,
 ⟨(some 10), (.call (.k (.fn (.func 45) [] [])) [(.t 9)]), none⟩,
 ⟨(some 8), (.mov (.t 10)), none⟩,
 ⟨(some 11), (.ext (.t 8) 0), none⟩,
 ⟨(some 12), (.ext (.t 8) 1), none⟩,
 ⟨(some 13), (.ext (.t 8) 2), none⟩,
 ⟨(some 5), (.mov (.t 11)), none⟩,
 ⟨(some 6), (.mov (.t 12)), none⟩,
 ⟨(some 7), (.mov (.t 13)), none⟩])
 (.seq (.seq (.reg [⟨(some 14), (.mov (.t 7)), none⟩,
 ⟨(some 15), (.bin .neq .num (.t 14) (.k (.int .i64 0))), none⟩])
 (.cond (.t 15)
 (.seq (.reg [⟨(some 16), (.mov (.t 7)), none⟩,
 ⟨(some 2), (.mov (.k (.int .u8 0))), none⟩,
 ⟨(some 3), (.mov (.k .nsl)), none⟩,
 ⟨(some 4), (.mov (.t 16)), none⟩])
 .ret)
 .skip))
 (.seq (.reg [⟨(some 17), (.mov (.t 5)), none⟩,
 ⟨(some 18), (.mov (.t 6)), none⟩,
 ⟨(some 2), (.mov (.t 17)), none⟩,
 ⟨(some 3), (.mov (.t 18)), none⟩,
 ⟨(some 4), (.mov (.k (.int .i64 0))), none⟩])
 .ret))))⟩

/-- 43: signetring/codec.Join -/
def G43 : Fun :=
 ⟨49, 2, [.t 4, .t 5],
 (.seq (.reg [⟨(some 4), (.mov (.k (.str []))), none⟩,
 ⟨(some 5), (.mov (.k (.int .i64 0))), none⟩])
 (.seq (.seq (.reg [⟨(some 9), (.mov (.t 1)), none⟩,
 ⟨(some 10), (.len .slc (.t 9)), none⟩,
 ⟨(some 11), (.bin .gtr .num (.t 10) (.k (.int .i64 255))), none⟩])
 (.cond (.t 11)
 (.seq (.reg [⟨(some 4), (.mov (.k (.str []))), none⟩,
 ⟨(some 5), (.mov (.k (.int .i64 3))), none⟩])
 .ret)
 .skip))
 (.seq (.reg [⟨(some 12), (.build [.nptr, .nsl] []), none⟩,
 ⟨(some 13), (.box (some 119) (.t 12)), none⟩,
 ⟨(some 6), (.mov (.t 13)), none⟩])
 (.seq (.reg [⟨(some 14), (.mov (.t 6)), none⟩,
 ⟨(some 15), (.mov (.t 0)), none⟩,
 ⟨(some 16), (.mov (.t 1)), none⟩,
 ⟨(some 17), (.len .slc (.t 16)), none⟩,
 ⟨(some 18), (.cvi .u8 (.t 17)), none⟩,
 ⟨(some 19), (.mks true 1 1 false [(.int .u8 0), (.int .u8 0), (.int .u8 0)] 3 [(0, (.k (.int .u8 1))), (1, (.t 15)), (2, (.t 18))]), none⟩,
 ⟨(some 20), (.call (.k (.fn (.func 67) [] [])) [(.t 14), (.t 19)]), none⟩])
 (.seq (.seq (.reg [⟨(some 21), (.mov (.t 1)), none⟩,
 ⟨(some 22), (.len .slc (.t 21)), none⟩,
 ⟨(some 23), (.mov (.k (.int .i64 0))), none⟩])
 (.block 0
 (.loop
 (.seq (.reg [⟨(some 24), (.bin .lss .num (.t 23) (.t 22)), none⟩])
 (.seq (.cond (.t 24)
 .skip
 (.exit 0))
 (.seq (.block 1
 (.seq (.reg [⟨(some 25), (.iad 1 (.t 21) (.t 23)), none⟩,
 ⟨(some 26), (.load 1 false (.t 25)), none⟩,
 ⟨(some 8), (.mov (.t 26)), none⟩])
 (.seq (.seq (.reg [⟨(some 27), (.mov (.t 8)), none⟩,
 ⟨(some 28), (.len .str (.t 27)), none⟩,
 ⟨(some 29), (.bin .gtr .num (.t 28) (.k (.int .i64 4000))), none⟩])
 (.cond (.t 29)
 (.seq (.reg [⟨(some 4), (.mov (.k (.str []))), none⟩,
 ⟨(some 5), (.mov (.k (.int .i64 3))), none⟩])
 .ret)
 .skip))
 (.seq (.reg [⟨(some 30), (.mov (.t 6)), none⟩,
 ⟨(some 31), (.mov (.t 8)), none⟩,
 ⟨(some 32), (.len .str (.t 31)), none⟩,
 ⟨(some 33), (.bin .shr .num (.t 32) (.k (.int .u64 8))), none⟩,
 ⟨(some 34), (.cvi .u8 (.t 33)), none⟩,
 ⟨(some 35), (.mov (.t 8)), none⟩,
 ⟨(some 36), (.len .str (.t 35)), none⟩,
 ⟨(some 37), (.cvi .u8 (.t 36)), none⟩,
 ⟨(some 38), (.mks true 1 1 false [(.int .u8 0), (.int .u8 0)] 2 [(0, (.t 34)), (1, (.t 37))]), none⟩,
 ⟨(some 39), (.call (.k (.fn (.func 67) [] [])) [(.t 30), (.t 38)]), none⟩])
 (.reg [⟨(some 40), (.mov (.t 6)), none⟩,
 ⟨(some 41), (.mov (.t 8)), none⟩,
 ⟨(some 42), (.call (.k (.fn (.func 68) [] [])) [(.t 40), (.t 41)]), none⟩])))))
 (.reg [⟨(some 43), (.bin .add .num (.t 23) (.k (.int .i64 1))), none⟩,
 ⟨(some 23), (.mov (.t 43)), none⟩])))))))
 (.seq (.seq (.reg [⟨(some 44), (.mov (.t 6)), none⟩,
 ⟨(some 45), (.call (.k (.fn (.func 69) [] [])) [(.t 44)]), none⟩,
 ⟨(some 46), (.bin .gtr .num (.t 45) (.k (.int .i64 30000))), none⟩])
 (.cond (.t 46)
 (.seq (.reg [⟨(some 4), (.mov (.k (.str []))), none⟩,
 ⟨(some 5), (.mov (.k (.int .i64 3))), none⟩])
 .ret)
 .skip))
 (.seq (.reg [⟨(some 47), (.mov (.t 6)), none⟩,
 ⟨(some 48), (.call (.k (.fn (.func 70) [] [])) [(.t 47)]), none⟩,
 ⟨(some 4), (.mov (.t 48)), none⟩,
 ⟨(some 5), (.mov (.k (.int .i64 0))), none⟩])
 .ret)))))))⟩

/-- 45: signetring/codec.read -/
def G45 : Fun :=
 ⟨50, 1, [.t 2, .t 3, .c 4 1 false],
 (.seq (.reg [⟨(some 2), (.mov (.k (.int .u8 0))), none⟩,
 ⟨(some 3), (.mov (.k .nsl)), none⟩,
 ⟨(some 4), (.new [(.int .i64 0)] none), none⟩])
 (.seq (.reg [⟨none, (.dfr (.k (.fn (.func 72) [] [])) [(.t 4)]), none⟩])
 (.seq (.reg [⟨(some 7), (.mov (.t 0)), none⟩,
 ⟨(some 8), (.len .str (.t 7)), none⟩,
 ⟨(some 9), (.bin .leq .num (.t 8) (.k (.int .i64 30000))), none⟩,
 ⟨(some 10), (.call (.k (.fn (.func 73) [] [])) [(.t 9)]), none⟩])
 (.seq (.reg [⟨(some 11), (.mov (.t 0)), none⟩,
 ⟨(some 12), (.build [(.str [])] [(0, 1, (.t 11))]), none⟩,
 ⟨(some 13), (.box none (.t 12)), none⟩,
 ⟨(some 5), (.mov (.t 13)), none⟩])
 (.seq (.reg [⟨(some 14), (.mov (.t 5)), none⟩,
 ⟨(some 15), (.call (.k (.fn (.func 74) [] [])) [(.t 14)]), none⟩,
 ⟨(some 16), (.bin .eql .num (.t 15) (.k (.int .i64 1))), none⟩,
 ⟨(some 17), (.call (.k (.fn (.func 73) [] [])) [(.t 16)]), none⟩])
 (.seq (.reg [⟨(some 18), (.mov (.t 5)), none⟩,
 ⟨(some 19), (.call (.k (.fn (.func 74) [] [])) [(.t 18)]), none⟩,
 ⟨(some 20), (.cvi .u8 (.t 19)), none⟩,
 ⟨(some 2), (.mov (.t 20)), none⟩])
 (.seq (.seq (.reg [⟨(some 21), (.mov (.t 5)), none⟩,
 ⟨(some 22), (.call (.k (.fn (.func 74) [] [])) [(.t 21)]), none⟩,
 ⟨(some 23), (.mov (.k (.int .i64 0))), none⟩])
 (.block 0
 (.loop
 (.seq (.reg [⟨(some 24), (.bin .lss .num (.t 23) (.t 22)), none⟩])
 (.seq (.cond (.t 24)
 .skip
 (.exit 0))
 (.seq (.block 1
 (.seq (.reg [⟨(some 25), (.mov (.t 5)), none⟩,
 ⟨(some 26), (.call (.k (.fn (.func 74) [] [])) [(.t 25)]), none⟩,
 ⟨(some 27), (.bin .shl .num (.t 26) (.k (.int .u64 8))), none⟩,
 ⟨(some 6), (.mov (.t 27)), none⟩])
 (.seq (.reg [⟨(some 28), (.mov (.t 6)), none⟩,
 ⟨(some 29), (.mov (.t 5)), none⟩,
 ⟨(some 30), (.call (.k (.fn (.func 74) [] [])) [(.t 29)]), none⟩,
 ⟨(some 31), (.bin .add .num (.t 28) (.t 30)), none⟩,
 ⟨(some 6), (.mov (.t 31)), none⟩])
 (.seq (.reg [⟨(some 32), (.mov (.t 6)), none⟩,
 ⟨(some 33), (.bin .leq .num (.t 32) (.k (.int .i64 4000))), none⟩,
 ⟨(some 34), (.call (.k (.fn (.func 73) [] [])) [(.t 33)]), none⟩])
 (.reg [⟨(some 35), (.mov (.t 3)), none⟩,
 ⟨(some 36), (.mov (.t 5)), none⟩,
 ⟨(some 37), (.mov (.t 6)), none⟩,
 ⟨(some 38), (.call (.k (.fn (.func 75) [] [])) [(.t 36), (.t 37)]), none⟩,
 ⟨(some 39), (.mks true 1 16 false [(.str [])] 1 [(0, (.t 38))]), none⟩,
 ⟨(some 40), (.app 1 16 false none (.t 35) (.t 39)), none⟩,
 ⟨(some 3), (.mov (.t 40)), none⟩])))))
 (.reg [⟨(some 41), (.bin .add .num (.t 23) (.k (.int .i64 1))), none⟩,
 ⟨(some 23), (.mov (.t 41)), none⟩])))))))
 (.seq (.reg [⟨(some 42), (.mov (.t 5)), none⟩,
 ⟨(some 43), (.nilck (.t 42)), none⟩,
 ⟨(some 44), (.fad 0 (.t 43)), none⟩,
 ⟨(some 45), (.load 1 false (.t 44)), none⟩,
 ⟨(some 46), (.bin .eql .str (.t 45) (.k (.str []))), none⟩,
 ⟨(some 47), (.call (.k (.fn (.func 73) [] [])) [(.t 46)]), none⟩])
 (.seq (.reg [⟨(some 48), (.mov (.t 2)), none⟩,
 ⟨(some 49), (.mov (.t 3)), none⟩,
 ⟨(some 2), (.mov (.t 48)), none⟩,
 ⟨(some 3), (.mov (.t 49)), none⟩,
 ⟨none, (.store 1 (.t 4) (.k (.int .i64 0))), none⟩])
 .ret)))))))))⟩

/-- 67: (*strings.Builder).Write -/
def G67 : Fun :=
 ⟨19, 2, [.t 4, .t 5],
 (.seq (.reg [⟨(some 4), (.mov (.k (.int .i64 0))), none⟩,
 ⟨(some 5), (.mov (.k .nifc)), none⟩])
 (.seq (.reg [⟨(some 6), (.mov (.t 0)), none⟩,
 ⟨(some 7), (.call (.k (.fn (.func 87) [] [])) [(.t 6)]), none⟩])
 (.seq (.reg [⟨(some 8), (.mov (.t 0)), none⟩,
 ⟨(some 9), (.mov (.t 0)), none⟩,
 ⟨(some 10), (.nilck (.t 9)), none⟩,
 ⟨(some 11), (.fad 1 (.t 10)), none⟩,
 ⟨(some 12), (.load 1 false (.t 11)), none⟩,
 ⟨(some 13), (.mov (.t 1)), none⟩,
 ⟨(some 14), (.app 1 1 false (some 5) (.t 12) (.t 13)), none⟩,
 ⟨(some 15), (.nilck (.t 8)), none⟩,
 ⟨(some 16), (.fad 1 (.t 15)), none⟩,
 ⟨none, (.store 1 (.t 16) (.t 14)), none⟩])
 (.seq (.reg [⟨(some 17), (.mov (.t 1)), none⟩,
 ⟨(some 18), (.len .slc (.t 17)), none⟩,
 ⟨(some 4), (.mov (.t 18)), none⟩,
 ⟨(some 5), (.mov (.k .nifc)), none⟩])
 .ret))))⟩

/-- 68: (*strings.Builder).WriteString -/
def G68 : Fun :=
 ⟨19, 2, [.t 4, .t 5],
 (.seq (.reg [⟨(some 4), (.mov (.k (.int .i64 0))), none⟩,
 ⟨(some 5), (.mov (.k .nifc)), none⟩])
 (.seq (.reg [⟨(some 6), (.mov (.t 0)), none⟩,
 ⟨(some 7), (.call (.k (.fn (.func 87) [] [])) [(.t 6)]), none⟩])
 (.seq (.reg [⟨(some 8), (.mov (.t 0)), none⟩,
 ⟨(some 9), (.mov (.t 0)), none⟩,
 ⟨(some 10), (.nilck (.t 9)), none⟩,
 ⟨(some 11), (.fad 1 (.t 10)), none⟩,
 ⟨(some 12), (.load 1 false (.t 11)), none⟩,
 ⟨(some 13), (.mov (.t 1)), none⟩,
 ⟨(some 14), (.app 1 1 false (some 5) (.t 12) (.t 13)), none⟩,
 ⟨(some 15), (.nilck (.t 8)), none⟩,
 ⟨(some 16), (.fad 1 (.t 15)), none⟩,
 ⟨none, (.store 1 (.t 16) (.t 14)), none⟩])
 (.seq (.reg [⟨(some 17), (.mov (.t 1)), none⟩,
 ⟨(some 18), (.len .str (.t 17)), none⟩,
 ⟨(some 4), (.mov (.t 18)), none⟩,
 ⟨(some 5), (.mov (.k .nifc)), none⟩])
 .ret))))⟩

/-- 69: (*strings.Builder).Len -/
def G69 : Fun :=
 ⟨8, 1, [.t 2],
 (.seq (.reg [⟨(some 2), (.mov (.k (.int .i64 0))), none⟩])
 (.seq (.reg [⟨(some 3), (.mov (.t 0)), none⟩,
 ⟨(some 4), (.nilck (.t 3)), none⟩,
 ⟨(some 5), (.fad 1 (.t 4)), none⟩,
 ⟨(some 6), (.load 1 false (.t 5)), none⟩,
 ⟨(some 7), (.len .slc (.t 6)), none⟩,
 ⟨(some 2), (.mov (.t 7)), none⟩])
 .ret))⟩

/-- 70: (*strings.Builder).String -/
def G70 : Fun :=
 ⟨14, 1, [.t 2],
 (.seq (.reg [⟨(some 2), (.mov (.k (.str []))), none⟩])
 (.seq (.dreg [⟨(some 3), (.mov (.t 0)), none⟩,
 ⟨(some 4), (.nilck (.t 3)), none⟩,
 ⟨(some 5), (.fad 1 (.t 4)), none⟩,
 ⟨(some 6), (.load 1 false (.t 5)), none⟩,
 ⟨(some 7), (.sld (.t 6)), none⟩,
 ⟨(some 8), (.mov (.t 0)), none⟩,
 ⟨(some 9), (.nilck (.t 8)), none⟩,
 ⟨(some 10), (.fad 1 (.t 9)), none⟩,
 ⟨(some 11), (.load 1 false (.t 10)), none⟩,
 ⟨(some 12), (.len .slc (.t 11)), none⟩,
 ⟨(some 13), (.ustr 5 (.t 7) (.t 12)), none⟩,
 ⟨(some 2), (.mov (.t 13)), none⟩] (.lin [] [(0, none), (1, none), (2, none), (3, none), (4, none), (5, none), (6, none), (7, none), (8, none), (9, none), (10, some []), (11, none)]))
 .ret))⟩

/-- 72: signetring/codec.caught -/
def G72 : Fun :=
 ⟨14, 1, [],
 (.seq (.reg [⟨(some 5), .recov, none⟩])
 (.block 0
 (.seq (.reg [⟨(some 7), (.bin .eql .ifc (.t 5) (.k .nifc)), none⟩])
 (.cond (.t 7)
 (.reg [⟨(some 2), (.mov (.t 5)), none⟩])
 (.seq (.reg [⟨(some 8), (.asrt 40 (.int .i64 0) (.t 5) true), none⟩,
 ⟨(some 9), (.ext (.t 8) 1), none⟩,
 ⟨(some 10), (.ext (.t 8) 0), none⟩])
 (.cond (.t 9)
 (.seq (.reg [⟨(some 3), (.mov (.t 10)), none⟩])
 (.reg [⟨(some 11), (.mov (.t 0)), none⟩,
 ⟨(some 12), (.mov (.t 3)), none⟩,
 ⟨(some 13), (.nilck (.t 11)), none⟩,
 ⟨none, (.store 1 (.t 13) (.t 12)), none⟩]))
 (.seq (.reg [⟨(some 4), (.mov (.t 5)), none⟩])
 (.reg [⟨(some 6), (.mov (.t 4)), none⟩,
 ⟨none, (.pan (.t 6)), none⟩]))))))))⟩

/-- 73: signetring/codec.need -/
def G73 : Fun :=
 ⟨5, 1, [],
 (.seq (.reg [⟨(some 2), (.mov (.t 0)), none⟩,
 ⟨(some 3), (.un .not (.t 2)), none⟩])
 (.cond (.t 3)
 (.reg [⟨(some 4), (.mki 40 (.k (.int .i64 4))), none⟩,
 ⟨none, (.pan (.t 4)), none⟩])
 .skip))⟩

/-- 74: (*signetring/codec.reader).byte -/
def G74 : Fun :=
 ⟨7, 1, [.t 2],
 (.seq (.reg [⟨(some 2), (.mov (.k (.int .i64 0))), none⟩])
 (.seq (.reg [⟨(some 3), (.mov (.t 0)), none⟩,
 ⟨(some 4), (.call (.k (.fn (.func 75) [] [])) [(.t 3), (.k (.int .i64 1))]), none⟩,
 ⟨(some 5), (.idxs (.t 4) (.k (.int .i64 0))), none⟩,
 ⟨(some 6), (.cvi .i64 (.t 5)), none⟩,
 ⟨(some 2), (.mov (.t 6)), none⟩])
 .ret))⟩

/-- 75: (*signetring/codec.reader).take -/
def G75 : Fun :=
 ⟨30, 2, [.t 4],
 (.seq (.reg [⟨(some 4), (.mov (.k (.str []))), none⟩])
 (.seq (.reg [⟨(some 6), (.mov (.t 1)), none⟩,
 ⟨(some 7), (.mov (.t 0)), none⟩,
 ⟨(some 8), (.nilck (.t 7)), none⟩,
 ⟨(some 9), (.fad 0 (.t 8)), none⟩,
 ⟨(some 10), (.load 1 false (.t 9)), none⟩,
 ⟨(some 11), (.len .str (.t 10)), none⟩,
 ⟨(some 12), (.bin .leq .num (.t 6) (.t 11)), none⟩,
 ⟨(some 13), (.call (.k (.fn (.func 73) [] [])) [(.t 12)]), none⟩])
 (.seq (.reg [⟨(some 5), (.mov (.k (.str []))), none⟩])
 (.seq (.dreg [⟨(some 14), (.mov (.t 0)), none⟩,
 ⟨(some 15), (.mov (.t 0)), none⟩,
 ⟨(some 16), (.nilck (.t 15)), none⟩,
 ⟨(some 17), (.fad 0 (.t 16)), none⟩,
 ⟨(some 18), (.load 1 false (.t 17)), none⟩,
 ⟨(some 19), (.mov (.t 1)), none⟩,
 ⟨(some 20), (.slc true 0 (.t 18) none (some (.t 19)) none), none⟩,
 ⟨(some 21), (.mov (.t 0)), none⟩,
 ⟨(some 22), (.nilck (.t 21)), none⟩,
 ⟨(some 23), (.fad 0 (.t 22)), none⟩,
 ⟨(some 24), (.load 1 false (.t 23)), none⟩,
 ⟨(some 25), (.mov (.t 1)), none⟩,
 ⟨(some 26), (.slc true 0 (.t 24) (some (.t 25)) none none), none⟩,
 ⟨(some 5), (.mov (.t 20)), none⟩,
 ⟨(some 27), (.nilck (.t 14)), none⟩,
 ⟨(some 28), (.fad 0 (.t 27)), none⟩,
 ⟨none, (.store 1 (.t 28) (.t 26)), none⟩] (.lin [] [(0, none), (1, none), (2, none), (3, none), (4, none), (5, none), (6, none), (7, none), (8, none), (9, none), (10, none), (11, none), (12, none), (13, none), (14, none), (15, none), (16, some [])]))
 (.seq (.reg [⟨(some 29), (.mov (.t 5)), none⟩,
 ⟨(some 4), (.mov (.t 29)), none⟩])
 .ret)))))⟩

/-- 87: (*strings.Builder).copyCheck -/
def G87 : Fun :=
 ⟨20, 1, [],
 (.seq (.reg [⟨(some 2), (.mov (.t 0)), none⟩,
 ⟨(some 3), (.nilck (.t 2)), none⟩,
 ⟨(some 4), (.fad 0 (.t 3)), none⟩,
 ⟨(some 5), (.load 1 false (.t 4)), none⟩,
 ⟨(some 6), (.bin .eql .ptr (.t 5) (.k .nptr)), none⟩])
 (.cond (.t 6)
 (.reg [⟨(some 7), (.mov (.t 0)), none⟩,
 ⟨(some 8), (.mov (.t 0)), none⟩,
 ⟨(some 9), (.toU (.t 8)), none⟩,
 ⟨(some 10), (.noEsc (.t 9)), none⟩,
 ⟨(some 11), (.frU 119 2 (.t 10)), none⟩,
 ⟨(some 12), (.nilck (.t 7)), none⟩,
 ⟨(some 13), (.fad 0 (.t 12)), none⟩,
 ⟨none, (.store 1 (.t 13) (.t 11)), none⟩])
 (.seq (.reg [⟨(some 14), (.mov (.t 0)), none⟩,
 ⟨(some 15), (.nilck (.t 14)), none⟩,
 ⟨(some 16), (.fad 0 (.t 15)), none⟩,
 ⟨(some 17), (.load 1 false (.t 16)), none⟩,
 ⟨(some 18), (.mov (.t 0)), none⟩,
 ⟨(some 19), (.pne (.t 17) (.t 18)), none⟩])
 (.cond (.t 19)
 .no
 .skip))))⟩

/-- 89: strings.HasPrefix -/
def G89 : Fun :=
 ⟨8, 2, [.t 4],
 (.seq (.reg [⟨(some 4), (.mov (.k (.bool false))), none⟩])
 (.seq (.reg [⟨(some 5), (.mov (.t 0)), none⟩,
 ⟨(some 6), (.mov (.t 1)), none⟩,
 ⟨(some 7), (.call (.k (.fn (.func 94) [] [])) [(.t 5), (.t 6)]), none⟩,
 ⟨(some 4), (.mov (.t 7)), none⟩])
 .ret))⟩

/-- 94: internal/stringslite.HasPrefix -/
def G94 : Fun :=
 ⟨18, 2, [.t 4],
 (.seq (.reg [⟨(some 4), (.mov (.k (.bool false))), none⟩])
 (.seq (.reg [⟨(some 5), (.mov (.t 0)), none⟩,
 ⟨(some 6), (.len .str (.t 5)), none⟩,
 ⟨(some 7), (.mov (.t 1)), none⟩,
 ⟨(some 8), (.len .str (.t 7)), none⟩,
 ⟨(some 9), (.bin .geq .num (.t 6) (.t 8)), none⟩,
 ⟨(some 10), (.mov (.t 9)), none⟩,
 ⟨(some 11), (.mov (.t 0)), some (10, true)⟩,
 ⟨(some 12), (.mov (.t 1)), some (10, true)⟩,
 ⟨(some 13), (.len .str (.t 12)), some (10, true)⟩,
 ⟨(some 14), (.slc true 0 (.t 11) none (some (.t 13)) none), some (10, true)⟩,
 ⟨(some 15), (.mov (.t 1)), some (10, true)⟩,
 ⟨(some 16), (.bin .eql .str (.t 14) (.t 15)), some (10, true)⟩,
 ⟨(some 17), (.pick (.t 10) (.t 16) (.k (.bool false))), none⟩,
 ⟨(some 4), (.mov (.t 17)), none⟩])
 .ret))⟩


theorem ckG20 : ckF Tryz.prog 20 G20 = true := by kernel_rfl
theorem stG20 : K.stC G20.c = true := by kernel_rfl
theorem ckG30 : ckF Tryz.prog 30 G30 = true := by kernel_rfl
theorem stG30 : K.stC G30.c = true := by kernel_rfl
theorem ckG43 : ckF Tryz.prog 43 G43 = true := by kernel_rfl
theorem stG43 : K.stC G43.c = true := by kernel_rfl
theorem ckG45 : ckF Tryz.prog 45 G45 = true := by kernel_rfl
theorem stG45 : K.stC G45.c = true := by kernel_rfl
theorem ckG67 : ckF Tryz.prog 67 G67 = true := by kernel_rfl
theorem stG67 : K.stC G67.c = true := by kernel_rfl
theorem ckG68 : ckF Tryz.prog 68 G68 = true := by kernel_rfl
theorem stG68 : K.stC G68.c = true := by kernel_rfl
theorem ckG69 : ckF Tryz.prog 69 G69 = true := by kernel_rfl
theorem stG69 : K.stC G69.c = true := by kernel_rfl
theorem ckG70 : ckF Tryz.prog 70 G70 = true := by kernel_rfl
theorem stG70 : K.stC G70.c = true := by kernel_rfl
theorem ckG72 : ckFS Tryz.prog 72 G72 = true := by kernel_rfl
theorem stG72 : K.stC G72.c = true := by kernel_rfl
theorem ckG73 : ckF Tryz.prog 73 G73 = true := by kernel_rfl
theorem stG73 : K.stC G73.c = true := by kernel_rfl
theorem ckG74 : ckF Tryz.prog 74 G74 = true := by kernel_rfl
theorem stG74 : K.stC G74.c = true := by kernel_rfl
theorem ckG75 : ckF Tryz.prog 75 G75 = true := by kernel_rfl
theorem stG75 : K.stC G75.c = true := by kernel_rfl
theorem ckG87 : ckF Tryz.prog 87 G87 = true := by kernel_rfl
theorem stG87 : K.stC G87.c = true := by kernel_rfl
theorem ckG89 : ckF Tryz.prog 89 G89 = true := by kernel_rfl
theorem stG89 : K.stC G89.c = true := by kernel_rfl
theorem ckG94 : ckF Tryz.prog 94 G94 = true := by kernel_rfl
theorem stG94 : K.stC G94.c = true := by kernel_rfl
end Go.Proofs.YtfinnljkcgglfaaGreatDoor
