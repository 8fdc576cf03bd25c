/- The code of the functions, as it is told, and that it is told rightly (2). -/
import Derived.Test.YtbabpibaccngnaaGreatProg
import Derived.Test.YtbabpibaccngnaaGreatZv6
import Derived.KernelRfl
set_option linter.unusedSimpArgs false
set_option linter.unusedVariables false
namespace Go.Proofs.YtbabpibaccngnaaGreat
open Go.Vs
set_option maxRecDepth 100000

/-- 126: signetring/noise.caught -/
def F126 : Fun :=
 ⟨18, 2, [],
 (.seq (.reg [⟨(some 7), .recov, none⟩])
 (.block 0
 (.seq (.reg [⟨(some 9), (.bin .eql .ifc (.t 7) (.k .nifc)), none⟩])
 (.cond (.t 9)
 (.reg [⟨(some 4), (.mov (.t 7)), none⟩])
 (.seq (.reg [⟨(some 10), (.asrt 48 (.int .i64 0) (.t 7) true), none⟩,
 ⟨(some 11), (.ext (.t 10) 1), none⟩,
 ⟨(some 12), (.ext (.t 10) 0), none⟩])
 (.cond (.t 11)
 (.seq (.reg [⟨(some 5), (.mov (.t 12)), none⟩])
 (.seq (.reg [⟨(some 13), (.mov (.t 0)), none⟩,
 ⟨(some 14), (.mov (.t 5)), none⟩,
 ⟨(some 15), (.nilck (.t 13)), none⟩,
 ⟨none, (.store 1 (.t 15) (.t 14)), none⟩])
 (.reg [⟨(some 16), (.mov (.t 1)), none⟩,
 ⟨(some 17), (.call (.t 16) []), none⟩])))
 (.seq (.reg [⟨(some 6), (.mov (.t 7)), none⟩])
 (.reg [⟨(some 8), (.mov (.t 6)), none⟩,
 ⟨none, (.pan (.t 8)), none⟩]))))))))⟩

/-- 128: signetring/noise.ends -/
def F128 : Fun :=
 ⟨8, 2, [],
 (.seq (.reg [⟨(some 4), (.mov (.t 0)), none⟩,
 ⟨(some 5), (.un .not (.t 4)), none⟩])
 (.cond (.t 5)
 (.reg [⟨(some 6), (.mov (.t 1)), none⟩,
 ⟨(some 7), (.mki 48 (.t 6)), none⟩,
 ⟨none, (.pan (.t 7)), none⟩])
 .skip))⟩

/-- 129: signetring/noise.begin -/
def F129 : Fun :=
 ⟨20, 3, [.t 6],
 (.seq (.reg [⟨(some 6), (.mov (.k .nptr)), none⟩])
 (.seq (.reg [⟨(some 8), (.mov (.t 0)), none⟩,
 ⟨(some 9), (.call (.k (.fn (.func 159) [] [])) [(.t 8), (.k (.str [78, 111, 105, 115, 101, 95, 88, 95, 50, 53, 53, 49, 57, 95, 67, 104, 97, 67, 104, 97, 80, 111, 108, 121, 95, 83, 72, 65, 50, 53, 54]))]), none⟩,
 ⟨(some 10), (.mov (.t 0)), none⟩,
 ⟨(some 11), (.build [(.str []), (.str []), (.str []), (.int .u64 0), .nifc] [(0, 4, (.t 9)), (4, 1, (.t 10))]), none⟩,
 ⟨(some 12), (.box none (.t 11)), none⟩,
 ⟨(some 7), (.mov (.t 12)), none⟩])
 (.seq (.reg [⟨(some 13), (.mov (.t 7)), none⟩,
 ⟨(some 14), (.mov (.t 1)), none⟩,
 ⟨(some 15), (.call (.k (.fn (.func 131) [] [])) [(.t 13), (.t 14)]), none⟩])
 (.seq (.reg [⟨(some 16), (.mov (.t 7)), none⟩,
 ⟨(some 17), (.mov (.t 2)), none⟩,
 ⟨(some 18), (.call (.k (.fn (.func 131) [] [])) [(.t 16), (.t 17)]), none⟩])
 (.seq (.reg [⟨(some 19), (.mov (.t 7)), none⟩,
 ⟨(some 6), (.mov (.t 19)), none⟩])
 .ret)))))⟩

/-- 130: (*signetring/noise.shake).pub -/
def F130 : Fun :=
 ⟨16, 2, [.t 4],
 (.seq (.reg [⟨(some 4), (.mov (.k (.str []))), none⟩])
 (.seq (.reg [⟨(some 6), (.mov (.t 0)), none⟩,
 ⟨(some 7), (.nilck (.t 6)), none⟩,
 ⟨(some 8), (.fad 4 (.t 7)), none⟩,
 ⟨(some 9), (.load 1 false (.t 8)), none⟩,
 ⟨(some 10), (.mov (.t 1)), none⟩,
 ⟨(some 11), (.inv (.t 9) "Pub" [(.t 10)]), none⟩,
 ⟨(some 5), (.mov (.t 11)), none⟩])
 (.seq (.reg [⟨(some 12), (.mov (.t 5)), none⟩,
 ⟨(some 13), (.bin .neq .str (.t 12) (.k (.str []))), none⟩,
 ⟨(some 14), (.call (.k (.fn (.func 128) [] [])) [(.t 13), (.k (.int .i64 6))]), none⟩])
 (.seq (.reg [⟨(some 15), (.mov (.t 5)), none⟩,
 ⟨(some 4), (.mov (.t 15)), none⟩])
 .ret))))⟩

/-- 131: (*signetring/noise.shake).hash -/
def F131 : Fun :=
 ⟨17, 2, [],
 (.dreg [⟨(some 4), (.mov (.t 0)), none⟩,
 ⟨(some 5), (.mov (.t 0)), none⟩,
 ⟨(some 6), (.nilck (.t 5)), none⟩,
 ⟨(some 7), (.fad 4 (.t 6)), none⟩,
 ⟨(some 8), (.load 1 false (.t 7)), none⟩,
 ⟨(some 9), (.mov (.t 0)), none⟩,
 ⟨(some 10), (.nilck (.t 9)), none⟩,
 ⟨(some 11), (.fad 0 (.t 10)), none⟩,
 ⟨(some 12), (.load 4 true (.t 11)), none⟩,
 ⟨(some 13), (.mov (.t 1)), none⟩,
 ⟨(some 14), (.call (.k (.fn (.func 160) [] [])) [(.t 8), (.t 12), (.t 13)]), none⟩,
 ⟨(some 15), (.nilck (.t 4)), none⟩,
 ⟨(some 16), (.fad 0 (.t 15)), none⟩,
 ⟨none, (.store 4 (.t 16) (.t 14)), none⟩] (.lin [] [(0, none), (1, none), (2, none), (3, none), (4, none), (5, none), (6, none), (7, none), (8, none), (9, none), (10, some [0]), (11, none), (12, none), (13, some [])]))⟩

/-- 132: (*signetring/noise.shake).dh -/
def F132 : Fun :=
 ⟨33, 3, [],
 (.seq (.reg [⟨(some 9), (.mov (.t 0)), none⟩,
 ⟨(some 10), (.nilck (.t 9)), none⟩,
 ⟨(some 11), (.fad 4 (.t 10)), none⟩,
 ⟨(some 12), (.load 1 false (.t 11)), none⟩,
 ⟨(some 13), (.mov (.t 1)), none⟩,
 ⟨(some 14), (.mov (.t 2)), none⟩,
 ⟨(some 15), (.inv (.t 12) "Dh" [(.t 13), (.t 14)]), none⟩,
 ⟨(some 8), (.mov (.t 15)), none⟩,
 ⟨(some 16), (.ext (.t 8) 0), none⟩,
 ⟨(some 17), (.ext (.t 8) 1), none⟩,
 ⟨(some 6), (.mov (.t 16)), none⟩,
 ⟨(some 7), (.mov (.t 17)), none⟩])
 (.seq (.reg [⟨(some 18), (.mov (.t 7)), none⟩,
 ⟨(some 19), (.call (.k (.fn (.func 128) [] [])) [(.t 18), (.k (.int .i64 6))]), none⟩])
 (.dreg [⟨(some 20), (.mov (.t 0)), none⟩,
 ⟨(some 21), (.mov (.t 0)), none⟩,
 ⟨(some 22), (.nilck (.t 21)), none⟩,
 ⟨(some 23), (.fad 4 (.t 22)), none⟩,
 ⟨(some 24), (.load 1 false (.t 23)), none⟩,
 ⟨(some 25), (.mov (.t 0)), none⟩,
 ⟨(some 26), (.nilck (.t 25)), none⟩,
 ⟨(some 27), (.fad 0 (.t 26)), none⟩,
 ⟨(some 28), (.load 4 true (.t 27)), none⟩,
 ⟨(some 29), (.mov (.t 6)), none⟩,
 ⟨(some 30), (.call (.k (.fn (.func 161) [] [])) [(.t 24), (.t 28), (.t 29)]), none⟩,
 ⟨(some 31), (.nilck (.t 20)), none⟩,
 ⟨(some 32), (.fad 0 (.t 31)), none⟩,
 ⟨none, (.store 4 (.t 32) (.t 30)), none⟩] (.lin [] [(0, none), (1, none), (2, none), (3, none), (4, none), (5, none), (6, none), (7, none), (8, none), (9, none), (10, some [0]), (11, none), (12, none), (13, some [])]))))⟩

/-- 133: (*signetring/noise.shake).seal -/
def F133 : Fun :=
 ⟨30, 2, [.t 4],
 (.seq (.reg [⟨(some 4), (.mov (.k (.str []))), none⟩])
 (.seq (.dreg [⟨(some 9), (.mov (.t 0)), none⟩,
 ⟨(some 10), (.nilck (.t 9)), none⟩,
 ⟨(some 11), (.fad 4 (.t 10)), none⟩,
 ⟨(some 12), (.load 1 false (.t 11)), none⟩,
 ⟨(some 13), (.mov (.t 0)), none⟩,
 ⟨(some 14), (.nilck (.t 13)), none⟩,
 ⟨(some 15), (.fad 0 (.t 14)), none⟩,
 ⟨(some 16), (.load 4 true (.t 15)), none⟩,
 ⟨(some 17), (.mov (.t 1)), none⟩,
 ⟨(some 18), (.call (.k (.fn (.func 162) [] [])) [(.t 12), (.t 16), (.t 17)]), none⟩,
 ⟨(some 8), (.mov (.t 18)), none⟩,
 ⟨(some 19), (.ext (.t 8) 0), none⟩,
 ⟨(some 20), (.ext (.t 8) 1), none⟩,
 ⟨(some 21), (.ext (.t 8) 2), none⟩,
 ⟨(some 5), (.new [(.str []), (.str []), (.str []), (.int .u64 0)] none), none⟩,
 ⟨none, (.store 4 (.t 5) (.t 19)), none⟩,
 ⟨(some 6), (.mov (.t 20)), none⟩,
 ⟨(some 7), (.mov (.t 21)), none⟩] (.lin [14] [(0, none), (1, none), (2, none), (3, none), (4, none), (5, none), (6, none), (7, none), (8, none), (9, some []), (10, none), (11, none), (12, none), (13, none), (15, some [12, 13]), (16, none), (17, none)]))
 (.seq (.reg [⟨(some 22), (.mov (.t 7)), none⟩,
 ⟨(some 23), (.bin .eql .num (.t 22) (.k (.int .i64 0))), none⟩,
 ⟨(some 24), (.call (.k (.fn (.func 128) [] [])) [(.t 23), (.k (.int .i64 3))]), none⟩])
 (.seq (.reg [⟨(some 25), (.mov (.t 0)), none⟩,
 ⟨(some 26), (.load 4 true (.t 5)), none⟩,
 ⟨(some 27), (.nilck (.t 25)), none⟩,
 ⟨(some 28), (.fad 0 (.t 27)), none⟩,
 ⟨none, (.store 4 (.t 28) (.t 26)), none⟩])
 (.seq (.reg [⟨(some 29), (.mov (.t 6)), none⟩,
 ⟨(some 4), (.mov (.t 29)), none⟩])
 .ret)))))⟩

/-- 134: signetring/mix.Split -/
def F134 : Fun :=
 ⟨22, 2, [.t 4, .t 5],
 (.seq (.reg [⟨(some 3), (.box none (.t 1)), none⟩,
 ⟨(some 4), (.mov (.k (.str []))), none⟩,
 ⟨(some 5), (.mov (.k (.str []))), none⟩])
 (.seq (.seq (.reg [⟨(some 7), (.mov (.t 0)), none⟩,
 ⟨(some 8), (.bin .eql .ifc (.t 7) (.k .nifc)), none⟩])
 (.cond (.t 8)
 (.seq (.reg [⟨(some 4), (.mov (.k (.str []))), none⟩,
 ⟨(some 5), (.mov (.k (.str []))), none⟩])
 .ret)
 .skip))
 (.seq (.reg [⟨(some 9), (.mov (.t 0)), none⟩,
 ⟨(some 10), (.fad 0 (.t 3)), none⟩,
 ⟨(some 11), (.load 1 false (.t 10)), none⟩,
 ⟨(some 12), (.inv (.t 9) "Keys" [(.t 11), (.k (.str [])), (.k (.int .i64 2))]), none⟩,
 ⟨(some 6), (.mov (.t 12)), none⟩])
 (.seq (.seq (.reg [⟨(some 13), (.mov (.t 6)), none⟩,
 ⟨(some 14), (.len .slc (.t 13)), none⟩,
 ⟨(some 15), (.bin .lss .num (.t 14) (.k (.int .i64 2))), none⟩])
 (.cond (.t 15)
 (.seq (.reg [⟨(some 4), (.mov (.k (.str []))), none⟩,
 ⟨(some 5), (.mov (.k (.str []))), none⟩])
 .ret)
 .skip))
 (.seq (.dreg [⟨(some 16), (.mov (.t 6)), none⟩,
 ⟨(some 17), (.iad 1 (.t 16) (.k (.int .i64 0))), none⟩,
 ⟨(some 18), (.load 1 false (.t 17)), none⟩,
 ⟨(some 19), (.mov (.t 6)), none⟩,
 ⟨(some 20), (.iad 1 (.t 19) (.k (.int .i64 1))), none⟩,
 ⟨(some 21), (.load 1 false (.t 20)), none⟩,
 ⟨(some 4), (.mov (.t 18)), none⟩,
 ⟨(some 5), (.mov (.t 21)), none⟩] (.lin [] [(0, none), (1, none), (2, none), (3, none), (4, none), (5, none), (6, none), (7, none)]))
 .ret)))))⟩

/-- 135: signetring/ratchet.begun -/
def F135 : Fun :=
 ⟨12, 2, [.t 4],
 (.seq (.reg [⟨(some 4), (.mov (.k (.int .i64 0))), none⟩])
 (.seq (.block 0
 (.seq (.reg [⟨(some 6), (.mov (.t 0)), none⟩,
 ⟨(some 7), (.bin .eql .ifc (.t 6) (.k .nifc)), none⟩,
 ⟨(some 5), (.mov (.t 7)), none⟩])
 (.cond (.t 5)
 (.seq (.reg [⟨(some 4), (.mov (.k (.int .i64 1))), none⟩])
 .ret)
 (.seq (.reg [⟨(some 9), (.mov (.t 1)), none⟩,
 ⟨(some 10), (.len .str (.t 9)), none⟩,
 ⟨(some 11), (.bin .neq .num (.t 10) (.k (.int .i64 32))), none⟩,
 ⟨(some 8), (.mov (.t 11)), none⟩])
 (.cond (.t 8)
 (.seq (.reg [⟨(some 4), (.mov (.k (.int .i64 2))), none⟩])
 .ret)
 .skip)))))
 (.seq (.reg [⟨(some 4), (.mov (.k (.int .i64 0))), none⟩])
 .ret)))⟩

/-- 136: (*signetring/ratchet.State).turn -/
def F136 : Fun :=
 ⟨46, 3, [.t 6],
 (.seq (.reg [⟨(some 6), (.mov (.k (.int .i64 0))), none⟩])
 (.seq (.reg [⟨(some 10), (.mov (.t 0)), none⟩,
 ⟨(some 11), (.mov (.t 0)), none⟩,
 ⟨(some 12), (.mov (.t 2)), none⟩,
 ⟨(some 13), (.mov (.t 0)), none⟩,
 ⟨(some 14), (.nilck (.t 13)), none⟩,
 ⟨(some 15), (.fad 9 (.t 14)), none⟩,
 ⟨(some 16), (.load 1 false (.t 15)), none⟩,
 ⟨(some 17), (.nilck (.t 10)), none⟩,
 ⟨(some 18), (.fad 0 (.t 17)), none⟩,
 ⟨none, (.store 1 (.t 18) (.t 12)), none⟩,
 ⟨(some 19), (.nilck (.t 11)), none⟩,
 ⟨(some 20), (.fad 7 (.t 19)), none⟩,
 ⟨none, (.store 1 (.t 20) (.t 16)), none⟩])
 (.seq (.reg [⟨(some 22), (.mov (.t 0)), none⟩,
 ⟨(some 23), (.mov (.t 1)), none⟩,
 ⟨(some 24), (.call (.k (.fn (.func 163) [] [])) [(.t 22), (.t 23)]), none⟩,
 ⟨(some 21), (.mov (.t 24)), none⟩,
 ⟨(some 25), (.ext (.t 21) 0), none⟩,
 ⟨(some 26), (.ext (.t 21) 1), none⟩,
 ⟨(some 27), (.ext (.t 21) 2), none⟩,
 ⟨(some 7), (.mov (.t 25)), none⟩,
 ⟨(some 8), (.mov (.t 26)), none⟩,
 ⟨(some 9), (.mov (.t 27)), none⟩])
 (.seq (.reg [⟨(some 28), (.mov (.t 0)), none⟩,
 ⟨(some 29), (.mov (.t 0)), none⟩,
 ⟨(some 30), (.mov (.t 0)), none⟩,
 ⟨(some 31), (.mov (.t 0)), none⟩,
 ⟨(some 32), (.nilck (.t 31)), none⟩,
 ⟨(some 33), (.fad 3 (.t 32)), none⟩,
 ⟨(some 34), (.fad 1 (.t 33)), none⟩,
 ⟨(some 35), (.load 1 false (.t 34)), none⟩,
 ⟨(some 36), (.mov (.t 7)), none⟩,
 ⟨(some 37), (.build [(.str []), (.int .i64 0)] [(0, 1, (.t 36))]), none⟩,
 ⟨(some 38), (.mov (.t 8)), none⟩,
 ⟨(some 39), (.nilck (.t 28)), none⟩,
 ⟨(some 40), (.fad 11 (.t 39)), none⟩,
 ⟨none, (.store 1 (.t 40) (.t 35)), none⟩,
 ⟨(some 41), (.nilck (.t 29)), none⟩,
 ⟨(some 42), (.fad 3 (.t 41)), none⟩,
 ⟨none, (.store 2 (.t 42) (.t 37)), none⟩,
 ⟨(some 43), (.nilck (.t 30)), none⟩,
 ⟨(some 44), (.fad 9 (.t 43)), none⟩,
 ⟨none, (.store 1 (.t 44) (.t 38)), none⟩])
 (.seq (.reg [⟨(some 45), (.mov (.t 9)), none⟩,
 ⟨(some 6), (.mov (.t 45)), none⟩])
 .ret)))))⟩

/-- 137: signetring/chain.Next -/
def F137 : Fun :=
 ⟨45, 2, [.c 4 2 true, .t 5, .t 6],
 (.seq (.reg [⟨(some 3), (.box none (.t 1)), none⟩,
 ⟨(some 4), (.new [(.str []), (.int .i64 0)] none), none⟩,
 ⟨(some 5), (.mov (.k (.str []))), none⟩,
 ⟨(some 6), (.mov (.k (.int .i64 0))), none⟩])
 (.seq (.block 0
 (.seq (.reg [⟨(some 9), (.mov (.t 0)), none⟩,
 ⟨(some 10), (.bin .eql .ifc (.t 9) (.k .nifc)), none⟩,
 ⟨(some 8), (.mov (.t 10)), none⟩])
 (.cond (.t 8)
 (.seq (.reg [⟨(some 11), (.load 2 true (.t 3)), none⟩,
 ⟨none, (.store 2 (.t 4) (.t 11)), none⟩,
 ⟨(some 5), (.mov (.k (.str []))), none⟩,
 ⟨(some 6), (.mov (.k (.int .i64 1))), none⟩])
 .ret)
 (.seq (.reg [⟨(some 13), (.fad 1 (.t 3)), none⟩,
 ⟨(some 14), (.load 1 false (.t 13)), none⟩,
 ⟨(some 15), (.bin .lss .num (.t 14) (.k (.int .i64 0))), none⟩,
 ⟨(some 12), (.mov (.t 15)), none⟩])
 (.cond (.t 12)
 (.seq (.reg [⟨(some 16), (.load 2 true (.t 3)), none⟩,
 ⟨none, (.store 2 (.t 4) (.t 16)), none⟩,
 ⟨(some 5), (.mov (.k (.str []))), none⟩,
 ⟨(some 6), (.mov (.k (.int .i64 2))), none⟩])
 .ret)
 (.seq (.reg [⟨(some 18), (.fad 1 (.t 3)), none⟩,
 ⟨(some 19), (.load 1 false (.t 18)), none⟩,
 ⟨(some 20), (.bin .geq .num (.t 19) (.k (.int .i64 1000))), none⟩,
 ⟨(some 17), (.mov (.t 20)), none⟩])
 (.cond (.t 17)
 (.seq (.reg [⟨(some 21), (.load 2 true (.t 3)), none⟩,
 ⟨none, (.store 2 (.t 4) (.t 21)), none⟩,
 ⟨(some 5), (.mov (.k (.str []))), none⟩,
 ⟨(some 6), (.mov (.k (.int .i64 12))), none⟩])
 .ret)
 (.seq (.reg [⟨(some 23), (.fad 0 (.t 3)), none⟩,
 ⟨(some 24), (.load 1 false (.t 23)), none⟩,
 ⟨(some 25), (.bin .eql .str (.t 24) (.k (.str []))), none⟩,
 ⟨(some 22), (.mov (.t 25)), none⟩])
 (.cond (.t 22)
 (.seq (.reg [⟨(some 26), (.load 2 true (.t 3)), none⟩,
 ⟨none, (.store 2 (.t 4) (.t 26)), none⟩,
 ⟨(some 5), (.mov (.k (.str []))), none⟩,
 ⟨(some 6), (.mov (.k (.int .i64 6))), none⟩])
 .ret)
 .skip)))))))))
 (.seq (.reg [⟨(some 27), (.mov (.t 0)), none⟩,
 ⟨(some 28), (.fad 0 (.t 3)), none⟩,
 ⟨(some 29), (.load 1 false (.t 28)), none⟩,
 ⟨(some 30), (.inv (.t 27) "Keys" [(.t 29), (.k (.str [110, 101, 120, 116])), (.k (.int .i64 2))]), none⟩,
 ⟨(some 7), (.mov (.t 30)), none⟩])
 (.seq (.seq (.reg [⟨(some 31), (.mov (.t 7)), none⟩,
 ⟨(some 32), (.len .slc (.t 31)), none⟩,
 ⟨(some 33), (.bin .lss .num (.t 32) (.k (.int .i64 2))), none⟩])
 (.cond (.t 33)
 (.seq (.reg [⟨(some 34), (.load 2 true (.t 3)), none⟩,
 ⟨none, (.store 2 (.t 4) (.t 34)), none⟩,
 ⟨(some 5), (.mov (.k (.str []))), none⟩,
 ⟨(some 6), (.mov (.k (.int .i64 6))), none⟩])
 .ret)
 .skip))
 (.seq (.dreg [⟨(some 35), (.mov (.t 7)), none⟩,
 ⟨(some 36), (.iad 1 (.t 35) (.k (.int .i64 0))), none⟩,
 ⟨(some 37), (.load 1 false (.t 36)), none⟩,
 ⟨(some 38), (.fad 1 (.t 3)), none⟩,
 ⟨(some 39), (.load 1 false (.t 38)), none⟩,
 ⟨(some 40), (.bin .add .num (.t 39) (.k (.int .i64 1))), none⟩,
 ⟨(some 41), (.build [(.str []), (.int .i64 0)] [(0, 1, (.t 37)), (1, 1, (.t 40))]), none⟩,
 ⟨(some 42), (.mov (.t 7)), none⟩,
 ⟨(some 43), (.iad 1 (.t 42) (.k (.int .i64 1))), none⟩,
 ⟨(some 44), (.load 1 false (.t 43)), none⟩,
 ⟨none, (.store 2 (.t 4) (.t 41)), none⟩,
 ⟨(some 5), (.mov (.t 44)), none⟩,
 ⟨(some 6), (.mov (.k (.int .i64 0))), none⟩] (.lin [] [(0, none), (1, none), (2, none), (3, none), (4, none), (5, none), (6, none), (7, none), (8, none), (9, none), (10, some [7, 8, 9]), (11, none), (12, none)]))
 .ret)))))⟩

/-- 138: signetring/ratchet.number -/
def F138 : Fun :=
 ⟨20, 1, [.t 2],
 (.seq (.reg [⟨(some 2), (.mov (.k (.int .u64 0))), none⟩])
 (.seq (.reg [⟨(some 3), (.mov (.k (.int .u64 0))), none⟩])
 (.seq (.seq (.reg [⟨(some 6), (.mov (.t 0)), none⟩,
 ⟨(some 7), (.s2b true (.t 6)), none⟩,
 ⟨(some 8), (.len .slc (.t 7)), none⟩,
 ⟨(some 9), (.mov (.k (.int .i64 0))), none⟩])
 (.block 0
 (.loop
 (.seq (.reg [⟨(some 10), (.bin .lss .num (.t 9) (.t 8)), none⟩])
 (.seq (.cond (.t 10)
 .skip
 (.exit 0))
 (.seq (.block 1
 (.seq (.reg [⟨(some 11), (.iad 1 (.t 7) (.t 9)), none⟩,
 ⟨(some 12), (.load 1 false (.t 11)), none⟩,
 ⟨(some 5), (.mov (.t 12)), none⟩])
 (.reg [⟨(some 13), (.mov (.t 3)), none⟩,
 ⟨(some 14), (.bin .shl .num (.t 13) (.k (.int .u64 8))), none⟩,
 ⟨(some 15), (.mov (.t 5)), none⟩,
 ⟨(some 16), (.cvi .u64 (.t 15)), none⟩,
 ⟨(some 17), (.bin .or .num (.t 14) (.t 16)), none⟩,
 ⟨(some 3), (.mov (.t 17)), none⟩])))
 (.reg [⟨(some 18), (.bin .add .num (.t 9) (.k (.int .i64 1))), none⟩,
 ⟨(some 9), (.mov (.t 18)), none⟩])))))))
 (.seq (.reg [⟨(some 19), (.mov (.t 3)), none⟩,
 ⟨(some 2), (.mov (.t 19)), none⟩])
 .ret))))⟩

/-- 139: signetring/ratchet.bound -/
def F139 : Fun :=
 ⟨11, 3, [.t 6],
 (.seq (.reg [⟨(some 6), (.mov (.k (.str []))), none⟩])
 (.seq (.reg [⟨(some 7), (.mov (.t 0)), none⟩,
 ⟨(some 8), (.mov (.t 1)), none⟩,
 ⟨(some 9), (.mov (.t 2)), none⟩,
 ⟨(some 10), (.inv (.t 7) "Hash" [(.t 8), (.t 9)]), none⟩,
 ⟨(some 6), (.mov (.t 10)), none⟩])
 .ret))⟩

/-- 140: slices.Sort[[]string,string] -/
def F140 : Fun :=
 ⟨11, 1, [],
 (.seq (.reg [⟨(some 3), (.mov (.t 0)), none⟩,
 ⟨(some 4), (.len .slc (.t 3)), none⟩,
 ⟨(some 2), (.mov (.t 4)), none⟩])
 (.reg [⟨(some 5), (.mov (.t 0)), none⟩,
 ⟨(some 6), (.mov (.t 2)), none⟩,
 ⟨(some 7), (.mov (.t 2)), none⟩,
 ⟨(some 8), (.cvi .u64 (.t 7)), none⟩,
 ⟨(some 9), (.call (.k (.fn (.func 165) [] [])) [(.t 8)]), none⟩,
 ⟨(some 10), (.call (.k (.fn (.func 164) [] [])) [(.t 5), (.k (.int .i64 0)), (.t 6), (.t 9)]), none⟩]))⟩

/-- 141: signetring/codec.read -/
def F141 : Fun :=
 ⟨50, 1, [.t 2, .t 3, .c 4 1 false],
 (.seq (.reg [⟨(some 2), (.mov (.k (.int .u8 0))), none⟩,
 ⟨(some 3), (.mov (.k .nsl)), none⟩,
 ⟨(some 4), (.new [(.int .i64 0)] none), none⟩])
 (.seq (.reg [⟨none, (.dfr (.k (.fn (.func 166) [] [])) [(.t 4)]), none⟩])
 (.seq (.reg [⟨(some 7), (.mov (.t 0)), none⟩,
 ⟨(some 8), (.len .str (.t 7)), none⟩,
 ⟨(some 9), (.bin .leq .num (.t 8) (.k (.int .i64 30000))), none⟩,
 ⟨(some 10), (.call (.k (.fn (.func 167) [] [])) [(.t 9)]), none⟩])
 (.seq (.reg [⟨(some 11), (.mov (.t 0)), none⟩,
 ⟨(some 12), (.build [(.str [])] [(0, 1, (.t 11))]), none⟩,
 ⟨(some 13), (.box none (.t 12)), none⟩,
 ⟨(some 5), (.mov (.t 13)), none⟩])
 (.seq (.reg [⟨(some 14), (.mov (.t 5)), none⟩,
 ⟨(some 15), (.call (.k (.fn (.func 168) [] [])) [(.t 14)]), none⟩,
 ⟨(some 16), (.bin .eql .num (.t 15) (.k (.int .i64 1))), none⟩,
 ⟨(some 17), (.call (.k (.fn (.func 167) [] [])) [(.t 16)]), none⟩])
 (.seq (.reg [⟨(some 18), (.mov (.t 5)), none⟩,
 ⟨(some 19), (.call (.k (.fn (.func 168) [] [])) [(.t 18)]), none⟩,
 ⟨(some 20), (.cvi .u8 (.t 19)), none⟩,
 ⟨(some 2), (.mov (.t 20)), none⟩])
 (.seq (.seq (.reg [⟨(some 21), (.mov (.t 5)), none⟩,
 ⟨(some 22), (.call (.k (.fn (.func 168) [] [])) [(.t 21)]), none⟩,
 ⟨(some 23), (.mov (.k (.int .i64 0))), none⟩])
 (.block 0
 (.loop
 (.seq (.reg [⟨(some 24), (.bin .lss .num (.t 23) (.t 22)), none⟩])
 (.seq (.cond (.t 24)
 .skip
 (.exit 0))
 (.seq (.block 1
 (.seq (.reg [⟨(some 25), (.mov (.t 5)), none⟩,
 ⟨(some 26), (.call (.k (.fn (.func 168) [] [])) [(.t 25)]), none⟩,
 ⟨(some 27), (.bin .shl .num (.t 26) (.k (.int .u64 8))), none⟩,
 ⟨(some 6), (.mov (.t 27)), none⟩])
 (.seq (.reg [⟨(some 28), (.mov (.t 6)), none⟩,
 ⟨(some 29), (.mov (.t 5)), none⟩,
 ⟨(some 30), (.call (.k (.fn (.func 168) [] [])) [(.t 29)]), none⟩,
 ⟨(some 31), (.bin .add .num (.t 28) (.t 30)), none⟩,
 ⟨(some 6), (.mov (.t 31)), none⟩])
 (.seq (.reg [⟨(some 32), (.mov (.t 6)), none⟩,
 ⟨(some 33), (.bin .leq .num (.t 32) (.k (.int .i64 4000))), none⟩,
 ⟨(some 34), (.call (.k (.fn (.func 167) [] [])) [(.t 33)]), none⟩])
 (.reg [⟨(some 35), (.mov (.t 3)), none⟩,
 ⟨(some 36), (.mov (.t 5)), none⟩,
 ⟨(some 37), (.mov (.t 6)), none⟩,
 ⟨(some 38), (.call (.k (.fn (.func 169) [] [])) [(.t 36), (.t 37)]), none⟩,
 ⟨(some 39), (.mks true 1 16 false [(.str [])] 1 [(0, (.t 38))]), none⟩,
 ⟨(some 40), (.app 1 16 false none (.t 35) (.t 39)), none⟩,
 ⟨(some 3), (.mov (.t 40)), none⟩])))))
 (.reg [⟨(some 41), (.bin .add .num (.t 23) (.k (.int .i64 1))), none⟩,
 ⟨(some 23), (.mov (.t 41)), none⟩])))))))
 (.seq (.reg [⟨(some 42), (.mov (.t 5)), none⟩,
 ⟨(some 43), (.nilck (.t 42)), none⟩,
 ⟨(some 44), (.fad 0 (.t 43)), none⟩,
 ⟨(some 45), (.load 1 false (.t 44)), none⟩,
 ⟨(some 46), (.bin .eql .str (.t 45) (.k (.str []))), none⟩,
 ⟨(some 47), (.call (.k (.fn (.func 167) [] [])) [(.t 46)]), none⟩])
 (.seq (.reg [⟨(some 48), (.mov (.t 2)), none⟩,
 ⟨(some 49), (.mov (.t 3)), none⟩,
 ⟨(some 2), (.mov (.t 48)), none⟩,
 ⟨(some 3), (.mov (.t 49)), none⟩,
 ⟨none, (.store 1 (.t 4) (.k (.int .i64 0))), none⟩])
 .ret)))))))))⟩

/-- 143: (*signetring/noise.shake).open -/
def F143 : Fun :=
 ⟨31, 2, [.t 4],
 (.seq (.reg [⟨(some 4), (.mov (.k (.str []))), none⟩])
 (.seq (.dreg [⟨(some 9), (.mov (.t 0)), none⟩,
 ⟨(some 10), (.nilck (.t 9)), none⟩,
 ⟨(some 11), (.fad 4 (.t 10)), none⟩,
 ⟨(some 12), (.load 1 false (.t 11)), none⟩,
 ⟨(some 13), (.mov (.t 0)), none⟩,
 ⟨(some 14), (.nilck (.t 13)), none⟩,
 ⟨(some 15), (.fad 0 (.t 14)), none⟩,
 ⟨(some 16), (.load 4 true (.t 15)), none⟩,
 ⟨(some 17), (.mov (.t 1)), none⟩,
 ⟨(some 18), (.call (.k (.fn (.func 170) [] [])) [(.t 12), (.t 16), (.t 17)]), none⟩,
 ⟨(some 8), (.mov (.t 18)), none⟩,
 ⟨(some 19), (.ext (.t 8) 0), none⟩,
 ⟨(some 20), (.ext (.t 8) 1), none⟩,
 ⟨(some 21), (.ext (.t 8) 2), none⟩,
 ⟨(some 5), (.new [(.str []), (.str []), (.str []), (.int .u64 0)] none), none⟩,
 ⟨none, (.store 4 (.t 5) (.t 19)), none⟩,
 ⟨(some 6), (.mov (.t 20)), none⟩,
 ⟨(some 7), (.mov (.t 21)), none⟩] (.lin [14] [(0, none), (1, none), (2, none), (3, none), (4, none), (5, none), (6, none), (7, none), (8, none), (9, some []), (10, none), (11, none), (12, none), (13, none), (15, some [12, 13]), (16, none), (17, none)]))
 (.seq (.reg [⟨(some 22), (.mov (.t 7)), none⟩,
 ⟨(some 23), (.bin .eql .num (.t 22) (.k (.int .i64 0))), none⟩,
 ⟨(some 24), (.mov (.t 7)), none⟩,
 ⟨(some 25), (.call (.k (.fn (.func 128) [] [])) [(.t 23), (.t 24)]), none⟩])
 (.seq (.reg [⟨(some 26), (.mov (.t 0)), none⟩,
 ⟨(some 27), (.load 4 true (.t 5)), none⟩,
 ⟨(some 28), (.nilck (.t 26)), none⟩,
 ⟨(some 29), (.fad 0 (.t 28)), none⟩,
 ⟨none, (.store 4 (.t 29) (.t 27)), none⟩])
 (.seq (.reg [⟨(some 30), (.mov (.t 6)), none⟩,
 ⟨(some 4), (.mov (.t 30)), none⟩])
 .ret)))))⟩

/-- 144: (*signetring/ratchet.State).opens -/
def F144 : Fun :=
 ⟨88, 3, [.t 6, .t 7],
 (.seq (.reg [⟨(some 6), (.mov (.k (.str []))), none⟩,
 ⟨(some 7), (.mov (.k (.int .i64 0))), none⟩])
 (.seq (.reg [⟨(some 12), (.mov (.t 0)), none⟩,
 ⟨(some 13), (.nilck (.t 12)), none⟩,
 ⟨(some 14), (.fad 12 (.t 13)), none⟩,
 ⟨(some 15), (.load 1 false (.t 14)), none⟩,
 ⟨(some 16), (.call (.k (.fn (.func 171) [] [])) [(.t 15)]), none⟩,
 ⟨(some 17), (.mov (.t 1)), none⟩,
 ⟨(some 18), (.mkf (.func 172) [(.t 17)] []), none⟩,
 ⟨(some 19), (.call (.k (.fn (.func 107) [] [])) [(.t 16), (.t 18)]), none⟩,
 ⟨(some 8), (.mov (.t 19)), none⟩])
 (.seq (.block 0
 (.seq (.reg [⟨(some 21), (.mov (.t 8)), none⟩,
 ⟨(some 22), (.bin .geq .num (.t 21) (.k (.int .i64 0))), none⟩,
 ⟨(some 20), (.mov (.t 22)), none⟩])
 (.cond (.t 20)
 (.seq (.dreg [⟨(some 24), (.mov (.t 0)), none⟩,
 ⟨(some 25), (.nilck (.t 24)), none⟩,
 ⟨(some 26), (.fad 12 (.t 25)), none⟩,
 ⟨(some 27), (.load 1 false (.t 26)), none⟩,
 ⟨(some 28), (.mov (.t 1)), none⟩,
 ⟨(some 29), (.nilck (.t 28)), none⟩,
 ⟨(some 30), (.fad 8 (.t 29)), none⟩,
 ⟨(some 31), (.load 1 false (.t 30)), none⟩,
 ⟨(some 32), (.mov (.t 1)), none⟩,
 ⟨(some 33), (.nilck (.t 32)), none⟩,
 ⟨(some 34), (.fad 7 (.t 33)), none⟩,
 ⟨(some 35), (.load 1 false (.t 34)), none⟩,
 ⟨(some 36), (.call (.k (.fn (.func 173) [] [])) [(.t 27), (.t 31), (.t 35)]), none⟩,
 ⟨(some 23), (.mov (.t 36)), none⟩,
 ⟨(some 37), (.ext (.t 23) 0), none⟩,
 ⟨(some 38), (.ext (.t 23) 1), none⟩,
 ⟨(some 39), (.ext (.t 23) 2), none⟩,
 ⟨(some 9), (.mov (.t 37)), none⟩,
 ⟨(some 10), (.mov (.t 38)), none⟩,
 ⟨(some 11), (.mov (.t 39)), none⟩] (.lin [] [(0, none), (1, none), (2, none), (3, none), (4, none), (5, none), (6, none), (7, none), (8, none), (9, none), (10, none), (11, none), (12, some []), (13, none), (14, none), (15, none), (16, none), (17, none), (18, none), (19, none)]))
 (.seq (.seq (.dreg [⟨(some 40), (.mov (.t 11)), none⟩,
 ⟨(some 41), (.bin .neq .num (.t 40) (.k (.int .i64 0))), none⟩,
 ⟨(some 42), (.mov (.t 41)), none⟩,
 ⟨(some 43), (.mov (.t 1)), some (42, true)⟩,
 ⟨(some 44), (.nilck (.t 43)), some (42, true)⟩,
 ⟨(some 45), (.fad 8 (.t 44)), some (42, true)⟩,
 ⟨(some 46), (.load 1 false (.t 45)), some (42, true)⟩,
 ⟨(some 47), (.mov (.t 0)), some (42, true)⟩,
 ⟨(some 48), (.nilck (.t 47)), some (42, true)⟩,
 ⟨(some 49), (.fad 8 (.t 48)), some (42, true)⟩,
 ⟨(some 50), (.load 1 false (.t 49)), some (42, true)⟩,
 ⟨(some 51), (.bin .eql .str (.t 46) (.t 50)), some (42, true)⟩,
 ⟨(some 52), (.pick (.t 42) (.t 51) (.k (.bool false))), none⟩] (.lin [] [(0, none), (1, none), (2, none), (3, none), (4, none), (5, none), (6, none), (7, none), (8, none), (9, none), (10, none), (11, none), (12, none)]))
 (.cond (.t 52)
 (.seq (.reg [⟨(some 53), (.mov (.t 0)), none⟩,
 ⟨(some 54), (.mov (.t 1)), none⟩,
 ⟨(some 55), (.call (.k (.fn (.func 174) [] [])) [(.t 53), (.t 54)]), none⟩,
 ⟨(some 56), (.ext (.t 55) 0), none⟩,
 ⟨(some 57), (.ext (.t 55) 1), none⟩,
 ⟨(some 6), (.mov (.t 56)), none⟩,
 ⟨(some 7), (.mov (.t 57)), none⟩])
 .ret)
 .skip))
 (.seq (.reg [⟨(some 58), (.mov (.t 0)), none⟩,
 ⟨(some 59), (.mov (.t 1)), none⟩,
 ⟨(some 60), (.call (.k (.fn (.func 175) [] [])) [(.t 58), (.t 59)]), none⟩,
 ⟨(some 61), (.ext (.t 60) 0), none⟩,
 ⟨(some 62), (.ext (.t 60) 1), none⟩,
 ⟨(some 6), (.mov (.t 61)), none⟩,
 ⟨(some 7), (.mov (.t 62)), none⟩])
 .ret)))
 (.seq (.reg [⟨(some 64), (.mov (.t 1)), none⟩,
 ⟨(some 65), (.mov (.t 0)), none⟩,
 ⟨(some 66), (.nilck (.t 65)), none⟩,
 ⟨(some 67), (.fad 8 (.t 66)), none⟩,
 ⟨(some 68), (.load 1 false (.t 67)), none⟩,
 ⟨(some 69), (.call (.k (.fn (.func 172) [] [])) [(.t 64), (.t 68)]), none⟩,
 ⟨(some 63), (.mov (.t 69)), none⟩])
 (.cond (.t 63)
 (.seq (.reg [⟨(some 70), (.mov (.t 0)), none⟩,
 ⟨(some 71), (.mov (.t 1)), none⟩,
 ⟨(some 72), (.call (.k (.fn (.func 174) [] [])) [(.t 70), (.t 71)]), none⟩,
 ⟨(some 73), (.ext (.t 72) 0), none⟩,
 ⟨(some 74), (.ext (.t 72) 1), none⟩,
 ⟨(some 6), (.mov (.t 73)), none⟩,
 ⟨(some 7), (.mov (.t 74)), none⟩])
 .ret)
 (.seq (.reg [⟨(some 76), (.mov (.t 1)), none⟩,
 ⟨(some 77), (.mov (.t 0)), none⟩,
 ⟨(some 78), (.nilck (.t 77)), none⟩,
 ⟨(some 79), (.fad 10 (.t 78)), none⟩,
 ⟨(some 80), (.load 1 false (.t 79)), none⟩,
 ⟨(some 81), (.call (.k (.fn (.func 172) [] [])) [(.t 76), (.t 80)]), none⟩,
 ⟨(some 75), (.mov (.t 81)), none⟩])
 (.cond (.t 75)
 (.seq (.reg [⟨(some 82), (.mov (.t 0)), none⟩,
 ⟨(some 83), (.mov (.t 1)), none⟩,
 ⟨(some 84), (.mov (.t 2)), none⟩,
 ⟨(some 85), (.call (.k (.fn (.func 176) [] [])) [(.t 82), (.t 83), (.t 84)]), none⟩,
 ⟨(some 86), (.ext (.t 85) 0), none⟩,
 ⟨(some 87), (.ext (.t 85) 1), none⟩,
 ⟨(some 6), (.mov (.t 86)), none⟩,
 ⟨(some 7), (.mov (.t 87)), none⟩])
 .ret)
 .skip)))))))
 (.seq (.reg [⟨(some 6), (.mov (.k (.str []))), none⟩,
 ⟨(some 7), (.mov (.k (.int .i64 6))), none⟩])
 .ret))))⟩

/-- 145: (*signetring/term.Table).good -/
def F145 : Fun :=
 ⟨12, 1, [.t 2],
 (.seq (.reg [⟨(some 2), (.mov (.k (.bool false))), none⟩])
 (.seq (.reg [⟨(some 3), (.mov (.t 0)), none⟩,
 ⟨(some 4), (.bin .neq .ptr (.t 3) (.k .nptr)), none⟩,
 ⟨(some 5), (.mov (.t 4)), none⟩,
 ⟨(some 6), (.mov (.t 0)), some (5, true)⟩,
 ⟨(some 7), (.nilck (.t 6)), some (5, true)⟩,
 ⟨(some 8), (.fad 0 (.t 7)), some (5, true)⟩,
 ⟨(some 9), (.load 1 false (.t 8)), some (5, true)⟩,
 ⟨(some 10), (.bin .neq .map (.t 9) (.k .nmap)), some (5, true)⟩,
 ⟨(some 11), (.pick (.t 5) (.t 10) (.k (.bool false))), none⟩,
 ⟨(some 2), (.mov (.t 11)), none⟩])
 .ret))⟩

/-- 146: signetring/term.name -/
def F146 : Fun :=
 ⟨14, 1, [.t 2],
 (.seq (.reg [⟨(some 2), (.mov (.k (.str []))), none⟩])
 (.seq (.reg [⟨(some 4), (.mov (.t 0)), none⟩,
 ⟨(some 5), (.cvi .u64 (.t 4)), none⟩,
 ⟨(some 6), (.call (.k (.fn (.func 67) [] [])) [(.t 5)]), none⟩,
 ⟨(some 3), (.mov (.t 6)), none⟩])
 (.seq (.reg [⟨(some 7), (.mov (.t 3)), none⟩,
 ⟨(some 8), (.len .str (.t 7)), none⟩,
 ⟨(some 9), (.bin .sub .num (.k (.int .i64 28)) (.t 8)), none⟩,
 ⟨(some 10), (.call (.k (.fn (.func 177) [] [])) [(.k (.str [0])), (.t 9)]), none⟩,
 ⟨(some 11), (.bin .add .str (.k (.str [116, 101, 114, 109])) (.t 10)), none⟩,
 ⟨(some 12), (.mov (.t 3)), none⟩,
 ⟨(some 13), (.bin .add .str (.t 11) (.t 12)), none⟩,
 ⟨(some 2), (.mov (.t 13)), none⟩])
 .ret)))⟩

/-- 147: (*strings.Builder).Write -/
def F147 : Fun :=
 ⟨19, 2, [.t 4, .t 5],
 (.seq (.reg [⟨(some 4), (.mov (.k (.int .i64 0))), none⟩,
 ⟨(some 5), (.mov (.k .nifc)), none⟩])
 (.seq (.reg [⟨(some 6), (.mov (.t 0)), none⟩,
 ⟨(some 7), (.call (.k (.fn (.func 178) [] [])) [(.t 6)]), none⟩])
 (.seq (.reg [⟨(some 8), (.mov (.t 0)), none⟩,
 ⟨(some 9), (.mov (.t 0)), none⟩,
 ⟨(some 10), (.nilck (.t 9)), none⟩,
 ⟨(some 11), (.fad 1 (.t 10)), none⟩,
 ⟨(some 12), (.load 1 false (.t 11)), none⟩,
 ⟨(some 13), (.mov (.t 1)), none⟩,
 ⟨(some 14), (.app 1 1 false (some 5) (.t 12) (.t 13)), none⟩,
 ⟨(some 15), (.nilck (.t 8)), none⟩,
 ⟨(some 16), (.fad 1 (.t 15)), none⟩,
 ⟨none, (.store 1 (.t 16) (.t 14)), none⟩])
 (.seq (.reg [⟨(some 17), (.mov (.t 1)), none⟩,
 ⟨(some 18), (.len .slc (.t 17)), none⟩,
 ⟨(some 4), (.mov (.t 18)), none⟩,
 ⟨(some 5), (.mov (.k .nifc)), none⟩])
 .ret))))⟩

/-- 148: (*strings.Builder).WriteString -/
def F148 : Fun :=
 ⟨19, 2, [.t 4, .t 5],
 (.seq (.reg [⟨(some 4), (.mov (.k (.int .i64 0))), none⟩,
 ⟨(some 5), (.mov (.k .nifc)), none⟩])
 (.seq (.reg [⟨(some 6), (.mov (.t 0)), none⟩,
 ⟨(some 7), (.call (.k (.fn (.func 178) [] [])) [(.t 6)]), none⟩])
 (.seq (.reg [⟨(some 8), (.mov (.t 0)), none⟩,
 ⟨(some 9), (.mov (.t 0)), none⟩,
 ⟨(some 10), (.nilck (.t 9)), none⟩,
 ⟨(some 11), (.fad 1 (.t 10)), none⟩,
 ⟨(some 12), (.load 1 false (.t 11)), none⟩,
 ⟨(some 13), (.mov (.t 1)), none⟩,
 ⟨(some 14), (.app 1 1 false (some 5) (.t 12) (.t 13)), none⟩,
 ⟨(some 15), (.nilck (.t 8)), none⟩,
 ⟨(some 16), (.fad 1 (.t 15)), none⟩,
 ⟨none, (.store 1 (.t 16) (.t 14)), none⟩])
 (.seq (.reg [⟨(some 17), (.mov (.t 1)), none⟩,
 ⟨(some 18), (.len .str (.t 17)), none⟩,
 ⟨(some 4), (.mov (.t 18)), none⟩,
 ⟨(some 5), (.mov (.k .nifc)), none⟩])
 .ret))))⟩

/-- 149: (*strings.Builder).Len -/
def F149 : Fun :=
 ⟨8, 1, [.t 2],
 (.seq (.reg [⟨(some 2), (.mov (.k (.int .i64 0))), none⟩])
 (.seq (.reg [⟨(some 3), (.mov (.t 0)), none⟩,
 ⟨(some 4), (.nilck (.t 3)), none⟩,
 ⟨(some 5), (.fad 1 (.t 4)), none⟩,
 ⟨(some 6), (.load 1 false (.t 5)), none⟩,
 ⟨(some 7), (.len .slc (.t 6)), none⟩,
 ⟨(some 2), (.mov (.t 7)), none⟩])
 .ret))⟩

/-- 150: (*strings.Builder).String -/
def F150 : Fun :=
 ⟨14, 1, [.t 2],
 (.seq (.reg [⟨(some 2), (.mov (.k (.str []))), none⟩])
 (.seq (.dreg [⟨(some 3), (.mov (.t 0)), none⟩,
 ⟨(some 4), (.nilck (.t 3)), none⟩,
 ⟨(some 5), (.fad 1 (.t 4)), none⟩,
 ⟨(some 6), (.load 1 false (.t 5)), none⟩,
 ⟨(some 7), (.sld (.t 6)), none⟩,
 ⟨(some 8), (.mov (.t 0)), none⟩,
 ⟨(some 9), (.nilck (.t 8)), none⟩,
 ⟨(some 10), (.fad 1 (.t 9)), none⟩,
 ⟨(some 11), (.load 1 false (.t 10)), none⟩,
 ⟨(some 12), (.len .slc (.t 11)), none⟩,
 ⟨(some 13), (.ustr 5 (.t 7) (.t 12)), none⟩,
 ⟨(some 2), (.mov (.t 13)), none⟩] (.free 0 (.free 1 (.free 2 (.free 5 (.free 6 (.free 7 (.cho 3 (.free 4 (.cho 8 (.free 9 (.cho 10 (.free 11 .done) .nope)) .nope)) (.cho 8 (.free 9 (.cho 3 (.free 4 (.cho 10 (.free 11 .done) .nope)) .nope)) .nope)))))))))
 .ret))⟩

/-- 151: internal/stringslite.HasPrefix -/
def F151 : Fun :=
 ⟨18, 2, [.t 4],
 (.seq (.reg [⟨(some 4), (.mov (.k (.bool false))), none⟩])
 (.seq (.reg [⟨(some 5), (.mov (.t 0)), none⟩,
 ⟨(some 6), (.len .str (.t 5)), none⟩,
 ⟨(some 7), (.mov (.t 1)), none⟩,
 ⟨(some 8), (.len .str (.t 7)), none⟩,
 ⟨(some 9), (.bin .geq .num (.t 6) (.t 8)), none⟩,
 ⟨(some 10), (.mov (.t 9)), none⟩,
 ⟨(some 11), (.mov (.t 0)), some (10, true)⟩,
 ⟨(some 12), (.mov (.t 1)), some (10, true)⟩,
 ⟨(some 13), (.len .str (.t 12)), some (10, true)⟩,
 ⟨(some 14), (.slc true 0 (.t 11) none (some (.t 13)) none), some (10, true)⟩,
 ⟨(some 15), (.mov (.t 1)), some (10, true)⟩,
 ⟨(some 16), (.bin .eql .str (.t 14) (.t 15)), some (10, true)⟩,
 ⟨(some 17), (.pick (.t 10) (.t 16) (.k (.bool false))), none⟩,
 ⟨(some 4), (.mov (.t 17)), none⟩])
 .ret))⟩

/-- 159: signetring/mix.Begin -/
def F159 : Fun :=
 ⟨25, 2, [.c 4 4 true],
 (.seq (.reg [⟨(some 4), (.new [(.str []), (.str []), (.str []), (.int .u64 0)] none), none⟩])
 (.seq (.block 0
 (.seq (.reg [⟨(some 12), (.mov (.t 0)), none⟩,
 ⟨(some 13), (.bin .eql .ifc (.t 12) (.k .nifc)), none⟩,
 ⟨(some 11), (.mov (.t 13)), none⟩])
 (.cond (.t 11)
 (.seq (.reg [⟨(some 14), (.build [(.str []), (.str []), (.str []), (.int .u64 0)] []), none⟩,
 ⟨none, (.store 4 (.t 4) (.t 14)), none⟩])
 .ret)
 (.seq (.reg [⟨(some 16), (.mov (.t 1)), none⟩,
 ⟨(some 17), (.len .str (.t 16)), none⟩,
 ⟨(some 18), (.bin .gtr .num (.t 17) (.k (.int .i64 32))), none⟩,
 ⟨(some 15), (.mov (.t 18)), none⟩])
 (.cond (.t 15)
 (.reg [⟨(some 19), (.mov (.t 0)), none⟩,
 ⟨(some 20), (.mov (.t 1)), none⟩,
 ⟨(some 21), (.inv (.t 19) "Hash" [(.t 20), (.k (.str []))]), none⟩,
 ⟨(some 1), (.mov (.t 21)), none⟩])
 (.reg [⟨(some 5), (.mov (.t 1)), none⟩,
 ⟨(some 6), (.mov (.t 1)), none⟩,
 ⟨(some 7), (.len .str (.t 6)), none⟩,
 ⟨(some 8), (.bin .sub .num (.k (.int .i64 32)) (.t 7)), none⟩,
 ⟨(some 9), (.call (.k (.fn (.func 177) [] [])) [(.k (.str [0])), (.t 8)]), none⟩,
 ⟨(some 10), (.bin .add .str (.t 5) (.t 9)), none⟩,
 ⟨(some 1), (.mov (.t 10)), none⟩]))))))
 (.seq (.reg [⟨(some 22), (.mov (.t 1)), none⟩,
 ⟨(some 23), (.mov (.t 1)), none⟩,
 ⟨(some 24), (.build [(.str []), (.str []), (.str []), (.int .u64 0)] [(0, 1, (.t 22)), (1, 1, (.t 23))]), none⟩,
 ⟨none, (.store 4 (.t 4) (.t 24)), none⟩])
 .ret)))⟩

/-- 160: signetring/mix.Hash -/
def F160 : Fun :=
 ⟨17, 3, [.c 6 4 true],
 (.seq (.reg [⟨(some 4), (.box none (.t 1)), none⟩,
 ⟨(some 6), (.new [(.str []), (.str []), (.str []), (.int .u64 0)] none), none⟩])
 (.seq (.seq (.reg [⟨(some 7), (.mov (.t 0)), none⟩,
 ⟨(some 8), (.bin .eql .ifc (.t 7) (.k .nifc)), none⟩])
 (.cond (.t 8)
 (.seq (.reg [⟨(some 9), (.build [(.str []), (.str []), (.str []), (.int .u64 0)] []), none⟩,
 ⟨none, (.store 4 (.t 6) (.t 9)), none⟩])
 .ret)
 .skip))
 (.seq (.reg [⟨(some 10), (.mov (.t 0)), none⟩,
 ⟨(some 11), (.fad 1 (.t 4)), none⟩,
 ⟨(some 12), (.load 1 false (.t 11)), none⟩,
 ⟨(some 13), (.mov (.t 2)), none⟩,
 ⟨(some 14), (.inv (.t 10) "Hash" [(.t 12), (.t 13)]), none⟩,
 ⟨(some 15), (.fad 1 (.t 4)), none⟩,
 ⟨none, (.store 1 (.t 15) (.t 14)), none⟩])
 (.seq (.reg [⟨(some 16), (.load 4 true (.t 4)), none⟩,
 ⟨none, (.store 4 (.t 6) (.t 16)), none⟩])
 .ret))))⟩

/-- 161: signetring/mix.Key -/
def F161 : Fun :=
 ⟨29, 3, [.c 6 4 true],
 (.seq (.reg [⟨(some 4), (.box none (.t 1)), none⟩,
 ⟨(some 6), (.new [(.str []), (.str []), (.str []), (.int .u64 0)] none), none⟩])
 (.seq (.seq (.reg [⟨(some 8), (.mov (.t 0)), none⟩,
 ⟨(some 9), (.bin .eql .ifc (.t 8) (.k .nifc)), none⟩])
 (.cond (.t 9)
 (.seq (.reg [⟨(some 10), (.build [(.str []), (.str []), (.str []), (.int .u64 0)] []), none⟩,
 ⟨none, (.store 4 (.t 6) (.t 10)), none⟩])
 .ret)
 .skip))
 (.seq (.seq (.reg [⟨(some 11), (.mov (.t 0)), none⟩,
 ⟨(some 12), (.fad 0 (.t 4)), none⟩,
 ⟨(some 13), (.load 1 false (.t 12)), none⟩,
 ⟨(some 14), (.mov (.t 2)), none⟩,
 ⟨(some 15), (.inv (.t 11) "Keys" [(.t 13), (.t 14), (.k (.int .i64 2))]), none⟩,
 ⟨(some 7), (.mov (.t 15)), none⟩])
 (.seq (.reg [⟨(some 16), (.mov (.t 7)), none⟩,
 ⟨(some 17), (.len .slc (.t 16)), none⟩,
 ⟨(some 18), (.bin .eql .num (.t 17) (.k (.int .i64 2))), none⟩])
 (.cond (.t 18)
 (.dreg [⟨(some 19), (.mov (.t 7)), none⟩,
 ⟨(some 20), (.iad 1 (.t 19) (.k (.int .i64 0))), none⟩,
 ⟨(some 21), (.load 1 false (.t 20)), none⟩,
 ⟨(some 22), (.mov (.t 7)), none⟩,
 ⟨(some 23), (.iad 1 (.t 22) (.k (.int .i64 1))), none⟩,
 ⟨(some 24), (.load 1 false (.t 23)), none⟩,
 ⟨(some 25), (.build [(.str []), (.int .u64 0)] [(0, 1, (.t 24))]), none⟩,
 ⟨(some 26), (.fad 0 (.t 4)), none⟩,
 ⟨none, (.store 1 (.t 26) (.t 21)), none⟩,
 ⟨(some 27), (.fad 2 (.t 4)), none⟩,
 ⟨none, (.store 2 (.t 27) (.t 25)), none⟩] (.lin [] [(0, none), (1, none), (2, none), (3, none), (4, none), (5, none), (6, none), (7, none), (8, some [3, 4, 5, 6]), (9, none), (10, some [])]))
 .skip)))
 (.seq (.reg [⟨(some 28), (.load 4 true (.t 4)), none⟩,
 ⟨none, (.store 4 (.t 6) (.t 28)), none⟩])
 .ret))))⟩

/-- 162: signetring/mix.Seal -/
def F162 : Fun :=
 ⟨29, 3, [.c 6 4 true, .t 7, .t 8],
 (.seq (.reg [⟨(some 4), (.box none (.t 1)), none⟩,
 ⟨(some 6), (.new [(.str []), (.str []), (.str []), (.int .u64 0)] none), none⟩,
 ⟨(some 7), (.mov (.k (.str []))), none⟩,
 ⟨(some 8), (.mov (.k (.int .i64 0))), none⟩])
 (.seq (.reg [⟨(some 13), (.load 4 true (.t 4)), none⟩,
 ⟨(some 14), (.mov (.t 0)), none⟩,
 ⟨(some 15), (.mov (.t 2)), none⟩,
 ⟨(some 16), (.call (.k (.fn (.func 183) [] [])) [(.t 13), (.t 14), (.t 15), (.k (.fn (.func 184) [] []))]), none⟩,
 ⟨(some 12), (.mov (.t 16)), none⟩,
 ⟨(some 17), (.ext (.t 12) 0), none⟩,
 ⟨(some 18), (.ext (.t 12) 1), none⟩,
 ⟨(some 19), (.ext (.t 12) 2), none⟩,
 ⟨(some 9), (.new [(.str []), (.str []), (.str []), (.int .u64 0)] none), none⟩,
 ⟨none, (.store 4 (.t 9) (.t 17)), none⟩,
 ⟨(some 10), (.mov (.t 18)), none⟩,
 ⟨(some 11), (.mov (.t 19)), none⟩])
 (.seq (.seq (.reg [⟨(some 20), (.mov (.t 11)), none⟩,
 ⟨(some 21), (.bin .neq .num (.t 20) (.k (.int .i64 0))), none⟩])
 (.cond (.t 21)
 (.seq (.reg [⟨(some 22), (.load 4 true (.t 9)), none⟩,
 ⟨(some 23), (.mov (.t 11)), none⟩,
 ⟨none, (.store 4 (.t 6) (.t 22)), none⟩,
 ⟨(some 7), (.mov (.k (.str []))), none⟩,
 ⟨(some 8), (.mov (.t 23)), none⟩])
 .ret)
 .skip))
 (.seq (.reg [⟨(some 24), (.mov (.t 0)), none⟩,
 ⟨(some 25), (.load 4 true (.t 9)), none⟩,
 ⟨(some 26), (.mov (.t 10)), none⟩,
 ⟨(some 27), (.call (.k (.fn (.func 160) [] [])) [(.t 24), (.t 25), (.t 26)]), none⟩,
 ⟨(some 28), (.mov (.t 10)), none⟩,
 ⟨none, (.store 4 (.t 6) (.t 27)), none⟩,
 ⟨(some 7), (.mov (.t 28)), none⟩,
 ⟨(some 8), (.mov (.k (.int .i64 0))), none⟩])
 .ret))))⟩

/-- 163: (*signetring/ratchet.State).mixed -/
def F163 : Fun :=
 ⟨45, 2, [.t 4, .t 5, .t 6],
 (.seq (.reg [⟨(some 4), (.mov (.k (.str []))), none⟩,
 ⟨(some 5), (.mov (.k (.str []))), none⟩,
 ⟨(some 6), (.mov (.k (.int .i64 0))), none⟩])
 (.seq (.dreg [⟨(some 10), (.mov (.t 1)), none⟩,
 ⟨(some 11), (.mov (.t 0)), none⟩,
 ⟨(some 12), (.nilck (.t 11)), none⟩,
 ⟨(some 13), (.fad 0 (.t 12)), none⟩,
 ⟨(some 14), (.load 1 false (.t 13)), none⟩,
 ⟨(some 15), (.mov (.t 0)), none⟩,
 ⟨(some 16), (.nilck (.t 15)), none⟩,
 ⟨(some 17), (.fad 1 (.t 16)), none⟩,
 ⟨(some 18), (.load 1 false (.t 17)), none⟩,
 ⟨(some 19), (.mkf (.method "Dh") [(.t 10)] []), none⟩,
 ⟨(some 20), (.nilck (.t 19)), none⟩,
 ⟨(some 21), (.mov (.t 10)), none⟩,
 ⟨(some 22), (.inv (.t 21) "Dh" [(.t 14), (.t 18)]), none⟩,
 ⟨(some 9), (.mov (.t 22)), none⟩,
 ⟨(some 23), (.ext (.t 9) 0), none⟩,
 ⟨(some 24), (.ext (.t 9) 1), none⟩,
 ⟨(some 7), (.mov (.t 23)), none⟩,
 ⟨(some 8), (.mov (.t 24)), none⟩] (.lin [] [(0, none), (1, none), (2, none), (3, none), (4, none), (5, none), (6, none), (7, none), (8, none), (9, none), (10, none), (11, none), (12, some []), (13, none), (14, none), (15, none), (16, none), (17, none)]))
 (.seq (.seq (.reg [⟨(some 25), (.mov (.t 8)), none⟩,
 ⟨(some 26), (.un .not (.t 25)), none⟩])
 (.cond (.t 26)
 (.seq (.reg [⟨(some 4), (.mov (.k (.str []))), none⟩,
 ⟨(some 5), (.mov (.k (.str []))), none⟩,
 ⟨(some 6), (.mov (.k (.int .i64 6))), none⟩])
 .ret)
 .skip))
 (.seq (.reg [⟨(some 28), (.mov (.t 0)), none⟩,
 ⟨(some 29), (.mov (.t 1)), none⟩,
 ⟨(some 30), (.mov (.t 0)), none⟩,
 ⟨(some 31), (.nilck (.t 30)), none⟩,
 ⟨(some 32), (.fad 2 (.t 31)), none⟩,
 ⟨(some 33), (.load 1 false (.t 32)), none⟩,
 ⟨(some 34), (.mov (.t 7)), none⟩,
 ⟨(some 35), (.call (.k (.fn (.func 185) [] [])) [(.t 29), (.t 33), (.t 34)]), none⟩,
 ⟨(some 27), (.mov (.t 35)), none⟩,
 ⟨(some 36), (.ext (.t 27) 0), none⟩,
 ⟨(some 37), (.ext (.t 27) 1), none⟩,
 ⟨(some 38), (.ext (.t 27) 2), none⟩,
 ⟨(some 39), (.ext (.t 27) 3), none⟩,
 ⟨(some 40), (.nilck (.t 28)), none⟩,
 ⟨(some 41), (.fad 2 (.t 40)), none⟩,
 ⟨none, (.store 1 (.t 41) (.t 36)), none⟩,
 ⟨(some 4), (.mov (.t 37)), none⟩,
 ⟨(some 5), (.mov (.t 38)), none⟩,
 ⟨(some 6), (.mov (.t 39)), none⟩])
 (.seq (.reg [⟨(some 42), (.mov (.t 4)), none⟩,
 ⟨(some 43), (.mov (.t 5)), none⟩,
 ⟨(some 44), (.mov (.t 6)), none⟩,
 ⟨(some 4), (.mov (.t 42)), none⟩,
 ⟨(some 5), (.mov (.t 43)), none⟩,
 ⟨(some 6), (.mov (.t 44)), none⟩])
 .ret)))))⟩

/-- 164: slices.pdqsortOrdered[string] -/
def F164 : Fun :=
 ⟨134, 4, [],
 (.seq (.reg [⟨(some 8), (.mov (.k (.bool true))), none⟩])
 (.seq (.reg [⟨(some 9), (.mov (.k (.bool true))), none⟩])
 (.block 0
 (.loop
 (.block 1
 (.seq (.reg [⟨(some 19), (.mov (.t 2)), none⟩,
 ⟨(some 20), (.mov (.t 1)), none⟩,
 ⟨(some 21), (.bin .sub .num (.t 19) (.t 20)), none⟩,
 ⟨(some 10), (.mov (.t 21)), none⟩])
 (.seq (.seq (.reg [⟨(some 22), (.mov (.t 10)), none⟩,
 ⟨(some 23), (.bin .leq .num (.t 22) (.k (.int .i64 12))), none⟩])
 (.cond (.t 23)
 (.seq (.reg [⟨(some 24), (.mov (.t 0)), none⟩,
 ⟨(some 25), (.mov (.t 1)), none⟩,
 ⟨(some 26), (.mov (.t 2)), none⟩,
 ⟨(some 27), (.call (.k (.fn (.func 186) [] [])) [(.t 24), (.t 25), (.t 26)]), none⟩])
 .ret)
 .skip))
 (.seq (.seq (.reg [⟨(some 28), (.mov (.t 3)), none⟩,
 ⟨(some 29), (.bin .eql .num (.t 28) (.k (.int .i64 0))), none⟩])
 (.cond (.t 29)
 (.seq (.reg [⟨(some 30), (.mov (.t 0)), none⟩,
 ⟨(some 31), (.mov (.t 1)), none⟩,
 ⟨(some 32), (.mov (.t 2)), none⟩,
 ⟨(some 33), (.call (.k (.fn (.func 187) [] [])) [(.t 30), (.t 31), (.t 32)]), none⟩])
 .ret)
 .skip))
 (.seq (.seq (.reg [⟨(some 34), (.mov (.t 8)), none⟩,
 ⟨(some 35), (.un .not (.t 34)), none⟩])
 (.cond (.t 35)
 (.seq (.reg [⟨(some 36), (.mov (.t 0)), none⟩,
 ⟨(some 37), (.mov (.t 1)), none⟩,
 ⟨(some 38), (.mov (.t 2)), none⟩,
 ⟨(some 39), (.call (.k (.fn (.func 188) [] [])) [(.t 36), (.t 37), (.t 38)]), none⟩])
 (.reg [⟨(some 40), (.mov (.t 3)), none⟩,
 ⟨(some 41), (.bin .sub .num (.t 40) (.k (.int .i64 1))), none⟩,
 ⟨(some 3), (.mov (.t 41)), none⟩]))
 .skip))
 (.seq (.reg [⟨(some 43), (.mov (.t 0)), none⟩,
 ⟨(some 44), (.mov (.t 1)), none⟩,
 ⟨(some 45), (.mov (.t 2)), none⟩,
 ⟨(some 46), (.call (.k (.fn (.func 189) [] [])) [(.t 43), (.t 44), (.t 45)]), none⟩,
 ⟨(some 42), (.mov (.t 46)), none⟩,
 ⟨(some 47), (.ext (.t 42) 0), none⟩,
 ⟨(some 48), (.ext (.t 42) 1), none⟩,
 ⟨(some 11), (.mov (.t 47)), none⟩,
 ⟨(some 12), (.mov (.t 48)), none⟩])
 (.seq (.seq (.reg [⟨(some 49), (.mov (.t 12)), none⟩,
 ⟨(some 50), (.bin .eql .num (.t 49) (.k (.int .i64 2))), none⟩])
 (.cond (.t 50)
 (.seq (.reg [⟨(some 51), (.mov (.t 0)), none⟩,
 ⟨(some 52), (.mov (.t 1)), none⟩,
 ⟨(some 53), (.mov (.t 2)), none⟩,
 ⟨(some 54), (.call (.k (.fn (.func 190) [] [])) [(.t 51), (.t 52), (.t 53)]), none⟩])
 (.seq (.reg [⟨(some 55), (.mov (.t 2)), none⟩,
 ⟨(some 56), (.bin .sub .num (.t 55) (.k (.int .i64 1))), none⟩,
 ⟨(some 57), (.mov (.t 11)), none⟩,
 ⟨(some 58), (.mov (.t 1)), none⟩,
 ⟨(some 59), (.bin .sub .num (.t 57) (.t 58)), none⟩,
 ⟨(some 60), (.bin .sub .num (.t 56) (.t 59)), none⟩,
 ⟨(some 11), (.mov (.t 60)), none⟩])
 (.reg [⟨(some 12), (.mov (.k (.int .i64 1))), none⟩])))
 .skip))
 (.seq (.seq (.reg [⟨(some 61), (.mov (.t 8)), none⟩,
 ⟨(some 62), (.mov (.t 61)), none⟩,
 ⟨(some 63), (.mov (.t 9)), some (62, true)⟩,
 ⟨(some 64), (.pick (.t 62) (.t 63) (.k (.bool false))), none⟩,
 ⟨(some 65), (.mov (.t 64)), none⟩,
 ⟨(some 66), (.mov (.t 12)), some (65, true)⟩,
 ⟨(some 67), (.bin .eql .num (.t 66) (.k (.int .i64 1))), some (65, true)⟩,
 ⟨(some 68), (.pick (.t 65) (.t 67) (.k (.bool false))), none⟩])
 (.cond (.t 68)
 (.seq (.reg [⟨(some 69), (.mov (.t 0)), none⟩,
 ⟨(some 70), (.mov (.t 1)), none⟩,
 ⟨(some 71), (.mov (.t 2)), none⟩,
 ⟨(some 72), (.call (.k (.fn (.func 191) [] [])) [(.t 69), (.t 70), (.t 71)]), none⟩])
 (.cond (.t 72)
 .ret
 .skip))
 .skip))
 (.seq (.seq (.dreg [⟨(some 73), (.mov (.t 1)), none⟩,
 ⟨(some 74), (.bin .gtr .num (.t 73) (.k (.int .i64 0))), none⟩,
 ⟨(some 75), (.mov (.t 74)), none⟩,
 ⟨(some 76), (.mov (.t 0)), some (75, true)⟩,
 ⟨(some 77), (.mov (.t 1)), some (75, true)⟩,
 ⟨(some 78), (.bin .sub .num (.t 77) (.k (.int .i64 1))), some (75, true)⟩,
 ⟨(some 79), (.iad 1 (.t 76) (.t 78)), some (75, true)⟩,
 ⟨(some 80), (.load 1 false (.t 79)), some (75, true)⟩,
 ⟨(some 81), (.mov (.t 0)), some (75, true)⟩,
 ⟨(some 82), (.mov (.t 11)), some (75, true)⟩,
 ⟨(some 83), (.iad 1 (.t 81) (.t 82)), some (75, true)⟩,
 ⟨(some 84), (.load 1 false (.t 83)), some (75, true)⟩,
 ⟨(some 85), (.call (.k (.fn (.func 192) [] [])) [(.t 80), (.t 84)]), some (75, true)⟩,
 ⟨(some 86), (.un .not (.t 85)), some (75, true)⟩,
 ⟨(some 87), (.pick (.t 75) (.t 86) (.k (.bool false))), none⟩] (.lin [] [(0, none), (1, none), (2, none), (3, none), (4, none), (5, none), (6, none), (7, none), (8, none), (9, none), (10, none), (11, none), (12, some []), (13, none), (14, none)]))
 (.cond (.t 87)
 (.seq (.reg [⟨(some 88), (.mov (.t 0)), none⟩,
 ⟨(some 89), (.mov (.t 1)), none⟩,
 ⟨(some 90), (.mov (.t 2)), none⟩,
 ⟨(some 91), (.mov (.t 11)), none⟩,
 ⟨(some 92), (.call (.k (.fn (.func 193) [] [])) [(.t 88), (.t 89), (.t 90), (.t 91)]), none⟩,
 ⟨(some 13), (.mov (.t 92)), none⟩])
 (.seq (.reg [⟨(some 93), (.mov (.t 13)), none⟩,
 ⟨(some 1), (.mov (.t 93)), none⟩])
 (.exit 1)))
 .skip))
 (.seq (.reg [⟨(some 95), (.mov (.t 0)), none⟩,
 ⟨(some 96), (.mov (.t 1)), none⟩,
 ⟨(some 97), (.mov (.t 2)), none⟩,
 ⟨(some 98), (.mov (.t 11)), none⟩,
 ⟨(some 99), (.call (.k (.fn (.func 194) [] [])) [(.t 95), (.t 96), (.t 97), (.t 98)]), none⟩,
 ⟨(some 94), (.mov (.t 99)), none⟩,
 ⟨(some 100), (.ext (.t 94) 0), none⟩,
 ⟨(some 101), (.ext (.t 94) 1), none⟩,
 ⟨(some 14), (.mov (.t 100)), none⟩,
 ⟨(some 15), (.mov (.t 101)), none⟩])
 (.seq (.reg [⟨(some 102), (.mov (.t 15)), none⟩,
 ⟨(some 9), (.mov (.t 102)), none⟩])
 (.seq (.reg [⟨(some 103), (.mov (.t 14)), none⟩,
 ⟨(some 104), (.mov (.t 1)), none⟩,
 ⟨(some 105), (.bin .sub .num (.t 103) (.t 104)), none⟩,
 ⟨(some 106), (.mov (.t 2)), none⟩,
 ⟨(some 107), (.mov (.t 14)), none⟩,
 ⟨(some 108), (.bin .sub .num (.t 106) (.t 107)), none⟩,
 ⟨(some 16), (.mov (.t 105)), none⟩,
 ⟨(some 17), (.mov (.t 108)), none⟩])
 (.seq (.reg [⟨(some 109), (.mov (.t 10)), none⟩,
 ⟨(some 110), (.bin .quo .num (.t 109) (.k (.int .i64 8))), none⟩,
 ⟨(some 18), (.mov (.t 110)), none⟩])
 (.seq (.reg [⟨(some 111), (.mov (.t 16)), none⟩,
 ⟨(some 112), (.mov (.t 17)), none⟩,
 ⟨(some 113), (.bin .lss .num (.t 111) (.t 112)), none⟩])
 (.cond (.t 113)
 (.seq (.reg [⟨(some 114), (.mov (.t 16)), none⟩,
 ⟨(some 115), (.mov (.t 18)), none⟩,
 ⟨(some 116), (.bin .geq .num (.t 114) (.t 115)), none⟩,
 ⟨(some 8), (.mov (.t 116)), none⟩])
 (.seq (.reg [⟨(some 117), (.mov (.t 0)), none⟩,
 ⟨(some 118), (.mov (.t 1)), none⟩,
 ⟨(some 119), (.mov (.t 14)), none⟩,
 ⟨(some 120), (.mov (.t 3)), none⟩,
 ⟨(some 121), (.call (.k (.fn (.func 164) [] [])) [(.t 117), (.t 118), (.t 119), (.t 120)]), none⟩])
 (.reg [⟨(some 122), (.mov (.t 14)), none⟩,
 ⟨(some 123), (.bin .add .num (.t 122) (.k (.int .i64 1))), none⟩,
 ⟨(some 1), (.mov (.t 123)), none⟩])))
 (.seq (.reg [⟨(some 124), (.mov (.t 17)), none⟩,
 ⟨(some 125), (.mov (.t 18)), none⟩,
 ⟨(some 126), (.bin .geq .num (.t 124) (.t 125)), none⟩,
 ⟨(some 8), (.mov (.t 126)), none⟩])
 (.seq (.reg [⟨(some 127), (.mov (.t 0)), none⟩,
 ⟨(some 128), (.mov (.t 14)), none⟩,
 ⟨(some 129), (.bin .add .num (.t 128) (.k (.int .i64 1))), none⟩,
 ⟨(some 130), (.mov (.t 2)), none⟩,
 ⟨(some 131), (.mov (.t 3)), none⟩,
 ⟨(some 132), (.call (.k (.fn (.func 164) [] [])) [(.t 127), (.t 129), (.t 130), (.t 131)]), none⟩])
 (.reg [⟨(some 133), (.mov (.t 14)), none⟩,
 ⟨(some 2), (.mov (.t 133)), none⟩]))))))))))))))))))))))⟩

/-- 165: math/bits.Len -/
def F165 : Fun :=
 ⟨8, 1, [.t 2],
 (.seq (.reg [⟨(some 2), (.mov (.k (.int .i64 0))), none⟩])
 (.seq (.cond (.k (.bool false))
 (.seq (.reg [⟨(some 3), (.mov (.t 0)), none⟩,
 ⟨(some 4), (.cvi .u32 (.t 3)), none⟩,
 ⟨(some 5), (.call (.k (.fn (.func 195) [] [])) [(.t 4)]), none⟩,
 ⟨(some 2), (.mov (.t 5)), none⟩])
 .ret)
 .skip)
 (.seq (.reg [⟨(some 6), (.mov (.t 0)), none⟩,
 ⟨(some 7), (.call (.k (.fn (.func 196) [] [])) [(.t 6)]), none⟩,
 ⟨(some 2), (.mov (.t 7)), none⟩])
 .ret)))⟩

/-- 166: signetring/codec.caught -/
def F166 : Fun :=
 ⟨14, 1, [],
 (.seq (.reg [⟨(some 5), .recov, none⟩])
 (.block 0
 (.seq (.reg [⟨(some 7), (.bin .eql .ifc (.t 5) (.k .nifc)), none⟩])
 (.cond (.t 7)
 (.reg [⟨(some 2), (.mov (.t 5)), none⟩])
 (.seq (.reg [⟨(some 8), (.asrt 48 (.int .i64 0) (.t 5) true), none⟩,
 ⟨(some 9), (.ext (.t 8) 1), none⟩,
 ⟨(some 10), (.ext (.t 8) 0), none⟩])
 (.cond (.t 9)
 (.seq (.reg [⟨(some 3), (.mov (.t 10)), none⟩])
 (.reg [⟨(some 11), (.mov (.t 0)), none⟩,
 ⟨(some 12), (.mov (.t 3)), none⟩,
 ⟨(some 13), (.nilck (.t 11)), none⟩,
 ⟨none, (.store 1 (.t 13) (.t 12)), none⟩]))
 (.seq (.reg [⟨(some 4), (.mov (.t 5)), none⟩])
 (.reg [⟨(some 6), (.mov (.t 4)), none⟩,
 ⟨none, (.pan (.t 6)), none⟩]))))))))⟩

/-- 167: signetring/codec.need -/
def F167 : Fun :=
 ⟨5, 1, [],
 (.seq (.reg [⟨(some 2), (.mov (.t 0)), none⟩,
 ⟨(some 3), (.un .not (.t 2)), none⟩])
 (.cond (.t 3)
 (.reg [⟨(some 4), (.mki 48 (.k (.int .i64 4))), none⟩,
 ⟨none, (.pan (.t 4)), none⟩])
 .skip))⟩

/-- 168: (*signetring/codec.reader).byte -/
def F168 : Fun :=
 ⟨7, 1, [.t 2],
 (.seq (.reg [⟨(some 2), (.mov (.k (.int .i64 0))), none⟩])
 (.seq (.reg [⟨(some 3), (.mov (.t 0)), none⟩,
 ⟨(some 4), (.call (.k (.fn (.func 169) [] [])) [(.t 3), (.k (.int .i64 1))]), none⟩,
 ⟨(some 5), (.idxs (.t 4) (.k (.int .i64 0))), none⟩,
 ⟨(some 6), (.cvi .i64 (.t 5)), none⟩,
 ⟨(some 2), (.mov (.t 6)), none⟩])
 .ret))⟩

/-- 169: (*signetring/codec.reader).take -/
def F169 : Fun :=
 ⟨30, 2, [.t 4],
 (.seq (.reg [⟨(some 4), (.mov (.k (.str []))), none⟩])
 (.seq (.reg [⟨(some 6), (.mov (.t 1)), none⟩,
 ⟨(some 7), (.mov (.t 0)), none⟩,
 ⟨(some 8), (.nilck (.t 7)), none⟩,
 ⟨(some 9), (.fad 0 (.t 8)), none⟩,
 ⟨(some 10), (.load 1 false (.t 9)), none⟩,
 ⟨(some 11), (.len .str (.t 10)), none⟩,
 ⟨(some 12), (.bin .leq .num (.t 6) (.t 11)), none⟩,
 ⟨(some 13), (.call (.k (.fn (.func 167) [] [])) [(.t 12)]), none⟩])
 (.seq (.reg [⟨(some 5), (.mov (.k (.str []))), none⟩])
 (.seq (.dreg [⟨(some 14), (.mov (.t 0)), none⟩,
 ⟨(some 15), (.mov (.t 0)), none⟩,
 ⟨(some 16), (.nilck (.t 15)), none⟩,
 ⟨(some 17), (.fad 0 (.t 16)), none⟩,
 ⟨(some 18), (.load 1 false (.t 17)), none⟩,
 ⟨(some 19), (.mov (.t 1)), none⟩,
 ⟨(some 20), (.slc true 0 (.t 18) none (some (.t 19)) none), none⟩,
 ⟨(some 21), (.mov (.t 0)), none⟩,
 ⟨(some 22), (.nilck (.t 21)), none⟩,
 ⟨(some 23), (.fad 0 (.t 22)), none⟩,
 ⟨(some 24), (.load 1 false (.t 23)), none⟩,
 ⟨(some 25), (.mov (.t 1)), none⟩,
 ⟨(some 26), (.slc true 0 (.t 24) (some (.t 25)) none none), none⟩,
 ⟨(some 5), (.mov (.t 20)), none⟩,
 ⟨(some 27), (.nilck (.t 14)), none⟩,
 ⟨(some 28), (.fad 0 (.t 27)), none⟩,
 ⟨none, (.store 1 (.t 28) (.t 26)), none⟩] (.free 0 (.free 1 (.free 2 (.free 3 (.free 4 (.free 5 (.free 6 (.free 7 (.free 8 (.free 9 (.free 10 (.free 11 (.free 12 (.free 13 (.free 14 (.free 15 (.cho 16 .done .nope))))))))))))))))))
 (.seq (.reg [⟨(some 29), (.mov (.t 5)), none⟩,
 ⟨(some 4), (.mov (.t 29)), none⟩])
 .ret)))))⟩

/-- 170: signetring/mix.Open -/
def F170 : Fun :=
 ⟨29, 3, [.c 6 4 true, .t 7, .t 8],
 (.seq (.reg [⟨(some 4), (.box none (.t 1)), none⟩,
 ⟨(some 6), (.new [(.str []), (.str []), (.str []), (.int .u64 0)] none), none⟩,
 ⟨(some 7), (.mov (.k (.str []))), none⟩,
 ⟨(some 8), (.mov (.k (.int .i64 0))), none⟩])
 (.seq (.reg [⟨(some 13), (.load 4 true (.t 4)), none⟩,
 ⟨(some 14), (.mov (.t 0)), none⟩,
 ⟨(some 15), (.mov (.t 2)), none⟩,
 ⟨(some 16), (.call (.k (.fn (.func 183) [] [])) [(.t 13), (.t 14), (.t 15), (.k (.fn (.func 197) [] []))]), none⟩,
 ⟨(some 12), (.mov (.t 16)), none⟩,
 ⟨(some 17), (.ext (.t 12) 0), none⟩,
 ⟨(some 18), (.ext (.t 12) 1), none⟩,
 ⟨(some 19), (.ext (.t 12) 2), none⟩,
 ⟨(some 9), (.new [(.str []), (.str []), (.str []), (.int .u64 0)] none), none⟩,
 ⟨none, (.store 4 (.t 9) (.t 17)), none⟩,
 ⟨(some 10), (.mov (.t 18)), none⟩,
 ⟨(some 11), (.mov (.t 19)), none⟩])
 (.seq (.seq (.reg [⟨(some 20), (.mov (.t 11)), none⟩,
 ⟨(some 21), (.bin .neq .num (.t 20) (.k (.int .i64 0))), none⟩])
 (.cond (.t 21)
 (.seq (.reg [⟨(some 22), (.load 4 true (.t 9)), none⟩,
 ⟨(some 23), (.mov (.t 11)), none⟩,
 ⟨none, (.store 4 (.t 6) (.t 22)), none⟩,
 ⟨(some 7), (.mov (.k (.str []))), none⟩,
 ⟨(some 8), (.mov (.t 23)), none⟩])
 .ret)
 .skip))
 (.seq (.reg [⟨(some 24), (.mov (.t 0)), none⟩,
 ⟨(some 25), (.load 4 true (.t 9)), none⟩,
 ⟨(some 26), (.mov (.t 2)), none⟩,
 ⟨(some 27), (.call (.k (.fn (.func 160) [] [])) [(.t 24), (.t 25), (.t 26)]), none⟩,
 ⟨(some 28), (.mov (.t 10)), none⟩,
 ⟨none, (.store 4 (.t 6) (.t 27)), none⟩,
 ⟨(some 7), (.mov (.t 28)), none⟩,
 ⟨(some 8), (.mov (.k (.int .i64 0))), none⟩])
 .ret))))⟩

/-- 171: signetring/skip.Heads -/
def F171 : Fun :=
 ⟨24, 1, [.t 2],
 (.seq (.reg [⟨(some 2), (.mov (.k .nsl)), none⟩])
 (.seq (.reg [⟨(some 3), (.mov (.k .nsl)), none⟩])
 (.seq (.seq (.reg [⟨(some 6), (.mov (.t 0)), none⟩,
 ⟨(some 7), (.len .slc (.t 6)), none⟩,
 ⟨(some 8), (.mov (.k (.int .i64 0))), none⟩])
 (.block 0
 (.loop
 (.seq (.reg [⟨(some 9), (.bin .lss .num (.t 8) (.t 7)), none⟩])
 (.seq (.cond (.t 9)
 .skip
 (.exit 0))
 (.seq (.block 1
 (.seq (.reg [⟨(some 10), (.iad 3 (.t 6) (.t 8)), none⟩,
 ⟨(some 11), (.load 3 true (.t 10)), none⟩,
 ⟨(some 5), (.new [(.str []), (.int .i64 0), (.str [])] none), none⟩,
 ⟨none, (.store 3 (.t 5) (.t 11)), none⟩])
 (.seq (.reg [⟨(some 12), (.mov (.t 3)), none⟩,
 ⟨(some 13), (.fad 0 (.t 5)), none⟩,
 ⟨(some 14), (.load 1 false (.t 13)), none⟩,
 ⟨(some 15), (.call (.k (.fn (.func 198) [] [])) [(.t 12), (.t 14)]), none⟩,
 ⟨(some 16), (.un .not (.t 15)), none⟩])
 (.cond (.t 16)
 (.reg [⟨(some 17), (.mov (.t 3)), none⟩,
 ⟨(some 18), (.fad 0 (.t 5)), none⟩,
 ⟨(some 19), (.load 1 false (.t 18)), none⟩,
 ⟨(some 20), (.mks true 1 16 false [(.str [])] 1 [(0, (.t 19))]), none⟩,
 ⟨(some 21), (.app 1 16 false none (.t 17) (.t 20)), none⟩,
 ⟨(some 3), (.mov (.t 21)), none⟩])
 .skip))))
 (.reg [⟨(some 22), (.bin .add .num (.t 8) (.k (.int .i64 1))), none⟩,
 ⟨(some 8), (.mov (.t 22)), none⟩])))))))
 (.seq (.reg [⟨(some 23), (.mov (.t 3)), none⟩,
 ⟨(some 2), (.mov (.t 23)), none⟩])
 .ret))))⟩

/-- 172: (*signetring/ratchet.letter).reads -/
def F172 : Fun :=
 ⟨93, 2, [.t 4],
 (.seq (.reg [⟨(some 4), (.mov (.k (.bool false))), none⟩])
 (.seq (.seq (.reg [⟨(some 11), (.mov (.t 1)), none⟩,
 ⟨(some 12), (.bin .eql .str (.t 11) (.k (.str []))), none⟩])
 (.cond (.t 12)
 (.seq (.reg [⟨(some 4), (.mov (.k (.bool false))), none⟩])
 .ret)
 .skip))
 (.seq (.dreg [⟨(some 14), (.mov (.t 0)), none⟩,
 ⟨(some 15), (.nilck (.t 14)), none⟩,
 ⟨(some 16), (.fad 0 (.t 15)), none⟩,
 ⟨(some 17), (.load 1 false (.t 16)), none⟩,
 ⟨(some 18), (.mov (.t 1)), none⟩,
 ⟨(some 19), (.mov (.t 0)), none⟩,
 ⟨(some 20), (.nilck (.t 19)), none⟩,
 ⟨(some 21), (.fad 2 (.t 20)), none⟩,
 ⟨(some 22), (.load 1 false (.t 21)), none⟩,
 ⟨(some 23), (.mov (.t 0)), none⟩,
 ⟨(some 24), (.nilck (.t 23)), none⟩,
 ⟨(some 25), (.fad 1 (.t 24)), none⟩,
 ⟨(some 26), (.load 1 false (.t 25)), none⟩,
 ⟨(some 27), (.mov (.t 0)), none⟩,
 ⟨(some 28), (.nilck (.t 27)), none⟩,
 ⟨(some 29), (.fad 3 (.t 28)), none⟩,
 ⟨(some 30), (.load 1 false (.t 29)), none⟩,
 ⟨(some 31), (.nilck (.t 17)), none⟩,
 ⟨(some 32), (.mov (.t 17)), none⟩,
 ⟨(some 33), (.inv (.t 32) "Open" [(.t 18), (.t 22), (.t 26), (.t 30)]), none⟩,
 ⟨(some 13), (.mov (.t 33)), none⟩,
 ⟨(some 34), (.ext (.t 13) 0), none⟩,
 ⟨(some 35), (.ext (.t 13) 1), none⟩,
 ⟨(some 5), (.mov (.t 34)), none⟩,
 ⟨(some 6), (.mov (.t 35)), none⟩] (.lin [] [(0, none), (1, none), (2, none), (3, none), (4, none), (5, none), (6, none), (7, none), (8, none), (9, none), (10, none), (11, none), (12, none), (13, none), (14, none), (15, none), (16, none), (17, none), (18, none), (19, some []), (20, none), (21, none), (22, none), (23, none), (24, none)]))
 (.seq (.seq (.reg [⟨(some 36), (.mov (.t 6)), none⟩,
 ⟨(some 37), (.bin .neq .num (.t 36) (.k (.int .i64 0))), none⟩])
 (.cond (.t 37)
 (.seq (.reg [⟨(some 4), (.mov (.k (.bool false))), none⟩])
 .ret)
 .skip))
 (.seq (.reg [⟨(some 39), (.mov (.t 5)), none⟩,
 ⟨(some 40), (.call (.k (.fn (.func 42) [] [])) [(.t 39), (.k (.int .u8 72)), (.k (.int .i64 3))]), none⟩,
 ⟨(some 38), (.mov (.t 40)), none⟩,
 ⟨(some 41), (.ext (.t 38) 0), none⟩,
 ⟨(some 42), (.ext (.t 38) 1), none⟩,
 ⟨(some 7), (.mov (.t 41)), none⟩,
 ⟨(some 6), (.mov (.t 42)), none⟩])
 (.seq (.seq (.reg [⟨(some 43), (.mov (.t 6)), none⟩,
 ⟨(some 44), (.bin .neq .num (.t 43) (.k (.int .i64 0))), none⟩])
 (.cond (.t 44)
 (.seq (.reg [⟨(some 4), (.mov (.k (.bool false))), none⟩])
 .ret)
 .skip))
 (.seq (.reg [⟨(some 46), (.mov (.t 7)), none⟩,
 ⟨(some 47), (.iad 1 (.t 46) (.k (.int .i64 1))), none⟩,
 ⟨(some 48), (.load 1 false (.t 47)), none⟩,
 ⟨(some 49), (.call (.k (.fn (.func 63) [] [])) [(.t 48)]), none⟩,
 ⟨(some 45), (.mov (.t 49)), none⟩,
 ⟨(some 50), (.ext (.t 45) 0), none⟩,
 ⟨(some 51), (.ext (.t 45) 1), none⟩,
 ⟨(some 8), (.mov (.t 50)), none⟩,
 ⟨(some 6), (.mov (.t 51)), none⟩])
 (.seq (.reg [⟨(some 53), (.mov (.t 7)), none⟩,
 ⟨(some 54), (.iad 1 (.t 53) (.k (.int .i64 2))), none⟩,
 ⟨(some 55), (.load 1 false (.t 54)), none⟩,
 ⟨(some 56), (.call (.k (.fn (.func 63) [] [])) [(.t 55)]), none⟩,
 ⟨(some 52), (.mov (.t 56)), none⟩,
 ⟨(some 57), (.ext (.t 52) 0), none⟩,
 ⟨(some 58), (.ext (.t 52) 1), none⟩,
 ⟨(some 9), (.mov (.t 57)), none⟩,
 ⟨(some 10), (.mov (.t 58)), none⟩])
 (.seq (.seq (.reg [⟨(some 59), (.mov (.t 6)), none⟩,
 ⟨(some 60), (.bin .neq .num (.t 59) (.k (.int .i64 0))), none⟩,
 ⟨(some 61), (.mov (.t 60)), none⟩,
 ⟨(some 62), (.mov (.t 10)), some (61, false)⟩,
 ⟨(some 63), (.bin .neq .num (.t 62) (.k (.int .i64 0))), some (61, false)⟩,
 ⟨(some 64), (.pick (.t 61) (.k (.bool true)) (.t 63)), none⟩,
 ⟨(some 65), (.mov (.t 64)), none⟩,
 ⟨(some 66), (.mov (.t 8)), some (65, false)⟩,
 ⟨(some 67), (.bin .gtr .num (.t 66) (.k (.int .u64 1000))), some (65, false)⟩,
 ⟨(some 68), (.pick (.t 65) (.k (.bool true)) (.t 67)), none⟩,
 ⟨(some 69), (.mov (.t 68)), none⟩,
 ⟨(some 70), (.mov (.t 9)), some (69, false)⟩,
 ⟨(some 71), (.bin .gtr .num (.t 70) (.k (.int .u64 1000))), some (69, false)⟩,
 ⟨(some 72), (.pick (.t 69) (.k (.bool true)) (.t 71)), none⟩])
 (.cond (.t 72)
 (.seq (.reg [⟨(some 4), (.mov (.k (.bool false))), none⟩])
 .ret)
 .skip))
 (.seq (.reg [⟨(some 73), (.mov (.t 0)), none⟩,
 ⟨(some 74), (.mov (.t 0)), none⟩,
 ⟨(some 75), (.mov (.t 0)), none⟩,
 ⟨(some 76), (.mov (.t 0)), none⟩,
 ⟨(some 77), (.mov (.t 7)), none⟩,
 ⟨(some 78), (.iad 1 (.t 77) (.k (.int .i64 0))), none⟩,
 ⟨(some 79), (.load 1 false (.t 78)), none⟩,
 ⟨(some 80), (.mov (.t 8)), none⟩,
 ⟨(some 81), (.cvi .i64 (.t 80)), none⟩,
 ⟨(some 82), (.mov (.t 9)), none⟩,
 ⟨(some 83), (.cvi .i64 (.t 82)), none⟩,
 ⟨(some 84), (.mov (.t 1)), none⟩,
 ⟨(some 85), (.nilck (.t 73)), none⟩,
 ⟨(some 86), (.fad 5 (.t 85)), none⟩,
 ⟨none, (.store 1 (.t 86) (.t 79)), none⟩,
 ⟨(some 87), (.nilck (.t 74)), none⟩,
 ⟨(some 88), (.fad 6 (.t 87)), none⟩,
 ⟨none, (.store 1 (.t 88) (.t 81)), none⟩,
 ⟨(some 89), (.nilck (.t 75)), none⟩,
 ⟨(some 90), (.fad 7 (.t 89)), none⟩,
 ⟨none, (.store 1 (.t 90) (.t 83)), none⟩,
 ⟨(some 91), (.nilck (.t 76)), none⟩,
 ⟨(some 92), (.fad 8 (.t 91)), none⟩,
 ⟨none, (.store 1 (.t 92) (.t 84)), none⟩])
 (.seq (.reg [⟨(some 4), (.mov (.k (.bool true))), none⟩])
 .ret)))))))))))⟩

/-- 174: (*signetring/ratchet.State).next -/
def F174 : Fun :=
 ⟨48, 2, [.t 4, .t 5],
 (.seq (.reg [⟨(some 4), (.mov (.k (.str []))), none⟩,
 ⟨(some 5), (.mov (.k (.int .i64 0))), none⟩])
 (.seq (.seq (.dreg [⟨(some 10), (.mov (.t 0)), none⟩,
 ⟨(some 11), (.mov (.t 1)), none⟩,
 ⟨(some 12), (.nilck (.t 11)), none⟩,
 ⟨(some 13), (.fad 0 (.t 12)), none⟩,
 ⟨(some 14), (.load 1 false (.t 13)), none⟩,
 ⟨(some 15), (.mov (.t 1)), none⟩,
 ⟨(some 16), (.nilck (.t 15)), none⟩,
 ⟨(some 17), (.fad 7 (.t 16)), none⟩,
 ⟨(some 18), (.load 1 false (.t 17)), none⟩,
 ⟨(some 19), (.call (.k (.fn (.func 202) [] [])) [(.t 10), (.t 14), (.t 18)]), none⟩,
 ⟨(some 6), (.mov (.t 19)), none⟩] (.lin [] [(0, none), (1, none), (2, none), (3, none), (4, none), (5, none), (6, none), (7, none), (8, none), (9, some []), (10, none)]))
 (.seq (.reg [⟨(some 20), (.mov (.t 6)), none⟩,
 ⟨(some 21), (.bin .neq .num (.t 20) (.k (.int .i64 0))), none⟩])
 (.cond (.t 21)
 (.seq (.reg [⟨(some 22), (.mov (.t 6)), none⟩,
 ⟨(some 4), (.mov (.k (.str []))), none⟩,
 ⟨(some 5), (.mov (.t 22)), none⟩])
 .ret)
 .skip)))
 (.seq (.dreg [⟨(some 24), (.mov (.t 1)), none⟩,
 ⟨(some 25), (.nilck (.t 24)), none⟩,
 ⟨(some 26), (.fad 0 (.t 25)), none⟩,
 ⟨(some 27), (.load 1 false (.t 26)), none⟩,
 ⟨(some 28), (.mov (.t 0)), none⟩,
 ⟨(some 29), (.nilck (.t 28)), none⟩,
 ⟨(some 30), (.fad 5 (.t 29)), none⟩,
 ⟨(some 31), (.load 2 true (.t 30)), none⟩,
 ⟨(some 32), (.call (.k (.fn (.func 137) [] [])) [(.t 27), (.t 31)]), none⟩,
 ⟨(some 23), (.mov (.t 32)), none⟩,
 ⟨(some 33), (.ext (.t 23) 0), none⟩,
 ⟨(some 34), (.ext (.t 23) 1), none⟩,
 ⟨(some 35), (.ext (.t 23) 2), none⟩,
 ⟨(some 7), (.new [(.str []), (.int .i64 0)] none), none⟩,
 ⟨none, (.store 2 (.t 7) (.t 33)), none⟩,
 ⟨(some 8), (.mov (.t 34)), none⟩,
 ⟨(some 9), (.mov (.t 35)), none⟩] (.lin [13] [(0, none), (1, none), (2, none), (3, none), (4, none), (5, none), (6, none), (7, none), (8, some []), (9, none), (10, none), (11, none), (12, none), (14, some [11, 12]), (15, none), (16, none)]))
 (.seq (.seq (.reg [⟨(some 36), (.mov (.t 9)), none⟩,
 ⟨(some 37), (.bin .neq .num (.t 36) (.k (.int .i64 0))), none⟩])
 (.cond (.t 37)
 (.seq (.reg [⟨(some 38), (.mov (.t 9)), none⟩,
 ⟨(some 4), (.mov (.k (.str []))), none⟩,
 ⟨(some 5), (.mov (.t 38)), none⟩])
 .ret)
 .skip))
 (.seq (.reg [⟨(some 39), (.mov (.t 0)), none⟩,
 ⟨(some 40), (.load 2 true (.t 7)), none⟩,
 ⟨(some 41), (.nilck (.t 39)), none⟩,
 ⟨(some 42), (.fad 5 (.t 41)), none⟩,
 ⟨none, (.store 2 (.t 42) (.t 40)), none⟩])
 (.seq (.reg [⟨(some 43), (.mov (.t 1)), none⟩,
 ⟨(some 44), (.mov (.t 8)), none⟩,
 ⟨(some 45), (.call (.k (.fn (.func 203) [] [])) [(.t 43), (.t 44)]), none⟩,
 ⟨(some 46), (.ext (.t 45) 0), none⟩,
 ⟨(some 47), (.ext (.t 45) 1), none⟩,
 ⟨(some 4), (.mov (.t 46)), none⟩,
 ⟨(some 5), (.mov (.t 47)), none⟩])
 .ret))))))⟩

/-- 176: (*signetring/ratchet.State).other -/
def F176 : Fun :=
 ⟨83, 3, [.t 6, .t 7],
 (.seq (.reg [⟨(some 6), (.mov (.k (.str []))), none⟩,
 ⟨(some 7), (.mov (.k (.int .i64 0))), none⟩])
 (.seq (.seq (.reg [⟨(some 13), (.mov (.t 0)), none⟩,
 ⟨(some 14), (.nilck (.t 13)), none⟩,
 ⟨(some 15), (.fad 5 (.t 14)), none⟩,
 ⟨(some 16), (.fad 0 (.t 15)), none⟩,
 ⟨(some 17), (.load 1 false (.t 16)), none⟩,
 ⟨(some 18), (.bin .neq .str (.t 17) (.k (.str []))), none⟩])
 (.cond (.t 18)
 (.seq (.dreg [⟨(some 19), (.mov (.t 0)), none⟩,
 ⟨(some 20), (.mov (.t 1)), none⟩,
 ⟨(some 21), (.nilck (.t 20)), none⟩,
 ⟨(some 22), (.fad 0 (.t 21)), none⟩,
 ⟨(some 23), (.load 1 false (.t 22)), none⟩,
 ⟨(some 24), (.mov (.t 1)), none⟩,
 ⟨(some 25), (.nilck (.t 24)), none⟩,
 ⟨(some 26), (.fad 6 (.t 25)), none⟩,
 ⟨(some 27), (.load 1 false (.t 26)), none⟩,
 ⟨(some 28), (.call (.k (.fn (.func 202) [] [])) [(.t 19), (.t 23), (.t 27)]), none⟩,
 ⟨(some 8), (.mov (.t 28)), none⟩] (.lin [] [(0, none), (1, none), (2, none), (3, none), (4, none), (5, none), (6, none), (7, none), (8, none), (9, some []), (10, none)]))
 (.seq (.reg [⟨(some 29), (.mov (.t 8)), none⟩,
 ⟨(some 30), (.bin .neq .num (.t 29) (.k (.int .i64 0))), none⟩])
 (.cond (.t 30)
 (.seq (.reg [⟨(some 31), (.mov (.t 8)), none⟩,
 ⟨(some 6), (.mov (.k (.str []))), none⟩,
 ⟨(some 7), (.mov (.t 31)), none⟩])
 .ret)
 .skip)))
 .skip))
 (.seq (.dreg [⟨(some 32), (.mov (.t 0)), none⟩,
 ⟨(some 33), (.mov (.t 0)), none⟩,
 ⟨(some 34), (.mov (.t 1)), none⟩,
 ⟨(some 35), (.nilck (.t 34)), none⟩,
 ⟨(some 36), (.fad 5 (.t 35)), none⟩,
 ⟨(some 37), (.load 1 false (.t 36)), none⟩,
 ⟨(some 38), (.mov (.t 0)), none⟩,
 ⟨(some 39), (.nilck (.t 38)), none⟩,
 ⟨(some 40), (.fad 10 (.t 39)), none⟩,
 ⟨(some 41), (.load 1 false (.t 40)), none⟩,
 ⟨(some 42), (.nilck (.t 32)), none⟩,
 ⟨(some 43), (.fad 1 (.t 42)), none⟩,
 ⟨none, (.store 1 (.t 43) (.t 37)), none⟩,
 ⟨(some 44), (.nilck (.t 33)), none⟩,
 ⟨(some 45), (.fad 8 (.t 44)), none⟩,
 ⟨none, (.store 1 (.t 45) (.t 41)), none⟩] (.lin [] [(0, none), (1, none), (2, none), (3, none), (4, none), (5, none), (6, none), (7, none), (8, none), (9, none), (10, none), (11, none), (12, some [1]), (13, none), (14, none), (15, some [])]))
 (.seq (.reg [⟨(some 47), (.mov (.t 0)), none⟩,
 ⟨(some 48), (.mov (.t 1)), none⟩,
 ⟨(some 49), (.nilck (.t 48)), none⟩,
 ⟨(some 50), (.fad 0 (.t 49)), none⟩,
 ⟨(some 51), (.load 1 false (.t 50)), none⟩,
 ⟨(some 52), (.call (.k (.fn (.func 163) [] [])) [(.t 47), (.t 51)]), none⟩,
 ⟨(some 46), (.mov (.t 52)), none⟩,
 ⟨(some 53), (.ext (.t 46) 0), none⟩,
 ⟨(some 54), (.ext (.t 46) 1), none⟩,
 ⟨(some 55), (.ext (.t 46) 2), none⟩,
 ⟨(some 9), (.mov (.t 53)), none⟩,
 ⟨(some 10), (.mov (.t 54)), none⟩,
 ⟨(some 11), (.mov (.t 55)), none⟩])
 (.seq (.seq (.reg [⟨(some 56), (.mov (.t 11)), none⟩,
 ⟨(some 57), (.bin .neq .num (.t 56) (.k (.int .i64 0))), none⟩])
 (.cond (.t 57)
 (.seq (.reg [⟨(some 58), (.mov (.t 11)), none⟩,
 ⟨(some 6), (.mov (.k (.str []))), none⟩,
 ⟨(some 7), (.mov (.t 58)), none⟩])
 .ret)
 .skip))
 (.seq (.reg [⟨(some 59), (.mov (.t 0)), none⟩,
 ⟨(some 60), (.mov (.t 0)), none⟩,
 ⟨(some 61), (.mov (.t 9)), none⟩,
 ⟨(some 62), (.build [(.str []), (.int .i64 0)] [(0, 1, (.t 61))]), none⟩,
 ⟨(some 63), (.mov (.t 10)), none⟩,
 ⟨(some 64), (.nilck (.t 59)), none⟩,
 ⟨(some 65), (.fad 5 (.t 64)), none⟩,
 ⟨none, (.store 2 (.t 65) (.t 62)), none⟩,
 ⟨(some 66), (.nilck (.t 60)), none⟩,
 ⟨(some 67), (.fad 10 (.t 66)), none⟩,
 ⟨none, (.store 1 (.t 67) (.t 63)), none⟩])
 (.seq (.seq (.reg [⟨(some 68), (.mov (.t 0)), none⟩,
 ⟨(some 69), (.mov (.t 1)), none⟩,
 ⟨(some 70), (.nilck (.t 69)), none⟩,
 ⟨(some 71), (.fad 0 (.t 70)), none⟩,
 ⟨(some 72), (.load 1 false (.t 71)), none⟩,
 ⟨(some 73), (.mov (.t 2)), none⟩,
 ⟨(some 74), (.call (.k (.fn (.func 136) [] [])) [(.t 68), (.t 72), (.t 73)]), none⟩,
 ⟨(some 12), (.mov (.t 74)), none⟩])
 (.seq (.reg [⟨(some 75), (.mov (.t 12)), none⟩,
 ⟨(some 76), (.bin .neq .num (.t 75) (.k (.int .i64 0))), none⟩])
 (.cond (.t 76)
 (.seq (.reg [⟨(some 77), (.mov (.t 12)), none⟩,
 ⟨(some 6), (.mov (.k (.str []))), none⟩,
 ⟨(some 7), (.mov (.t 77)), none⟩])
 .ret)
 .skip)))
 (.seq (.reg [⟨(some 78), (.mov (.t 0)), none⟩,
 ⟨(some 79), (.mov (.t 1)), none⟩,
 ⟨(some 80), (.call (.k (.fn (.func 174) [] [])) [(.t 78), (.t 79)]), none⟩,
 ⟨(some 81), (.ext (.t 80) 0), none⟩,
 ⟨(some 82), (.ext (.t 80) 1), none⟩,
 ⟨(some 6), (.mov (.t 81)), none⟩,
 ⟨(some 7), (.mov (.t 82)), none⟩])
 .ret))))))))⟩

/-- 178: (*strings.Builder).copyCheck -/
def F178 : Fun :=
 ⟨20, 1, [],
 (.seq (.reg [⟨(some 2), (.mov (.t 0)), none⟩,
 ⟨(some 3), (.nilck (.t 2)), none⟩,
 ⟨(some 4), (.fad 0 (.t 3)), none⟩,
 ⟨(some 5), (.load 1 false (.t 4)), none⟩,
 ⟨(some 6), (.bin .eql .ptr (.t 5) (.k .nptr)), none⟩])
 (.cond (.t 6)
 (.reg [⟨(some 7), (.mov (.t 0)), none⟩,
 ⟨(some 8), (.mov (.t 0)), none⟩,
 ⟨(some 9), (.toU (.t 8)), none⟩,
 ⟨(some 10), (.noEsc (.t 9)), none⟩,
 ⟨(some 11), (.frU 251 2 (.t 10)), none⟩,
 ⟨(some 12), (.nilck (.t 7)), none⟩,
 ⟨(some 13), (.fad 0 (.t 12)), none⟩,
 ⟨none, (.store 1 (.t 13) (.t 11)), none⟩])
 (.seq (.reg [⟨(some 14), (.mov (.t 0)), none⟩,
 ⟨(some 15), (.nilck (.t 14)), none⟩,
 ⟨(some 16), (.fad 0 (.t 15)), none⟩,
 ⟨(some 17), (.load 1 false (.t 16)), none⟩,
 ⟨(some 18), (.mov (.t 0)), none⟩,
 ⟨(some 19), (.pne (.t 17) (.t 18)), none⟩])
 (.cond (.t 19)
 .no
 .skip))))⟩

/-- 183: (signetring/mix.State).with -/
def F183 : Fun :=
 ⟨37, 4, [.c 8 4 true, .t 9, .t 10],
 (.seq (.reg [⟨(some 4), (.box none (.t 0)), none⟩,
 ⟨(some 8), (.new [(.str []), (.str []), (.str []), (.int .u64 0)] none), none⟩,
 ⟨(some 9), (.mov (.k (.str []))), none⟩,
 ⟨(some 10), (.mov (.k (.int .i64 0))), none⟩])
 (.seq (.seq (.reg [⟨(some 14), (.mov (.t 1)), none⟩,
 ⟨(some 15), (.bin .eql .ifc (.t 14) (.k .nifc)), none⟩])
 (.cond (.t 15)
 (.seq (.reg [⟨(some 16), (.build [(.str []), (.str []), (.str []), (.int .u64 0)] []), none⟩,
 ⟨none, (.store 4 (.t 8) (.t 16)), none⟩,
 ⟨(some 9), (.mov (.k (.str []))), none⟩,
 ⟨(some 10), (.mov (.k (.int .i64 1))), none⟩])
 .ret)
 .skip))
 (.seq (.reg [⟨(some 18), (.mov (.t 3)), none⟩,
 ⟨(some 19), (.mov (.t 1)), none⟩,
 ⟨(some 20), (.fad 2 (.t 4)), none⟩,
 ⟨(some 21), (.load 2 true (.t 20)), none⟩,
 ⟨(some 22), (.fad 1 (.t 4)), none⟩,
 ⟨(some 23), (.load 1 false (.t 22)), none⟩,
 ⟨(some 24), (.mov (.t 2)), none⟩,
 ⟨(some 25), (.call (.t 18) [(.t 19), (.t 21), (.t 23), (.t 24)]), none⟩,
 ⟨(some 17), (.mov (.t 25)), none⟩,
 ⟨(some 26), (.ext (.t 17) 0), none⟩,
 ⟨(some 27), (.ext (.t 17) 1), none⟩,
 ⟨(some 28), (.ext (.t 17) 2), none⟩,
 ⟨(some 11), (.new [(.str []), (.int .u64 0)] none), none⟩,
 ⟨none, (.store 2 (.t 11) (.t 26)), none⟩,
 ⟨(some 12), (.mov (.t 27)), none⟩,
 ⟨(some 13), (.mov (.t 28)), none⟩])
 (.seq (.seq (.reg [⟨(some 29), (.mov (.t 13)), none⟩,
 ⟨(some 30), (.bin .neq .num (.t 29) (.k (.int .i64 0))), none⟩])
 (.cond (.t 30)
 (.seq (.reg [⟨(some 31), (.load 4 true (.t 4)), none⟩,
 ⟨(some 32), (.mov (.t 13)), none⟩,
 ⟨none, (.store 4 (.t 8) (.t 31)), none⟩,
 ⟨(some 9), (.mov (.k (.str []))), none⟩,
 ⟨(some 10), (.mov (.t 32)), none⟩])
 .ret)
 .skip))
 (.seq (.reg [⟨(some 33), (.load 2 true (.t 11)), none⟩,
 ⟨(some 34), (.fad 2 (.t 4)), none⟩,
 ⟨none, (.store 2 (.t 34) (.t 33)), none⟩])
 (.seq (.reg [⟨(some 35), (.load 4 true (.t 4)), none⟩,
 ⟨(some 36), (.mov (.t 12)), none⟩,
 ⟨none, (.store 4 (.t 8) (.t 35)), none⟩,
 ⟨(some 9), (.mov (.t 36)), none⟩,
 ⟨(some 10), (.mov (.k (.int .i64 0))), none⟩])
 .ret))))))⟩

/-- 184: signetring/cipher.Seal -/
def F184 : Fun :=
 ⟨45, 4, [.c 8 2 true, .t 9, .t 10],
 (.seq (.reg [⟨(some 5), (.box none (.t 1)), none⟩,
 ⟨(some 8), (.new [(.str []), (.int .u64 0)] none), none⟩,
 ⟨(some 9), (.mov (.k (.str []))), none⟩,
 ⟨(some 10), (.mov (.k (.int .i64 0))), none⟩])
 (.seq (.reg [⟨(some 15), (.load 2 true (.t 5)), none⟩,
 ⟨(some 16), (.mov (.t 0)), none⟩,
 ⟨(some 17), (.call (.k (.fn (.func 210) [] [])) [(.t 15), (.t 16)]), none⟩,
 ⟨(some 14), (.mov (.t 17)), none⟩,
 ⟨(some 18), (.ext (.t 14) 0), none⟩,
 ⟨(some 19), (.ext (.t 14) 1), none⟩,
 ⟨(some 11), (.new [(.str []), (.int .u64 0)] none), none⟩,
 ⟨none, (.store 2 (.t 11) (.t 18)), none⟩,
 ⟨(some 12), (.mov (.t 19)), none⟩])
 (.seq (.seq (.reg [⟨(some 20), (.mov (.t 12)), none⟩,
 ⟨(some 21), (.bin .neq .num (.t 20) (.k (.int .i64 0))), none⟩,
 ⟨(some 22), (.mov (.t 21)), none⟩,
 ⟨(some 23), (.fad 0 (.t 5)), some (22, false)⟩,
 ⟨(some 24), (.load 1 false (.t 23)), some (22, false)⟩,
 ⟨(some 25), (.bin .eql .str (.t 24) (.k (.str []))), some (22, false)⟩,
 ⟨(some 26), (.pick (.t 22) (.k (.bool true)) (.t 25)), none⟩])
 (.cond (.t 26)
 (.seq (.seq (.reg [⟨(some 27), (.mov (.t 12)), none⟩,
 ⟨(some 28), (.bin .neq .num (.t 27) (.k (.int .i64 0))), none⟩])
 (.cond (.t 28)
 (.reg [⟨(some 3), (.mov (.k (.str []))), none⟩])
 .skip))
 (.seq (.reg [⟨(some 29), (.load 2 true (.t 5)), none⟩,
 ⟨(some 30), (.mov (.t 3)), none⟩,
 ⟨(some 31), (.mov (.t 12)), none⟩,
 ⟨none, (.store 2 (.t 8) (.t 29)), none⟩,
 ⟨(some 9), (.mov (.t 30)), none⟩,
 ⟨(some 10), (.mov (.t 31)), none⟩])
 .ret))
 .skip))
 (.seq (.reg [⟨(some 32), (.mov (.t 0)), none⟩,
 ⟨(some 33), (.fad 0 (.t 5)), none⟩,
 ⟨(some 34), (.load 1 false (.t 33)), none⟩,
 ⟨(some 35), (.fad 1 (.t 5)), none⟩,
 ⟨(some 36), (.load 1 false (.t 35)), none⟩,
 ⟨(some 37), (.mov (.t 2)), none⟩,
 ⟨(some 38), (.mov (.t 3)), none⟩,
 ⟨(some 39), (.inv (.t 32) "Seal" [(.t 34), (.t 36), (.t 37), (.t 38)]), none⟩,
 ⟨(some 13), (.mov (.t 39)), none⟩])
 (.seq (.seq (.reg [⟨(some 40), (.mov (.t 13)), none⟩,
 ⟨(some 41), (.bin .eql .str (.t 40) (.k (.str []))), none⟩])
 (.cond (.t 41)
 (.seq (.reg [⟨(some 42), (.load 2 true (.t 5)), none⟩,
 ⟨none, (.store 2 (.t 8) (.t 42)), none⟩,
 ⟨(some 9), (.mov (.k (.str []))), none⟩,
 ⟨(some 10), (.mov (.k (.int .i64 3))), none⟩])
 .ret)
 .skip))
 (.seq (.reg [⟨(some 43), (.load 2 true (.t 11)), none⟩,
 ⟨(some 44), (.mov (.t 13)), none⟩,
 ⟨none, (.store 2 (.t 8) (.t 43)), none⟩,
 ⟨(some 9), (.mov (.t 44)), none⟩,
 ⟨(some 10), (.mov (.k (.int .i64 0))), none⟩])
 .ret))))))⟩

/-- 185: signetring/chain.Root -/
def F185 : Fun :=
 ⟨29, 3, [.t 6, .t 7, .t 8, .t 9],
 (.seq (.reg [⟨(some 6), (.mov (.k (.str []))), none⟩,
 ⟨(some 7), (.mov (.k (.str []))), none⟩,
 ⟨(some 8), (.mov (.k (.str []))), none⟩,
 ⟨(some 9), (.mov (.k (.int .i64 0))), none⟩])
 (.seq (.seq (.reg [⟨(some 11), (.mov (.t 0)), none⟩,
 ⟨(some 12), (.bin .eql .ifc (.t 11) (.k .nifc)), none⟩])
 (.cond (.t 12)
 (.seq (.reg [⟨(some 6), (.mov (.k (.str []))), none⟩,
 ⟨(some 7), (.mov (.k (.str []))), none⟩,
 ⟨(some 8), (.mov (.k (.str []))), none⟩,
 ⟨(some 9), (.mov (.k (.int .i64 1))), none⟩])
 .ret)
 .skip))
 (.seq (.reg [⟨(some 13), (.mov (.t 0)), none⟩,
 ⟨(some 14), (.mov (.t 1)), none⟩,
 ⟨(some 15), (.mov (.t 2)), none⟩,
 ⟨(some 16), (.inv (.t 13) "Keys" [(.t 14), (.t 15), (.k (.int .i64 3))]), none⟩,
 ⟨(some 10), (.mov (.t 16)), none⟩])
 (.seq (.seq (.reg [⟨(some 17), (.mov (.t 10)), none⟩,
 ⟨(some 18), (.len .slc (.t 17)), none⟩,
 ⟨(some 19), (.bin .lss .num (.t 18) (.k (.int .i64 3))), none⟩])
 (.cond (.t 19)
 (.seq (.reg [⟨(some 6), (.mov (.k (.str []))), none⟩,
 ⟨(some 7), (.mov (.k (.str []))), none⟩,
 ⟨(some 8), (.mov (.k (.str []))), none⟩,
 ⟨(some 9), (.mov (.k (.int .i64 6))), none⟩])
 .ret)
 .skip))
 (.seq (.dreg [⟨(some 20), (.mov (.t 10)), none⟩,
 ⟨(some 21), (.iad 1 (.t 20) (.k (.int .i64 0))), none⟩,
 ⟨(some 22), (.load 1 false (.t 21)), none⟩,
 ⟨(some 23), (.mov (.t 10)), none⟩,
 ⟨(some 24), (.iad 1 (.t 23) (.k (.int .i64 1))), none⟩,
 ⟨(some 25), (.load 1 false (.t 24)), none⟩,
 ⟨(some 26), (.mov (.t 10)), none⟩,
 ⟨(some 27), (.iad 1 (.t 26) (.k (.int .i64 2))), none⟩,
 ⟨(some 28), (.load 1 false (.t 27)), none⟩,
 ⟨(some 6), (.mov (.t 22)), none⟩,
 ⟨(some 7), (.mov (.t 25)), none⟩,
 ⟨(some 8), (.mov (.t 28)), none⟩,
 ⟨(some 9), (.mov (.k (.int .i64 0))), none⟩] (.lin [] [(0, none), (1, none), (2, none), (3, none), (4, none), (5, none), (6, none), (7, none), (8, none), (9, none), (10, none), (11, none), (12, none)]))
 .ret)))))⟩

/-- 186: slices.insertionSortOrdered[string] -/
def F186 : Fun :=
 ⟨49, 3, [],
 (.seq (.reg [⟨(some 8), (.mov (.t 1)), none⟩,
 ⟨(some 9), (.bin .add .num (.t 8) (.k (.int .i64 1))), none⟩,
 ⟨(some 6), (.mov (.t 9)), none⟩])
 (.block 0
 (.loop
 (.seq (.seq (.reg [⟨(some 10), (.mov (.t 6)), none⟩,
 ⟨(some 11), (.mov (.t 2)), none⟩,
 ⟨(some 12), (.bin .lss .num (.t 10) (.t 11)), none⟩])
 (.cond (.t 12)
 .skip
 (.exit 0)))
 (.seq (.block 1
 (.seq (.reg [⟨(some 15), (.mov (.t 6)), none⟩,
 ⟨(some 7), (.mov (.t 15)), none⟩])
 (.block 2
 (.loop
 (.seq (.seq (.dreg [⟨(some 16), (.mov (.t 7)), none⟩,
 ⟨(some 17), (.mov (.t 1)), none⟩,
 ⟨(some 18), (.bin .gtr .num (.t 16) (.t 17)), none⟩,
 ⟨(some 19), (.mov (.t 18)), none⟩,
 ⟨(some 20), (.mov (.t 0)), some (19, true)⟩,
 ⟨(some 21), (.mov (.t 7)), some (19, true)⟩,
 ⟨(some 22), (.iad 1 (.t 20) (.t 21)), some (19, true)⟩,
 ⟨(some 23), (.load 1 false (.t 22)), some (19, true)⟩,
 ⟨(some 24), (.mov (.t 0)), some (19, true)⟩,
 ⟨(some 25), (.mov (.t 7)), some (19, true)⟩,
 ⟨(some 26), (.bin .sub .num (.t 25) (.k (.int .i64 1))), some (19, true)⟩,
 ⟨(some 27), (.iad 1 (.t 24) (.t 26)), some (19, true)⟩,
 ⟨(some 28), (.load 1 false (.t 27)), some (19, true)⟩,
 ⟨(some 29), (.call (.k (.fn (.func 192) [] [])) [(.t 23), (.t 28)]), some (19, true)⟩,
 ⟨(some 30), (.pick (.t 19) (.t 29) (.k (.bool false))), none⟩] (.lin [] [(0, none), (1, none), (2, none), (3, none), (4, none), (5, none), (6, none), (7, none), (8, none), (9, none), (10, none), (11, none), (12, none), (13, some []), (14, none)]))
 (.cond (.t 30)
 .skip
 (.exit 2)))
 (.seq (.block 3
 (.dreg [⟨(some 33), (.mov (.t 0)), none⟩,
 ⟨(some 34), (.mov (.t 7)), none⟩,
 ⟨(some 35), (.mov (.t 0)), none⟩,
 ⟨(some 36), (.mov (.t 7)), none⟩,
 ⟨(some 37), (.bin .sub .num (.t 36) (.k (.int .i64 1))), none⟩,
 ⟨(some 38), (.mov (.t 0)), none⟩,
 ⟨(some 39), (.mov (.t 7)), none⟩,
 ⟨(some 40), (.bin .sub .num (.t 39) (.k (.int .i64 1))), none⟩,
 ⟨(some 41), (.iad 1 (.t 38) (.t 40)), none⟩,
 ⟨(some 42), (.load 1 false (.t 41)), none⟩,
 ⟨(some 43), (.mov (.t 0)), none⟩,
 ⟨(some 44), (.mov (.t 7)), none⟩,
 ⟨(some 45), (.iad 1 (.t 43) (.t 44)), none⟩,
 ⟨(some 46), (.load 1 false (.t 45)), none⟩,
 ⟨(some 47), (.iad 1 (.t 33) (.t 34)), none⟩,
 ⟨none, (.store 1 (.t 47) (.t 42)), none⟩,
 ⟨(some 48), (.iad 1 (.t 35) (.t 37)), none⟩,
 ⟨none, (.store 1 (.t 48) (.t 46)), none⟩] (.lin [] [(0, none), (1, none), (2, none), (3, none), (4, none), (5, none), (6, none), (7, none), (8, none), (9, none), (10, none), (11, none), (12, none), (13, none), (14, none), (15, some [2, 3, 4]), (16, none), (17, some [])])))
 (.reg [⟨(some 31), (.mov (.t 7)), none⟩,
 ⟨(some 32), (.bin .sub .num (.t 31) (.k (.int .i64 1))), none⟩,
 ⟨(some 7), (.mov (.t 32)), none⟩])))))))
 (.reg [⟨(some 13), (.mov (.t 6)), none⟩,
 ⟨(some 14), (.bin .add .num (.t 13) (.k (.int .i64 1))), none⟩,
 ⟨(some 6), (.mov (.t 14)), none⟩]))))))⟩

/-- 192: cmp.Less[string] -/
def F192 : Fun :=
 ⟨17, 2, [.t 4],
 (.seq (.reg [⟨(some 4), (.mov (.k (.bool false))), none⟩])
 (.seq (.reg [⟨(some 5), (.mov (.t 0)), none⟩,
 ⟨(some 6), (.call (.k (.fn (.func 216) [] [])) [(.t 5)]), none⟩,
 ⟨(some 7), (.mov (.t 6)), none⟩,
 ⟨(some 8), (.mov (.t 1)), some (7, true)⟩,
 ⟨(some 9), (.call (.k (.fn (.func 216) [] [])) [(.t 8)]), some (7, true)⟩,
 ⟨(some 10), (.un .not (.t 9)), some (7, true)⟩,
 ⟨(some 11), (.pick (.t 7) (.t 10) (.k (.bool false))), none⟩,
 ⟨(some 12), (.mov (.t 11)), none⟩,
 ⟨(some 13), (.mov (.t 0)), some (12, false)⟩,
 ⟨(some 14), (.mov (.t 1)), some (12, false)⟩,
 ⟨(some 15), (.bin .lss .str (.t 13) (.t 14)), some (12, false)⟩,
 ⟨(some 16), (.pick (.t 12) (.k (.bool true)) (.t 15)), none⟩,
 ⟨(some 4), (.mov (.t 16)), none⟩])
 .ret))⟩

/-- 196: math/bits.Len64 -/
def F196 : Fun :=
 ⟨25, 1, [.t 2],
 (.seq (.reg [⟨(some 2), (.mov (.k (.int .i64 0))), none⟩])
 (.seq (.seq (.reg [⟨(some 3), (.mov (.t 0)), none⟩,
 ⟨(some 4), (.bin .geq .num (.t 3) (.k (.int .u64 4294967296))), none⟩])
 (.cond (.t 4)
 (.seq (.reg [⟨(some 5), (.mov (.t 0)), none⟩,
 ⟨(some 6), (.bin .shr .num (.t 5) (.k (.int .u64 32))), none⟩,
 ⟨(some 0), (.mov (.t 6)), none⟩])
 (.reg [⟨(some 2), (.mov (.k (.int .i64 32))), none⟩]))
 .skip))
 (.seq (.seq (.reg [⟨(some 7), (.mov (.t 0)), none⟩,
 ⟨(some 8), (.bin .geq .num (.t 7) (.k (.int .u64 65536))), none⟩])
 (.cond (.t 8)
 (.seq (.reg [⟨(some 9), (.mov (.t 0)), none⟩,
 ⟨(some 10), (.bin .shr .num (.t 9) (.k (.int .u64 16))), none⟩,
 ⟨(some 0), (.mov (.t 10)), none⟩])
 (.reg [⟨(some 11), (.mov (.t 2)), none⟩,
 ⟨(some 12), (.bin .add .num (.t 11) (.k (.int .i64 16))), none⟩,
 ⟨(some 2), (.mov (.t 12)), none⟩]))
 .skip))
 (.seq (.seq (.reg [⟨(some 13), (.mov (.t 0)), none⟩,
 ⟨(some 14), (.bin .geq .num (.t 13) (.k (.int .u64 256))), none⟩])
 (.cond (.t 14)
 (.seq (.reg [⟨(some 15), (.mov (.t 0)), none⟩,
 ⟨(some 16), (.bin .shr .num (.t 15) (.k (.int .u64 8))), none⟩,
 ⟨(some 0), (.mov (.t 16)), none⟩])
 (.reg [⟨(some 17), (.mov (.t 2)), none⟩,
 ⟨(some 18), (.bin .add .num (.t 17) (.k (.int .i64 8))), none⟩,
 ⟨(some 2), (.mov (.t 18)), none⟩]))
 .skip))
 (.seq (.reg [⟨(some 19), (.mov (.t 2)), none⟩,
 ⟨(some 20), (.mov (.t 0)), none⟩,
 ⟨(some 21), (.cvi .u8 (.t 20)), none⟩,
 ⟨(some 22), (.idxs (.k (.str [0, 1, 2, 2, 3, 3, 3, 3, 4, 4, 4, 4, 4, 4, 4, 4, 5, 5, 5, 5, 5, 5, 5, 5, 5, 5, 5, 5, 5, 5, 5, 5, 6, 6, 6, 6, 6, 6, 6, 6, 6, 6, 6, 6, 6, 6, 6, 6, 6, 6, 6, 6, 6, 6, 6, 6, 6, 6, 6, 6, 6, 6, 6, 6, 7, 7, 7, 7, 7, 7, 7, 7, 7, 7, 7, 7, 7, 7, 7, 7, 7, 7, 7, 7, 7, 7, 7, 7, 7, 7, 7, 7, 7, 7, 7, 7, 7, 7, 7, 7, 7, 7, 7, 7, 7, 7, 7, 7, 7, 7, 7, 7, 7, 7, 7, 7, 7, 7, 7, 7, 7, 7, 7, 7, 7, 7, 7, 7, 8, 8, 8, 8, 8, 8, 8, 8, 8, 8, 8, 8, 8, 8, 8, 8, 8, 8, 8, 8, 8, 8, 8, 8, 8, 8, 8, 8, 8, 8, 8, 8, 8, 8, 8, 8, 8, 8, 8, 8, 8, 8, 8, 8, 8, 8, 8, 8, 8, 8, 8, 8, 8, 8, 8, 8, 8, 8, 8, 8, 8, 8, 8, 8, 8, 8, 8, 8, 8, 8, 8, 8, 8, 8, 8, 8, 8, 8, 8, 8, 8, 8, 8, 8, 8, 8, 8, 8, 8, 8, 8, 8, 8, 8, 8, 8, 8, 8, 8, 8, 8, 8, 8, 8, 8, 8, 8, 8, 8, 8, 8, 8, 8, 8, 8, 8, 8, 8, 8, 8, 8, 8, 8, 8, 8, 8, 8, 8])) (.t 21)), none⟩,
 ⟨(some 23), (.cvi .i64 (.t 22)), none⟩,
 ⟨(some 24), (.bin .add .num (.t 19) (.t 23)), none⟩,
 ⟨(some 2), (.mov (.t 24)), none⟩])
 .ret)))))⟩

/-- 197: signetring/cipher.Open -/
def F197 : Fun :=
 ⟨49, 4, [.c 8 2 true, .t 9, .t 10],
 (.seq (.reg [⟨(some 5), (.box none (.t 1)), none⟩,
 ⟨(some 8), (.new [(.str []), (.int .u64 0)] none), none⟩,
 ⟨(some 9), (.mov (.k (.str []))), none⟩,
 ⟨(some 10), (.mov (.k (.int .i64 0))), none⟩])
 (.seq (.reg [⟨(some 15), (.load 2 true (.t 5)), none⟩,
 ⟨(some 16), (.mov (.t 0)), none⟩,
 ⟨(some 17), (.call (.k (.fn (.func 210) [] [])) [(.t 15), (.t 16)]), none⟩,
 ⟨(some 14), (.mov (.t 17)), none⟩,
 ⟨(some 18), (.ext (.t 14) 0), none⟩,
 ⟨(some 19), (.ext (.t 14) 1), none⟩,
 ⟨(some 11), (.new [(.str []), (.int .u64 0)] none), none⟩,
 ⟨none, (.store 2 (.t 11) (.t 18)), none⟩,
 ⟨(some 12), (.mov (.t 19)), none⟩])
 (.seq (.seq (.reg [⟨(some 20), (.mov (.t 12)), none⟩,
 ⟨(some 21), (.bin .neq .num (.t 20) (.k (.int .i64 0))), none⟩,
 ⟨(some 22), (.mov (.t 21)), none⟩,
 ⟨(some 23), (.fad 0 (.t 5)), some (22, false)⟩,
 ⟨(some 24), (.load 1 false (.t 23)), some (22, false)⟩,
 ⟨(some 25), (.bin .eql .str (.t 24) (.k (.str []))), some (22, false)⟩,
 ⟨(some 26), (.pick (.t 22) (.k (.bool true)) (.t 25)), none⟩])
 (.cond (.t 26)
 (.seq (.seq (.reg [⟨(some 27), (.mov (.t 12)), none⟩,
 ⟨(some 28), (.bin .neq .num (.t 27) (.k (.int .i64 0))), none⟩])
 (.cond (.t 28)
 (.reg [⟨(some 3), (.mov (.k (.str []))), none⟩])
 .skip))
 (.seq (.reg [⟨(some 29), (.load 2 true (.t 5)), none⟩,
 ⟨(some 30), (.mov (.t 3)), none⟩,
 ⟨(some 31), (.mov (.t 12)), none⟩,
 ⟨none, (.store 2 (.t 8) (.t 29)), none⟩,
 ⟨(some 9), (.mov (.t 30)), none⟩,
 ⟨(some 10), (.mov (.t 31)), none⟩])
 .ret))
 .skip))
 (.seq (.reg [⟨(some 33), (.mov (.t 0)), none⟩,
 ⟨(some 34), (.fad 0 (.t 5)), none⟩,
 ⟨(some 35), (.load 1 false (.t 34)), none⟩,
 ⟨(some 36), (.fad 1 (.t 5)), none⟩,
 ⟨(some 37), (.load 1 false (.t 36)), none⟩,
 ⟨(some 38), (.mov (.t 2)), none⟩,
 ⟨(some 39), (.mov (.t 3)), none⟩,
 ⟨(some 40), (.inv (.t 33) "Open" [(.t 35), (.t 37), (.t 38), (.t 39)]), none⟩,
 ⟨(some 32), (.mov (.t 40)), none⟩,
 ⟨(some 41), (.ext (.t 32) 0), none⟩,
 ⟨(some 42), (.ext (.t 32) 1), none⟩,
 ⟨(some 13), (.mov (.t 41)), none⟩,
 ⟨(some 12), (.mov (.t 42)), none⟩])
 (.seq (.seq (.reg [⟨(some 43), (.mov (.t 12)), none⟩,
 ⟨(some 44), (.bin .neq .num (.t 43) (.k (.int .i64 0))), none⟩])
 (.cond (.t 44)
 (.seq (.reg [⟨(some 45), (.load 2 true (.t 5)), none⟩,
 ⟨(some 46), (.mov (.t 12)), none⟩,
 ⟨none, (.store 2 (.t 8) (.t 45)), none⟩,
 ⟨(some 9), (.mov (.k (.str []))), none⟩,
 ⟨(some 10), (.mov (.t 46)), none⟩])
 .ret)
 .skip))
 (.seq (.reg [⟨(some 47), (.load 2 true (.t 11)), none⟩,
 ⟨(some 48), (.mov (.t 13)), none⟩,
 ⟨none, (.store 2 (.t 8) (.t 47)), none⟩,
 ⟨(some 9), (.mov (.t 48)), none⟩,
 ⟨(some 10), (.mov (.k (.int .i64 0))), none⟩])
 .ret))))))⟩

/-- 202: (*signetring/ratchet.State).skip -/
def F202 : Fun :=
 ⟨67, 3, [.t 6],
 (.seq (.reg [⟨(some 6), (.mov (.k (.int .i64 0))), none⟩])
 (.seq (.reg [⟨(some 13), (.mov (.t 0)), none⟩,
 ⟨(some 14), (.nilck (.t 13)), none⟩,
 ⟨(some 15), (.fad 5 (.t 14)), none⟩,
 ⟨(some 16), (.fad 1 (.t 15)), none⟩,
 ⟨(some 17), (.load 1 false (.t 16)), none⟩,
 ⟨(some 7), (.mov (.t 17)), none⟩])
 (.seq (.reg [⟨(some 19), (.mov (.t 1)), none⟩,
 ⟨(some 20), (.mov (.t 0)), none⟩,
 ⟨(some 21), (.nilck (.t 20)), none⟩,
 ⟨(some 22), (.fad 5 (.t 21)), none⟩,
 ⟨(some 23), (.load 2 true (.t 22)), none⟩,
 ⟨(some 24), (.mov (.t 2)), none⟩,
 ⟨(some 25), (.call (.k (.fn (.func 218) [] [])) [(.t 19), (.t 23), (.t 24)]), none⟩,
 ⟨(some 18), (.mov (.t 25)), none⟩,
 ⟨(some 26), (.ext (.t 18) 0), none⟩,
 ⟨(some 27), (.ext (.t 18) 1), none⟩,
 ⟨(some 28), (.ext (.t 18) 2), none⟩,
 ⟨(some 8), (.new [(.str []), (.int .i64 0)] none), none⟩,
 ⟨none, (.store 2 (.t 8) (.t 26)), none⟩,
 ⟨(some 9), (.mov (.t 27)), none⟩,
 ⟨(some 10), (.mov (.t 28)), none⟩])
 (.seq (.seq (.reg [⟨(some 29), (.mov (.t 10)), none⟩,
 ⟨(some 30), (.bin .neq .num (.t 29) (.k (.int .i64 0))), none⟩])
 (.cond (.t 30)
 (.seq (.reg [⟨(some 31), (.mov (.t 10)), none⟩,
 ⟨(some 6), (.mov (.t 31)), none⟩])
 .ret)
 .skip))
 (.seq (.reg [⟨(some 32), (.mov (.t 0)), none⟩,
 ⟨(some 33), (.load 2 true (.t 8)), none⟩,
 ⟨(some 34), (.nilck (.t 32)), none⟩,
 ⟨(some 35), (.fad 5 (.t 34)), none⟩,
 ⟨none, (.store 2 (.t 35) (.t 33)), none⟩])
 (.seq (.seq (.reg [⟨(some 36), (.mov (.t 9)), none⟩,
 ⟨(some 37), (.len .slc (.t 36)), none⟩,
 ⟨(some 38), (.mov (.k (.int .i64 0))), none⟩])
 (.block 0
 (.loop
 (.seq (.reg [⟨(some 39), (.bin .lss .num (.t 38) (.t 37)), none⟩])
 (.seq (.cond (.t 39)
 .skip
 (.exit 0))
 (.seq (.block 1
 (.seq (.reg [⟨(some 40), (.mov (.t 38)), none⟩,
 ⟨(some 41), (.iad 1 (.t 36) (.t 38)), none⟩,
 ⟨(some 42), (.load 1 false (.t 41)), none⟩,
 ⟨(some 11), (.mov (.t 40)), none⟩,
 ⟨(some 12), (.mov (.t 42)), none⟩])
 (.seq (.dreg [⟨(some 44), (.mov (.t 0)), none⟩,
 ⟨(some 45), (.mov (.t 0)), none⟩,
 ⟨(some 46), (.nilck (.t 45)), none⟩,
 ⟨(some 47), (.fad 12 (.t 46)), none⟩,
 ⟨(some 48), (.load 1 false (.t 47)), none⟩,
 ⟨(some 49), (.mov (.t 0)), none⟩,
 ⟨(some 50), (.nilck (.t 49)), none⟩,
 ⟨(some 51), (.fad 8 (.t 50)), none⟩,
 ⟨(some 52), (.load 1 false (.t 51)), none⟩,
 ⟨(some 53), (.mov (.t 7)), none⟩,
 ⟨(some 54), (.mov (.t 11)), none⟩,
 ⟨(some 55), (.bin .add .num (.t 53) (.t 54)), none⟩,
 ⟨(some 56), (.mov (.t 12)), none⟩,
 ⟨(some 57), (.build [(.str []), (.int .i64 0), (.str [])] [(0, 1, (.t 52)), (1, 1, (.t 55)), (2, 1, (.t 56))]), none⟩,
 ⟨(some 58), (.call (.k (.fn (.func 219) [] [])) [(.t 48), (.t 57)]), none⟩,
 ⟨(some 43), (.mov (.t 58)), none⟩,
 ⟨(some 59), (.ext (.t 43) 0), none⟩,
 ⟨(some 60), (.ext (.t 43) 1), none⟩,
 ⟨(some 61), (.ext (.t 43) 2), none⟩,
 ⟨(some 62), (.nilck (.t 44)), none⟩,
 ⟨(some 63), (.fad 12 (.t 62)), none⟩,
 ⟨none, (.store 1 (.t 63) (.t 59)), none⟩,
 ⟨(some 10), (.mov (.t 61)), none⟩] (.lin [] [(0, none), (1, none), (2, none), (3, none), (4, none), (5, none), (6, none), (7, none), (8, none), (9, none), (10, none), (11, none), (12, none), (13, none), (14, some [0]), (15, none), (16, none), (17, none), (18, none), (19, none), (20, none), (21, some [17, 18]), (22, none)]))
 (.seq (.reg [⟨(some 64), (.mov (.t 10)), none⟩,
 ⟨(some 65), (.bin .neq .num (.t 64) (.k (.int .i64 0))), none⟩])
 (.cond (.t 65)
 (.seq (.reg [⟨(some 6), (.mov (.k (.int .i64 7))), none⟩])
 .ret)
 .skip)))))
 (.reg [⟨(some 66), (.bin .add .num (.t 38) (.k (.int .i64 1))), none⟩,
 ⟨(some 38), (.mov (.t 66)), none⟩])))))))
 (.seq (.reg [⟨(some 6), (.mov (.k (.int .i64 0))), none⟩])
 .ret)))))))⟩

/-- 203: (*signetring/ratchet.letter).open -/
def F203 : Fun :=
 ⟨33, 2, [.t 4, .t 5],
 (.seq (.reg [⟨(some 4), (.mov (.k (.str []))), none⟩,
 ⟨(some 5), (.mov (.k (.int .i64 0))), none⟩])
 (.seq (.dreg [⟨(some 6), (.mov (.t 0)), none⟩,
 ⟨(some 7), (.nilck (.t 6)), none⟩,
 ⟨(some 8), (.fad 0 (.t 7)), none⟩,
 ⟨(some 9), (.load 1 false (.t 8)), none⟩,
 ⟨(some 10), (.mov (.t 1)), none⟩,
 ⟨(some 11), (.mov (.t 0)), none⟩,
 ⟨(some 12), (.nilck (.t 11)), none⟩,
 ⟨(some 13), (.fad 0 (.t 12)), none⟩,
 ⟨(some 14), (.load 1 false (.t 13)), none⟩,
 ⟨(some 15), (.mov (.t 0)), none⟩,
 ⟨(some 16), (.nilck (.t 15)), none⟩,
 ⟨(some 17), (.fad 1 (.t 16)), none⟩,
 ⟨(some 18), (.load 1 false (.t 17)), none⟩,
 ⟨(some 19), (.mov (.t 0)), none⟩,
 ⟨(some 20), (.nilck (.t 19)), none⟩,
 ⟨(some 21), (.fad 3 (.t 20)), none⟩,
 ⟨(some 22), (.load 1 false (.t 21)), none⟩,
 ⟨(some 23), (.call (.k (.fn (.func 139) [] [])) [(.t 14), (.t 18), (.t 22)]), none⟩,
 ⟨(some 24), (.mov (.t 0)), none⟩,
 ⟨(some 25), (.nilck (.t 24)), none⟩,
 ⟨(some 26), (.fad 4 (.t 25)), none⟩,
 ⟨(some 27), (.load 1 false (.t 26)), none⟩,
 ⟨(some 28), (.nilck (.t 9)), none⟩,
 ⟨(some 29), (.mov (.t 9)), none⟩,
 ⟨(some 30), (.inv (.t 29) "Open" [(.t 10), (.k (.int .u64 0)), (.t 23), (.t 27)]), none⟩,
 ⟨(some 31), (.ext (.t 30) 0), none⟩,
 ⟨(some 32), (.ext (.t 30) 1), none⟩,
 ⟨(some 4), (.mov (.t 31)), none⟩,
 ⟨(some 5), (.mov (.t 32)), none⟩] (.lin [] [(0, none), (1, none), (2, none), (3, none), (4, none), (5, none), (6, none), (7, none), (8, none), (9, none), (10, none), (11, none), (12, none), (13, none), (14, none), (15, none), (16, none), (18, none), (19, none), (20, none), (21, none), (22, none), (23, none), (17, some [0, 1, 2, 3, 4, 18, 19, 20, 21, 22, 23]), (24, some []), (25, none), (26, none), (27, none), (28, none)]))
 .ret))⟩

/-- 210: (signetring/cipher.State).used -/
def F210 : Fun :=
 ⟨29, 2, [.c 4 2 true, .t 5],
 (.seq (.reg [⟨(some 2), (.box none (.t 0)), none⟩,
 ⟨(some 4), (.new [(.str []), (.int .u64 0)] none), none⟩,
 ⟨(some 5), (.mov (.k (.int .i64 0))), none⟩])
 (.seq (.block 0
 (.seq (.reg [⟨(some 7), (.mov (.t 1)), none⟩,
 ⟨(some 8), (.bin .eql .ifc (.t 7) (.k .nifc)), none⟩,
 ⟨(some 6), (.mov (.t 8)), none⟩])
 (.cond (.t 6)
 (.seq (.reg [⟨(some 9), (.load 2 true (.t 2)), none⟩,
 ⟨none, (.store 2 (.t 4) (.t 9)), none⟩,
 ⟨(some 5), (.mov (.k (.int .i64 1))), none⟩])
 .ret)
 (.seq (.reg [⟨(some 11), (.fad 0 (.t 2)), none⟩,
 ⟨(some 12), (.load 1 false (.t 11)), none⟩,
 ⟨(some 13), (.bin .neq .str (.t 12) (.k (.str []))), none⟩,
 ⟨(some 14), (.mov (.t 13)), none⟩,
 ⟨(some 15), (.fad 1 (.t 2)), some (14, true)⟩,
 ⟨(some 16), (.load 1 false (.t 15)), some (14, true)⟩,
 ⟨(some 17), (.bin .eql .num (.t 16) (.k (.int .u64 18446744073709551615))), some (14, true)⟩,
 ⟨(some 18), (.pick (.t 14) (.t 17) (.k (.bool false))), none⟩,
 ⟨(some 10), (.mov (.t 18)), none⟩])
 (.cond (.t 10)
 (.seq (.reg [⟨(some 19), (.load 2 true (.t 2)), none⟩,
 ⟨none, (.store 2 (.t 4) (.t 19)), none⟩,
 ⟨(some 5), (.mov (.k (.int .i64 12))), none⟩])
 .ret)
 (.seq (.reg [⟨(some 21), (.fad 0 (.t 2)), none⟩,
 ⟨(some 22), (.load 1 false (.t 21)), none⟩,
 ⟨(some 23), (.bin .neq .str (.t 22) (.k (.str []))), none⟩,
 ⟨(some 20), (.mov (.t 23)), none⟩])
 (.cond (.t 20)
 (.reg [⟨(some 24), (.fad 1 (.t 2)), none⟩,
 ⟨(some 25), (.load 1 false (.t 24)), none⟩,
 ⟨(some 26), (.bin .add .num (.t 25) (.k (.int .u64 1))), none⟩,
 ⟨(some 27), (.fad 1 (.t 2)), none⟩,
 ⟨none, (.store 1 (.t 27) (.t 26)), none⟩])
 .skip)))))))
 (.seq (.reg [⟨(some 28), (.load 2 true (.t 2)), none⟩,
 ⟨none, (.store 2 (.t 4) (.t 28)), none⟩,
 ⟨(some 5), (.mov (.k (.int .i64 0))), none⟩])
 .ret)))⟩

/-- 216: cmp.isNaN[string] -/
def F216 : Fun :=
 ⟨6, 1, [.t 2],
 (.seq (.reg [⟨(some 2), (.mov (.k (.bool false))), none⟩])
 (.seq (.reg [⟨(some 3), (.mov (.t 0)), none⟩,
 ⟨(some 4), (.mov (.t 0)), none⟩,
 ⟨(some 5), (.bin .neq .str (.t 3) (.t 4)), none⟩,
 ⟨(some 2), (.mov (.t 5)), none⟩])
 .ret))⟩

/-- 218: signetring/chain.Skip -/
def F218 : Fun :=
 ⟨70, 3, [.c 6 2 true, .t 7, .t 8],
 (.seq (.reg [⟨(some 4), (.box none (.t 1)), none⟩,
 ⟨(some 6), (.new [(.str []), (.int .i64 0)] none), none⟩,
 ⟨(some 7), (.mov (.k .nsl)), none⟩,
 ⟨(some 8), (.mov (.k (.int .i64 0))), none⟩])
 (.seq (.block 0
 (.seq (.reg [⟨(some 15), (.mov (.t 0)), none⟩,
 ⟨(some 16), (.bin .eql .ifc (.t 15) (.k .nifc)), none⟩,
 ⟨(some 14), (.mov (.t 16)), none⟩])
 (.cond (.t 14)
 (.seq (.reg [⟨(some 17), (.load 2 true (.t 4)), none⟩,
 ⟨none, (.store 2 (.t 6) (.t 17)), none⟩,
 ⟨(some 7), (.mov (.k .nsl)), none⟩,
 ⟨(some 8), (.mov (.k (.int .i64 1))), none⟩])
 .ret)
 (.seq (.reg [⟨(some 19), (.fad 1 (.t 4)), none⟩,
 ⟨(some 20), (.load 1 false (.t 19)), none⟩,
 ⟨(some 21), (.bin .lss .num (.t 20) (.k (.int .i64 0))), none⟩,
 ⟨(some 22), (.mov (.t 21)), none⟩,
 ⟨(some 23), (.mov (.t 2)), some (22, false)⟩,
 ⟨(some 24), (.bin .lss .num (.t 23) (.k (.int .i64 0))), some (22, false)⟩,
 ⟨(some 25), (.pick (.t 22) (.k (.bool true)) (.t 24)), none⟩,
 ⟨(some 18), (.mov (.t 25)), none⟩])
 (.cond (.t 18)
 (.seq (.reg [⟨(some 26), (.load 2 true (.t 4)), none⟩,
 ⟨none, (.store 2 (.t 6) (.t 26)), none⟩,
 ⟨(some 7), (.mov (.k .nsl)), none⟩,
 ⟨(some 8), (.mov (.k (.int .i64 2))), none⟩])
 .ret)
 (.seq (.reg [⟨(some 28), (.mov (.t 2)), none⟩,
 ⟨(some 29), (.fad 1 (.t 4)), none⟩,
 ⟨(some 30), (.load 1 false (.t 29)), none⟩,
 ⟨(some 31), (.bin .lss .num (.t 28) (.t 30)), none⟩,
 ⟨(some 27), (.mov (.t 31)), none⟩])
 (.cond (.t 27)
 (.seq (.reg [⟨(some 32), (.load 2 true (.t 4)), none⟩,
 ⟨none, (.store 2 (.t 6) (.t 32)), none⟩,
 ⟨(some 7), (.mov (.k .nsl)), none⟩,
 ⟨(some 8), (.mov (.k (.int .i64 7))), none⟩])
 .ret)
 (.seq (.reg [⟨(some 34), (.mov (.t 2)), none⟩,
 ⟨(some 35), (.bin .gtr .num (.t 34) (.k (.int .i64 1000))), none⟩,
 ⟨(some 33), (.mov (.t 35)), none⟩])
 (.cond (.t 33)
 (.seq (.reg [⟨(some 36), (.load 2 true (.t 4)), none⟩,
 ⟨none, (.store 2 (.t 6) (.t 36)), none⟩,
 ⟨(some 7), (.mov (.k .nsl)), none⟩,
 ⟨(some 8), (.mov (.k (.int .i64 12))), none⟩])
 .ret)
 (.seq (.reg [⟨(some 38), (.mov (.t 2)), none⟩,
 ⟨(some 39), (.fad 1 (.t 4)), none⟩,
 ⟨(some 40), (.load 1 false (.t 39)), none⟩,
 ⟨(some 41), (.bin .sub .num (.t 38) (.t 40)), none⟩,
 ⟨(some 42), (.bin .gtr .num (.t 41) (.k (.int .i64 20))), none⟩,
 ⟨(some 37), (.mov (.t 42)), none⟩])
 (.cond (.t 37)
 (.seq (.reg [⟨(some 43), (.load 2 true (.t 4)), none⟩,
 ⟨none, (.store 2 (.t 6) (.t 43)), none⟩,
 ⟨(some 7), (.mov (.k .nsl)), none⟩,
 ⟨(some 8), (.mov (.k (.int .i64 8))), none⟩])
 .ret)
 .skip)))))))))))
 (.seq (.reg [⟨(some 44), (.load 2 true (.t 4)), none⟩,
 ⟨(some 9), (.new [(.str []), (.int .i64 0)] none), none⟩,
 ⟨none, (.store 2 (.t 9) (.t 44)), none⟩])
 (.seq (.reg [⟨(some 10), (.mov (.k .nsl)), none⟩])
 (.seq (.seq (.reg [⟨(some 45), (.mov (.t 2)), none⟩,
 ⟨(some 46), (.fad 1 (.t 4)), none⟩,
 ⟨(some 47), (.load 1 false (.t 46)), none⟩,
 ⟨(some 48), (.bin .sub .num (.t 45) (.t 47)), none⟩,
 ⟨(some 49), (.mov (.k (.int .i64 0))), none⟩])
 (.block 1
 (.loop
 (.seq (.reg [⟨(some 50), (.bin .lss .num (.t 49) (.t 48)), none⟩])
 (.seq (.cond (.t 50)
 .skip
 (.exit 1))
 (.seq (.block 2
 (.seq (.reg [⟨(some 52), (.mov (.t 0)), none⟩,
 ⟨(some 53), (.load 2 true (.t 9)), none⟩,
 ⟨(some 54), (.call (.k (.fn (.func 137) [] [])) [(.t 52), (.t 53)]), none⟩,
 ⟨(some 51), (.mov (.t 54)), none⟩,
 ⟨(some 55), (.ext (.t 51) 0), none⟩,
 ⟨(some 56), (.ext (.t 51) 1), none⟩,
 ⟨(some 57), (.ext (.t 51) 2), none⟩,
 ⟨(some 11), (.new [(.str []), (.int .i64 0)] none), none⟩,
 ⟨none, (.store 2 (.t 11) (.t 55)), none⟩,
 ⟨(some 12), (.mov (.t 56)), none⟩,
 ⟨(some 13), (.mov (.t 57)), none⟩])
 (.seq (.seq (.reg [⟨(some 58), (.mov (.t 13)), none⟩,
 ⟨(some 59), (.bin .neq .num (.t 58) (.k (.int .i64 0))), none⟩])
 (.cond (.t 59)
 (.seq (.reg [⟨(some 60), (.load 2 true (.t 4)), none⟩,
 ⟨(some 61), (.mov (.t 13)), none⟩,
 ⟨none, (.store 2 (.t 6) (.t 60)), none⟩,
 ⟨(some 7), (.mov (.k .nsl)), none⟩,
 ⟨(some 8), (.mov (.t 61)), none⟩])
 .ret)
 .skip))
 (.seq (.reg [⟨(some 62), (.load 2 true (.t 11)), none⟩,
 ⟨none, (.store 2 (.t 9) (.t 62)), none⟩])
 (.reg [⟨(some 63), (.mov (.t 10)), none⟩,
 ⟨(some 64), (.mov (.t 12)), none⟩,
 ⟨(some 65), (.mks true 1 16 false [(.str [])] 1 [(0, (.t 64))]), none⟩,
 ⟨(some 66), (.app 1 16 false none (.t 63) (.t 65)), none⟩,
 ⟨(some 10), (.mov (.t 66)), none⟩])))))
 (.reg [⟨(some 67), (.bin .add .num (.t 49) (.k (.int .i64 1))), none⟩,
 ⟨(some 49), (.mov (.t 67)), none⟩])))))))
 (.seq (.reg [⟨(some 68), (.load 2 true (.t 9)), none⟩,
 ⟨(some 69), (.mov (.t 10)), none⟩,
 ⟨none, (.store 2 (.t 6) (.t 68)), none⟩,
 ⟨(some 7), (.mov (.t 69)), none⟩,
 ⟨(some 8), (.mov (.k (.int .i64 0))), none⟩])
 .ret))))))⟩

/-- 241: (*signetring/term.Table).Dh -/
def F241 : Fun :=
 ⟨39, 3, [.t 6, .t 7],
 (.seq (.reg [⟨(some 6), (.mov (.k (.str []))), none⟩,
 ⟨(some 7), (.mov (.k (.bool false))), none⟩])
 (.seq (.reg [⟨(some 14), (.mov (.t 0)), none⟩,
 ⟨(some 15), (.mov (.t 2)), none⟩,
 ⟨(some 16), (.call (.k (.fn (.func 245) [] [])) [(.t 14), (.t 15)]), none⟩,
 ⟨(some 13), (.mov (.t 16)), none⟩,
 ⟨(some 17), (.ext (.t 13) 0), none⟩,
 ⟨(some 18), (.ext (.t 13) 1), none⟩,
 ⟨(some 19), (.ext (.t 13) 2), none⟩,
 ⟨(some 8), (.mov (.t 17)), none⟩,
 ⟨(some 9), (.mov (.t 18)), none⟩,
 ⟨(some 10), (.mov (.t 19)), none⟩])
 (.seq (.seq (.reg [⟨(some 20), (.mov (.t 10)), none⟩,
 ⟨(some 21), (.un .not (.t 20)), none⟩,
 ⟨(some 22), (.mov (.t 21)), none⟩,
 ⟨(some 23), (.mov (.t 8)), some (22, false)⟩,
 ⟨(some 24), (.bin .neq .num (.t 23) (.k (.int .u8 2))), some (22, false)⟩,
 ⟨(some 25), (.pick (.t 22) (.k (.bool true)) (.t 24)), none⟩])
 (.cond (.t 25)
 (.seq (.reg [⟨(some 6), (.mov (.k (.str []))), none⟩,
 ⟨(some 7), (.mov (.k (.bool false))), none⟩])
 .ret)
 .skip))
 (.seq (.reg [⟨(some 26), (.mov (.t 1)), none⟩,
 ⟨(some 27), (.mov (.t 9)), none⟩,
 ⟨(some 28), (.iad 1 (.t 27) (.k (.int .i64 0))), none⟩,
 ⟨(some 29), (.load 1 false (.t 28)), none⟩,
 ⟨(some 30), (.mks false 1 16 false [(.str []), (.str [])] 2 [(0, (.t 26)), (1, (.t 29))]), none⟩,
 ⟨(some 11), (.mov (.t 30)), none⟩])
 (.seq (.reg [⟨(some 31), (.mov (.t 11)), none⟩,
 ⟨(some 32), (.call (.k (.fn (.func 140) [] [])) [(.t 31)]), none⟩])
 (.seq (.reg [⟨(some 33), (.mov (.t 0)), none⟩,
 ⟨(some 34), (.mov (.t 11)), none⟩,
 ⟨(some 35), (.call (.k (.fn (.func 98) [] [])) [(.t 33), (.k (.int .u8 3)), (.t 34)]), none⟩,
 ⟨(some 12), (.mov (.t 35)), none⟩])
 (.seq (.reg [⟨(some 36), (.mov (.t 12)), none⟩,
 ⟨(some 37), (.mov (.t 12)), none⟩,
 ⟨(some 38), (.bin .neq .str (.t 37) (.k (.str []))), none⟩,
 ⟨(some 6), (.mov (.t 36)), none⟩,
 ⟨(some 7), (.mov (.t 38)), none⟩])
 .ret)))))))⟩

/-- 242: (*signetring/term.Table).Hash -/
def F242 : Fun :=
 ⟨8, 2, [.t 4],
 (.seq (.reg [⟨(some 4), (.mov (.k (.str []))), none⟩])
 (.seq (.reg [⟨(some 5), (.mov (.t 0)), none⟩,
 ⟨(some 6), (.mov (.t 1)), none⟩,
 ⟨(some 7), (.call (.k (.fn (.func 98) [] [])) [(.t 5), (.k (.int .u8 4)), (.t 6)]), none⟩,
 ⟨(some 4), (.mov (.t 7)), none⟩])
 .ret))⟩

/-- 243: (*signetring/term.Table).Pub -/
def F243 : Fun :=
 ⟨9, 2, [.t 4],
 (.seq (.reg [⟨(some 4), (.mov (.k (.str []))), none⟩])
 (.seq (.reg [⟨(some 5), (.mov (.t 0)), none⟩,
 ⟨(some 6), (.mov (.t 1)), none⟩,
 ⟨(some 7), (.mks true 1 16 false [(.str [])] 1 [(0, (.t 6))]), none⟩,
 ⟨(some 8), (.call (.k (.fn (.func 98) [] [])) [(.t 5), (.k (.int .u8 2)), (.t 7)]), none⟩,
 ⟨(some 4), (.mov (.t 8)), none⟩])
 .ret))⟩

/-- 244: (*signetring/term.Table).Seal -/
def F244 : Fun :=
 ⟨19, 5, [.t 10],
 (.seq (.reg [⟨(some 10), (.mov (.k (.str []))), none⟩])
 (.seq (.reg [⟨(some 11), (.mov (.t 0)), none⟩,
 ⟨(some 12), (.mov (.t 1)), none⟩,
 ⟨(some 13), (.mov (.t 2)), none⟩,
 ⟨(some 14), (.call (.k (.fn (.func 67) [] [])) [(.t 13)]), none⟩,
 ⟨(some 15), (.mov (.t 3)), none⟩,
 ⟨(some 16), (.mov (.t 4)), none⟩,
 ⟨(some 17), (.mks true 1 16 false [(.str []), (.str []), (.str []), (.str [])] 4 [(0, (.t 12)), (1, (.t 14)), (2, (.t 15)), (3, (.t 16))]), none⟩,
 ⟨(some 18), (.call (.k (.fn (.func 98) [] [])) [(.t 11), (.k (.int .u8 5)), (.t 17)]), none⟩,
 ⟨(some 10), (.mov (.t 18)), none⟩])
 .ret))⟩

/-- 245: (*signetring/term.Table).Parts -/
def F245 : Fun :=
 ⟨34, 2, [.t 4, .t 5, .t 6],
 (.seq (.reg [⟨(some 4), (.mov (.k (.int .u8 0))), none⟩,
 ⟨(some 5), (.mov (.k .nsl)), none⟩,
 ⟨(some 6), (.mov (.k (.bool false))), none⟩])
 (.seq (.seq (.reg [⟨(some 12), (.mov (.t 0)), none⟩,
 ⟨(some 13), (.call (.k (.fn (.func 145) [] [])) [(.t 12)]), none⟩,
 ⟨(some 14), (.un .not (.t 13)), none⟩])
 (.cond (.t 14)
 (.seq (.reg [⟨(some 4), (.mov (.k (.int .u8 0))), none⟩,
 ⟨(some 5), (.mov (.k .nsl)), none⟩,
 ⟨(some 6), (.mov (.k (.bool false))), none⟩])
 .ret)
 .skip))
 (.seq (.reg [⟨(some 16), (.mov (.t 0)), none⟩,
 ⟨(some 17), (.nilck (.t 16)), none⟩,
 ⟨(some 18), (.fad 1 (.t 17)), none⟩,
 ⟨(some 19), (.load 1 false (.t 18)), none⟩,
 ⟨(some 20), (.mov (.t 1)), none⟩,
 ⟨(some 21), (.look .str (.str []) (.t 19) (.t 20) true), none⟩,
 ⟨(some 15), (.mov (.t 21)), none⟩,
 ⟨(some 22), (.ext (.t 15) 0), none⟩,
 ⟨(some 23), (.ext (.t 15) 1), none⟩,
 ⟨(some 7), (.mov (.t 22)), none⟩,
 ⟨(some 8), (.mov (.t 23)), none⟩])
 (.seq (.seq (.reg [⟨(some 24), (.mov (.t 8)), none⟩,
 ⟨(some 25), (.un .not (.t 24)), none⟩])
 (.cond (.t 25)
 (.seq (.reg [⟨(some 4), (.mov (.k (.int .u8 0))), none⟩,
 ⟨(some 5), (.mov (.k .nsl)), none⟩,
 ⟨(some 6), (.mov (.k (.bool false))), none⟩])
 .ret)
 .skip))
 (.seq (.reg [⟨(some 27), (.mov (.t 7)), none⟩,
 ⟨(some 28), (.call (.k (.fn (.func 90) [] [])) [(.t 27)]), none⟩,
 ⟨(some 26), (.mov (.t 28)), none⟩,
 ⟨(some 29), (.ext (.t 26) 0), none⟩,
 ⟨(some 30), (.ext (.t 26) 1), none⟩,
 ⟨(some 31), (.ext (.t 26) 2), none⟩,
 ⟨(some 9), (.mov (.t 29)), none⟩,
 ⟨(some 10), (.mov (.t 30)), none⟩,
 ⟨(some 11), (.mov (.t 31)), none⟩])
 (.seq (.reg [⟨(some 32), (.mov (.t 9)), none⟩,
 ⟨(some 33), (.mov (.t 10)), none⟩,
 ⟨(some 4), (.mov (.t 32)), none⟩,
 ⟨(some 5), (.mov (.t 33)), none⟩,
 ⟨(some 6), (.mov (.k (.bool true))), none⟩])
 .ret))))))⟩

/-- 246: (signetring/prims.symbol).Hash -/
def F246 : Fun :=
 ⟨13, 3, [.t 6],
 (.seq (.reg [⟨(some 3), (.box none (.t 0)), none⟩,
 ⟨(some 6), (.mov (.k (.str []))), none⟩])
 (.seq (.reg [⟨(some 7), (.fad 0 (.t 3)), none⟩,
 ⟨(some 8), (.load 1 false (.t 7)), none⟩,
 ⟨(some 9), (.mov (.t 1)), none⟩,
 ⟨(some 10), (.mov (.t 2)), none⟩,
 ⟨(some 11), (.mks true 1 16 false [(.str []), (.str []), (.str [])] 3 [(0, (.k (.str [104, 97, 115, 104]))), (1, (.t 9)), (2, (.t 10))]), none⟩,
 ⟨(some 12), (.call (.k (.fn (.func 242) [] [])) [(.t 8), (.t 11)]), none⟩,
 ⟨(some 6), (.mov (.t 12)), none⟩])
 .ret))⟩

/-- 247: (signetring/prims.symbol).Keys -/
def F247 : Fun :=
 ⟨40, 4, [.t 8],
 (.seq (.reg [⟨(some 4), (.box none (.t 0)), none⟩,
 ⟨(some 8), (.mov (.k .nsl)), none⟩])
 (.seq (.seq (.reg [⟨(some 12), (.mov (.t 3)), none⟩,
 ⟨(some 13), (.bin .lss .num (.t 12) (.k (.int .i64 1))), none⟩,
 ⟨(some 14), (.mov (.t 13)), none⟩,
 ⟨(some 15), (.mov (.t 3)), some (14, false)⟩,
 ⟨(some 16), (.bin .gtr .num (.t 15) (.k (.int .i64 3))), some (14, false)⟩,
 ⟨(some 17), (.pick (.t 14) (.k (.bool true)) (.t 16)), none⟩])
 (.cond (.t 17)
 (.seq (.reg [⟨(some 8), (.mov (.k .nsl)), none⟩])
 .ret)
 .skip))
 (.seq (.reg [⟨(some 9), (.mov (.k .nsl)), none⟩])
 (.seq (.seq (.reg [⟨(some 18), (.mov (.t 3)), none⟩,
 ⟨(some 19), (.mov (.k (.int .i64 0))), none⟩])
 (.block 0
 (.loop
 (.seq (.reg [⟨(some 20), (.bin .lss .num (.t 19) (.t 18)), none⟩])
 (.seq (.cond (.t 20)
 .skip
 (.exit 0))
 (.seq (.block 1
 (.seq (.reg [⟨(some 21), (.mov (.t 19)), none⟩,
 ⟨(some 10), (.mov (.t 21)), none⟩])
 (.seq (.dreg [⟨(some 22), (.fad 0 (.t 4)), none⟩,
 ⟨(some 23), (.load 1 false (.t 22)), none⟩,
 ⟨(some 24), (.mov (.t 10)), none⟩,
 ⟨(some 25), (.bin .add .num (.t 24) (.k (.int .i64 1))), none⟩,
 ⟨(some 26), (.cvi .u64 (.t 25)), none⟩,
 ⟨(some 27), (.call (.k (.fn (.func 67) [] [])) [(.t 26)]), none⟩,
 ⟨(some 28), (.mov (.t 1)), none⟩,
 ⟨(some 29), (.mov (.t 2)), none⟩,
 ⟨(some 30), (.mks true 1 16 false [(.str []), (.str []), (.str []), (.str [])] 4 [(0, (.k (.str [107, 101, 121]))), (1, (.t 27)), (2, (.t 28)), (3, (.t 29))]), none⟩,
 ⟨(some 31), (.call (.k (.fn (.func 242) [] [])) [(.t 23), (.t 30)]), none⟩,
 ⟨(some 11), (.mov (.t 31)), none⟩] (.lin [] [(0, none), (1, none), (2, none), (3, none), (4, none), (6, none), (7, none), (5, some [0, 1, 6, 7]), (8, none), (9, some []), (10, none)]))
 (.seq (.seq (.reg [⟨(some 32), (.mov (.t 11)), none⟩,
 ⟨(some 33), (.bin .eql .str (.t 32) (.k (.str []))), none⟩])
 (.cond (.t 33)
 (.seq (.reg [⟨(some 8), (.mov (.k .nsl)), none⟩])
 .ret)
 .skip))
 (.reg [⟨(some 34), (.mov (.t 9)), none⟩,
 ⟨(some 35), (.mov (.t 11)), none⟩,
 ⟨(some 36), (.mks true 1 16 false [(.str [])] 1 [(0, (.t 35))]), none⟩,
 ⟨(some 37), (.app 1 16 false none (.t 34) (.t 36)), none⟩,
 ⟨(some 9), (.mov (.t 37)), none⟩])))))
 (.reg [⟨(some 38), (.bin .add .num (.t 19) (.k (.int .i64 1))), none⟩,
 ⟨(some 19), (.mov (.t 38)), none⟩])))))))
 (.seq (.reg [⟨(some 39), (.mov (.t 9)), none⟩,
 ⟨(some 8), (.mov (.t 39)), none⟩])
 .ret)))))⟩

/-- 248: (signetring/prims.symbol).Open -/
def F248 : Fun :=
 ⟨54, 5, [.t 10, .t 11],
 (.seq (.reg [⟨(some 5), (.box none (.t 0)), none⟩,
 ⟨(some 10), (.mov (.k (.str []))), none⟩,
 ⟨(some 11), (.mov (.k (.int .i64 0))), none⟩])
 (.seq (.reg [⟨(some 16), (.fad 0 (.t 5)), none⟩,
 ⟨(some 17), (.load 1 false (.t 16)), none⟩,
 ⟨(some 18), (.mov (.t 4)), none⟩,
 ⟨(some 19), (.call (.k (.fn (.func 245) [] [])) [(.t 17), (.t 18)]), none⟩,
 ⟨(some 15), (.mov (.t 19)), none⟩,
 ⟨(some 20), (.ext (.t 15) 0), none⟩,
 ⟨(some 21), (.ext (.t 15) 1), none⟩,
 ⟨(some 22), (.ext (.t 15) 2), none⟩,
 ⟨(some 12), (.mov (.t 20)), none⟩,
 ⟨(some 13), (.mov (.t 21)), none⟩,
 ⟨(some 14), (.mov (.t 22)), none⟩])
 (.seq (.seq (.dreg [⟨(some 23), (.mov (.t 14)), none⟩,
 ⟨(some 24), (.un .not (.t 23)), none⟩,
 ⟨(some 25), (.mov (.t 24)), none⟩,
 ⟨(some 26), (.mov (.t 12)), some (25, false)⟩,
 ⟨(some 27), (.bin .neq .num (.t 26) (.k (.int .u8 5))), some (25, false)⟩,
 ⟨(some 28), (.pick (.t 25) (.k (.bool true)) (.t 27)), none⟩,
 ⟨(some 29), (.mov (.t 28)), none⟩,
 ⟨(some 30), (.mov (.t 13)), some (29, false)⟩,
 ⟨(some 31), (.iad 1 (.t 30) (.k (.int .i64 0))), some (29, false)⟩,
 ⟨(some 32), (.load 1 false (.t 31)), some (29, false)⟩,
 ⟨(some 33), (.mov (.t 1)), some (29, false)⟩,
 ⟨(some 34), (.bin .neq .str (.t 32) (.t 33)), some (29, false)⟩,
 ⟨(some 35), (.pick (.t 29) (.k (.bool true)) (.t 34)), none⟩,
 ⟨(some 36), (.mov (.t 35)), none⟩,
 ⟨(some 37), (.mov (.t 13)), some (36, false)⟩,
 ⟨(some 38), (.iad 1 (.t 37) (.k (.int .i64 1))), some (36, false)⟩,
 ⟨(some 39), (.load 1 false (.t 38)), some (36, false)⟩,
 ⟨(some 40), (.mov (.t 2)), some (36, false)⟩,
 ⟨(some 41), (.call (.k (.fn (.func 67) [] [])) [(.t 40)]), some (36, false)⟩,
 ⟨(some 42), (.bin .neq .str (.t 39) (.t 41)), some (36, false)⟩,
 ⟨(some 43), (.pick (.t 36) (.k (.bool true)) (.t 42)), none⟩,
 ⟨(some 44), (.mov (.t 43)), none⟩,
 ⟨(some 45), (.mov (.t 13)), some (44, false)⟩,
 ⟨(some 46), (.iad 1 (.t 45) (.k (.int .i64 2))), some (44, false)⟩,
 ⟨(some 47), (.load 1 false (.t 46)), some (44, false)⟩,
 ⟨(some 48), (.mov (.t 3)), some (44, false)⟩,
 ⟨(some 49), (.bin .neq .str (.t 47) (.t 48)), some (44, false)⟩,
 ⟨(some 50), (.pick (.t 44) (.k (.bool true)) (.t 49)), none⟩] (.lin [] [(0, none), (1, none), (2, none), (3, none), (4, none), (5, none), (6, none), (7, none), (8, none), (9, none), (10, none), (11, none), (12, none), (13, none), (14, none), (15, none), (16, none), (17, none), (18, some [14, 15, 16]), (19, none), (20, none), (21, none), (22, none), (23, none), (24, none), (25, none), (26, none), (27, none)]))
 (.cond (.t 50)
 (.seq (.reg [⟨(some 10), (.mov (.k (.str []))), none⟩,
 ⟨(some 11), (.mov (.k (.int .i64 5))), none⟩])
 .ret)
 .skip))
 (.seq (.reg [⟨(some 51), (.mov (.t 13)), none⟩,
 ⟨(some 52), (.iad 1 (.t 51) (.k (.int .i64 3))), none⟩,
 ⟨(some 53), (.load 1 false (.t 52)), none⟩,
 ⟨(some 10), (.mov (.t 53)), none⟩,
 ⟨(some 11), (.mov (.k (.int .i64 0))), none⟩])
 .ret))))⟩


theorem ck126 : ckFS Tryz.prog 126 F126 = true := by kernel_rfl
theorem ck128 : ckF Tryz.prog 128 F128 = true := by kernel_rfl
theorem ck129 : ckF Tryz.prog 129 F129 = true := by kernel_rfl
theorem ck130 : ckF Tryz.prog 130 F130 = true := by kernel_rfl
theorem ck131 : ckF Tryz.prog 131 F131 = true := by kernel_rfl
theorem ck132 : ckF Tryz.prog 132 F132 = true := by kernel_rfl
theorem ck133 : ckF Tryz.prog 133 F133 = true := by kernel_rfl
theorem ck134 : ckF Tryz.prog 134 F134 = true := by kernel_rfl
theorem ck135 : ckF Tryz.prog 135 F135 = true := by kernel_rfl
theorem ck136 : ckF Tryz.prog 136 F136 = true := by kernel_rfl
theorem ck137 : ckF Tryz.prog 137 F137 = true := by kernel_rfl
theorem ck138 : ckF Tryz.prog 138 F138 = true := by kernel_rfl
theorem ck139 : ckF Tryz.prog 139 F139 = true := by kernel_rfl
theorem ck140 : ckF Tryz.prog 140 F140 = true := by kernel_rfl
theorem ck141 : ckF Tryz.prog 141 F141 = true := by kernel_rfl
theorem ck143 : ckF Tryz.prog 143 F143 = true := by kernel_rfl
theorem ck144 : ckF Tryz.prog 144 F144 = true := by kernel_rfl
theorem ck145 : ckF Tryz.prog 145 F145 = true := by kernel_rfl
theorem ck146 : ckF Tryz.prog 146 F146 = true := by kernel_rfl
theorem ck147 : ckF Tryz.prog 147 F147 = true := by kernel_rfl
theorem ck148 : ckF Tryz.prog 148 F148 = true := by kernel_rfl
theorem ck149 : ckF Tryz.prog 149 F149 = true := by kernel_rfl
theorem ck150 : ckF Tryz.prog 150 F150 = true := by kernel_rfl
theorem ck151 : ckF Tryz.prog 151 F151 = true := by kernel_rfl
theorem ck159 : ckF Tryz.prog 159 F159 = true := by kernel_rfl
theorem ck160 : ckF Tryz.prog 160 F160 = true := by kernel_rfl
theorem ck161 : ckF Tryz.prog 161 F161 = true := by kernel_rfl
theorem ck162 : ckF Tryz.prog 162 F162 = true := by kernel_rfl
theorem ck163 : ckF Tryz.prog 163 F163 = true := by kernel_rfl
theorem ck164 : ckF Tryz.prog 164 F164 = true := by kernel_rfl
theorem ck165 : ckF Tryz.prog 165 F165 = true := by kernel_rfl
theorem ck166 : ckFS Tryz.prog 166 F166 = true := by kernel_rfl
theorem ck167 : ckF Tryz.prog 167 F167 = true := by kernel_rfl
theorem ck168 : ckF Tryz.prog 168 F168 = true := by kernel_rfl
theorem ck169 : ckF Tryz.prog 169 F169 = true := by kernel_rfl
theorem ck170 : ckF Tryz.prog 170 F170 = true := by kernel_rfl
theorem ck171 : ckF Tryz.prog 171 F171 = true := by kernel_rfl
theorem ck172 : ckF Tryz.prog 172 F172 = true := by kernel_rfl
theorem ck174 : ckF Tryz.prog 174 F174 = true := by kernel_rfl
theorem ck176 : ckF Tryz.prog 176 F176 = true := by kernel_rfl
theorem ck178 : ckF Tryz.prog 178 F178 = true := by kernel_rfl
theorem ck183 : ckF Tryz.prog 183 F183 = true := by kernel_rfl
theorem ck184 : ckF Tryz.prog 184 F184 = true := by kernel_rfl
theorem ck185 : ckF Tryz.prog 185 F185 = true := by kernel_rfl
theorem ck186 : ckF Tryz.prog 186 F186 = true := by kernel_rfl
theorem ck192 : ckF Tryz.prog 192 F192 = true := by kernel_rfl
theorem ck196 : ckF Tryz.prog 196 F196 = true := by kernel_rfl
theorem ck197 : ckF Tryz.prog 197 F197 = true := by kernel_rfl
theorem ck202 : ckF Tryz.prog 202 F202 = true := by kernel_rfl
theorem ck203 : ckF Tryz.prog 203 F203 = true := by kernel_rfl
theorem ck210 : ckF Tryz.prog 210 F210 = true := by kernel_rfl
theorem ck216 : ckF Tryz.prog 216 F216 = true := by kernel_rfl
theorem ck218 : ckF Tryz.prog 218 F218 = true := by kernel_rfl
theorem ck241 : ckF Tryz.prog 241 F241 = true := by kernel_rfl
theorem ck242 : ckF Tryz.prog 242 F242 = true := by kernel_rfl
theorem ck243 : ckF Tryz.prog 243 F243 = true := by kernel_rfl
theorem ck244 : ckF Tryz.prog 244 F244 = true := by kernel_rfl
theorem ck245 : ckF Tryz.prog 245 F245 = true := by kernel_rfl
theorem ck246 : ckF Tryz.prog 246 F246 = true := by kernel_rfl
theorem ck247 : ckF Tryz.prog 247 F247 = true := by kernel_rfl
theorem ck248 : ckF Tryz.prog 248 F248 = true := by kernel_rfl
theorem st126 : K.stC F126.c = true := by kernel_rfl
theorem st128 : K.stC F128.c = true := by kernel_rfl
theorem st129 : K.stC F129.c = true := by kernel_rfl
theorem st130 : K.stC F130.c = true := by kernel_rfl
theorem st131 : K.stC F131.c = true := by kernel_rfl
theorem st132 : K.stC F132.c = true := by kernel_rfl
theorem st133 : K.stC F133.c = true := by kernel_rfl
theorem st134 : K.stC F134.c = true := by kernel_rfl
theorem st135 : K.stC F135.c = true := by kernel_rfl
theorem st136 : K.stC F136.c = true := by kernel_rfl
theorem st137 : K.stC F137.c = true := by kernel_rfl
theorem st138 : K.stC F138.c = true := by kernel_rfl
theorem st139 : K.stC F139.c = true := by kernel_rfl
theorem st140 : K.stC F140.c = true := by kernel_rfl
theorem st141 : K.stC F141.c = true := by kernel_rfl
theorem st143 : K.stC F143.c = true := by kernel_rfl
theorem st144 : K.stC F144.c = true := by kernel_rfl
theorem st145 : K.stC F145.c = true := by kernel_rfl
theorem st146 : K.stC F146.c = true := by kernel_rfl
theorem st147 : K.stC F147.c = true := by kernel_rfl
theorem st148 : K.stC F148.c = true := by kernel_rfl
theorem st149 : K.stC F149.c = true := by kernel_rfl
theorem st151 : K.stC F151.c = true := by kernel_rfl
theorem st159 : K.stC F159.c = true := by kernel_rfl
theorem st160 : K.stC F160.c = true := by kernel_rfl
theorem st161 : K.stC F161.c = true := by kernel_rfl
theorem st162 : K.stC F162.c = true := by kernel_rfl
theorem st163 : K.stC F163.c = true := by kernel_rfl
theorem st164 : K.stC F164.c = true := by kernel_rfl
theorem st165 : K.stC F165.c = true := by kernel_rfl
theorem st166 : K.stC F166.c = true := by kernel_rfl
theorem st167 : K.stC F167.c = true := by kernel_rfl
theorem st168 : K.stC F168.c = true := by kernel_rfl
theorem st170 : K.stC F170.c = true := by kernel_rfl
theorem st171 : K.stC F171.c = true := by kernel_rfl
theorem st172 : K.stC F172.c = true := by kernel_rfl
theorem st174 : K.stC F174.c = true := by kernel_rfl
theorem st176 : K.stC F176.c = true := by kernel_rfl
theorem st178 : K.stC F178.c = true := by kernel_rfl
theorem st183 : K.stC F183.c = true := by kernel_rfl
theorem st184 : K.stC F184.c = true := by kernel_rfl
theorem st185 : K.stC F185.c = true := by kernel_rfl
theorem st186 : K.stC F186.c = true := by kernel_rfl
theorem st192 : K.stC F192.c = true := by kernel_rfl
theorem st196 : K.stC F196.c = true := by kernel_rfl
theorem st197 : K.stC F197.c = true := by kernel_rfl
theorem st202 : K.stC F202.c = true := by kernel_rfl
theorem st203 : K.stC F203.c = true := by kernel_rfl
theorem st210 : K.stC F210.c = true := by kernel_rfl
theorem st216 : K.stC F216.c = true := by kernel_rfl
theorem st218 : K.stC F218.c = true := by kernel_rfl
theorem st241 : K.stC F241.c = true := by kernel_rfl
theorem st242 : K.stC F242.c = true := by kernel_rfl
theorem st243 : K.stC F243.c = true := by kernel_rfl
theorem st244 : K.stC F244.c = true := by kernel_rfl
theorem st245 : K.stC F245.c = true := by kernel_rfl
theorem st246 : K.stC F246.c = true := by kernel_rfl
theorem st247 : K.stC F247.c = true := by kernel_rfl
theorem st248 : K.stC F248.c = true := by kernel_rfl
end Go.Proofs.YtbabpibaccngnaaGreat
