/- The code of the functions, as it is told, and that it is told rightly (2). -/
import Derived.Test.YtbabpibaccngnaaGreatProg
import Derived.Test.YtbabpibaccngnaaGreatZv6
import Derived.KernelRfl
set_option linter.unusedSimpArgs false
set_option linter.unusedVariables false
namespace Go.Proofs.YtbabpibaccngnaaGreat
open Go.Vs
set_option maxRecDepth 100000

/-- 185: signetring/chain.Root -/
def F185 : Fun :=
 ⟨29, 3, [.t 6, .t 7, .t 8, .t 9],
 (.seq (.reg [⟨(some 6), (.mov (.k (.str []))), none⟩,
 ⟨(some 7), (.mov (.k (.str []))), none⟩,
 ⟨(some 8), (.mov (.k (.str []))), none⟩,
 ⟨(some 9), (.mov (.k (.int .i64 0))), none⟩])
 (.seq (.seq (.reg [⟨(some 11), (.mov (.t 0)), none⟩,
 ⟨(some 12), (.bin .eql .ifc (.t 11) (.k .nifc)), none⟩])
 (.cond (.t 12)
 (.seq (.reg [⟨(some 6), (.mov (.k (.str []))), none⟩,
 ⟨(some 7), (.mov (.k (.str []))), none⟩,
 ⟨(some 8), (.mov (.k (.str []))), none⟩,
 ⟨(some 9), (.mov (.k (.int .i64 1))), none⟩])
 .ret)
 .skip))
 (.seq (.reg [⟨(some 13), (.mov (.t 0)), none⟩,
 ⟨(some 14), (.mov (.t 1)), none⟩,
 ⟨(some 15), (.mov (.t 2)), none⟩,
 ⟨(some 16), (.inv (.t 13) "Keys" [(.t 14), (.t 15), (.k (.int .i64 3))]), none⟩,
 ⟨(some 10), (.mov (.t 16)), none⟩])
 (.seq (.seq (.reg [⟨(some 17), (.mov (.t 10)), none⟩,
 ⟨(some 18), (.len .slc (.t 17)), none⟩,
 ⟨(some 19), (.bin .lss .num (.t 18) (.k (.int .i64 3))), none⟩])
 (.cond (.t 19)
 (.seq (.reg [⟨(some 6), (.mov (.k (.str []))), none⟩,
 ⟨(some 7), (.mov (.k (.str []))), none⟩,
 ⟨(some 8), (.mov (.k (.str []))), none⟩,
 ⟨(some 9), (.mov (.k (.int .i64 6))), none⟩])
 .ret)
 .skip))
 (.seq (.dreg [⟨(some 20), (.mov (.t 10)), none⟩,
 ⟨(some 21), (.iad 1 (.t 20) (.k (.int .i64 0))), none⟩,
 ⟨(some 22), (.load 1 false (.t 21)), none⟩,
 ⟨(some 23), (.mov (.t 10)), none⟩,
 ⟨(some 24), (.iad 1 (.t 23) (.k (.int .i64 1))), none⟩,
 ⟨(some 25), (.load 1 false (.t 24)), none⟩,
 ⟨(some 26), (.mov (.t 10)), none⟩,
 ⟨(some 27), (.iad 1 (.t 26) (.k (.int .i64 2))), none⟩,
 ⟨(some 28), (.load 1 false (.t 27)), none⟩,
 ⟨(some 6), (.mov (.t 22)), none⟩,
 ⟨(some 7), (.mov (.t 25)), none⟩,
 ⟨(some 8), (.mov (.t 28)), none⟩,
 ⟨(some 9), (.mov (.k (.int .i64 0))), none⟩] (.lin [] [(0, none), (1, none), (2, none), (3, none), (4, none), (5, none), (6, none), (7, none), (8, none), (9, none), (10, none), (11, none), (12, none)]))
 .ret)))))⟩

/-- 186: slices.insertionSortOrdered[string] -/
def F186 : Fun :=
 ⟨49, 3, [],
 (.seq (.reg [⟨(some 8), (.mov (.t 1)), none⟩,
 ⟨(some 9), (.bin .add .num (.t 8) (.k (.int .i64 1))), none⟩,
 ⟨(some 6), (.mov (.t 9)), none⟩])
 (.block 0
 (.loop
 (.seq (.seq (.reg [⟨(some 10), (.mov (.t 6)), none⟩,
 ⟨(some 11), (.mov (.t 2)), none⟩,
 ⟨(some 12), (.bin .lss .num (.t 10) (.t 11)), none⟩])
 (.cond (.t 12)
 .skip
 (.exit 0)))
 (.seq (.block 1
 (.seq (.reg [⟨(some 15), (.mov (.t 6)), none⟩,
 ⟨(some 7), (.mov (.t 15)), none⟩])
 (.block 2
 (.loop
 (.seq (.seq (.dreg [⟨(some 16), (.mov (.t 7)), none⟩,
 ⟨(some 17), (.mov (.t 1)), none⟩,
 ⟨(some 18), (.bin .gtr .num (.t 16) (.t 17)), none⟩,
 ⟨(some 19), (.mov (.t 18)), none⟩,
 ⟨(some 20), (.mov (.t 0)), some (19, true)⟩,
 ⟨(some 21), (.mov (.t 7)), some (19, true)⟩,
 ⟨(some 22), (.iad 1 (.t 20) (.t 21)), some (19, true)⟩,
 ⟨(some 23), (.load 1 false (.t 22)), some (19, true)⟩,
 ⟨(some 24), (.mov (.t 0)), some (19, true)⟩,
 ⟨(some 25), (.mov (.t 7)), some (19, true)⟩,
 ⟨(some 26), (.bin .sub .num (.t 25) (.k (.int .i64 1))), some (19, true)⟩,
 ⟨(some 27), (.iad 1 (.t 24) (.t 26)), some (19, true)⟩,
 ⟨(some 28), (.load 1 false (.t 27)), some (19, true)⟩,
 ⟨(some 29), (.call (.k (.fn (.func 192) [] [])) [(.t 23), (.t 28)]), some (19, true)⟩,
 ⟨(some 30), (.pick (.t 19) (.t 29) (.k (.bool false))), none⟩] (.lin [] [(0, none), (1, none), (2, none), (3, none), (4, none), (5, none), (6, none), (7, none), (8, none), (9, none), (10, none), (11, none), (12, none), (13, some []), (14, none)]))
 (.cond (.t 30)
 .skip
 (.exit 2)))
 (.seq (.block 3
 (.dreg [⟨(some 33), (.mov (.t 0)), none⟩,
 ⟨(some 34), (.mov (.t 7)), none⟩,
 ⟨(some 35), (.mov (.t 0)), none⟩,
 ⟨(some 36), (.mov (.t 7)), none⟩,
 ⟨(some 37), (.bin .sub .num (.t 36) (.k (.int .i64 1))), none⟩,
 ⟨(some 38), (.mov (.t 0)), none⟩,
 ⟨(some 39), (.mov (.t 7)), none⟩,
 ⟨(some 40), (.bin .sub .num (.t 39) (.k (.int .i64 1))), none⟩,
 ⟨(some 41), (.iad 1 (.t 38) (.t 40)), none⟩,
 ⟨(some 42), (.load 1 false (.t 41)), none⟩,
 ⟨(some 43), (.mov (.t 0)), none⟩,
 ⟨(some 44), (.mov (.t 7)), none⟩,
 ⟨(some 45), (.iad 1 (.t 43) (.t 44)), none⟩,
 ⟨(some 46), (.load 1 false (.t 45)), none⟩,
 ⟨(some 47), (.iad 1 (.t 33) (.t 34)), none⟩,
 ⟨none, (.store 1 (.t 47) (.t 42)), none⟩,
 ⟨(some 48), (.iad 1 (.t 35) (.t 37)), none⟩,
 ⟨none, (.store 1 (.t 48) (.t 46)), none⟩] (.lin [] [(0, none), (1, none), (2, none), (3, none), (4, none), (5, none), (6, none), (7, none), (8, none), (9, none), (10, none), (11, none), (12, none), (13, none), (14, none), (15, some [2, 3, 4]), (16, none), (17, some [])])))
 (.reg [⟨(some 31), (.mov (.t 7)), none⟩,
 ⟨(some 32), (.bin .sub .num (.t 31) (.k (.int .i64 1))), none⟩,
 ⟨(some 7), (.mov (.t 32)), none⟩])))))))
 (.reg [⟨(some 13), (.mov (.t 6)), none⟩,
 ⟨(some 14), (.bin .add .num (.t 13) (.k (.int .i64 1))), none⟩,
 ⟨(some 6), (.mov (.t 14)), none⟩]))))))⟩

/-- 192: cmp.Less[string] -/
def F192 : Fun :=
 ⟨17, 2, [.t 4],
 (.seq (.reg [⟨(some 4), (.mov (.k (.bool false))), none⟩])
 (.seq (.reg [⟨(some 5), (.mov (.t 0)), none⟩,
 ⟨(some 6), (.call (.k (.fn (.func 216) [] [])) [(.t 5)]), none⟩,
 ⟨(some 7), (.mov (.t 6)), none⟩,
 ⟨(some 8), (.mov (.t 1)), some (7, true)⟩,
 ⟨(some 9), (.call (.k (.fn (.func 216) [] [])) [(.t 8)]), some (7, true)⟩,
 ⟨(some 10), (.un .not (.t 9)), some (7, true)⟩,
 ⟨(some 11), (.pick (.t 7) (.t 10) (.k (.bool false))), none⟩,
 ⟨(some 12), (.mov (.t 11)), none⟩,
 ⟨(some 13), (.mov (.t 0)), some (12, false)⟩,
 ⟨(some 14), (.mov (.t 1)), some (12, false)⟩,
 ⟨(some 15), (.bin .lss .str (.t 13) (.t 14)), some (12, false)⟩,
 ⟨(some 16), (.pick (.t 12) (.k (.bool true)) (.t 15)), none⟩,
 ⟨(some 4), (.mov (.t 16)), none⟩])
 .ret))⟩

/-- 196: math/bits.Len64 -/
def F196 : Fun :=
 ⟨25, 1, [.t 2],
 (.seq (.reg [⟨(some 2), (.mov (.k (.int .i64 0))), none⟩])
 (.seq (.seq (.reg [⟨(some 3), (.mov (.t 0)), none⟩,
 ⟨(some 4), (.bin .geq .num (.t 3) (.k (.int .u64 4294967296))), none⟩])
 (.cond (.t 4)
 (.seq (.reg [⟨(some 5), (.mov (.t 0)), none⟩,
 ⟨(some 6), (.bin .shr .num (.t 5) (.k (.int .u64 32))), none⟩,
 ⟨(some 0), (.mov (.t 6)), none⟩])
 (.reg [⟨(some 2), (.mov (.k (.int .i64 32))), none⟩]))
 .skip))
 (.seq (.seq (.reg [⟨(some 7), (.mov (.t 0)), none⟩,
 ⟨(some 8), (.bin .geq .num (.t 7) (.k (.int .u64 65536))), none⟩])
 (.cond (.t 8)
 (.seq (.reg [⟨(some 9), (.mov (.t 0)), none⟩,
 ⟨(some 10), (.bin .shr .num (.t 9) (.k (.int .u64 16))), none⟩,
 ⟨(some 0), (.mov (.t 10)), none⟩])
 (.reg [⟨(some 11), (.mov (.t 2)), none⟩,
 ⟨(some 12), (.bin .add .num (.t 11) (.k (.int .i64 16))), none⟩,
 ⟨(some 2), (.mov (.t 12)), none⟩]))
 .skip))
 (.seq (.seq (.reg [⟨(some 13), (.mov (.t 0)), none⟩,
 ⟨(some 14), (.bin .geq .num (.t 13) (.k (.int .u64 256))), none⟩])
 (.cond (.t 14)
 (.seq (.reg [⟨(some 15), (.mov (.t 0)), none⟩,
 ⟨(some 16), (.bin .shr .num (.t 15) (.k (.int .u64 8))), none⟩,
 ⟨(some 0), (.mov (.t 16)), none⟩])
 (.reg [⟨(some 17), (.mov (.t 2)), none⟩,
 ⟨(some 18), (.bin .add .num (.t 17) (.k (.int .i64 8))), none⟩,
 ⟨(some 2), (.mov (.t 18)), none⟩]))
 .skip))
 (.seq (.reg [⟨(some 19), (.mov (.t 2)), none⟩,
 ⟨(some 20), (.mov (.t 0)), none⟩,
 ⟨(some 21), (.cvi .u8 (.t 20)), none⟩,
 ⟨(some 22), (.idxs (.k (.str [0, 1, 2, 2, 3, 3, 3, 3, 4, 4, 4, 4, 4, 4, 4, 4, 5, 5, 5, 5, 5, 5, 5, 5, 5, 5, 5, 5, 5, 5, 5, 5, 6, 6, 6, 6, 6, 6, 6, 6, 6, 6, 6, 6, 6, 6, 6, 6, 6, 6, 6, 6, 6, 6, 6, 6, 6, 6, 6, 6, 6, 6, 6, 6, 7, 7, 7, 7, 7, 7, 7, 7, 7, 7, 7, 7, 7, 7, 7, 7, 7, 7, 7, 7, 7, 7, 7, 7, 7, 7, 7, 7, 7, 7, 7, 7, 7, 7, 7, 7, 7, 7, 7, 7, 7, 7, 7, 7, 7, 7, 7, 7, 7, 7, 7, 7, 7, 7, 7, 7, 7, 7, 7, 7, 7, 7, 7, 7, 8, 8, 8, 8, 8, 8, 8, 8, 8, 8, 8, 8, 8, 8, 8, 8, 8, 8, 8, 8, 8, 8, 8, 8, 8, 8, 8, 8, 8, 8, 8, 8, 8, 8, 8, 8, 8, 8, 8, 8, 8, 8, 8, 8, 8, 8, 8, 8, 8, 8, 8, 8, 8, 8, 8, 8, 8, 8, 8, 8, 8, 8, 8, 8, 8, 8, 8, 8, 8, 8, 8, 8, 8, 8, 8, 8, 8, 8, 8, 8, 8, 8, 8, 8, 8, 8, 8, 8, 8, 8, 8, 8, 8, 8, 8, 8, 8, 8, 8, 8, 8, 8, 8, 8, 8, 8, 8, 8, 8, 8, 8, 8, 8, 8, 8, 8, 8, 8, 8, 8, 8, 8, 8, 8, 8, 8, 8, 8])) (.t 21)), none⟩,
 ⟨(some 23), (.cvi .i64 (.t 22)), none⟩,
 ⟨(some 24), (.bin .add .num (.t 19) (.t 23)), none⟩,
 ⟨(some 2), (.mov (.t 24)), none⟩])
 .ret)))))⟩

/-- 197: signetring/cipher.Open -/
def F197 : Fun :=
 ⟨49, 4, [.c 8 2 true, .t 9, .t 10],
 (.seq (.reg [⟨(some 5), (.box none (.t 1)), none⟩,
 ⟨(some 8), (.new [(.str []), (.int .u64 0)] none), none⟩,
 ⟨(some 9), (.mov (.k (.str []))), none⟩,
 ⟨(some 10), (.mov (.k (.int .i64 0))), none⟩])
 (.seq (.reg [⟨(some 15), (.load 2 true (.t 5)), none⟩,
 ⟨(some 16), (.mov (.t 0)), none⟩,
 ⟨(some 17), (.call (.k (.fn (.func 210) [] [])) [(.t 15), (.t 16)]), none⟩,
 ⟨(some 14), (.mov (.t 17)), none⟩,
 ⟨(some 18), (.ext (.t 14) 0), none⟩,
 ⟨(some 19), (.ext (.t 14) 1), none⟩,
 ⟨(some 11), (.new [(.str []), (.int .u64 0)] none), none⟩,
 ⟨none, (.store 2 (.t 11) (.t 18)), none⟩,
 ⟨(some 12), (.mov (.t 19)), none⟩])
 (.seq (.seq (.reg [⟨(some 20), (.mov (.t 12)), none⟩,
 ⟨(some 21), (.bin .neq .num (.t 20) (.k (.int .i64 0))), none⟩,
 ⟨(some 22), (.mov (.t 21)), none⟩,
 ⟨(some 23), (.fad 0 (.t 5)), some (22, false)⟩,
 ⟨(some 24), (.load 1 false (.t 23)), some (22, false)⟩,
 ⟨(some 25), (.bin .eql .str (.t 24) (.k (.str []))), some (22, false)⟩,
 ⟨(some 26), (.pick (.t 22) (.k (.bool true)) (.t 25)), none⟩])
 (.cond (.t 26)
 (.seq (.seq (.reg [⟨(some 27), (.mov (.t 12)), none⟩,
 ⟨(some 28), (.bin .neq .num (.t 27) (.k (.int .i64 0))), none⟩])
 (.cond (.t 28)
 (.reg [⟨(some 3), (.mov (.k (.str []))), none⟩])
 .skip))
 (.seq (.reg [⟨(some 29), (.load 2 true (.t 5)), none⟩,
 ⟨(some 30), (.mov (.t 3)), none⟩,
 ⟨(some 31), (.mov (.t 12)), none⟩,
 ⟨none, (.store 2 (.t 8) (.t 29)), none⟩,
 ⟨(some 9), (.mov (.t 30)), none⟩,
 ⟨(some 10), (.mov (.t 31)), none⟩])
 .ret))
 .skip))
 (.seq (.reg [⟨(some 33), (.mov (.t 0)), none⟩,
 ⟨(some 34), (.fad 0 (.t 5)), none⟩,
 ⟨(some 35), (.load 1 false (.t 34)), none⟩,
 ⟨(some 36), (.fad 1 (.t 5)), none⟩,
 ⟨(some 37), (.load 1 false (.t 36)), none⟩,
 ⟨(some 38), (.mov (.t 2)), none⟩,
 ⟨(some 39), (.mov (.t 3)), none⟩,
 ⟨(some 40), (.inv (.t 33) "Open" [(.t 35), (.t 37), (.t 38), (.t 39)]), none⟩,
 ⟨(some 32), (.mov (.t 40)), none⟩,
 ⟨(some 41), (.ext (.t 32) 0), none⟩,
 ⟨(some 42), (.ext (.t 32) 1), none⟩,
 ⟨(some 13), (.mov (.t 41)), none⟩,
 ⟨(some 12), (.mov (.t 42)), none⟩])
 (.seq (.seq (.reg [⟨(some 43), (.mov (.t 12)), none⟩,
 ⟨(some 44), (.bin .neq .num (.t 43) (.k (.int .i64 0))), none⟩])
 (.cond (.t 44)
 (.seq (.reg [⟨(some 45), (.load 2 true (.t 5)), none⟩,
 ⟨(some 46), (.mov (.t 12)), none⟩,
 ⟨none, (.store 2 (.t 8) (.t 45)), none⟩,
 ⟨(some 9), (.mov (.k (.str []))), none⟩,
 ⟨(some 10), (.mov (.t 46)), none⟩])
 .ret)
 .skip))
 (.seq (.reg [⟨(some 47), (.load 2 true (.t 11)), none⟩,
 ⟨(some 48), (.mov (.t 13)), none⟩,
 ⟨none, (.store 2 (.t 8) (.t 47)), none⟩,
 ⟨(some 9), (.mov (.t 48)), none⟩,
 ⟨(some 10), (.mov (.k (.int .i64 0))), none⟩])
 .ret))))))⟩

/-- 210: (signetring/cipher.State).used -/
def F210 : Fun :=
 ⟨29, 2, [.c 4 2 true, .t 5],
 (.seq (.reg [⟨(some 2), (.box none (.t 0)), none⟩,
 ⟨(some 4), (.new [(.str []), (.int .u64 0)] none), none⟩,
 ⟨(some 5), (.mov (.k (.int .i64 0))), none⟩])
 (.seq (.block 0
 (.seq (.reg [⟨(some 7), (.mov (.t 1)), none⟩,
 ⟨(some 8), (.bin .eql .ifc (.t 7) (.k .nifc)), none⟩,
 ⟨(some 6), (.mov (.t 8)), none⟩])
 (.cond (.t 6)
 (.seq (.reg [⟨(some 9), (.load 2 true (.t 2)), none⟩,
 ⟨none, (.store 2 (.t 4) (.t 9)), none⟩,
 ⟨(some 5), (.mov (.k (.int .i64 1))), none⟩])
 .ret)
 (.seq (.reg [⟨(some 11), (.fad 0 (.t 2)), none⟩,
 ⟨(some 12), (.load 1 false (.t 11)), none⟩,
 ⟨(some 13), (.bin .neq .str (.t 12) (.k (.str []))), none⟩,
 ⟨(some 14), (.mov (.t 13)), none⟩,
 ⟨(some 15), (.fad 1 (.t 2)), some (14, true)⟩,
 ⟨(some 16), (.load 1 false (.t 15)), some (14, true)⟩,
 ⟨(some 17), (.bin .eql .num (.t 16) (.k (.int .u64 18446744073709551615))), some (14, true)⟩,
 ⟨(some 18), (.pick (.t 14) (.t 17) (.k (.bool false))), none⟩,
 ⟨(some 10), (.mov (.t 18)), none⟩])
 (.cond (.t 10)
 (.seq (.reg [⟨(some 19), (.load 2 true (.t 2)), none⟩,
 ⟨none, (.store 2 (.t 4) (.t 19)), none⟩,
 ⟨(some 5), (.mov (.k (.int .i64 12))), none⟩])
 .ret)
 (.seq (.reg [⟨(some 21), (.fad 0 (.t 2)), none⟩,
 ⟨(some 22), (.load 1 false (.t 21)), none⟩,
 ⟨(some 23), (.bin .neq .str (.t 22) (.k (.str []))), none⟩,
 ⟨(some 20), (.mov (.t 23)), none⟩])
 (.cond (.t 20)
 (.reg [⟨(some 24), (.fad 1 (.t 2)), none⟩,
 ⟨(some 25), (.load 1 false (.t 24)), none⟩,
 ⟨(some 26), (.bin .add .num (.t 25) (.k (.int .u64 1))), none⟩,
 ⟨(some 27), (.fad 1 (.t 2)), none⟩,
 ⟨none, (.store 1 (.t 27) (.t 26)), none⟩])
 .skip)))))))
 (.seq (.reg [⟨(some 28), (.load 2 true (.t 2)), none⟩,
 ⟨none, (.store 2 (.t 4) (.t 28)), none⟩,
 ⟨(some 5), (.mov (.k (.int .i64 0))), none⟩])
 .ret)))⟩

/-- 216: cmp.isNaN[string] -/
def F216 : Fun :=
 ⟨6, 1, [.t 2],
 (.seq (.reg [⟨(some 2), (.mov (.k (.bool false))), none⟩])
 (.seq (.reg [⟨(some 3), (.mov (.t 0)), none⟩,
 ⟨(some 4), (.mov (.t 0)), none⟩,
 ⟨(some 5), (.bin .neq .str (.t 3) (.t 4)), none⟩,
 ⟨(some 2), (.mov (.t 5)), none⟩])
 .ret))⟩

/-- 241: (*signetring/term.Table).Dh -/
def F241 : Fun :=
 ⟨39, 3, [.t 6, .t 7],
 (.seq (.reg [⟨(some 6), (.mov (.k (.str []))), none⟩,
 ⟨(some 7), (.mov (.k (.bool false))), none⟩])
 (.seq (.reg [⟨(some 14), (.mov (.t 0)), none⟩,
 ⟨(some 15), (.mov (.t 2)), none⟩,
 ⟨(some 16), (.call (.k (.fn (.func 245) [] [])) [(.t 14), (.t 15)]), none⟩,
 ⟨(some 13), (.mov (.t 16)), none⟩,
 ⟨(some 17), (.ext (.t 13) 0), none⟩,
 ⟨(some 18), (.ext (.t 13) 1), none⟩,
 ⟨(some 19), (.ext (.t 13) 2), none⟩,
 ⟨(some 8), (.mov (.t 17)), none⟩,
 ⟨(some 9), (.mov (.t 18)), none⟩,
 ⟨(some 10), (.mov (.t 19)), none⟩])
 (.seq (.seq (.reg [⟨(some 20), (.mov (.t 10)), none⟩,
 ⟨(some 21), (.un .not (.t 20)), none⟩,
 ⟨(some 22), (.mov (.t 21)), none⟩,
 ⟨(some 23), (.mov (.t 8)), some (22, false)⟩,
 ⟨(some 24), (.bin .neq .num (.t 23) (.k (.int .u8 2))), some (22, false)⟩,
 ⟨(some 25), (.pick (.t 22) (.k (.bool true)) (.t 24)), none⟩])
 (.cond (.t 25)
 (.seq (.reg [⟨(some 6), (.mov (.k (.str []))), none⟩,
 ⟨(some 7), (.mov (.k (.bool false))), none⟩])
 .ret)
 .skip))
 (.seq (.reg [⟨(some 26), (.mov (.t 1)), none⟩,
 ⟨(some 27), (.mov (.t 9)), none⟩,
 ⟨(some 28), (.iad 1 (.t 27) (.k (.int .i64 0))), none⟩,
 ⟨(some 29), (.load 1 false (.t 28)), none⟩,
 ⟨(some 30), (.mks false 1 16 false [(.str []), (.str [])] 2 [(0, (.t 26)), (1, (.t 29))]), none⟩,
 ⟨(some 11), (.mov (.t 30)), none⟩])
 (.seq (.reg [⟨(some 31), (.mov (.t 11)), none⟩,
 ⟨(some 32), (.call (.k (.fn (.func 140) [] [])) [(.t 31)]), none⟩])
 (.seq (.reg [⟨(some 33), (.mov (.t 0)), none⟩,
 ⟨(some 34), (.mov (.t 11)), none⟩,
 ⟨(some 35), (.call (.k (.fn (.func 98) [] [])) [(.t 33), (.k (.int .u8 3)), (.t 34)]), none⟩,
 ⟨(some 12), (.mov (.t 35)), none⟩])
 (.seq (.reg [⟨(some 36), (.mov (.t 12)), none⟩,
 ⟨(some 37), (.mov (.t 12)), none⟩,
 ⟨(some 38), (.bin .neq .str (.t 37) (.k (.str []))), none⟩,
 ⟨(some 6), (.mov (.t 36)), none⟩,
 ⟨(some 7), (.mov (.t 38)), none⟩])
 .ret)))))))⟩

/-- 242: (*signetring/term.Table).Hash -/
def F242 : Fun :=
 ⟨8, 2, [.t 4],
 (.seq (.reg [⟨(some 4), (.mov (.k (.str []))), none⟩])
 (.seq (.reg [⟨(some 5), (.mov (.t 0)), none⟩,
 ⟨(some 6), (.mov (.t 1)), none⟩,
 ⟨(some 7), (.call (.k (.fn (.func 98) [] [])) [(.t 5), (.k (.int .u8 4)), (.t 6)]), none⟩,
 ⟨(some 4), (.mov (.t 7)), none⟩])
 .ret))⟩

/-- 243: (*signetring/term.Table).Pub -/
def F243 : Fun :=
 ⟨9, 2, [.t 4],
 (.seq (.reg [⟨(some 4), (.mov (.k (.str []))), none⟩])
 (.seq (.reg [⟨(some 5), (.mov (.t 0)), none⟩,
 ⟨(some 6), (.mov (.t 1)), none⟩,
 ⟨(some 7), (.mks true 1 16 false [(.str [])] 1 [(0, (.t 6))]), none⟩,
 ⟨(some 8), (.call (.k (.fn (.func 98) [] [])) [(.t 5), (.k (.int .u8 2)), (.t 7)]), none⟩,
 ⟨(some 4), (.mov (.t 8)), none⟩])
 .ret))⟩

/-- 244: (*signetring/term.Table).Seal -/
def F244 : Fun :=
 ⟨19, 5, [.t 10],
 (.seq (.reg [⟨(some 10), (.mov (.k (.str []))), none⟩])
 (.seq (.reg [⟨(some 11), (.mov (.t 0)), none⟩,
 ⟨(some 12), (.mov (.t 1)), none⟩,
 ⟨(some 13), (.mov (.t 2)), none⟩,
 ⟨(some 14), (.call (.k (.fn (.func 67) [] [])) [(.t 13)]), none⟩,
 ⟨(some 15), (.mov (.t 3)), none⟩,
 ⟨(some 16), (.mov (.t 4)), none⟩,
 ⟨(some 17), (.mks true 1 16 false [(.str []), (.str []), (.str []), (.str [])] 4 [(0, (.t 12)), (1, (.t 14)), (2, (.t 15)), (3, (.t 16))]), none⟩,
 ⟨(some 18), (.call (.k (.fn (.func 98) [] [])) [(.t 11), (.k (.int .u8 5)), (.t 17)]), none⟩,
 ⟨(some 10), (.mov (.t 18)), none⟩])
 .ret))⟩

/-- 245: (*signetring/term.Table).Parts -/
def F245 : Fun :=
 ⟨34, 2, [.t 4, .t 5, .t 6],
 (.seq (.reg [⟨(some 4), (.mov (.k (.int .u8 0))), none⟩,
 ⟨(some 5), (.mov (.k .nsl)), none⟩,
 ⟨(some 6), (.mov (.k (.bool false))), none⟩])
 (.seq (.seq (.reg [⟨(some 12), (.mov (.t 0)), none⟩,
 ⟨(some 13), (.call (.k (.fn (.func 145) [] [])) [(.t 12)]), none⟩,
 ⟨(some 14), (.un .not (.t 13)), none⟩])
 (.cond (.t 14)
 (.seq (.reg [⟨(some 4), (.mov (.k (.int .u8 0))), none⟩,
 ⟨(some 5), (.mov (.k .nsl)), none⟩,
 ⟨(some 6), (.mov (.k (.bool false))), none⟩])
 .ret)
 .skip))
 (.seq (.reg [⟨(some 16), (.mov (.t 0)), none⟩,
 ⟨(some 17), (.nilck (.t 16)), none⟩,
 ⟨(some 18), (.fad 1 (.t 17)), none⟩,
 ⟨(some 19), (.load 1 false (.t 18)), none⟩,
 ⟨(some 20), (.mov (.t 1)), none⟩,
 ⟨(some 21), (.look .str (.str []) (.t 19) (.t 20) true), none⟩,
 ⟨(some 15), (.mov (.t 21)), none⟩,
 ⟨(some 22), (.ext (.t 15) 0), none⟩,
 ⟨(some 23), (.ext (.t 15) 1), none⟩,
 ⟨(some 7), (.mov (.t 22)), none⟩,
 ⟨(some 8), (.mov (.t 23)), none⟩])
 (.seq (.seq (.reg [⟨(some 24), (.mov (.t 8)), none⟩,
 ⟨(some 25), (.un .not (.t 24)), none⟩])
 (.cond (.t 25)
 (.seq (.reg [⟨(some 4), (.mov (.k (.int .u8 0))), none⟩,
 ⟨(some 5), (.mov (.k .nsl)), none⟩,
 ⟨(some 6), (.mov (.k (.bool false))), none⟩])
 .ret)
 .skip))
 (.seq (.reg [⟨(some 27), (.mov (.t 7)), none⟩,
 ⟨(some 28), (.call (.k (.fn (.func 90) [] [])) [(.t 27)]), none⟩,
 ⟨(some 26), (.mov (.t 28)), none⟩,
 ⟨(some 29), (.ext (.t 26) 0), none⟩,
 ⟨(some 30), (.ext (.t 26) 1), none⟩,
 ⟨(some 31), (.ext (.t 26) 2), none⟩,
 ⟨(some 9), (.mov (.t 29)), none⟩,
 ⟨(some 10), (.mov (.t 30)), none⟩,
 ⟨(some 11), (.mov (.t 31)), none⟩])
 (.seq (.reg [⟨(some 32), (.mov (.t 9)), none⟩,
 ⟨(some 33), (.mov (.t 10)), none⟩,
 ⟨(some 4), (.mov (.t 32)), none⟩,
 ⟨(some 5), (.mov (.t 33)), none⟩,
 ⟨(some 6), (.mov (.k (.bool true))), none⟩])
 .ret))))))⟩

/-- 246: (signetring/prims.symbol).Hash -/
def F246 : Fun :=
 ⟨13, 3, [.t 6],
 (.seq (.reg [⟨(some 3), (.box none (.t 0)), none⟩,
 ⟨(some 6), (.mov (.k (.str []))), none⟩])
 (.seq (.reg [⟨(some 7), (.fad 0 (.t 3)), none⟩,
 ⟨(some 8), (.load 1 false (.t 7)), none⟩,
 ⟨(some 9), (.mov (.t 1)), none⟩,
 ⟨(some 10), (.mov (.t 2)), none⟩,
 ⟨(some 11), (.mks true 1 16 false [(.str []), (.str []), (.str [])] 3 [(0, (.k (.str [104, 97, 115, 104]))), (1, (.t 9)), (2, (.t 10))]), none⟩,
 ⟨(some 12), (.call (.k (.fn (.func 242) [] [])) [(.t 8), (.t 11)]), none⟩,
 ⟨(some 6), (.mov (.t 12)), none⟩])
 .ret))⟩

/-- 247: (signetring/prims.symbol).Keys -/
def F247 : Fun :=
 ⟨40, 4, [.t 8],
 (.seq (.reg [⟨(some 4), (.box none (.t 0)), none⟩,
 ⟨(some 8), (.mov (.k .nsl)), none⟩])
 (.seq (.seq (.reg [⟨(some 12), (.mov (.t 3)), none⟩,
 ⟨(some 13), (.bin .lss .num (.t 12) (.k (.int .i64 1))), none⟩,
 ⟨(some 14), (.mov (.t 13)), none⟩,
 ⟨(some 15), (.mov (.t 3)), some (14, false)⟩,
 ⟨(some 16), (.bin .gtr .num (.t 15) (.k (.int .i64 3))), some (14, false)⟩,
 ⟨(some 17), (.pick (.t 14) (.k (.bool true)) (.t 16)), none⟩])
 (.cond (.t 17)
 (.seq (.reg [⟨(some 8), (.mov (.k .nsl)), none⟩])
 .ret)
 .skip))
 (.seq (.reg [⟨(some 9), (.mov (.k .nsl)), none⟩])
 (.seq (.seq (.reg [⟨(some 18), (.mov (.t 3)), none⟩,
 ⟨(some 19), (.mov (.k (.int .i64 0))), none⟩])
 (.block 0
 (.loop
 (.seq (.reg [⟨(some 20), (.bin .lss .num (.t 19) (.t 18)), none⟩])
 (.seq (.cond (.t 20)
 .skip
 (.exit 0))
 (.seq (.block 1
 (.seq (.reg [⟨(some 21), (.mov (.t 19)), none⟩,
 ⟨(some 10), (.mov (.t 21)), none⟩])
 (.seq (.dreg [⟨(some 22), (.fad 0 (.t 4)), none⟩,
 ⟨(some 23), (.load 1 false (.t 22)), none⟩,
 ⟨(some 24), (.mov (.t 10)), none⟩,
 ⟨(some 25), (.bin .add .num (.t 24) (.k (.int .i64 1))), none⟩,
 ⟨(some 26), (.cvi .u64 (.t 25)), none⟩,
 ⟨(some 27), (.call (.k (.fn (.func 67) [] [])) [(.t 26)]), none⟩,
 ⟨(some 28), (.mov (.t 1)), none⟩,
 ⟨(some 29), (.mov (.t 2)), none⟩,
 ⟨(some 30), (.mks true 1 16 false [(.str []), (.str []), (.str []), (.str [])] 4 [(0, (.k (.str [107, 101, 121]))), (1, (.t 27)), (2, (.t 28)), (3, (.t 29))]), none⟩,
 ⟨(some 31), (.call (.k (.fn (.func 242) [] [])) [(.t 23), (.t 30)]), none⟩,
 ⟨(some 11), (.mov (.t 31)), none⟩] (.lin [] [(0, none), (1, none), (2, none), (3, none), (4, none), (6, none), (7, none), (5, some [0, 1, 6, 7]), (8, none), (9, some []), (10, none)]))
 (.seq (.seq (.reg [⟨(some 32), (.mov (.t 11)), none⟩,
 ⟨(some 33), (.bin .eql .str (.t 32) (.k (.str []))), none⟩])
 (.cond (.t 33)
 (.seq (.reg [⟨(some 8), (.mov (.k .nsl)), none⟩])
 .ret)
 .skip))
 (.reg [⟨(some 34), (.mov (.t 9)), none⟩,
 ⟨(some 35), (.mov (.t 11)), none⟩,
 ⟨(some 36), (.mks true 1 16 false [(.str [])] 1 [(0, (.t 35))]), none⟩,
 ⟨(some 37), (.app 1 16 false none (.t 34) (.t 36)), none⟩,
 ⟨(some 9), (.mov (.t 37)), none⟩])))))
 (.reg [⟨(some 38), (.bin .add .num (.t 19) (.k (.int .i64 1))), none⟩,
 ⟨(some 19), (.mov (.t 38)), none⟩])))))))
 (.seq (.reg [⟨(some 39), (.mov (.t 9)), none⟩,
 ⟨(some 8), (.mov (.t 39)), none⟩])
 .ret)))))⟩

/-- 248: (signetring/prims.symbol).Open -/
def F248 : Fun :=
 ⟨54, 5, [.t 10, .t 11],
 (.seq (.reg [⟨(some 5), (.box none (.t 0)), none⟩,
 ⟨(some 10), (.mov (.k (.str []))), none⟩,
 ⟨(some 11), (.mov (.k (.int .i64 0))), none⟩])
 (.seq (.reg [⟨(some 16), (.fad 0 (.t 5)), none⟩,
 ⟨(some 17), (.load 1 false (.t 16)), none⟩,
 ⟨(some 18), (.mov (.t 4)), none⟩,
 ⟨(some 19), (.call (.k (.fn (.func 245) [] [])) [(.t 17), (.t 18)]), none⟩,
 ⟨(some 15), (.mov (.t 19)), none⟩,
 ⟨(some 20), (.ext (.t 15) 0), none⟩,
 ⟨(some 21), (.ext (.t 15) 1), none⟩,
 ⟨(some 22), (.ext (.t 15) 2), none⟩,
 ⟨(some 12), (.mov (.t 20)), none⟩,
 ⟨(some 13), (.mov (.t 21)), none⟩,
 ⟨(some 14), (.mov (.t 22)), none⟩])
 (.seq (.seq (.dreg [⟨(some 23), (.mov (.t 14)), none⟩,
 ⟨(some 24), (.un .not (.t 23)), none⟩,
 ⟨(some 25), (.mov (.t 24)), none⟩,
 ⟨(some 26), (.mov (.t 12)), some (25, false)⟩,
 ⟨(some 27), (.bin .neq .num (.t 26) (.k (.int .u8 5))), some (25, false)⟩,
 ⟨(some 28), (.pick (.t 25) (.k (.bool true)) (.t 27)), none⟩,
 ⟨(some 29), (.mov (.t 28)), none⟩,
 ⟨(some 30), (.mov (.t 13)), some (29, false)⟩,
 ⟨(some 31), (.iad 1 (.t 30) (.k (.int .i64 0))), some (29, false)⟩,
 ⟨(some 32), (.load 1 false (.t 31)), some (29, false)⟩,
 ⟨(some 33), (.mov (.t 1)), some (29, false)⟩,
 ⟨(some 34), (.bin .neq .str (.t 32) (.t 33)), some (29, false)⟩,
 ⟨(some 35), (.pick (.t 29) (.k (.bool true)) (.t 34)), none⟩,
 ⟨(some 36), (.mov (.t 35)), none⟩,
 ⟨(some 37), (.mov (.t 13)), some (36, false)⟩,
 ⟨(some 38), (.iad 1 (.t 37) (.k (.int .i64 1))), some (36, false)⟩,
 ⟨(some 39), (.load 1 false (.t 38)), some (36, false)⟩,
 ⟨(some 40), (.mov (.t 2)), some (36, false)⟩,
 ⟨(some 41), (.call (.k (.fn (.func 67) [] [])) [(.t 40)]), some (36, false)⟩,
 ⟨(some 42), (.bin .neq .str (.t 39) (.t 41)), some (36, false)⟩,
 ⟨(some 43), (.pick (.t 36) (.k (.bool true)) (.t 42)), none⟩,
 ⟨(some 44), (.mov (.t 43)), none⟩,
 ⟨(some 45), (.mov (.t 13)), some (44, false)⟩,
 ⟨(some 46), (.iad 1 (.t 45) (.k (.int .i64 2))), some (44, false)⟩,
 ⟨(some 47), (.load 1 false (.t 46)), some (44, false)⟩,
 ⟨(some 48), (.mov (.t 3)), some (44, false)⟩,
 ⟨(some 49), (.bin .neq .str (.t 47) (.t 48)), some (44, false)⟩,
 ⟨(some 50), (.pick (.t 44) (.k (.bool true)) (.t 49)), none⟩] (.lin [] [(0, none), (1, none), (2, none), (3, none), (4, none), (5, none), (6, none), (7, none), (8, none), (9, none), (10, none), (11, none), (12, none), (13, none), (14, none), (15, none), (16, none), (17, none), (18, some [14, 15, 16]), (19, none), (20, none), (21, none), (22, none), (23, none), (24, none), (25, none), (26, none), (27, none)]))
 (.cond (.t 50)
 (.seq (.reg [⟨(some 10), (.mov (.k (.str []))), none⟩,
 ⟨(some 11), (.mov (.k (.int .i64 5))), none⟩])
 .ret)
 .skip))
 (.seq (.reg [⟨(some 51), (.mov (.t 13)), none⟩,
 ⟨(some 52), (.iad 1 (.t 51) (.k (.int .i64 3))), none⟩,
 ⟨(some 53), (.load 1 false (.t 52)), none⟩,
 ⟨(some 10), (.mov (.t 53)), none⟩,
 ⟨(some 11), (.mov (.k (.int .i64 0))), none⟩])
 .ret))))⟩


theorem ck185 : ckF Tryz.prog 185 F185 = true := by kernel_rfl
theorem ck186 : ckF Tryz.prog 186 F186 = true := by kernel_rfl
theorem ck192 : ckF Tryz.prog 192 F192 = true := by kernel_rfl
theorem ck196 : ckF Tryz.prog 196 F196 = true := by kernel_rfl
theorem ck197 : ckF Tryz.prog 197 F197 = true := by kernel_rfl
theorem ck210 : ckF Tryz.prog 210 F210 = true := by kernel_rfl
theorem ck216 : ckF Tryz.prog 216 F216 = true := by kernel_rfl
theorem ck241 : ckF Tryz.prog 241 F241 = true := by kernel_rfl
theorem ck242 : ckF Tryz.prog 242 F242 = true := by kernel_rfl
theorem ck243 : ckF Tryz.prog 243 F243 = true := by kernel_rfl
theorem ck244 : ckF Tryz.prog 244 F244 = true := by kernel_rfl
theorem ck245 : ckF Tryz.prog 245 F245 = true := by kernel_rfl
theorem ck246 : ckF Tryz.prog 246 F246 = true := by kernel_rfl
theorem ck247 : ckF Tryz.prog 247 F247 = true := by kernel_rfl
theorem ck248 : ckF Tryz.prog 248 F248 = true := by kernel_rfl
theorem st185 : K.stC F185.c = true := by kernel_rfl
theorem st186 : K.stC F186.c = true := by kernel_rfl
theorem st192 : K.stC F192.c = true := by kernel_rfl
theorem st196 : K.stC F196.c = true := by kernel_rfl
theorem st197 : K.stC F197.c = true := by kernel_rfl
theorem st210 : K.stC F210.c = true := by kernel_rfl
theorem st216 : K.stC F216.c = true := by kernel_rfl
theorem st241 : K.stC F241.c = true := by kernel_rfl
theorem st242 : K.stC F242.c = true := by kernel_rfl
theorem st243 : K.stC F243.c = true := by kernel_rfl
theorem st244 : K.stC F244.c = true := by kernel_rfl
theorem st245 : K.stC F245.c = true := by kernel_rfl
theorem st246 : K.stC F246.c = true := by kernel_rfl
theorem st247 : K.stC F247.c = true := by kernel_rfl
theorem st248 : K.stC F248.c = true := by kernel_rfl
end Go.Proofs.YtbabpibaccngnaaGreat
