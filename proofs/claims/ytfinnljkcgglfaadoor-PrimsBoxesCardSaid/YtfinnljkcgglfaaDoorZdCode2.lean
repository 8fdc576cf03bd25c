/- The code of the functions, as it is told, and that it is told rightly (2). -/
import Derived.Test.YtfinnljkcgglfaaDoorProg
import Derived.Test.YtfinnljkcgglfaaDoorZv6
import Derived.KernelRfl
namespace Go.Proofs.YtfinnljkcgglfaaDoor
open Go.Vs
set_option maxRecDepth 100000

/-- 87: signetring/mac.Sum -/
def F87 : Fun :=
 ⟨16, 2, [.c 4 32 true],
 (.seq (.reg [⟨some 4, .new [.int .u8 0, .int .u8 0, .int .u8 0, .int .u8 0, .int .u8 0, .int .u8 0, .int .u8 0, .int .u8 0, .int .u8 0, .int .u8 0, .int .u8 0, .int .u8 0, .int .u8 0, .int .u8 0, .int .u8 0, .int .u8 0, .int .u8 0, .int .u8 0, .int .u8 0, .int .u8 0, .int .u8 0, .int .u8 0, .int .u8 0, .int .u8 0, .int .u8 0, .int .u8 0, .int .u8 0, .int .u8 0, .int .u8 0, .int .u8 0, .int .u8 0, .int .u8 0] none, none⟩])
 (.seq (.reg [⟨some 6, .mov (.t 0), none⟩,
 ⟨some 7, .call (.k (.fn (.func 95) [] [])) [(.t 6), (.k (.int .u8 54))], none⟩,
 ⟨some 8, .mov (.t 1), none⟩,
 ⟨some 9, .call (.k (.fn (.func 19) [] [])) [(.t 7), (.t 8)], none⟩,
 ⟨some 10, .call (.k (.fn (.func 20) [] [])) [(.t 9)], none⟩,
 ⟨some 5, .new [.int .u8 0, .int .u8 0, .int .u8 0, .int .u8 0, .int .u8 0, .int .u8 0, .int .u8 0, .int .u8 0, .int .u8 0, .int .u8 0, .int .u8 0, .int .u8 0, .int .u8 0, .int .u8 0, .int .u8 0, .int .u8 0, .int .u8 0, .int .u8 0, .int .u8 0, .int .u8 0, .int .u8 0, .int .u8 0, .int .u8 0, .int .u8 0, .int .u8 0, .int .u8 0, .int .u8 0, .int .u8 0, .int .u8 0, .int .u8 0, .int .u8 0, .int .u8 0] none, none⟩,
 ⟨none, .store 32 (.t 5) (.t 10), none⟩])
 (.seq (.dreg [⟨some 11, .mov (.t 0), none⟩,
 ⟨some 12, .call (.k (.fn (.func 95) [] [])) [(.t 11), (.k (.int .u8 92))], none⟩,
 ⟨some 13, .slca 32 1 false (.t 5) none none none, none⟩,
 ⟨some 14, .call (.k (.fn (.func 19) [] [])) [(.t 12), (.t 13)], none⟩,
 ⟨some 15, .call (.k (.fn (.func 20) [] [])) [(.t 14)], none⟩,
 ⟨none, .store 32 (.t 4) (.t 15), none⟩] (.lin [] [(0, none), (2, none), (1, some [2]), (3, some []), (4, some []), (5, some [])]))
 .ret)))⟩

/-- 89: signetring/ladder.Clamp -/
def F89 : Fun :=
 ⟨13, 1, [.c 2 32 true],
 (.seq (.reg [⟨some 1, .box none (.t 0), none⟩,
 ⟨some 2, .new [.int .u8 0, .int .u8 0, .int .u8 0, .int .u8 0, .int .u8 0, .int .u8 0, .int .u8 0, .int .u8 0, .int .u8 0, .int .u8 0, .int .u8 0, .int .u8 0, .int .u8 0, .int .u8 0, .int .u8 0, .int .u8 0, .int .u8 0, .int .u8 0, .int .u8 0, .int .u8 0, .int .u8 0, .int .u8 0, .int .u8 0, .int .u8 0, .int .u8 0, .int .u8 0, .int .u8 0, .int .u8 0, .int .u8 0, .int .u8 0, .int .u8 0, .int .u8 0] none, none⟩])
 (.seq (.reg [⟨some 3, .iada 32 1 (.t 1) (.k (.int .i64 0)), none⟩,
 ⟨some 4, .load 1 false (.t 3), none⟩,
 ⟨some 5, .bin .and .num (.t 4) (.k (.int .u8 248)), none⟩,
 ⟨some 6, .iada 32 1 (.t 1) (.k (.int .i64 0)), none⟩,
 ⟨none, .store 1 (.t 6) (.t 5), none⟩])
 (.seq (.reg [⟨some 7, .iada 32 1 (.t 1) (.k (.int .i64 31)), none⟩,
 ⟨some 8, .load 1 false (.t 7), none⟩,
 ⟨some 9, .bin .and .num (.t 8) (.k (.int .u8 63)), none⟩,
 ⟨some 10, .bin .or .num (.t 9) (.k (.int .u8 64)), none⟩,
 ⟨some 11, .iada 32 1 (.t 1) (.k (.int .i64 31)), none⟩,
 ⟨none, .store 1 (.t 11) (.t 10), none⟩])
 (.seq (.reg [⟨some 12, .load 32 true (.t 1), none⟩,
 ⟨none, .store 32 (.t 2) (.t 12), none⟩])
 .ret))))⟩

/-- 90: signetring/limb.Reduce -/
def F90 : Fun :=
 ⟨6, 1, [.c 2 32 true],
 (.seq (.reg [⟨some 1, .box none (.t 0), none⟩,
 ⟨some 2, .new [.int .u8 0, .int .u8 0, .int .u8 0, .int .u8 0, .int .u8 0, .int .u8 0, .int .u8 0, .int .u8 0, .int .u8 0, .int .u8 0, .int .u8 0, .int .u8 0, .int .u8 0, .int .u8 0, .int .u8 0, .int .u8 0, .int .u8 0, .int .u8 0, .int .u8 0, .int .u8 0, .int .u8 0, .int .u8 0, .int .u8 0, .int .u8 0, .int .u8 0, .int .u8 0, .int .u8 0, .int .u8 0, .int .u8 0, .int .u8 0, .int .u8 0, .int .u8 0] none, none⟩])
 (.seq (.reg [⟨some 3, .load 32 true (.t 1), none⟩,
 ⟨some 4, .call (.k (.fn (.func 96) [] [])) [(.t 3)], none⟩,
 ⟨some 5, .call (.k (.fn (.func 97) [] [])) [(.t 4)], none⟩,
 ⟨none, .store 32 (.t 2) (.t 5), none⟩])
 .ret))⟩

/-- 95: signetring/mac.keyed -/
def F95 : Fun :=
 ⟨30, 2, [.c 4 10 true],
 (.seq (.reg [⟨some 4, .new [.int .u32 0, .int .u32 0, .int .u32 0, .int .u32 0, .int .u32 0, .int .u32 0, .int .u32 0, .int .u32 0, .nsl, .int .u64 0] none, none⟩])
 (.seq (.seq (.reg [⟨some 8, .mov (.t 0), none⟩,
 ⟨some 9, .len .slc (.t 8), none⟩,
 ⟨some 10, .bin .gtr .num (.t 9) (.k (.int .i64 64)), none⟩])
 (.cond (.t 10)
 (.seq (.reg [⟨some 11, .mov (.t 0), none⟩,
 ⟨some 12, .call (.k (.fn (.func 14) [] [])) [(.t 11)], none⟩,
 ⟨some 5, .new [.int .u8 0, .int .u8 0, .int .u8 0, .int .u8 0, .int .u8 0, .int .u8 0, .int .u8 0, .int .u8 0, .int .u8 0, .int .u8 0, .int .u8 0, .int .u8 0, .int .u8 0, .int .u8 0, .int .u8 0, .int .u8 0, .int .u8 0, .int .u8 0, .int .u8 0, .int .u8 0, .int .u8 0, .int .u8 0, .int .u8 0, .int .u8 0, .int .u8 0, .int .u8 0, .int .u8 0, .int .u8 0, .int .u8 0, .int .u8 0, .int .u8 0, .int .u8 0] none, none⟩,
 ⟨none, .store 32 (.t 5) (.t 12), none⟩])
 (.reg [⟨some 13, .slca 32 1 false (.t 5) none none none, none⟩,
 ⟨some 0, .mov (.t 13), none⟩]))
 .skip))
 (.seq (.reg [⟨some 6, .new [.int .u8 0, .int .u8 0, .int .u8 0, .int .u8 0, .int .u8 0, .int .u8 0, .int .u8 0, .int .u8 0, .int .u8 0, .int .u8 0, .int .u8 0, .int .u8 0, .int .u8 0, .int .u8 0, .int .u8 0, .int .u8 0, .int .u8 0, .int .u8 0, .int .u8 0, .int .u8 0, .int .u8 0, .int .u8 0, .int .u8 0, .int .u8 0, .int .u8 0, .int .u8 0, .int .u8 0, .int .u8 0, .int .u8 0, .int .u8 0, .int .u8 0, .int .u8 0, .int .u8 0, .int .u8 0, .int .u8 0, .int .u8 0, .int .u8 0, .int .u8 0, .int .u8 0, .int .u8 0, .int .u8 0, .int .u8 0, .int .u8 0, .int .u8 0, .int .u8 0, .int .u8 0, .int .u8 0, .int .u8 0, .int .u8 0, .int .u8 0, .int .u8 0, .int .u8 0, .int .u8 0, .int .u8 0, .int .u8 0, .int .u8 0, .int .u8 0, .int .u8 0, .int .u8 0, .int .u8 0, .int .u8 0, .int .u8 0, .int .u8 0, .int .u8 0] none, none⟩])
 (.seq (.reg [⟨some 14, .slca 64 1 false (.t 6) none none none, none⟩,
 ⟨some 15, .mov (.t 0), none⟩,
 ⟨some 16, .cpy 1 (.t 14) (.t 15), none⟩])
 (.seq (.seq (.reg [⟨some 17, .mov (.k (.int .i64 0)), none⟩])
 (.block 0
 (.loop
 (.seq (.reg [⟨some 18, .bin .lss .num (.t 17) (.k (.int .i64 64)), none⟩])
 (.seq (.cond (.t 18)
 .skip
 (.exit 0))
 (.seq (.block 1
 (.seq (.reg [⟨some 19, .mov (.t 17), none⟩,
 ⟨some 7, .mov (.t 19), none⟩])
 (.reg [⟨some 20, .mov (.t 7), none⟩,
 ⟨some 21, .iada 64 1 (.t 6) (.t 20), none⟩,
 ⟨some 22, .load 1 false (.t 21), none⟩,
 ⟨some 23, .mov (.t 1), none⟩,
 ⟨some 24, .bin .xor .num (.t 22) (.t 23), none⟩,
 ⟨some 25, .iada 64 1 (.t 6) (.t 20), none⟩,
 ⟨none, .store 1 (.t 25) (.t 24), none⟩])))
 (.reg [⟨some 26, .bin .add .num (.t 17) (.k (.int .i64 1)), none⟩,
 ⟨some 17, .mov (.t 26), none⟩])))))))
 (.seq (.reg [⟨some 27, .build [.int .u32 0, .int .u32 0, .int .u32 0, .int .u32 0, .int .u32 0, .int .u32 0, .int .u32 0, .int .u32 0, .nsl, .int .u64 0] [], none⟩,
 ⟨some 28, .slca 64 1 false (.t 6) none none none, none⟩,
 ⟨some 29, .call (.k (.fn (.func 19) [] [])) [(.t 27), (.t 28)], none⟩,
 ⟨none, .store 10 (.t 4) (.t 29), none⟩])
 .ret))))))⟩

/-- 98: signetring/limb.Swap -/
def F98 : Fun :=
 ⟨39, 3, [.c 6 32 true, .c 7 32 true],
 (.seq (.reg [⟨some 4, .box none (.t 1), none⟩,
 ⟨some 5, .box none (.t 2), none⟩,
 ⟨some 6, .new [.int .u8 0, .int .u8 0, .int .u8 0, .int .u8 0, .int .u8 0, .int .u8 0, .int .u8 0, .int .u8 0, .int .u8 0, .int .u8 0, .int .u8 0, .int .u8 0, .int .u8 0, .int .u8 0, .int .u8 0, .int .u8 0, .int .u8 0, .int .u8 0, .int .u8 0, .int .u8 0, .int .u8 0, .int .u8 0, .int .u8 0, .int .u8 0, .int .u8 0, .int .u8 0, .int .u8 0, .int .u8 0, .int .u8 0, .int .u8 0, .int .u8 0, .int .u8 0] none, none⟩,
 ⟨some 7, .new [.int .u8 0, .int .u8 0, .int .u8 0, .int .u8 0, .int .u8 0, .int .u8 0, .int .u8 0, .int .u8 0, .int .u8 0, .int .u8 0, .int .u8 0, .int .u8 0, .int .u8 0, .int .u8 0, .int .u8 0, .int .u8 0, .int .u8 0, .int .u8 0, .int .u8 0, .int .u8 0, .int .u8 0, .int .u8 0, .int .u8 0, .int .u8 0, .int .u8 0, .int .u8 0, .int .u8 0, .int .u8 0, .int .u8 0, .int .u8 0, .int .u8 0, .int .u8 0] none, none⟩])
 (.seq (.reg [⟨some 8, .mov (.k (.int .u8 0)), none⟩])
 (.seq (.seq (.reg [⟨some 11, .mov (.t 0), none⟩])
 (.cond (.t 11)
 (.reg [⟨some 8, .mov (.k (.int .u8 255)), none⟩])
 .skip))
 (.seq (.seq (.reg [⟨some 12, .mov (.k (.int .i64 0)), none⟩])
 (.block 0
 (.loop
 (.seq (.reg [⟨some 13, .bin .lss .num (.t 12) (.k (.int .i64 32)), none⟩])
 (.seq (.cond (.t 13)
 .skip
 (.exit 0))
 (.seq (.block 1
 (.seq (.reg [⟨some 14, .mov (.t 12), none⟩,
 ⟨some 9, .mov (.t 14), none⟩])
 (.seq (.dreg [⟨some 15, .mov (.t 8), none⟩,
 ⟨some 16, .mov (.t 9), none⟩,
 ⟨some 17, .iada 32 1 (.t 4) (.t 16), none⟩,
 ⟨some 18, .load 1 false (.t 17), none⟩,
 ⟨some 19, .mov (.t 9), none⟩,
 ⟨some 20, .iada 32 1 (.t 5) (.t 19), none⟩,
 ⟨some 21, .load 1 false (.t 20), none⟩,
 ⟨some 22, .bin .xor .num (.t 18) (.t 21), none⟩,
 ⟨some 23, .bin .and .num (.t 15) (.t 22), none⟩,
 ⟨some 10, .mov (.t 23), none⟩] (.lin [] [(0, none), (1, none), (2, none), (3, none), (4, none), (5, none), (6, none), (7, none), (8, none), (9, none)]))
 (.seq (.reg [⟨some 24, .mov (.t 9), none⟩,
 ⟨some 25, .iada 32 1 (.t 4) (.t 24), none⟩,
 ⟨some 26, .load 1 false (.t 25), none⟩,
 ⟨some 27, .mov (.t 10), none⟩,
 ⟨some 28, .bin .xor .num (.t 26) (.t 27), none⟩,
 ⟨some 29, .iada 32 1 (.t 4) (.t 24), none⟩,
 ⟨none, .store 1 (.t 29) (.t 28), none⟩])
 (.reg [⟨some 30, .mov (.t 9), none⟩,
 ⟨some 31, .iada 32 1 (.t 5) (.t 30), none⟩,
 ⟨some 32, .load 1 false (.t 31), none⟩,
 ⟨some 33, .mov (.t 10), none⟩,
 ⟨some 34, .bin .xor .num (.t 32) (.t 33), none⟩,
 ⟨some 35, .iada 32 1 (.t 5) (.t 30), none⟩,
 ⟨none, .store 1 (.t 35) (.t 34), none⟩])))))
 (.reg [⟨some 36, .bin .add .num (.t 12) (.k (.int .i64 1)), none⟩,
 ⟨some 12, .mov (.t 36), none⟩])))))))
 (.seq (.dreg [⟨some 37, .load 32 true (.t 4), none⟩,
 ⟨some 38, .load 32 true (.t 5), none⟩,
 ⟨none, .store 32 (.t 6) (.t 37), none⟩,
 ⟨none, .store 32 (.t 7) (.t 38), none⟩] (.lin [] [(0, none), (1, none), (2, some [1]), (3, some [])]))
 .ret)))))⟩

/-- 100: signetring/limb.Add -/
def F100 : Fun :=
 ⟨26, 2, [.c 4 32 true],
 (.seq (.reg [⟨some 2, .box none (.t 0), none⟩,
 ⟨some 3, .box none (.t 1), none⟩,
 ⟨some 4, .new [.int .u8 0, .int .u8 0, .int .u8 0, .int .u8 0, .int .u8 0, .int .u8 0, .int .u8 0, .int .u8 0, .int .u8 0, .int .u8 0, .int .u8 0, .int .u8 0, .int .u8 0, .int .u8 0, .int .u8 0, .int .u8 0, .int .u8 0, .int .u8 0, .int .u8 0, .int .u8 0, .int .u8 0, .int .u8 0, .int .u8 0, .int .u8 0, .int .u8 0, .int .u8 0, .int .u8 0, .int .u8 0, .int .u8 0, .int .u8 0, .int .u8 0, .int .u8 0] none, none⟩])
 (.seq (.dreg [⟨some 8, .load 32 true (.t 2), none⟩,
 ⟨some 9, .call (.k (.fn (.func 96) [] [])) [(.t 8)], none⟩,
 ⟨some 10, .load 32 true (.t 3), none⟩,
 ⟨some 11, .call (.k (.fn (.func 96) [] [])) [(.t 10)], none⟩,
 ⟨some 5, .new [.int .u64 0, .int .u64 0, .int .u64 0, .int .u64 0, .int .u64 0] none, none⟩,
 ⟨some 6, .new [.int .u64 0, .int .u64 0, .int .u64 0, .int .u64 0, .int .u64 0] none, none⟩,
 ⟨none, .store 5 (.t 5) (.t 9), none⟩,
 ⟨none, .store 5 (.t 6) (.t 11), none⟩] (.lin [4, 5] [(0, none), (2, none), (1, some [2]), (3, some []), (6, some []), (7, some [])]))
 (.seq (.seq (.reg [⟨some 12, .mov (.k (.int .i64 0)), none⟩])
 (.block 0
 (.loop
 (.seq (.reg [⟨some 13, .bin .lss .num (.t 12) (.k (.int .i64 5)), none⟩])
 (.seq (.cond (.t 13)
 .skip
 (.exit 0))
 (.seq (.block 1
 (.seq (.reg [⟨some 14, .mov (.t 12), none⟩,
 ⟨some 7, .mov (.t 14), none⟩])
 (.dreg [⟨some 15, .mov (.t 7), none⟩,
 ⟨some 16, .iada 5 1 (.t 5) (.t 15), none⟩,
 ⟨some 17, .load 1 false (.t 16), none⟩,
 ⟨some 18, .mov (.t 7), none⟩,
 ⟨some 19, .iada 5 1 (.t 6) (.t 18), none⟩,
 ⟨some 20, .load 1 false (.t 19), none⟩,
 ⟨some 21, .bin .add .num (.t 17) (.t 20), none⟩,
 ⟨some 22, .iada 5 1 (.t 5) (.t 15), none⟩,
 ⟨none, .store 1 (.t 22) (.t 21), none⟩] (.lin [] [(0, none), (1, none), (2, none), (3, none), (4, none), (5, none), (6, none), (7, none), (8, some [])]))))
 (.reg [⟨some 23, .bin .add .num (.t 12) (.k (.int .i64 1)), none⟩,
 ⟨some 12, .mov (.t 23), none⟩])))))))
 (.seq (.reg [⟨some 24, .load 5 true (.t 5), none⟩,
 ⟨some 25, .call (.k (.fn (.func 97) [] [])) [(.t 24)], none⟩,
 ⟨none, .store 32 (.t 4) (.t 25), none⟩])
 .ret))))⟩

/-- 101: signetring/limb.Sub -/
def F101 : Fun :=
 ⟨31, 2, [.c 4 32 true],
 (.seq (.reg [⟨some 2, .box none (.t 0), none⟩,
 ⟨some 3, .box none (.t 1), none⟩,
 ⟨some 4, .new [.int .u8 0, .int .u8 0, .int .u8 0, .int .u8 0, .int .u8 0, .int .u8 0, .int .u8 0, .int .u8 0, .int .u8 0, .int .u8 0, .int .u8 0, .int .u8 0, .int .u8 0, .int .u8 0, .int .u8 0, .int .u8 0, .int .u8 0, .int .u8 0, .int .u8 0, .int .u8 0, .int .u8 0, .int .u8 0, .int .u8 0, .int .u8 0, .int .u8 0, .int .u8 0, .int .u8 0, .int .u8 0, .int .u8 0, .int .u8 0, .int .u8 0, .int .u8 0] none, none⟩])
 (.seq (.dreg [⟨some 9, .load 32 true (.t 2), none⟩,
 ⟨some 10, .call (.k (.fn (.func 96) [] [])) [(.t 9)], none⟩,
 ⟨some 11, .load 32 true (.t 3), none⟩,
 ⟨some 12, .call (.k (.fn (.func 96) [] [])) [(.t 11)], none⟩,
 ⟨some 5, .new [.int .u64 0, .int .u64 0, .int .u64 0, .int .u64 0, .int .u64 0] none, none⟩,
 ⟨some 6, .new [.int .u64 0, .int .u64 0, .int .u64 0, .int .u64 0, .int .u64 0] none, none⟩,
 ⟨none, .store 5 (.t 5) (.t 10), none⟩,
 ⟨none, .store 5 (.t 6) (.t 12), none⟩] (.lin [4, 5] [(0, none), (2, none), (1, some [2]), (3, some []), (6, some []), (7, some [])]))
 (.seq (.seq (.reg [⟨some 13, .mov (.k (.int .i64 0)), none⟩])
 (.block 0
 (.loop
 (.seq (.reg [⟨some 14, .bin .lss .num (.t 13) (.k (.int .i64 5)), none⟩])
 (.seq (.cond (.t 14)
 .skip
 (.exit 0))
 (.seq (.block 1
 (.seq (.reg [⟨some 15, .mov (.t 13), none⟩,
 ⟨some 7, .mov (.t 15), none⟩])
 (.seq (.reg [⟨some 8, .mov (.k (.int .u64 9007199254740988)), none⟩])
 (.seq (.seq (.reg [⟨some 16, .mov (.t 7), none⟩,
 ⟨some 17, .bin .eql .num (.t 16) (.k (.int .i64 0)), none⟩])
 (.cond (.t 17)
 (.reg [⟨some 8, .mov (.k (.int .u64 9007199254740916)), none⟩])
 .skip))
 (.dreg [⟨some 18, .mov (.t 7), none⟩,
 ⟨some 19, .iada 5 1 (.t 5) (.t 18), none⟩,
 ⟨some 20, .load 1 false (.t 19), none⟩,
 ⟨some 21, .mov (.t 8), none⟩,
 ⟨some 22, .mov (.t 7), none⟩,
 ⟨some 23, .iada 5 1 (.t 6) (.t 22), none⟩,
 ⟨some 24, .load 1 false (.t 23), none⟩,
 ⟨some 25, .bin .sub .num (.t 21) (.t 24), none⟩,
 ⟨some 26, .bin .add .num (.t 20) (.t 25), none⟩,
 ⟨some 27, .iada 5 1 (.t 5) (.t 18), none⟩,
 ⟨none, .store 1 (.t 27) (.t 26), none⟩] (.lin [] [(0, none), (1, none), (2, none), (3, none), (4, none), (5, none), (6, none), (7, none), (8, none), (9, none), (10, some [])]))))))
 (.reg [⟨some 28, .bin .add .num (.t 13) (.k (.int .i64 1)), none⟩,
 ⟨some 13, .mov (.t 28), none⟩])))))))
 (.seq (.reg [⟨some 29, .load 5 true (.t 5), none⟩,
 ⟨some 30, .call (.k (.fn (.func 97) [] [])) [(.t 29)], none⟩,
 ⟨none, .store 32 (.t 4) (.t 30), none⟩])
 .ret))))⟩

/-- 102: (signetring/limb.element).times -/
def F102 : Fun :=
 ⟨106, 2, [.c 4 5 true],
 (.seq (.reg [⟨some 2, .box none (.t 0), none⟩,
 ⟨some 3, .box none (.t 1), none⟩,
 ⟨some 4, .new [.int .u64 0, .int .u64 0, .int .u64 0, .int .u64 0, .int .u64 0] none, none⟩])
 (.seq (.reg [⟨some 5, .new [.int .u64 0, .int .u64 0, .int .u64 0, .int .u64 0, .int .u64 0, .int .u64 0, .int .u64 0, .int .u64 0, .int .u64 0, .int .u64 0] none, none⟩])
 (.seq (.seq (.reg [⟨some 20, .load 5 true (.t 2), none⟩,
 ⟨some 21, .mov (.k (.int .i64 0)), none⟩])
 (.block 0
 (.loop
 (.seq (.reg [⟨some 22, .bin .lss .num (.t 21) (.k (.int .i64 5)), none⟩])
 (.seq (.cond (.t 22)
 .skip
 (.exit 0))
 (.seq (.block 1
 (.seq (.reg [⟨some 23, .mov (.t 21), none⟩,
 ⟨some 24, .idxa 5 1 false (.t 20) (.t 21), none⟩,
 ⟨some 6, .mov (.t 23), none⟩,
 ⟨some 7, .mov (.t 24), none⟩])
 (.seq (.reg [⟨some 25, .load 5 true (.t 3), none⟩,
 ⟨some 26, .mov (.k (.int .i64 0)), none⟩])
 (.block 2
 (.loop
 (.seq (.reg [⟨some 27, .bin .lss .num (.t 26) (.k (.int .i64 5)), none⟩])
 (.seq (.cond (.t 27)
 .skip
 (.exit 2))
 (.seq (.block 3
 (.seq (.reg [⟨some 28, .mov (.t 26), none⟩,
 ⟨some 29, .idxa 5 1 false (.t 25) (.t 26), none⟩,
 ⟨some 8, .mov (.t 28), none⟩,
 ⟨some 9, .mov (.t 29), none⟩])
 (.seq (.reg [⟨some 30, .mov (.t 6), none⟩,
 ⟨some 31, .mov (.t 8), none⟩,
 ⟨some 32, .bin .add .num (.t 30) (.t 31), none⟩,
 ⟨some 10, .mov (.t 32), none⟩])
 (.seq (.seq (.reg [⟨some 33, .mov (.t 10), none⟩,
 ⟨some 34, .bin .geq .num (.t 33) (.k (.int .i64 5)), none⟩])
 (.cond (.t 34)
 (.seq (.reg [⟨some 35, .mov (.t 10), none⟩,
 ⟨some 36, .bin .sub .num (.t 35) (.k (.int .i64 5)), none⟩,
 ⟨some 10, .mov (.t 36), none⟩])
 (.reg [⟨some 37, .mov (.t 9), none⟩,
 ⟨some 38, .bin .mul .num (.t 37) (.k (.int .u64 19)), none⟩,
 ⟨some 9, .mov (.t 38), none⟩]))
 .skip))
 (.reg [⟨some 39, .mov (.t 10), none⟩,
 ⟨some 40, .mov (.t 10), none⟩,
 ⟨some 41, .iada 5 2 (.t 5) (.t 40), none⟩,
 ⟨some 42, .load 2 true (.t 41), none⟩,
 ⟨some 43, .mov (.t 7), none⟩,
 ⟨some 44, .mov (.t 9), none⟩,
 ⟨some 45, .call (.k (.fn (.func 104) [] [])) [(.t 42), (.t 43), (.t 44)], none⟩,
 ⟨some 46, .iada 5 2 (.t 5) (.t 39), none⟩,
 ⟨none, .store 2 (.t 46) (.t 45), none⟩])))))
 (.reg [⟨some 47, .bin .add .num (.t 26) (.k (.int .i64 1)), none⟩,
 ⟨some 26, .mov (.t 47), none⟩])))))))))
 (.reg [⟨some 48, .bin .add .num (.t 21) (.k (.int .i64 1)), none⟩,
 ⟨some 21, .mov (.t 48), none⟩])))))))
 (.seq (.reg [⟨some 11, .new [.int .u64 0, .int .u64 0, .int .u64 0, .int .u64 0, .int .u64 0] none, none⟩])
 (.seq (.reg [⟨some 12, .mov (.k (.int .u64 0)), none⟩])
 (.seq (.seq (.reg [⟨some 49, .mov (.k (.int .i64 0)), none⟩])
 (.block 4
 (.loop
 (.seq (.reg [⟨some 50, .bin .lss .num (.t 49) (.k (.int .i64 5)), none⟩])
 (.seq (.cond (.t 50)
 .skip
 (.exit 4))
 (.seq (.block 5
 (.seq (.reg [⟨some 51, .mov (.t 49), none⟩,
 ⟨some 13, .mov (.t 51), none⟩])
 (.seq (.reg [⟨some 53, .mov (.t 13), none⟩,
 ⟨some 54, .iada 5 2 (.t 5) (.t 53), none⟩,
 ⟨some 55, .fad 1 (.t 54), none⟩,
 ⟨some 56, .load 1 false (.t 55), none⟩,
 ⟨some 57, .mov (.t 12), none⟩,
 ⟨some 58, .j (.adc (.t 56) (.t 57) (.k (.int .u64 0))), none⟩,
 ⟨some 52, .mov (.t 58), none⟩,
 ⟨some 59, .ext (.t 52) 0, none⟩,
 ⟨some 60, .ext (.t 52) 1, none⟩,
 ⟨some 14, .mov (.t 59), none⟩,
 ⟨some 15, .mov (.t 60), none⟩])
 (.seq (.reg [⟨some 61, .mov (.t 13), none⟩,
 ⟨some 62, .iada 5 2 (.t 5) (.t 61), none⟩,
 ⟨some 63, .fad 0 (.t 62), none⟩,
 ⟨some 64, .load 1 false (.t 63), none⟩,
 ⟨some 65, .mov (.t 15), none⟩,
 ⟨some 66, .bin .add .num (.t 64) (.t 65), none⟩,
 ⟨some 16, .mov (.t 66), none⟩])
 (.seq (.reg [⟨some 67, .mov (.t 13), none⟩,
 ⟨some 68, .mov (.t 14), none⟩,
 ⟨some 69, .bin .and .num (.t 68) (.k (.int .u64 2251799813685247)), none⟩,
 ⟨some 70, .iada 5 1 (.t 11) (.t 67), none⟩,
 ⟨none, .store 1 (.t 70) (.t 69), none⟩])
 (.reg [⟨some 71, .mov (.t 16), none⟩,
 ⟨some 72, .bin .shl .num (.t 71) (.k (.int .u64 13)), none⟩,
 ⟨some 73, .mov (.t 14), none⟩,
 ⟨some 74, .bin .shr .num (.t 73) (.k (.int .u64 51)), none⟩,
 ⟨some 75, .bin .or .num (.t 72) (.t 74), none⟩,
 ⟨some 12, .mov (.t 75), none⟩]))))))
 (.reg [⟨some 76, .bin .add .num (.t 49) (.k (.int .i64 1)), none⟩,
 ⟨some 49, .mov (.t 76), none⟩])))))))
 (.seq (.reg [⟨some 78, .mov (.t 12), none⟩,
 ⟨some 79, .call (.k (.fn (.func 35) [] [])) [(.t 78), (.k (.int .u64 19))], none⟩,
 ⟨some 77, .mov (.t 79), none⟩,
 ⟨some 80, .ext (.t 77) 0, none⟩,
 ⟨some 81, .ext (.t 77) 1, none⟩,
 ⟨some 17, .mov (.t 80), none⟩,
 ⟨some 18, .mov (.t 81), none⟩])
 (.seq (.reg [⟨some 83, .mov (.t 18), none⟩,
 ⟨some 84, .iada 5 1 (.t 11) (.k (.int .i64 0)), none⟩,
 ⟨some 85, .load 1 false (.t 84), none⟩,
 ⟨some 86, .j (.adc (.t 83) (.t 85) (.k (.int .u64 0))), none⟩,
 ⟨some 82, .mov (.t 86), none⟩,
 ⟨some 87, .ext (.t 82) 0, none⟩,
 ⟨some 88, .ext (.t 82) 1, none⟩,
 ⟨some 18, .mov (.t 87), none⟩,
 ⟨some 19, .mov (.t 88), none⟩])
 (.seq (.reg [⟨some 89, .mov (.t 17), none⟩,
 ⟨some 90, .mov (.t 19), none⟩,
 ⟨some 91, .bin .add .num (.t 89) (.t 90), none⟩,
 ⟨some 17, .mov (.t 91), none⟩])
 (.seq (.reg [⟨some 92, .mov (.t 18), none⟩,
 ⟨some 93, .bin .and .num (.t 92) (.k (.int .u64 2251799813685247)), none⟩,
 ⟨some 94, .iada 5 1 (.t 11) (.k (.int .i64 0)), none⟩,
 ⟨none, .store 1 (.t 94) (.t 93), none⟩])
 (.seq (.reg [⟨some 95, .iada 5 1 (.t 11) (.k (.int .i64 1)), none⟩,
 ⟨some 96, .load 1 false (.t 95), none⟩,
 ⟨some 97, .mov (.t 17), none⟩,
 ⟨some 98, .bin .shl .num (.t 97) (.k (.int .u64 13)), none⟩,
 ⟨some 99, .mov (.t 18), none⟩,
 ⟨some 100, .bin .shr .num (.t 99) (.k (.int .u64 51)), none⟩,
 ⟨some 101, .bin .or .num (.t 98) (.t 100), none⟩,
 ⟨some 102, .bin .add .num (.t 96) (.t 101), none⟩,
 ⟨some 103, .iada 5 1 (.t 11) (.k (.int .i64 1)), none⟩,
 ⟨none, .store 1 (.t 103) (.t 102), none⟩])
 (.seq (.reg [⟨some 104, .load 5 true (.t 11), none⟩,
 ⟨some 105, .call (.k (.fn (.func 103) [] [])) [(.t 104)], none⟩,
 ⟨none, .store 5 (.t 4) (.t 105), none⟩])
 .ret))))))))))))⟩

/-- 103: (signetring/limb.element).carried -/
def F103 : Fun :=
 ⟨38, 1, [.c 2 5 true],
 (.seq (.reg [⟨some 1, .box none (.t 0), none⟩,
 ⟨some 2, .new [.int .u64 0, .int .u64 0, .int .u64 0, .int .u64 0, .int .u64 0] none, none⟩])
 (.seq (.reg [⟨some 5, .iada 5 1 (.t 1) (.k (.int .i64 4)), none⟩,
 ⟨some 6, .load 1 false (.t 5), none⟩,
 ⟨some 7, .bin .shr .num (.t 6) (.k (.int .u64 51)), none⟩,
 ⟨some 3, .mov (.t 7), none⟩])
 (.seq (.reg [⟨some 8, .iada 5 1 (.t 1) (.k (.int .i64 4)), none⟩,
 ⟨some 9, .load 1 false (.t 8), none⟩,
 ⟨some 10, .bin .and .num (.t 9) (.k (.int .u64 2251799813685247)), none⟩,
 ⟨some 11, .iada 5 1 (.t 1) (.k (.int .i64 4)), none⟩,
 ⟨none, .store 1 (.t 11) (.t 10), none⟩])
 (.seq (.reg [⟨some 12, .iada 5 1 (.t 1) (.k (.int .i64 0)), none⟩,
 ⟨some 13, .load 1 false (.t 12), none⟩,
 ⟨some 14, .mov (.t 3), none⟩,
 ⟨some 15, .bin .mul .num (.k (.int .u64 19)) (.t 14), none⟩,
 ⟨some 16, .bin .add .num (.t 13) (.t 15), none⟩,
 ⟨some 17, .iada 5 1 (.t 1) (.k (.int .i64 0)), none⟩,
 ⟨none, .store 1 (.t 17) (.t 16), none⟩])
 (.seq (.seq (.reg [⟨some 18, .mov (.k (.int .i64 0)), none⟩])
 (.block 0
 (.loop
 (.seq (.reg [⟨some 19, .bin .lss .num (.t 18) (.k (.int .i64 4)), none⟩])
 (.seq (.cond (.t 19)
 .skip
 (.exit 0))
 (.seq (.block 1
 (.seq (.reg [⟨some 20, .mov (.t 18), none⟩,
 ⟨some 4, .mov (.t 20), none⟩])
 (.seq (.dreg [⟨some 21, .mov (.t 4), none⟩,
 ⟨some 22, .bin .add .num (.t 21) (.k (.int .i64 1)), none⟩,
 ⟨some 23, .iada 5 1 (.t 1) (.t 22), none⟩,
 ⟨some 24, .load 1 false (.t 23), none⟩,
 ⟨some 25, .mov (.t 4), none⟩,
 ⟨some 26, .iada 5 1 (.t 1) (.t 25), none⟩,
 ⟨some 27, .load 1 false (.t 26), none⟩,
 ⟨some 28, .bin .shr .num (.t 27) (.k (.int .u64 51)), none⟩,
 ⟨some 29, .bin .add .num (.t 24) (.t 28), none⟩,
 ⟨some 30, .iada 5 1 (.t 1) (.t 22), none⟩,
 ⟨none, .store 1 (.t 30) (.t 29), none⟩] (.lin [] [(0, none), (1, none), (2, none), (3, none), (4, none), (5, none), (6, none), (7, none), (8, none), (9, none), (10, some [])]))
 (.reg [⟨some 31, .mov (.t 4), none⟩,
 ⟨some 32, .iada 5 1 (.t 1) (.t 31), none⟩,
 ⟨some 33, .load 1 false (.t 32), none⟩,
 ⟨some 34, .bin .and .num (.t 33) (.k (.int .u64 2251799813685247)), none⟩,
 ⟨some 35, .iada 5 1 (.t 1) (.t 31), none⟩,
 ⟨none, .store 1 (.t 35) (.t 34), none⟩]))))
 (.reg [⟨some 36, .bin .add .num (.t 18) (.k (.int .i64 1)), none⟩,
 ⟨some 18, .mov (.t 36), none⟩])))))))
 (.seq (.reg [⟨some 37, .load 5 true (.t 1), none⟩,
 ⟨none, .store 5 (.t 2) (.t 37), none⟩])
 .ret))))))⟩

/-- 104: (signetring/limb.wide).more -/
def F104 : Fun :=
 ⟨34, 3, [.c 6 2 true],
 (.seq (.reg [⟨some 3, .box none (.t 0), none⟩,
 ⟨some 6, .new [.int .u64 0, .int .u64 0] none, none⟩])
 (.seq (.reg [⟨some 11, .mov (.t 1), none⟩,
 ⟨some 12, .mov (.t 2), none⟩,
 ⟨some 13, .call (.k (.fn (.func 35) [] [])) [(.t 11), (.t 12)], none⟩,
 ⟨some 10, .mov (.t 13), none⟩,
 ⟨some 14, .ext (.t 10) 0, none⟩,
 ⟨some 15, .ext (.t 10) 1, none⟩,
 ⟨some 7, .mov (.t 14), none⟩,
 ⟨some 8, .mov (.t 15), none⟩])
 (.seq (.reg [⟨some 17, .fad 1 (.t 3), none⟩,
 ⟨some 18, .load 1 false (.t 17), none⟩,
 ⟨some 19, .mov (.t 8), none⟩,
 ⟨some 20, .j (.adc (.t 18) (.t 19) (.k (.int .u64 0))), none⟩,
 ⟨some 16, .mov (.t 20), none⟩,
 ⟨some 21, .ext (.t 16) 0, none⟩,
 ⟨some 22, .ext (.t 16) 1, none⟩,
 ⟨some 8, .mov (.t 21), none⟩,
 ⟨some 9, .mov (.t 22), none⟩])
 (.seq (.reg [⟨some 24, .fad 0 (.t 3), none⟩,
 ⟨some 25, .load 1 false (.t 24), none⟩,
 ⟨some 26, .mov (.t 7), none⟩,
 ⟨some 27, .mov (.t 9), none⟩,
 ⟨some 28, .j (.adc (.t 25) (.t 26) (.t 27)), none⟩,
 ⟨some 23, .mov (.t 28), none⟩,
 ⟨some 29, .ext (.t 23) 0, none⟩,
 ⟨some 30, .ext (.t 23) 1, none⟩,
 ⟨some 7, .mov (.t 29), none⟩])
 (.seq (.reg [⟨some 31, .mov (.t 7), none⟩,
 ⟨some 32, .mov (.t 8), none⟩,
 ⟨some 33, .build [.int .u64 0, .int .u64 0] [(0, 1, (.t 31)), (1, 1, (.t 32))], none⟩,
 ⟨none, .store 2 (.t 6) (.t 33), none⟩])
 .ret)))))⟩

/-- 105: (signetring/prims.symbol).Hash -/
def F105 : Fun :=
 ⟨13, 3, [.t 6],
 (.seq (.reg [⟨some 3, .box none (.t 0), none⟩,
 ⟨some 6, .mov (.k (.str [])), none⟩])
 (.seq (.reg [⟨some 7, .fad 0 (.t 3), none⟩,
 ⟨some 8, .load 1 false (.t 7), none⟩,
 ⟨some 9, .mov (.t 1), none⟩,
 ⟨some 10, .mov (.t 2), none⟩,
 ⟨some 11, .mks true 1 16 false [(.str []), (.str []), (.str [])] 3 [(0, (.k (.str [104, 97, 115, 104]))), (1, (.t 9)), (2, (.t 10))], none⟩,
 ⟨some 12, .call (.k (.fn (.func 52) [] [])) [(.t 8), (.t 11)], none⟩,
 ⟨some 6, .mov (.t 12), none⟩])
 .ret))⟩

/-- 106: (signetring/prims.symbol).Keys -/
def F106 : Fun :=
 ⟨40, 4, [.t 8],
 (.seq (.reg [⟨some 4, .box none (.t 0), none⟩,
 ⟨some 8, .mov (.k .nsl), none⟩])
 (.seq (.seq (.reg [⟨some 12, .mov (.t 3), none⟩,
 ⟨some 13, .bin .lss .num (.t 12) (.k (.int .i64 1)), none⟩,
 ⟨some 14, .mov (.t 13), none⟩,
 ⟨some 15, .mov (.t 3), some (14, false)⟩,
 ⟨some 16, .bin .gtr .num (.t 15) (.k (.int .i64 3)), some (14, false)⟩,
 ⟨some 17, .pick (.t 14) (.k (.bool true)) (.t 16), none⟩])
 (.cond (.t 17)
 (.seq (.reg [⟨some 8, .mov (.k .nsl), none⟩])
 .ret)
 .skip))
 (.seq (.reg [⟨some 9, .mov (.k .nsl), none⟩])
 (.seq (.seq (.reg [⟨some 18, .mov (.t 3), none⟩,
 ⟨some 19, .mov (.k (.int .i64 0)), none⟩])
 (.block 0
 (.loop
 (.seq (.reg [⟨some 20, .bin .lss .num (.t 19) (.t 18), none⟩])
 (.seq (.cond (.t 20)
 .skip
 (.exit 0))
 (.seq (.block 1
 (.seq (.reg [⟨some 21, .mov (.t 19), none⟩,
 ⟨some 10, .mov (.t 21), none⟩])
 (.seq (.dreg [⟨some 22, .fad 0 (.t 4), none⟩,
 ⟨some 23, .load 1 false (.t 22), none⟩,
 ⟨some 24, .mov (.t 10), none⟩,
 ⟨some 25, .bin .add .num (.t 24) (.k (.int .i64 1)), none⟩,
 ⟨some 26, .cvi .u64 (.t 25), none⟩,
 ⟨some 27, .call (.k (.fn (.func 57) [] [])) [(.t 26)], none⟩,
 ⟨some 28, .mov (.t 1), none⟩,
 ⟨some 29, .mov (.t 2), none⟩,
 ⟨some 30, .mks true 1 16 false [(.str []), (.str []), (.str []), (.str [])] 4 [(0, (.k (.str [107, 101, 121]))), (1, (.t 27)), (2, (.t 28)), (3, (.t 29))], none⟩,
 ⟨some 31, .call (.k (.fn (.func 52) [] [])) [(.t 23), (.t 30)], none⟩,
 ⟨some 11, .mov (.t 31), none⟩] (.lin [] [(0, none), (1, none), (2, none), (3, none), (4, none), (6, none), (7, none), (5, some [0, 1, 6, 7]), (8, none), (9, some []), (10, none)]))
 (.seq (.seq (.reg [⟨some 32, .mov (.t 11), none⟩,
 ⟨some 33, .bin .eql .str (.t 32) (.k (.str [])), none⟩])
 (.cond (.t 33)
 (.seq (.reg [⟨some 8, .mov (.k .nsl), none⟩])
 .ret)
 .skip))
 (.reg [⟨some 34, .mov (.t 9), none⟩,
 ⟨some 35, .mov (.t 11), none⟩,
 ⟨some 36, .mks true 1 16 false [(.str [])] 1 [(0, (.t 35))], none⟩,
 ⟨some 37, .app 1 16 false none (.t 34) (.t 36), none⟩,
 ⟨some 9, .mov (.t 37), none⟩])))))
 (.reg [⟨some 38, .bin .add .num (.t 19) (.k (.int .i64 1)), none⟩,
 ⟨some 19, .mov (.t 38), none⟩])))))))
 (.seq (.reg [⟨some 39, .mov (.t 9), none⟩,
 ⟨some 8, .mov (.t 39), none⟩])
 .ret)))))⟩

/-- 107: (signetring/prims.symbol).Open -/
def F107 : Fun :=
 ⟨54, 5, [.t 10, .t 11],
 (.seq (.reg [⟨some 5, .box none (.t 0), none⟩,
 ⟨some 10, .mov (.k (.str [])), none⟩,
 ⟨some 11, .mov (.k (.int .i64 0)), none⟩])
 (.seq (.reg [⟨some 16, .fad 0 (.t 5), none⟩,
 ⟨some 17, .load 1 false (.t 16), none⟩,
 ⟨some 18, .mov (.t 4), none⟩,
 ⟨some 19, .call (.k (.fn (.func 108) [] [])) [(.t 17), (.t 18)], none⟩,
 ⟨some 15, .mov (.t 19), none⟩,
 ⟨some 20, .ext (.t 15) 0, none⟩,
 ⟨some 21, .ext (.t 15) 1, none⟩,
 ⟨some 22, .ext (.t 15) 2, none⟩,
 ⟨some 12, .mov (.t 20), none⟩,
 ⟨some 13, .mov (.t 21), none⟩,
 ⟨some 14, .mov (.t 22), none⟩])
 (.seq (.seq (.dreg [⟨some 23, .mov (.t 14), none⟩,
 ⟨some 24, .un .not (.t 23), none⟩,
 ⟨some 25, .mov (.t 24), none⟩,
 ⟨some 26, .mov (.t 12), some (25, false)⟩,
 ⟨some 27, .bin .neq .num (.t 26) (.k (.int .u8 5)), some (25, false)⟩,
 ⟨some 28, .pick (.t 25) (.k (.bool true)) (.t 27), none⟩,
 ⟨some 29, .mov (.t 28), none⟩,
 ⟨some 30, .mov (.t 13), some (29, false)⟩,
 ⟨some 31, .iad 1 (.t 30) (.k (.int .i64 0)), some (29, false)⟩,
 ⟨some 32, .load 1 false (.t 31), some (29, false)⟩,
 ⟨some 33, .mov (.t 1), some (29, false)⟩,
 ⟨some 34, .bin .neq .str (.t 32) (.t 33), some (29, false)⟩,
 ⟨some 35, .pick (.t 29) (.k (.bool true)) (.t 34), none⟩,
 ⟨some 36, .mov (.t 35), none⟩,
 ⟨some 37, .mov (.t 13), some (36, false)⟩,
 ⟨some 38, .iad 1 (.t 37) (.k (.int .i64 1)), some (36, false)⟩,
 ⟨some 39, .load 1 false (.t 38), some (36, false)⟩,
 ⟨some 40, .mov (.t 2), some (36, false)⟩,
 ⟨some 41, .call (.k (.fn (.func 57) [] [])) [(.t 40)], some (36, false)⟩,
 ⟨some 42, .bin .neq .str (.t 39) (.t 41), some (36, false)⟩,
 ⟨some 43, .pick (.t 36) (.k (.bool true)) (.t 42), none⟩,
 ⟨some 44, .mov (.t 43), none⟩,
 ⟨some 45, .mov (.t 13), some (44, false)⟩,
 ⟨some 46, .iad 1 (.t 45) (.k (.int .i64 2)), some (44, false)⟩,
 ⟨some 47, .load 1 false (.t 46), some (44, false)⟩,
 ⟨some 48, .mov (.t 3), some (44, false)⟩,
 ⟨some 49, .bin .neq .str (.t 47) (.t 48), some (44, false)⟩,
 ⟨some 50, .pick (.t 44) (.k (.bool true)) (.t 49), none⟩] (.lin [] [(0, none), (1, none), (2, none), (3, none), (4, none), (5, none), (6, none), (7, none), (8, none), (9, none), (10, none), (11, none), (12, none), (13, none), (14, none), (15, none), (16, none), (17, none), (18, some [14, 15, 16]), (19, none), (20, none), (21, none), (22, none), (23, none), (24, none), (25, none), (26, none), (27, none)]))
 (.cond (.t 50)
 (.seq (.reg [⟨some 10, .mov (.k (.str [])), none⟩,
 ⟨some 11, .mov (.k (.int .i64 5)), none⟩])
 .ret)
 .skip))
 (.seq (.reg [⟨some 51, .mov (.t 13), none⟩,
 ⟨some 52, .iad 1 (.t 51) (.k (.int .i64 3)), none⟩,
 ⟨some 53, .load 1 false (.t 52), none⟩,
 ⟨some 10, .mov (.t 53), none⟩,
 ⟨some 11, .mov (.k (.int .i64 0)), none⟩])
 .ret))))⟩

/-- 108: (*signetring/term.Table).Parts -/
def F108 : Fun :=
 ⟨34, 2, [.t 4, .t 5, .t 6],
 (.seq (.reg [⟨some 4, .mov (.k (.int .u8 0)), none⟩,
 ⟨some 5, .mov (.k .nsl), none⟩,
 ⟨some 6, .mov (.k (.bool false)), none⟩])
 (.seq (.seq (.reg [⟨some 12, .mov (.t 0), none⟩,
 ⟨some 13, .call (.k (.fn (.func 55) [] [])) [(.t 12)], none⟩,
 ⟨some 14, .un .not (.t 13), none⟩])
 (.cond (.t 14)
 (.seq (.reg [⟨some 4, .mov (.k (.int .u8 0)), none⟩,
 ⟨some 5, .mov (.k .nsl), none⟩,
 ⟨some 6, .mov (.k (.bool false)), none⟩])
 .ret)
 .skip))
 (.seq (.reg [⟨some 16, .mov (.t 0), none⟩,
 ⟨some 17, .nilck (.t 16), none⟩,
 ⟨some 18, .fad 1 (.t 17), none⟩,
 ⟨some 19, .load 1 false (.t 18), none⟩,
 ⟨some 20, .mov (.t 1), none⟩,
 ⟨some 21, .look .str (.str []) (.t 19) (.t 20) true, none⟩,
 ⟨some 15, .mov (.t 21), none⟩,
 ⟨some 22, .ext (.t 15) 0, none⟩,
 ⟨some 23, .ext (.t 15) 1, none⟩,
 ⟨some 7, .mov (.t 22), none⟩,
 ⟨some 8, .mov (.t 23), none⟩])
 (.seq (.seq (.reg [⟨some 24, .mov (.t 8), none⟩,
 ⟨some 25, .un .not (.t 24), none⟩])
 (.cond (.t 25)
 (.seq (.reg [⟨some 4, .mov (.k (.int .u8 0)), none⟩,
 ⟨some 5, .mov (.k .nsl), none⟩,
 ⟨some 6, .mov (.k (.bool false)), none⟩])
 .ret)
 .skip))
 (.seq (.reg [⟨some 27, .mov (.t 7), none⟩,
 ⟨some 28, .call (.k (.fn (.func 109) [] [])) [(.t 27)], none⟩,
 ⟨some 26, .mov (.t 28), none⟩,
 ⟨some 29, .ext (.t 26) 0, none⟩,
 ⟨some 30, .ext (.t 26) 1, none⟩,
 ⟨some 31, .ext (.t 26) 2, none⟩,
 ⟨some 9, .mov (.t 29), none⟩,
 ⟨some 10, .mov (.t 30), none⟩,
 ⟨some 11, .mov (.t 31), none⟩])
 (.seq (.reg [⟨some 32, .mov (.t 9), none⟩,
 ⟨some 33, .mov (.t 10), none⟩,
 ⟨some 4, .mov (.t 32), none⟩,
 ⟨some 5, .mov (.t 33), none⟩,
 ⟨some 6, .mov (.k (.bool true)), none⟩])
 .ret))))))⟩

/-- 109: signetring/codec.Split -/
def F109 : Fun :=
 ⟨19, 1, [.t 2, .t 3, .t 4],
 (.seq (.reg [⟨some 2, .mov (.k (.int .u8 0)), none⟩,
 ⟨some 3, .mov (.k .nsl), none⟩,
 ⟨some 4, .mov (.k (.int .i64 0)), none⟩])
 (.seq (.reg [⟨some 9, .mov (.t 0), none⟩,
 ⟨some 10, .call (.k (.fn (.func 110) [] [])) [(.t 9)], none⟩,
 ⟨some 8, .mov (.t 10), none⟩,
 ⟨some 11, .ext (.t 8) 0, none⟩,
 ⟨some 12, .ext (.t 8) 1, none⟩,
 ⟨some 13, .ext (.t 8) 2, none⟩,
 ⟨some 5, .mov (.t 11), none⟩,
 ⟨some 6, .mov (.t 12), none⟩,
 ⟨some 7, .mov (.t 13), none⟩])
 (.seq (.seq (.reg [⟨some 14, .mov (.t 7), none⟩,
 ⟨some 15, .bin .neq .num (.t 14) (.k (.int .i64 0)), none⟩])
 (.cond (.t 15)
 (.seq (.reg [⟨some 16, .mov (.t 7), none⟩,
 ⟨some 2, .mov (.k (.int .u8 0)), none⟩,
 ⟨some 3, .mov (.k .nsl), none⟩,
 ⟨some 4, .mov (.t 16), none⟩])
 .ret)
 .skip))
 (.seq (.reg [⟨some 17, .mov (.t 5), none⟩,
 ⟨some 18, .mov (.t 6), none⟩,
 ⟨some 2, .mov (.t 17), none⟩,
 ⟨some 3, .mov (.t 18), none⟩,
 ⟨some 4, .mov (.k (.int .i64 0)), none⟩])
 .ret))))⟩

/-- 110: signetring/codec.read -/
def F110 : Fun :=
 ⟨50, 1, [.t 2, .t 3, .c 4 1 false],
 (.seq (.reg [⟨some 2, .mov (.k (.int .u8 0)), none⟩,
 ⟨some 3, .mov (.k .nsl), none⟩,
 ⟨some 4, .new [.int .i64 0] none, none⟩])
 (.seq (.reg [⟨none, .dfr (.k (.fn (.func 111) [] [])) [(.t 4)], none⟩])
 (.seq (.reg [⟨some 7, .mov (.t 0), none⟩,
 ⟨some 8, .len .str (.t 7), none⟩,
 ⟨some 9, .bin .leq .num (.t 8) (.k (.int .i64 30000)), none⟩,
 ⟨some 10, .call (.k (.fn (.func 112) [] [])) [(.t 9)], none⟩])
 (.seq (.reg [⟨some 11, .mov (.t 0), none⟩,
 ⟨some 12, .build [(.str [])] [(0, 1, (.t 11))], none⟩,
 ⟨some 13, .box none (.t 12), none⟩,
 ⟨some 5, .mov (.t 13), none⟩])
 (.seq (.reg [⟨some 14, .mov (.t 5), none⟩,
 ⟨some 15, .call (.k (.fn (.func 113) [] [])) [(.t 14)], none⟩,
 ⟨some 16, .bin .eql .num (.t 15) (.k (.int .i64 1)), none⟩,
 ⟨some 17, .call (.k (.fn (.func 112) [] [])) [(.t 16)], none⟩])
 (.seq (.reg [⟨some 18, .mov (.t 5), none⟩,
 ⟨some 19, .call (.k (.fn (.func 113) [] [])) [(.t 18)], none⟩,
 ⟨some 20, .cvi .u8 (.t 19), none⟩,
 ⟨some 2, .mov (.t 20), none⟩])
 (.seq (.seq (.reg [⟨some 21, .mov (.t 5), none⟩,
 ⟨some 22, .call (.k (.fn (.func 113) [] [])) [(.t 21)], none⟩,
 ⟨some 23, .mov (.k (.int .i64 0)), none⟩])
 (.block 0
 (.loop
 (.seq (.reg [⟨some 24, .bin .lss .num (.t 23) (.t 22), none⟩])
 (.seq (.cond (.t 24)
 .skip
 (.exit 0))
 (.seq (.block 1
 (.seq (.reg [⟨some 25, .mov (.t 5), none⟩,
 ⟨some 26, .call (.k (.fn (.func 113) [] [])) [(.t 25)], none⟩,
 ⟨some 27, .bin .shl .num (.t 26) (.k (.int .u64 8)), none⟩,
 ⟨some 6, .mov (.t 27), none⟩])
 (.seq (.reg [⟨some 28, .mov (.t 6), none⟩,
 ⟨some 29, .mov (.t 5), none⟩,
 ⟨some 30, .call (.k (.fn (.func 113) [] [])) [(.t 29)], none⟩,
 ⟨some 31, .bin .add .num (.t 28) (.t 30), none⟩,
 ⟨some 6, .mov (.t 31), none⟩])
 (.seq (.reg [⟨some 32, .mov (.t 6), none⟩,
 ⟨some 33, .bin .leq .num (.t 32) (.k (.int .i64 4000)), none⟩,
 ⟨some 34, .call (.k (.fn (.func 112) [] [])) [(.t 33)], none⟩])
 (.reg [⟨some 35, .mov (.t 3), none⟩,
 ⟨some 36, .mov (.t 5), none⟩,
 ⟨some 37, .mov (.t 6), none⟩,
 ⟨some 38, .call (.k (.fn (.func 114) [] [])) [(.t 36), (.t 37)], none⟩,
 ⟨some 39, .mks true 1 16 false [(.str [])] 1 [(0, (.t 38))], none⟩,
 ⟨some 40, .app 1 16 false none (.t 35) (.t 39), none⟩,
 ⟨some 3, .mov (.t 40), none⟩])))))
 (.reg [⟨some 41, .bin .add .num (.t 23) (.k (.int .i64 1)), none⟩,
 ⟨some 23, .mov (.t 41), none⟩])))))))
 (.seq (.reg [⟨some 42, .mov (.t 5), none⟩,
 ⟨some 43, .nilck (.t 42), none⟩,
 ⟨some 44, .fad 0 (.t 43), none⟩,
 ⟨some 45, .load 1 false (.t 44), none⟩,
 ⟨some 46, .bin .eql .str (.t 45) (.k (.str [])), none⟩,
 ⟨some 47, .call (.k (.fn (.func 112) [] [])) [(.t 46)], none⟩])
 (.seq (.reg [⟨some 48, .mov (.t 2), none⟩,
 ⟨some 49, .mov (.t 3), none⟩,
 ⟨some 2, .mov (.t 48), none⟩,
 ⟨some 3, .mov (.t 49), none⟩,
 ⟨none, .store 1 (.t 4) (.k (.int .i64 0)), none⟩])
 .ret)))))))))⟩

/-- 111: signetring/codec.caught -/
def F111 : Fun :=
 ⟨14, 1, [],
 (.seq (.reg [⟨(some 5), .recov, none⟩])
 (.block 0
 (.seq (.reg [⟨some 7, .bin .eql .ifc (.t 5) (.k .nifc), none⟩])
 (.cond (.t 7)
 (.reg [⟨some 2, .mov (.t 5), none⟩])
 (.seq (.reg [⟨some 8, .asrt 43 (.int .i64 0) (.t 5) true, none⟩,
 ⟨some 9, .ext (.t 8) 1, none⟩,
 ⟨some 10, .ext (.t 8) 0, none⟩])
 (.cond (.t 9)
 (.seq (.reg [⟨some 3, .mov (.t 10), none⟩])
 (.reg [⟨some 11, .mov (.t 0), none⟩,
 ⟨some 12, .mov (.t 3), none⟩,
 ⟨some 13, .nilck (.t 11), none⟩,
 ⟨none, .store 1 (.t 13) (.t 12), none⟩]))
 (.seq (.reg [⟨some 4, .mov (.t 5), none⟩])
 (.reg [⟨some 6, .mov (.t 4), none⟩,
 ⟨none, .pan (.t 6), none⟩]))))))))⟩

/-- 112: signetring/codec.need -/
def F112 : Fun :=
 ⟨5, 1, [],
 (.seq (.reg [⟨some 2, .mov (.t 0), none⟩,
 ⟨some 3, .un .not (.t 2), none⟩])
 (.cond (.t 3)
 (.reg [⟨some 4, .mki 43 (.k (.int .i64 4)), none⟩,
 ⟨none, .pan (.t 4), none⟩])
 .skip))⟩

/-- 113: (*signetring/codec.reader).byte -/
def F113 : Fun :=
 ⟨7, 1, [.t 2],
 (.seq (.reg [⟨some 2, .mov (.k (.int .i64 0)), none⟩])
 (.seq (.reg [⟨some 3, .mov (.t 0), none⟩,
 ⟨some 4, .call (.k (.fn (.func 114) [] [])) [(.t 3), (.k (.int .i64 1))], none⟩,
 ⟨some 5, .idxs (.t 4) (.k (.int .i64 0)), none⟩,
 ⟨some 6, .cvi .i64 (.t 5), none⟩,
 ⟨some 2, .mov (.t 6), none⟩])
 .ret))⟩

/-- 114: (*signetring/codec.reader).take -/
def F114 : Fun :=
 ⟨30, 2, [.t 4],
 (.seq (.reg [⟨some 4, .mov (.k (.str [])), none⟩])
 (.seq (.reg [⟨some 6, .mov (.t 1), none⟩,
 ⟨some 7, .mov (.t 0), none⟩,
 ⟨some 8, .nilck (.t 7), none⟩,
 ⟨some 9, .fad 0 (.t 8), none⟩,
 ⟨some 10, .load 1 false (.t 9), none⟩,
 ⟨some 11, .len .str (.t 10), none⟩,
 ⟨some 12, .bin .leq .num (.t 6) (.t 11), none⟩,
 ⟨some 13, .call (.k (.fn (.func 112) [] [])) [(.t 12)], none⟩])
 (.seq (.reg [⟨some 5, .mov (.k (.str [])), none⟩])
 (.seq (.dreg [⟨some 14, .mov (.t 0), none⟩,
 ⟨some 15, .mov (.t 0), none⟩,
 ⟨some 16, .nilck (.t 15), none⟩,
 ⟨some 17, .fad 0 (.t 16), none⟩,
 ⟨some 18, .load 1 false (.t 17), none⟩,
 ⟨some 19, .mov (.t 1), none⟩,
 ⟨some 20, .slc true 0 (.t 18) none (some (.t 19)) none, none⟩,
 ⟨some 21, .mov (.t 0), none⟩,
 ⟨some 22, .nilck (.t 21), none⟩,
 ⟨some 23, .fad 0 (.t 22), none⟩,
 ⟨some 24, .load 1 false (.t 23), none⟩,
 ⟨some 25, .mov (.t 1), none⟩,
 ⟨some 26, .slc true 0 (.t 24) (some (.t 25)) none none, none⟩,
 ⟨some 5, .mov (.t 20), none⟩,
 ⟨some 27, .nilck (.t 14), none⟩,
 ⟨some 28, .fad 0 (.t 27), none⟩,
 ⟨none, .store 1 (.t 28) (.t 26), none⟩] (.free 0 (.free 1 (.free 2 (.free 3 (.free 4 (.free 5 (.free 6 (.free 7 (.free 8 (.free 9 (.free 10 (.free 11 (.free 12 (.free 13 (.free 14 (.free 15 (.cho 16 .done .nope))))))))))))))))))
 (.seq (.reg [⟨some 29, .mov (.t 5), none⟩,
 ⟨some 4, .mov (.t 29), none⟩])
 .ret)))))⟩

theorem ck87 : ckF Tryd.prog 87 F87 = true := by kernel_rfl
theorem ck89 : ckF Tryd.prog 89 F89 = true := by kernel_rfl
theorem ck90 : ckF Tryd.prog 90 F90 = true := by kernel_rfl
theorem ck95 : ckF Tryd.prog 95 F95 = true := by kernel_rfl
theorem ck98 : ckF Tryd.prog 98 F98 = true := by kernel_rfl
theorem ck100 : ckF Tryd.prog 100 F100 = true := by kernel_rfl
theorem ck101 : ckF Tryd.prog 101 F101 = true := by kernel_rfl
theorem ck102 : ckF Tryd.prog 102 F102 = true := by kernel_rfl
theorem ck103 : ckF Tryd.prog 103 F103 = true := by kernel_rfl
theorem ck104 : ckF Tryd.prog 104 F104 = true := by kernel_rfl
theorem ck105 : ckF Tryd.prog 105 F105 = true := by kernel_rfl
theorem ck106 : ckF Tryd.prog 106 F106 = true := by kernel_rfl
theorem ck107 : ckF Tryd.prog 107 F107 = true := by kernel_rfl
theorem ck108 : ckF Tryd.prog 108 F108 = true := by kernel_rfl
theorem ck109 : ckF Tryd.prog 109 F109 = true := by kernel_rfl
theorem ck110 : ckF Tryd.prog 110 F110 = true := by kernel_rfl
theorem ck111 : ckFS Tryd.prog 111 F111 = true := by kernel_rfl
theorem ck112 : ckF Tryd.prog 112 F112 = true := by kernel_rfl
theorem ck113 : ckF Tryd.prog 113 F113 = true := by kernel_rfl
theorem ck114 : ckF Tryd.prog 114 F114 = true := by kernel_rfl
theorem st87 : K.stC F87.c = true := by kernel_rfl
theorem st89 : K.stC F89.c = true := by kernel_rfl
theorem st90 : K.stC F90.c = true := by kernel_rfl
theorem st95 : K.stC F95.c = true := by kernel_rfl
theorem st98 : K.stC F98.c = true := by kernel_rfl
theorem st100 : K.stC F100.c = true := by kernel_rfl
theorem st101 : K.stC F101.c = true := by kernel_rfl
theorem st102 : K.stC F102.c = true := by kernel_rfl
theorem st103 : K.stC F103.c = true := by kernel_rfl
theorem st104 : K.stC F104.c = true := by kernel_rfl
theorem st105 : K.stC F105.c = true := by kernel_rfl
theorem st106 : K.stC F106.c = true := by kernel_rfl
theorem st107 : K.stC F107.c = true := by kernel_rfl
theorem st108 : K.stC F108.c = true := by kernel_rfl
theorem st109 : K.stC F109.c = true := by kernel_rfl
theorem st110 : K.stC F110.c = true := by kernel_rfl
theorem st111 : K.stC F111.c = true := by kernel_rfl
theorem st112 : K.stC F112.c = true := by kernel_rfl
theorem st113 : K.stC F113.c = true := by kernel_rfl
end Go.Proofs.YtfinnljkcgglfaaDoor
