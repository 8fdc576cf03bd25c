/- The code of the functions, as it is told, and that it is told rightly (1). -/
import Derived.Test.YtfinnljkcgglfaaDoorProg
import Derived.Test.YtfinnljkcgglfaaDoorZv6
import Derived.KernelRfl
namespace Go.Proofs.YtfinnljkcgglfaaDoor
open Go.Vs
set_option maxRecDepth 100000

/-- 6: signetring/signetringlaw11.alive -/
def F6 : Fun :=
 ⟨61, 0, [.t 0],
 (.seq (.reg [⟨some 0, .mov (.k (.bool false)), none⟩])
 (.seq (.reg [⟨some 4, .call (.k (.fn (.func 7) [] [])) [], none⟩,
 ⟨some 5, .call (.k (.fn (.func 9) [] [])) [], none⟩,
 ⟨some 6, .call (.k (.fn (.func 8) [] [])) [(.t 5)], none⟩,
 ⟨some 1, .mov (.t 4), none⟩,
 ⟨some 2, .mov (.t 6), none⟩])
 (.seq (.seq (.reg [⟨some 7, .mov (.t 1), none⟩,
 ⟨some 8, .bin .eql .ifc (.t 7) (.k .nifc), none⟩,
 ⟨some 9, .mov (.t 8), none⟩,
 ⟨some 10, .mov (.t 2), some (9, false)⟩,
 ⟨some 11, .bin .eql .ifc (.t 10) (.k .nifc), some (9, false)⟩,
 ⟨some 12, .pick (.t 9) (.k (.bool true)) (.t 11), none⟩,
 ⟨some 13, .mov (.t 12), none⟩,
 ⟨some 14, .call (.k (.fn (.func 8) [] [])) [(.k .nptr)], some (13, false)⟩,
 ⟨some 15, .bin .neq .ifc (.t 14) (.k .nifc), some (13, false)⟩,
 ⟨some 16, .pick (.t 13) (.k (.bool true)) (.t 15), none⟩])
 (.cond (.t 16)
 (.seq (.reg [⟨some 0, .mov (.k (.bool false)), none⟩])
 .ret)
 .skip))
 (.seq (.reg [⟨some 17, .j (.mkt 1 [.int .u8 0, .int .u8 0, .int .u8 0] 3 [(0, (.k (.int .u8 97))), (1, (.k (.int .u8 98))), (2, (.k (.int .u8 99)))] 5), none⟩,
 ⟨some 18, .j (.cvb 5 (.t 17)), none⟩,
 ⟨some 19, .call (.k (.fn (.func 14) [] [])) [(.t 18)], none⟩,
 ⟨some 3, .new [.int .u8 0, .int .u8 0, .int .u8 0, .int .u8 0, .int .u8 0, .int .u8 0, .int .u8 0, .int .u8 0, .int .u8 0, .int .u8 0, .int .u8 0, .int .u8 0, .int .u8 0, .int .u8 0, .int .u8 0, .int .u8 0, .int .u8 0, .int .u8 0, .int .u8 0, .int .u8 0, .int .u8 0, .int .u8 0, .int .u8 0, .int .u8 0, .int .u8 0, .int .u8 0, .int .u8 0, .int .u8 0, .int .u8 0, .int .u8 0, .int .u8 0, .int .u8 0] none, none⟩,
 ⟨none, .store 32 (.t 3) (.t 19), none⟩])
 (.seq (.dreg [⟨some 20, .mov (.t 1), none⟩,
 ⟨some 21, .inv (.t 20) "Hash" [(.k (.str [97])), (.k (.str [98, 99]))], none⟩,
 ⟨some 22, .slca 32 1 false (.t 3) none none none, none⟩,
 ⟨some 23, .b2s (.t 22), none⟩,
 ⟨some 24, .bin .eql .str (.t 21) (.t 23), none⟩,
 ⟨some 25, .mov (.t 24), none⟩,
 ⟨some 26, .mov (.t 1), some (25, true)⟩,
 ⟨some 27, .inv (.t 26) "Hash" [(.k (.str [97, 98])), (.k (.str [99]))], some (25, true)⟩,
 ⟨some 28, .slca 32 1 false (.t 3) none none none, some (25, true)⟩,
 ⟨some 29, .b2s (.t 28), some (25, true)⟩,
 ⟨some 30, .bin .eql .str (.t 27) (.t 29), some (25, true)⟩,
 ⟨some 31, .pick (.t 25) (.t 30) (.k (.bool false)), none⟩,
 ⟨some 32, .mov (.t 31), none⟩,
 ⟨some 33, .mov (.t 2), some (32, true)⟩,
 ⟨some 34, .inv (.t 33) "Hash" [(.k (.str [97])), (.k (.str [98, 99]))], some (32, true)⟩,
 ⟨some 35, .mov (.t 2), some (32, true)⟩,
 ⟨some 36, .inv (.t 35) "Hash" [(.k (.str [97, 98])), (.k (.str [99]))], some (32, true)⟩,
 ⟨some 37, .bin .neq .str (.t 34) (.t 36), some (32, true)⟩,
 ⟨some 38, .pick (.t 32) (.t 37) (.k (.bool false)), none⟩,
 ⟨some 39, .mov (.t 38), none⟩,
 ⟨some 40, .mov (.t 2), some (39, true)⟩,
 ⟨some 41, .inv (.t 40) "Hash" [(.k (.str [97])), (.k (.str [98, 99]))], some (39, true)⟩,
 ⟨some 42, .len .str (.t 41), some (39, true)⟩,
 ⟨some 43, .bin .eql .num (.t 42) (.k (.int .i64 32)), some (39, true)⟩,
 ⟨some 44, .pick (.t 39) (.t 43) (.k (.bool false)), none⟩,
 ⟨some 45, .mov (.t 44), none⟩,
 ⟨some 46, .mov (.t 1), some (45, true)⟩,
 ⟨some 47, .slca 32 1 false (.t 3) none none none, some (45, true)⟩,
 ⟨some 48, .b2s (.t 47), some (45, true)⟩,
 ⟨some 49, .mkf (.method "Keys") [(.t 46)] [], some (45, true)⟩,
 ⟨some 50, .nilck (.t 49), some (45, true)⟩,
 ⟨some 51, .mov (.t 46), some (45, true)⟩,
 ⟨some 52, .inv (.t 51) "Keys" [(.t 48), (.k (.str [])), (.k (.int .i64 2))], some (45, true)⟩,
 ⟨some 53, .len .slc (.t 52), some (45, true)⟩,
 ⟨some 54, .bin .eql .num (.t 53) (.k (.int .i64 2)), some (45, true)⟩,
 ⟨some 55, .pick (.t 45) (.t 54) (.k (.bool false)), none⟩,
 ⟨some 56, .mov (.t 55), none⟩,
 ⟨some 57, .mov (.t 1), some (56, true)⟩,
 ⟨some 58, .inv (.t 57) "Pub" [(.k (.str [115, 104, 111, 114, 116]))], some (56, true)⟩,
 ⟨some 59, .bin .eql .str (.t 58) (.k (.str [])), some (56, true)⟩,
 ⟨some 60, .pick (.t 56) (.t 59) (.k (.bool false)), none⟩,
 ⟨some 0, .mov (.t 60), none⟩] (.lin [] [(0, none), (2, none), (3, none), (1, some [2, 3]), (4, none), (5, none), (6, none), (8, none), (9, none), (7, some [8, 9]), (10, none), (11, none), (12, none), (13, none), (15, none), (14, some [15]), (16, some []), (17, none), (18, none), (19, none), (20, none), (21, some []), (22, none), (23, none), (24, none), (25, none), (26, none), (27, none), (28, none), (29, none), (30, none), (31, none), (32, some []), (33, none), (34, none), (35, none), (36, none), (37, none), (38, some []), (39, none), (40, none), (41, none)]))
 .ret)))))⟩

/-- 7: signetring/prims.Real -/
def F7 : Fun :=
 ⟨3, 0, [.t 0],
 (.seq (.reg [⟨some 0, .mov (.k .nifc), none⟩])
 (.seq (.reg [⟨some 1, .build [] [], none⟩,
 ⟨some 2, .mki 52 (.t 1), none⟩,
 ⟨some 0, .mov (.t 2), none⟩])
 .ret))⟩

/-- 8: signetring/prims.Symbol -/
def F8 : Fun :=
 ⟨8, 1, [.t 2],
 (.seq (.reg [⟨some 2, .mov (.k .nifc), none⟩])
 (.seq (.seq (.reg [⟨some 3, .mov (.t 0), none⟩,
 ⟨some 4, .bin .eql .ptr (.t 3) (.k .nptr), none⟩])
 (.cond (.t 4)
 (.seq (.reg [⟨some 2, .mov (.k .nifc), none⟩])
 .ret)
 .skip))
 (.seq (.reg [⟨some 5, .mov (.t 0), none⟩,
 ⟨some 6, .build [.nptr] [(0, 1, (.t 5))], none⟩,
 ⟨some 7, .mki 54 (.t 6), none⟩,
 ⟨some 2, .mov (.t 7), none⟩])
 .ret)))⟩

/-- 9: signetring/term.New -/
def F9 : Fun :=
 ⟨5, 0, [.t 0],
 (.seq (.reg [⟨some 0, .mov (.k .nptr), none⟩])
 (.seq (.reg [⟨(some 1), .mkm, none⟩,
 ⟨(some 2), .mkm, none⟩,
 ⟨some 3, .build [.nmap, .nmap, .nsl] [(0, 1, (.t 1)), (1, 1, (.t 2))], none⟩,
 ⟨some 4, .box none (.t 3), none⟩,
 ⟨some 0, .mov (.t 4), none⟩])
 .ret))⟩

/-- 10: signetring/signetringlaw11.few -/
def F10 : Fun :=
 ⟨25, 1, [.t 2],
 (.seq (.reg [⟨some 1, .box none (.t 0), none⟩,
 ⟨some 2, .mov (.k (.bool false)), none⟩])
 (.seq (.reg [⟨some 3, .fad 0 (.t 1), none⟩,
 ⟨some 4, .load 1 false (.t 3), none⟩,
 ⟨some 5, .len .str (.t 4), none⟩,
 ⟨some 6, .bin .leq .num (.t 5) (.k (.int .i64 1000)), none⟩,
 ⟨some 7, .mov (.t 6), none⟩,
 ⟨some 8, .fad 1 (.t 1), some (7, true)⟩,
 ⟨some 9, .load 1 false (.t 8), some (7, true)⟩,
 ⟨some 10, .len .str (.t 9), some (7, true)⟩,
 ⟨some 11, .bin .leq .num (.t 10) (.k (.int .i64 1000)), some (7, true)⟩,
 ⟨some 12, .pick (.t 7) (.t 11) (.k (.bool false)), none⟩,
 ⟨some 13, .mov (.t 12), none⟩,
 ⟨some 14, .fad 3 (.t 1), some (13, true)⟩,
 ⟨some 15, .load 1 false (.t 14), some (13, true)⟩,
 ⟨some 16, .len .str (.t 15), some (13, true)⟩,
 ⟨some 17, .bin .leq .num (.t 16) (.k (.int .i64 1000)), some (13, true)⟩,
 ⟨some 18, .pick (.t 13) (.t 17) (.k (.bool false)), none⟩,
 ⟨some 19, .mov (.t 18), none⟩,
 ⟨some 20, .fad 4 (.t 1), some (19, true)⟩,
 ⟨some 21, .load 1 false (.t 20), some (19, true)⟩,
 ⟨some 22, .len .str (.t 21), some (19, true)⟩,
 ⟨some 23, .bin .leq .num (.t 22) (.k (.int .i64 1000)), some (19, true)⟩,
 ⟨some 24, .pick (.t 19) (.t 23) (.k (.bool false)), none⟩,
 ⟨some 2, .mov (.t 24), none⟩])
 .ret))⟩

/-- 11: signetring/signetringlaw11.key -/
def F11 : Fun :=
 ⟨12, 1, [.c 2 32 true, .t 3],
 (.seq (.reg [⟨some 2, .new [.int .u8 0, .int .u8 0, .int .u8 0, .int .u8 0, .int .u8 0, .int .u8 0, .int .u8 0, .int .u8 0, .int .u8 0, .int .u8 0, .int .u8 0, .int .u8 0, .int .u8 0, .int .u8 0, .int .u8 0, .int .u8 0, .int .u8 0, .int .u8 0, .int .u8 0, .int .u8 0, .int .u8 0, .int .u8 0, .int .u8 0, .int .u8 0, .int .u8 0, .int .u8 0, .int .u8 0, .int .u8 0, .int .u8 0, .int .u8 0, .int .u8 0, .int .u8 0] none, none⟩,
 ⟨some 3, .mov (.k (.bool false)), none⟩])
 (.seq (.reg [⟨some 4, .new [.int .u8 0, .int .u8 0, .int .u8 0, .int .u8 0, .int .u8 0, .int .u8 0, .int .u8 0, .int .u8 0, .int .u8 0, .int .u8 0, .int .u8 0, .int .u8 0, .int .u8 0, .int .u8 0, .int .u8 0, .int .u8 0, .int .u8 0, .int .u8 0, .int .u8 0, .int .u8 0, .int .u8 0, .int .u8 0, .int .u8 0, .int .u8 0, .int .u8 0, .int .u8 0, .int .u8 0, .int .u8 0, .int .u8 0, .int .u8 0, .int .u8 0, .int .u8 0] none, none⟩])
 (.seq (.reg [⟨some 5, .slca 32 1 false (.t 4) none none none, none⟩,
 ⟨some 6, .mov (.t 0), none⟩,
 ⟨some 7, .cpy 1 (.t 5) (.t 6), none⟩])
 (.seq (.reg [⟨some 8, .load 32 true (.t 4), none⟩,
 ⟨some 9, .mov (.t 0), none⟩,
 ⟨some 10, .len .str (.t 9), none⟩,
 ⟨some 11, .bin .eql .num (.t 10) (.k (.int .i64 32)), none⟩,
 ⟨none, .store 32 (.t 2) (.t 8), none⟩,
 ⟨some 3, .mov (.t 11), none⟩])
 .ret))))⟩

/-- 14: signetring/sha.Sum -/
def F14 : Fun :=
 ⟨7, 1, [.c 2 32 true],
 (.seq (.reg [⟨some 2, .new [.int .u8 0, .int .u8 0, .int .u8 0, .int .u8 0, .int .u8 0, .int .u8 0, .int .u8 0, .int .u8 0, .int .u8 0, .int .u8 0, .int .u8 0, .int .u8 0, .int .u8 0, .int .u8 0, .int .u8 0, .int .u8 0, .int .u8 0, .int .u8 0, .int .u8 0, .int .u8 0, .int .u8 0, .int .u8 0, .int .u8 0, .int .u8 0, .int .u8 0, .int .u8 0, .int .u8 0, .int .u8 0, .int .u8 0, .int .u8 0, .int .u8 0, .int .u8 0] none, none⟩])
 (.seq (.reg [⟨some 3, .build [.int .u32 0, .int .u32 0, .int .u32 0, .int .u32 0, .int .u32 0, .int .u32 0, .int .u32 0, .int .u32 0, .nsl, .int .u64 0] [], none⟩,
 ⟨some 4, .mov (.t 0), none⟩,
 ⟨some 5, .call (.k (.fn (.func 19) [] [])) [(.t 3), (.t 4)], none⟩,
 ⟨some 6, .call (.k (.fn (.func 20) [] [])) [(.t 5)], none⟩,
 ⟨none, .store 32 (.t 2) (.t 6), none⟩])
 .ret))⟩

/-- 15: signetring/aead.locked -/
def F15 : Fun :=
 ⟨12, 2, [.c 4 44 true],
 (.seq (.reg [⟨some 2, .box none (.t 0), none⟩,
 ⟨some 4, .new [.int .u8 0, .int .u8 0, .int .u8 0, .int .u8 0, .int .u8 0, .int .u8 0, .int .u8 0, .int .u8 0, .int .u8 0, .int .u8 0, .int .u8 0, .int .u8 0, .int .u8 0, .int .u8 0, .int .u8 0, .int .u8 0, .int .u8 0, .int .u8 0, .int .u8 0, .int .u8 0, .int .u8 0, .int .u8 0, .int .u8 0, .int .u8 0, .int .u8 0, .int .u8 0, .int .u8 0, .int .u8 0, .int .u8 0, .int .u8 0, .int .u8 0, .int .u8 0, .int .u8 0, .int .u8 0, .int .u8 0, .int .u8 0, .int .u8 0, .int .u8 0, .int .u8 0, .int .u8 0, .int .u8 0, .int .u8 0, .int .u8 0, .int .u8 0] none, none⟩])
 (.seq (.dreg [⟨some 5, .load 32 true (.t 2), none⟩,
 ⟨some 6, .mksl 1 1 false [.int .u8 0] (.k (.int .i64 4)) (.k (.int .i64 4)), none⟩,
 ⟨some 7, .mov (.t 1), none⟩,
 ⟨some 8, .call (.k (.fn (.func 21) [] [])) [(.t 6), (.t 7)], none⟩,
 ⟨some 9, .arrp 12 1 (.t 8), none⟩,
 ⟨some 10, .load 12 true (.t 9), none⟩,
 ⟨some 11, .build [.int .u8 0, .int .u8 0, .int .u8 0, .int .u8 0, .int .u8 0, .int .u8 0, .int .u8 0, .int .u8 0, .int .u8 0, .int .u8 0, .int .u8 0, .int .u8 0, .int .u8 0, .int .u8 0, .int .u8 0, .int .u8 0, .int .u8 0, .int .u8 0, .int .u8 0, .int .u8 0, .int .u8 0, .int .u8 0, .int .u8 0, .int .u8 0, .int .u8 0, .int .u8 0, .int .u8 0, .int .u8 0, .int .u8 0, .int .u8 0, .int .u8 0, .int .u8 0, .int .u8 0, .int .u8 0, .int .u8 0, .int .u8 0, .int .u8 0, .int .u8 0, .int .u8 0, .int .u8 0, .int .u8 0, .int .u8 0, .int .u8 0, .int .u8 0] [(0, 32, (.t 5)), (32, 12, (.t 10))], none⟩,
 ⟨none, .store 44 (.t 4) (.t 11), none⟩] (.lin [] [(0, none), (2, none), (1, some [0, 2]), (3, some [0]), (4, none), (5, none), (6, none), (7, some [])]))
 .ret))⟩

/-- 16: signetring/stream.Xor -/
def F16 : Fun :=
 ⟨70, 4, [.t 8, .t 9],
 (.seq (.reg [⟨some 4, .box none (.t 0), none⟩,
 ⟨some 5, .box none (.t 1), none⟩,
 ⟨some 8, .mov (.k .nsl), none⟩,
 ⟨some 9, .mov (.k (.int .i64 0)), none⟩])
 (.seq (.block 0
 (.seq (.reg [⟨some 15, .mov (.t 3), none⟩,
 ⟨some 16, .len .slc (.t 15), none⟩,
 ⟨some 17, .bin .gtr .num (.t 16) (.k (.int .i64 65536)), none⟩,
 ⟨some 14, .mov (.t 17), none⟩])
 (.cond (.t 14)
 (.seq (.reg [⟨some 8, .mov (.k .nsl), none⟩,
 ⟨some 9, .mov (.k (.int .i64 3)), none⟩])
 .ret)
 (.seq (.reg [⟨some 19, .mov (.t 2), none⟩,
 ⟨some 20, .cvi .u64 (.t 19), none⟩,
 ⟨some 21, .mov (.t 3), none⟩,
 ⟨some 22, .len .slc (.t 21), none⟩,
 ⟨some 23, .bin .add .num (.t 22) (.k (.int .i64 64)), none⟩,
 ⟨some 24, .bin .sub .num (.t 23) (.k (.int .i64 1)), none⟩,
 ⟨some 25, .bin .quo .num (.t 24) (.k (.int .i64 64)), none⟩,
 ⟨some 26, .cvi .u64 (.t 25), none⟩,
 ⟨some 27, .bin .add .num (.t 20) (.t 26), none⟩,
 ⟨some 28, .bin .gtr .num (.t 27) (.k (.int .u64 4294967296)), none⟩,
 ⟨some 18, .mov (.t 28), none⟩])
 (.cond (.t 18)
 (.seq (.reg [⟨some 8, .mov (.k .nsl), none⟩,
 ⟨some 9, .mov (.k (.int .i64 12)), none⟩])
 .ret)
 .skip)))))
 (.seq (.reg [⟨some 29, .mov (.t 3), none⟩,
 ⟨some 30, .len .slc (.t 29), none⟩,
 ⟨some 31, .mksl 1 1 false [.int .u8 0] (.t 30) (.t 30), none⟩,
 ⟨some 10, .mov (.t 31), none⟩])
 (.seq (.seq (.reg [⟨some 11, .mov (.k (.int .i64 0)), none⟩])
 (.block 1
 (.loop
 (.seq (.seq (.reg [⟨some 32, .mov (.t 11), none⟩,
 ⟨some 33, .mov (.t 3), none⟩,
 ⟨some 34, .len .slc (.t 33), none⟩,
 ⟨some 35, .bin .lss .num (.t 32) (.t 34), none⟩])
 (.cond (.t 35)
 .skip
 (.exit 1)))
 (.seq (.block 2
 (.seq (.reg [⟨some 38, .load 32 true (.t 4), none⟩,
 ⟨some 39, .load 12 true (.t 5), none⟩,
 ⟨some 40, .mov (.t 2), none⟩,
 ⟨some 41, .mov (.t 11), none⟩,
 ⟨some 42, .bin .quo .num (.t 41) (.k (.int .i64 64)), none⟩,
 ⟨some 43, .cvi .u32 (.t 42), none⟩,
 ⟨some 44, .bin .add .num (.t 40) (.t 43), none⟩,
 ⟨some 45, .call (.k (.fn (.func 22) [] [])) [(.t 38), (.t 39), (.t 44)], none⟩,
 ⟨some 12, .new [.int .u8 0, .int .u8 0, .int .u8 0, .int .u8 0, .int .u8 0, .int .u8 0, .int .u8 0, .int .u8 0, .int .u8 0, .int .u8 0, .int .u8 0, .int .u8 0, .int .u8 0, .int .u8 0, .int .u8 0, .int .u8 0, .int .u8 0, .int .u8 0, .int .u8 0, .int .u8 0, .int .u8 0, .int .u8 0, .int .u8 0, .int .u8 0, .int .u8 0, .int .u8 0, .int .u8 0, .int .u8 0, .int .u8 0, .int .u8 0, .int .u8 0, .int .u8 0, .int .u8 0, .int .u8 0, .int .u8 0, .int .u8 0, .int .u8 0, .int .u8 0, .int .u8 0, .int .u8 0, .int .u8 0, .int .u8 0, .int .u8 0, .int .u8 0, .int .u8 0, .int .u8 0, .int .u8 0, .int .u8 0, .int .u8 0, .int .u8 0, .int .u8 0, .int .u8 0, .int .u8 0, .int .u8 0, .int .u8 0, .int .u8 0, .int .u8 0, .int .u8 0, .int .u8 0, .int .u8 0, .int .u8 0, .int .u8 0, .int .u8 0, .int .u8 0] none, none⟩,
 ⟨none, .store 64 (.t 12) (.t 45), none⟩])
 (.seq (.reg [⟨some 46, .mov (.t 11), none⟩,
 ⟨some 13, .mov (.t 46), none⟩])
 (.block 3
 (.loop
 (.seq (.seq (.reg [⟨some 47, .mov (.t 13), none⟩,
 ⟨some 48, .mov (.t 11), none⟩,
 ⟨some 49, .bin .add .num (.t 48) (.k (.int .i64 64)), none⟩,
 ⟨some 50, .mov (.t 3), none⟩,
 ⟨some 51, .len .slc (.t 50), none⟩,
 ⟨some 52, .min (.t 49) (.t 51), none⟩,
 ⟨some 53, .bin .lss .num (.t 47) (.t 52), none⟩])
 (.cond (.t 53)
 .skip
 (.exit 3)))
 (.seq (.block 4
 (.dreg [⟨some 56, .mov (.t 10), none⟩,
 ⟨some 57, .mov (.t 13), none⟩,
 ⟨some 58, .mov (.t 3), none⟩,
 ⟨some 59, .mov (.t 13), none⟩,
 ⟨some 60, .iad 1 (.t 58) (.t 59), none⟩,
 ⟨some 61, .load 1 false (.t 60), none⟩,
 ⟨some 62, .mov (.t 13), none⟩,
 ⟨some 63, .mov (.t 11), none⟩,
 ⟨some 64, .bin .sub .num (.t 62) (.t 63), none⟩,
 ⟨some 65, .iada 64 1 (.t 12) (.t 64), none⟩,
 ⟨some 66, .load 1 false (.t 65), none⟩,
 ⟨some 67, .bin .xor .num (.t 61) (.t 66), none⟩,
 ⟨some 68, .iad 1 (.t 56) (.t 57), none⟩,
 ⟨none, .store 1 (.t 68) (.t 67), none⟩] (.lin [] [(0, none), (1, none), (2, none), (3, none), (4, none), (5, none), (6, none), (7, none), (8, none), (9, none), (10, none), (11, none), (12, none), (13, some [])])))
 (.reg [⟨some 54, .mov (.t 13), none⟩,
 ⟨some 55, .bin .add .num (.t 54) (.k (.int .i64 1)), none⟩,
 ⟨some 13, .mov (.t 55), none⟩]))))))))
 (.reg [⟨some 36, .mov (.t 11), none⟩,
 ⟨some 37, .bin .add .num (.t 36) (.k (.int .i64 64)), none⟩,
 ⟨some 11, .mov (.t 37), none⟩]))))))
 (.seq (.reg [⟨some 69, .mov (.t 10), none⟩,
 ⟨some 8, .mov (.t 69), none⟩,
 ⟨some 9, .mov (.k (.int .i64 0)), none⟩])
 .ret)))))⟩

/-- 18: signetring/tag.Equal -/
def F18 : Fun :=
 ⟨31, 2, [.t 4],
 (.seq (.reg [⟨some 4, .mov (.k (.bool false)), none⟩])
 (.seq (.seq (.reg [⟨some 8, .mov (.t 0), none⟩,
 ⟨some 9, .len .slc (.t 8), none⟩,
 ⟨some 10, .mov (.t 1), none⟩,
 ⟨some 11, .len .slc (.t 10), none⟩,
 ⟨some 12, .bin .neq .num (.t 9) (.t 11), none⟩])
 (.cond (.t 12)
 (.seq (.reg [⟨some 4, .mov (.k (.bool false)), none⟩])
 .ret)
 .skip))
 (.seq (.reg [⟨some 5, .mov (.k (.int .u8 0)), none⟩])
 (.seq (.seq (.reg [⟨some 13, .mov (.t 0), none⟩,
 ⟨some 14, .len .slc (.t 13), none⟩,
 ⟨some 15, .mov (.k (.int .i64 0)), none⟩])
 (.block 0
 (.loop
 (.seq (.reg [⟨some 16, .bin .lss .num (.t 15) (.t 14), none⟩])
 (.seq (.cond (.t 16)
 .skip
 (.exit 0))
 (.seq (.block 1
 (.seq (.reg [⟨some 17, .mov (.t 15), none⟩,
 ⟨some 18, .iad 1 (.t 13) (.t 15), none⟩,
 ⟨some 19, .load 1 false (.t 18), none⟩,
 ⟨some 6, .mov (.t 17), none⟩,
 ⟨some 7, .mov (.t 19), none⟩])
 (.reg [⟨some 20, .mov (.t 5), none⟩,
 ⟨some 21, .mov (.t 7), none⟩,
 ⟨some 22, .mov (.t 1), none⟩,
 ⟨some 23, .mov (.t 6), none⟩,
 ⟨some 24, .iad 1 (.t 22) (.t 23), none⟩,
 ⟨some 25, .load 1 false (.t 24), none⟩,
 ⟨some 26, .bin .xor .num (.t 21) (.t 25), none⟩,
 ⟨some 27, .bin .or .num (.t 20) (.t 26), none⟩,
 ⟨some 5, .mov (.t 27), none⟩])))
 (.reg [⟨some 28, .bin .add .num (.t 15) (.k (.int .i64 1)), none⟩,
 ⟨some 15, .mov (.t 28), none⟩])))))))
 (.seq (.reg [⟨some 29, .mov (.t 5), none⟩,
 ⟨some 30, .bin .eql .num (.t 29) (.k (.int .u8 0)), none⟩,
 ⟨some 4, .mov (.t 30), none⟩])
 .ret)))))⟩

/-- 19: (signetring/sha.Digest).Write -/
def F19 : Fun :=
 ⟨64, 2, [.c 4 10 true],
 (.seq (.reg [⟨some 2, .box none (.t 0), none⟩,
 ⟨some 4, .new [.int .u32 0, .int .u32 0, .int .u32 0, .int .u32 0, .int .u32 0, .int .u32 0, .int .u32 0, .int .u32 0, .nsl, .int .u64 0] none, none⟩])
 (.seq (.reg [⟨some 10, .fad 9 (.t 2), none⟩,
 ⟨some 11, .load 1 false (.t 10), none⟩,
 ⟨some 12, .mov (.t 1), none⟩,
 ⟨some 13, .len .slc (.t 12), none⟩,
 ⟨some 14, .cvi .u64 (.t 13), none⟩,
 ⟨some 15, .bin .add .num (.t 11) (.t 14), none⟩,
 ⟨some 16, .fad 9 (.t 2), none⟩,
 ⟨none, .store 1 (.t 16) (.t 15), none⟩])
 (.seq (.reg [⟨some 17, .fad 8 (.t 2), none⟩,
 ⟨some 18, .load 1 false (.t 17), none⟩,
 ⟨some 19, .mov (.t 1), none⟩,
 ⟨some 20, .mks true 1 24 false [.nsl, .nsl] 2 [(0, (.t 18)), (1, (.t 19))], none⟩,
 ⟨some 21, .call (.k (.fn (.func 24) [] [])) [(.t 20)], none⟩,
 ⟨some 5, .mov (.t 21), none⟩])
 (.seq (.seq (.reg [⟨some 22, .load 8 true (.g 0), none⟩,
 ⟨some 23, .mov (.k (.int .i64 0)), none⟩])
 (.block 0
 (.loop
 (.seq (.reg [⟨some 24, .bin .lss .num (.t 23) (.k (.int .i64 8)), none⟩])
 (.seq (.cond (.t 24)
 .skip
 (.exit 0))
 (.seq (.block 1
 (.seq (.reg [⟨some 25, .mov (.t 23), none⟩,
 ⟨some 26, .idxa 8 1 false (.t 22) (.t 23), none⟩,
 ⟨some 6, .mov (.t 25), none⟩,
 ⟨some 7, .mov (.t 26), none⟩])
 (.reg [⟨some 27, .mov (.t 6), none⟩,
 ⟨some 28, .fad 0 (.t 2), none⟩,
 ⟨some 29, .iada 8 1 (.t 28) (.t 27), none⟩,
 ⟨some 30, .load 1 false (.t 29), none⟩,
 ⟨some 31, .mov (.t 7), none⟩,
 ⟨some 32, .bin .add .num (.t 30) (.t 31), none⟩,
 ⟨some 33, .fad 0 (.t 2), none⟩,
 ⟨some 34, .iada 8 1 (.t 33) (.t 27), none⟩,
 ⟨none, .store 1 (.t 34) (.t 32), none⟩])))
 (.reg [⟨some 35, .bin .add .num (.t 23) (.k (.int .i64 1)), none⟩,
 ⟨some 23, .mov (.t 35), none⟩])))))))
 (.seq (.block 2
 (.loop
 (.seq (.seq (.reg [⟨some 36, .mov (.t 5), none⟩,
 ⟨some 37, .len .slc (.t 36), none⟩,
 ⟨some 38, .bin .geq .num (.t 37) (.k (.int .i64 64)), none⟩])
 (.cond (.t 38)
 .skip
 (.exit 2)))
 (.block 3
 (.seq (.dreg [⟨some 39, .fad 0 (.t 2), none⟩,
 ⟨some 40, .load 8 true (.t 39), none⟩,
 ⟨some 41, .mov (.t 5), none⟩,
 ⟨some 42, .slc false 1 (.t 41) none (some (.k (.int .i64 64))) none, none⟩,
 ⟨some 43, .call (.k (.fn (.func 25) [] [])) [(.t 40), (.t 42)], none⟩,
 ⟨some 44, .fad 0 (.t 2), none⟩,
 ⟨none, .store 8 (.t 44) (.t 43), none⟩] (.lin [] [(0, none), (1, none), (2, none), (3, none), (4, some []), (5, none), (6, some [])]))
 (.reg [⟨some 45, .mov (.t 5), none⟩,
 ⟨some 46, .slc false 1 (.t 45) (some (.k (.int .i64 64))) none none, none⟩,
 ⟨some 5, .mov (.t 46), none⟩]))))))
 (.seq (.seq (.reg [⟨some 47, .load 8 true (.g 0), none⟩,
 ⟨some 48, .mov (.k (.int .i64 0)), none⟩])
 (.block 4
 (.loop
 (.seq (.reg [⟨some 49, .bin .lss .num (.t 48) (.k (.int .i64 8)), none⟩])
 (.seq (.cond (.t 49)
 .skip
 (.exit 4))
 (.seq (.block 5
 (.seq (.reg [⟨some 50, .mov (.t 48), none⟩,
 ⟨some 51, .idxa 8 1 false (.t 47) (.t 48), none⟩,
 ⟨some 8, .mov (.t 50), none⟩,
 ⟨some 9, .mov (.t 51), none⟩])
 (.reg [⟨some 52, .mov (.t 8), none⟩,
 ⟨some 53, .fad 0 (.t 2), none⟩,
 ⟨some 54, .iada 8 1 (.t 53) (.t 52), none⟩,
 ⟨some 55, .load 1 false (.t 54), none⟩,
 ⟨some 56, .mov (.t 9), none⟩,
 ⟨some 57, .bin .sub .num (.t 55) (.t 56), none⟩,
 ⟨some 58, .fad 0 (.t 2), none⟩,
 ⟨some 59, .iada 8 1 (.t 58) (.t 52), none⟩,
 ⟨none, .store 1 (.t 59) (.t 57), none⟩])))
 (.reg [⟨some 60, .bin .add .num (.t 48) (.k (.int .i64 1)), none⟩,
 ⟨some 48, .mov (.t 60), none⟩])))))))
 (.seq (.reg [⟨some 61, .mov (.t 5), none⟩,
 ⟨some 62, .fad 8 (.t 2), none⟩,
 ⟨none, .store 1 (.t 62) (.t 61), none⟩])
 (.seq (.reg [⟨some 63, .load 10 true (.t 2), none⟩,
 ⟨none, .store 10 (.t 4) (.t 63), none⟩])
 .ret))))))))⟩

/-- 20: (signetring/sha.Digest).Sum -/
def F20 : Fun :=
 ⟨77, 1, [.c 2 32 true],
 (.seq (.reg [⟨some 1, .box none (.t 0), none⟩,
 ⟨some 2, .new [.int .u8 0, .int .u8 0, .int .u8 0, .int .u8 0, .int .u8 0, .int .u8 0, .int .u8 0, .int .u8 0, .int .u8 0, .int .u8 0, .int .u8 0, .int .u8 0, .int .u8 0, .int .u8 0, .int .u8 0, .int .u8 0, .int .u8 0, .int .u8 0, .int .u8 0, .int .u8 0, .int .u8 0, .int .u8 0, .int .u8 0, .int .u8 0, .int .u8 0, .int .u8 0, .int .u8 0, .int .u8 0, .int .u8 0, .int .u8 0, .int .u8 0, .int .u8 0] none, none⟩])
 (.seq (.reg [⟨some 9, .fad 9 (.t 1), none⟩,
 ⟨some 10, .load 1 false (.t 9), none⟩,
 ⟨some 11, .bin .mul .num (.k (.int .u64 8)) (.t 10), none⟩,
 ⟨some 3, .mov (.t 11), none⟩])
 (.seq (.reg [⟨some 12, .mks true 1 1 false [.int .u8 0] 1 [(0, (.k (.int .u8 128)))], none⟩,
 ⟨some 4, .mov (.t 12), none⟩])
 (.seq (.block 0
 (.loop
 (.seq (.seq (.reg [⟨some 13, .fad 8 (.t 1), none⟩,
 ⟨some 14, .load 1 false (.t 13), none⟩,
 ⟨some 15, .len .slc (.t 14), none⟩,
 ⟨some 16, .mov (.t 4), none⟩,
 ⟨some 17, .len .slc (.t 16), none⟩,
 ⟨some 18, .bin .add .num (.t 15) (.t 17), none⟩,
 ⟨some 19, .bin .rem .num (.t 18) (.k (.int .i64 64)), none⟩,
 ⟨some 20, .bin .neq .num (.t 19) (.k (.int .i64 56)), none⟩])
 (.cond (.t 20)
 .skip
 (.exit 0)))
 (.block 1
 (.reg [⟨some 21, .mov (.t 4), none⟩,
 ⟨some 22, .mks true 1 1 false [.int .u8 0] 1 [(0, (.k (.int .u8 0)))], none⟩,
 ⟨some 23, .app 1 1 false none (.t 21) (.t 22), none⟩,
 ⟨some 4, .mov (.t 23), none⟩])))))
 (.seq (.seq (.reg [⟨some 5, .mov (.k (.int .i64 56)), none⟩])
 (.block 2
 (.loop
 (.seq (.seq (.reg [⟨some 24, .mov (.t 5), none⟩,
 ⟨some 25, .bin .geq .num (.t 24) (.k (.int .i64 0)), none⟩])
 (.cond (.t 25)
 .skip
 (.exit 2)))
 (.seq (.block 3
 (.reg [⟨some 28, .mov (.t 4), none⟩,
 ⟨some 29, .mov (.t 3), none⟩,
 ⟨some 30, .mov (.t 5), none⟩,
 ⟨some 31, .bin .shr .num (.t 29) (.t 30), none⟩,
 ⟨some 32, .cvi .u8 (.t 31), none⟩,
 ⟨some 33, .mks true 1 1 false [.int .u8 0] 1 [(0, (.t 32))], none⟩,
 ⟨some 34, .app 1 1 false none (.t 28) (.t 33), none⟩,
 ⟨some 4, .mov (.t 34), none⟩]))
 (.reg [⟨some 26, .mov (.t 5), none⟩,
 ⟨some 27, .bin .sub .num (.t 26) (.k (.int .i64 8)), none⟩,
 ⟨some 5, .mov (.t 27), none⟩]))))))
 (.seq (.reg [⟨some 35, .load 10 true (.t 1), none⟩,
 ⟨some 36, .mov (.t 4), none⟩,
 ⟨some 37, .call (.k (.fn (.func 19) [] [])) [(.t 35), (.t 36)], none⟩,
 ⟨none, .store 10 (.t 1) (.t 37), none⟩])
 (.seq (.reg [⟨some 6, .new [.int .u8 0, .int .u8 0, .int .u8 0, .int .u8 0, .int .u8 0, .int .u8 0, .int .u8 0, .int .u8 0, .int .u8 0, .int .u8 0, .int .u8 0, .int .u8 0, .int .u8 0, .int .u8 0, .int .u8 0, .int .u8 0, .int .u8 0, .int .u8 0, .int .u8 0, .int .u8 0, .int .u8 0, .int .u8 0, .int .u8 0, .int .u8 0, .int .u8 0, .int .u8 0, .int .u8 0, .int .u8 0, .int .u8 0, .int .u8 0, .int .u8 0, .int .u8 0] none, none⟩])
 (.seq (.seq (.reg [⟨some 38, .fad 0 (.t 1), none⟩,
 ⟨some 39, .load 8 true (.t 38), none⟩,
 ⟨some 40, .mov (.k (.int .i64 0)), none⟩])
 (.block 4
 (.loop
 (.seq (.reg [⟨some 41, .bin .lss .num (.t 40) (.k (.int .i64 8)), none⟩])
 (.seq (.cond (.t 41)
 .skip
 (.exit 4))
 (.seq (.block 5
 (.seq (.reg [⟨some 42, .mov (.t 40), none⟩,
 ⟨some 43, .idxa 8 1 false (.t 39) (.t 40), none⟩,
 ⟨some 7, .mov (.t 42), none⟩,
 ⟨some 8, .mov (.t 43), none⟩])
 (.seq (.reg [⟨some 44, .mov (.t 8), none⟩,
 ⟨some 45, .mov (.t 7), none⟩,
 ⟨some 46, .iada 8 1 (.g 0) (.t 45), none⟩,
 ⟨some 47, .load 1 false (.t 46), none⟩,
 ⟨some 48, .bin .add .num (.t 44) (.t 47), none⟩,
 ⟨some 8, .mov (.t 48), none⟩])
 (.reg [⟨some 49, .mov (.t 7), none⟩,
 ⟨some 50, .bin .mul .num (.k (.int .i64 4)) (.t 49), none⟩,
 ⟨some 51, .mov (.t 7), none⟩,
 ⟨some 52, .bin .mul .num (.k (.int .i64 4)) (.t 51), none⟩,
 ⟨some 53, .bin .add .num (.t 52) (.k (.int .i64 1)), none⟩,
 ⟨some 54, .mov (.t 7), none⟩,
 ⟨some 55, .bin .mul .num (.k (.int .i64 4)) (.t 54), none⟩,
 ⟨some 56, .bin .add .num (.t 55) (.k (.int .i64 2)), none⟩,
 ⟨some 57, .mov (.t 7), none⟩,
 ⟨some 58, .bin .mul .num (.k (.int .i64 4)) (.t 57), none⟩,
 ⟨some 59, .bin .add .num (.t 58) (.k (.int .i64 3)), none⟩,
 ⟨some 60, .mov (.t 8), none⟩,
 ⟨some 61, .bin .shr .num (.t 60) (.k (.int .u64 24)), none⟩,
 ⟨some 62, .cvi .u8 (.t 61), none⟩,
 ⟨some 63, .mov (.t 8), none⟩,
 ⟨some 64, .bin .shr .num (.t 63) (.k (.int .u64 16)), none⟩,
 ⟨some 65, .cvi .u8 (.t 64), none⟩,
 ⟨some 66, .mov (.t 8), none⟩,
 ⟨some 67, .bin .shr .num (.t 66) (.k (.int .u64 8)), none⟩,
 ⟨some 68, .cvi .u8 (.t 67), none⟩,
 ⟨some 69, .mov (.t 8), none⟩,
 ⟨some 70, .cvi .u8 (.t 69), none⟩,
 ⟨some 71, .iada 32 1 (.t 6) (.t 50), none⟩,
 ⟨none, .store 1 (.t 71) (.t 62), none⟩,
 ⟨some 72, .iada 32 1 (.t 6) (.t 53), none⟩,
 ⟨none, .store 1 (.t 72) (.t 65), none⟩,
 ⟨some 73, .iada 32 1 (.t 6) (.t 56), none⟩,
 ⟨none, .store 1 (.t 73) (.t 68), none⟩,
 ⟨some 74, .iada 32 1 (.t 6) (.t 59), none⟩,
 ⟨none, .store 1 (.t 74) (.t 70), none⟩]))))
 (.reg [⟨some 75, .bin .add .num (.t 40) (.k (.int .i64 1)), none⟩,
 ⟨some 40, .mov (.t 75), none⟩])))))))
 (.seq (.reg [⟨some 76, .load 32 true (.t 6), none⟩,
 ⟨none, .store 32 (.t 2) (.t 76), none⟩])
 .ret)))))))))⟩

/-- 21: signetring/aead.low -/
def F21 : Fun :=
 ⟨19, 2, [.t 4],
 (.seq (.reg [⟨some 4, .mov (.k .nsl), none⟩])
 (.seq (.seq (.reg [⟨some 6, .mov (.k (.int .i64 0)), none⟩])
 (.block 0
 (.loop
 (.seq (.reg [⟨some 7, .bin .lss .num (.t 6) (.k (.int .i64 8)), none⟩])
 (.seq (.cond (.t 7)
 .skip
 (.exit 0))
 (.seq (.block 1
 (.seq (.reg [⟨some 8, .mov (.t 6), none⟩,
 ⟨some 5, .mov (.t 8), none⟩])
 (.reg [⟨some 9, .mov (.t 0), none⟩,
 ⟨some 10, .mov (.t 1), none⟩,
 ⟨some 11, .mov (.t 5), none⟩,
 ⟨some 12, .bin .mul .num (.k (.int .i64 8)) (.t 11), none⟩,
 ⟨some 13, .bin .shr .num (.t 10) (.t 12), none⟩,
 ⟨some 14, .cvi .u8 (.t 13), none⟩,
 ⟨some 15, .mks true 1 1 false [.int .u8 0] 1 [(0, (.t 14))], none⟩,
 ⟨some 16, .app 1 1 false none (.t 9) (.t 15), none⟩,
 ⟨some 0, .mov (.t 16), none⟩])))
 (.reg [⟨some 17, .bin .add .num (.t 6) (.k (.int .i64 1)), none⟩,
 ⟨some 6, .mov (.t 17), none⟩])))))))
 (.seq (.reg [⟨some 18, .mov (.t 0), none⟩,
 ⟨some 4, .mov (.t 18), none⟩])
 .ret)))⟩

/-- 22: signetring/stream.Block -/
def F22 : Fun :=
 ⟨97, 3, [.c 6 64 true],
 (.seq (.reg [⟨some 3, .box none (.t 0), none⟩,
 ⟨some 4, .box none (.t 1), none⟩,
 ⟨some 6, .new [.int .u8 0, .int .u8 0, .int .u8 0, .int .u8 0, .int .u8 0, .int .u8 0, .int .u8 0, .int .u8 0, .int .u8 0, .int .u8 0, .int .u8 0, .int .u8 0, .int .u8 0, .int .u8 0, .int .u8 0, .int .u8 0, .int .u8 0, .int .u8 0, .int .u8 0, .int .u8 0, .int .u8 0, .int .u8 0, .int .u8 0, .int .u8 0, .int .u8 0, .int .u8 0, .int .u8 0, .int .u8 0, .int .u8 0, .int .u8 0, .int .u8 0, .int .u8 0, .int .u8 0, .int .u8 0, .int .u8 0, .int .u8 0, .int .u8 0, .int .u8 0, .int .u8 0, .int .u8 0, .int .u8 0, .int .u8 0, .int .u8 0, .int .u8 0, .int .u8 0, .int .u8 0, .int .u8 0, .int .u8 0, .int .u8 0, .int .u8 0, .int .u8 0, .int .u8 0, .int .u8 0, .int .u8 0, .int .u8 0, .int .u8 0, .int .u8 0, .int .u8 0, .int .u8 0, .int .u8 0, .int .u8 0, .int .u8 0, .int .u8 0, .int .u8 0] none, none⟩])
 (.seq (.reg [⟨some 7, .new [.int .u32 0, .int .u32 0, .int .u32 0, .int .u32 0, .int .u32 0, .int .u32 0, .int .u32 0, .int .u32 0, .int .u32 0, .int .u32 0, .int .u32 0, .int .u32 0, .int .u32 0, .int .u32 0, .int .u32 0, .int .u32 0] none, none⟩])
 (.seq (.dreg [⟨some 15, .slca 16 1 false (.t 7) none none none, none⟩,
 ⟨some 16, .slca 4 1 false (.g 1) none none none, none⟩,
 ⟨some 17, .cpy 1 (.t 15) (.t 16), none⟩] (.lin [] [(0, none), (1, none), (2, some [])]))
 (.seq (.seq (.reg [⟨some 18, .mov (.k (.int .i64 0)), none⟩])
 (.block 0
 (.loop
 (.seq (.reg [⟨some 19, .bin .lss .num (.t 18) (.k (.int .i64 8)), none⟩])
 (.seq (.cond (.t 19)
 .skip
 (.exit 0))
 (.seq (.block 1
 (.seq (.reg [⟨some 20, .mov (.t 18), none⟩,
 ⟨some 8, .mov (.t 20), none⟩])
 (.reg [⟨some 21, .mov (.t 8), none⟩,
 ⟨some 22, .bin .add .num (.k (.int .i64 4)) (.t 21), none⟩,
 ⟨some 23, .mov (.t 8), none⟩,
 ⟨some 24, .bin .mul .num (.k (.int .i64 4)) (.t 23), none⟩,
 ⟨some 25, .slca 32 1 false (.t 3) (some (.t 24)) none none, none⟩,
 ⟨some 26, .call (.k (.fn (.func 26) [] [])) [(.t 25)], none⟩,
 ⟨some 27, .iada 16 1 (.t 7) (.t 22), none⟩,
 ⟨none, .store 1 (.t 27) (.t 26), none⟩])))
 (.reg [⟨some 28, .bin .add .num (.t 18) (.k (.int .i64 1)), none⟩,
 ⟨some 18, .mov (.t 28), none⟩])))))))
 (.seq (.reg [⟨some 29, .mov (.t 2), none⟩,
 ⟨some 30, .iada 16 1 (.t 7) (.k (.int .i64 12)), none⟩,
 ⟨none, .store 1 (.t 30) (.t 29), none⟩])
 (.seq (.seq (.reg [⟨some 31, .mov (.k (.int .i64 0)), none⟩])
 (.block 2
 (.loop
 (.seq (.reg [⟨some 32, .bin .lss .num (.t 31) (.k (.int .i64 3)), none⟩])
 (.seq (.cond (.t 32)
 .skip
 (.exit 2))
 (.seq (.block 3
 (.seq (.reg [⟨some 33, .mov (.t 31), none⟩,
 ⟨some 9, .mov (.t 33), none⟩])
 (.reg [⟨some 34, .mov (.t 9), none⟩,
 ⟨some 35, .bin .add .num (.k (.int .i64 13)) (.t 34), none⟩,
 ⟨some 36, .mov (.t 9), none⟩,
 ⟨some 37, .bin .mul .num (.k (.int .i64 4)) (.t 36), none⟩,
 ⟨some 38, .slca 12 1 false (.t 4) (some (.t 37)) none none, none⟩,
 ⟨some 39, .call (.k (.fn (.func 26) [] [])) [(.t 38)], none⟩,
 ⟨some 40, .iada 16 1 (.t 7) (.t 35), none⟩,
 ⟨none, .store 1 (.t 40) (.t 39), none⟩])))
 (.reg [⟨some 41, .bin .add .num (.t 31) (.k (.int .i64 1)), none⟩,
 ⟨some 31, .mov (.t 41), none⟩])))))))
 (.seq (.reg [⟨some 42, .load 16 true (.t 7), none⟩,
 ⟨some 10, .new [.int .u32 0, .int .u32 0, .int .u32 0, .int .u32 0, .int .u32 0, .int .u32 0, .int .u32 0, .int .u32 0, .int .u32 0, .int .u32 0, .int .u32 0, .int .u32 0, .int .u32 0, .int .u32 0, .int .u32 0, .int .u32 0] none, none⟩,
 ⟨none, .store 16 (.t 10) (.t 42), none⟩])
 (.seq (.seq (.reg [⟨some 43, .mov (.k (.int .i64 0)), none⟩])
 (.block 4
 (.loop
 (.seq (.reg [⟨some 44, .bin .lss .num (.t 43) (.k (.int .i64 10)), none⟩])
 (.seq (.cond (.t 44)
 .skip
 (.exit 4))
 (.seq (.block 5
 (.seq (.seq (.reg [⟨some 45, .mov (.k (.int .i64 0)), none⟩])
 (.block 6
 (.loop
 (.seq (.reg [⟨some 46, .bin .lss .num (.t 45) (.k (.int .i64 4)), none⟩])
 (.seq (.cond (.t 46)
 .skip
 (.exit 6))
 (.seq (.block 7
 (.seq (.reg [⟨some 47, .mov (.t 45), none⟩,
 ⟨some 11, .mov (.t 47), none⟩])
 (.reg [⟨some 48, .mov (.t 11), none⟩,
 ⟨some 49, .mov (.t 11), none⟩,
 ⟨some 50, .bin .add .num (.t 49) (.k (.int .i64 4)), none⟩,
 ⟨some 51, .mov (.t 11), none⟩,
 ⟨some 52, .bin .add .num (.t 51) (.k (.int .i64 8)), none⟩,
 ⟨some 53, .mov (.t 11), none⟩,
 ⟨some 54, .bin .add .num (.t 53) (.k (.int .i64 12)), none⟩,
 ⟨some 55, .call (.k (.fn (.func 27) [] [])) [(.t 10), (.t 48), (.t 50), (.t 52), (.t 54)], none⟩])))
 (.reg [⟨some 56, .bin .add .num (.t 45) (.k (.int .i64 1)), none⟩,
 ⟨some 45, .mov (.t 56), none⟩])))))))
 (.seq (.reg [⟨some 57, .mov (.k (.int .i64 0)), none⟩])
 (.block 8
 (.loop
 (.seq (.reg [⟨some 58, .bin .lss .num (.t 57) (.k (.int .i64 4)), none⟩])
 (.seq (.cond (.t 58)
 .skip
 (.exit 8))
 (.seq (.block 9
 (.seq (.reg [⟨some 59, .mov (.t 57), none⟩,
 ⟨some 12, .mov (.t 59), none⟩])
 (.reg [⟨some 60, .mov (.t 12), none⟩,
 ⟨some 61, .mov (.t 12), none⟩,
 ⟨some 62, .bin .add .num (.t 61) (.k (.int .i64 1)), none⟩,
 ⟨some 63, .bin .rem .num (.t 62) (.k (.int .i64 4)), none⟩,
 ⟨some 64, .bin .add .num (.k (.int .i64 4)) (.t 63), none⟩,
 ⟨some 65, .mov (.t 12), none⟩,
 ⟨some 66, .bin .add .num (.t 65) (.k (.int .i64 2)), none⟩,
 ⟨some 67, .bin .rem .num (.t 66) (.k (.int .i64 4)), none⟩,
 ⟨some 68, .bin .add .num (.k (.int .i64 8)) (.t 67), none⟩,
 ⟨some 69, .mov (.t 12), none⟩,
 ⟨some 70, .bin .add .num (.t 69) (.k (.int .i64 3)), none⟩,
 ⟨some 71, .bin .rem .num (.t 70) (.k (.int .i64 4)), none⟩,
 ⟨some 72, .bin .add .num (.k (.int .i64 12)) (.t 71), none⟩,
 ⟨some 73, .call (.k (.fn (.func 27) [] [])) [(.t 10), (.t 60), (.t 64), (.t 68), (.t 72)], none⟩])))
 (.reg [⟨some 74, .bin .add .num (.t 57) (.k (.int .i64 1)), none⟩,
 ⟨some 57, .mov (.t 74), none⟩])))))))))
 (.reg [⟨some 75, .bin .add .num (.t 43) (.k (.int .i64 1)), none⟩,
 ⟨some 43, .mov (.t 75), none⟩])))))))
 (.seq (.reg [⟨some 13, .new [.int .u8 0, .int .u8 0, .int .u8 0, .int .u8 0, .int .u8 0, .int .u8 0, .int .u8 0, .int .u8 0, .int .u8 0, .int .u8 0, .int .u8 0, .int .u8 0, .int .u8 0, .int .u8 0, .int .u8 0, .int .u8 0, .int .u8 0, .int .u8 0, .int .u8 0, .int .u8 0, .int .u8 0, .int .u8 0, .int .u8 0, .int .u8 0, .int .u8 0, .int .u8 0, .int .u8 0, .int .u8 0, .int .u8 0, .int .u8 0, .int .u8 0, .int .u8 0, .int .u8 0, .int .u8 0, .int .u8 0, .int .u8 0, .int .u8 0, .int .u8 0, .int .u8 0, .int .u8 0, .int .u8 0, .int .u8 0, .int .u8 0, .int .u8 0, .int .u8 0, .int .u8 0, .int .u8 0, .int .u8 0, .int .u8 0, .int .u8 0, .int .u8 0, .int .u8 0, .int .u8 0, .int .u8 0, .int .u8 0, .int .u8 0, .int .u8 0, .int .u8 0, .int .u8 0, .int .u8 0, .int .u8 0, .int .u8 0, .int .u8 0, .int .u8 0] none, none⟩])
 (.seq (.seq (.reg [⟨some 76, .mov (.k (.int .i64 0)), none⟩])
 (.block 10
 (.loop
 (.seq (.reg [⟨some 77, .bin .lss .num (.t 76) (.k (.int .i64 64)), none⟩])
 (.seq (.cond (.t 77)
 .skip
 (.exit 10))
 (.seq (.block 11
 (.seq (.reg [⟨some 78, .mov (.t 76), none⟩,
 ⟨some 14, .mov (.t 78), none⟩])
 (.dreg [⟨some 79, .mov (.t 14), none⟩,
 ⟨some 80, .mov (.t 14), none⟩,
 ⟨some 81, .bin .quo .num (.t 80) (.k (.int .i64 4)), none⟩,
 ⟨some 82, .iada 16 1 (.t 10) (.t 81), none⟩,
 ⟨some 83, .load 1 false (.t 82), none⟩,
 ⟨some 84, .mov (.t 14), none⟩,
 ⟨some 85, .bin .quo .num (.t 84) (.k (.int .i64 4)), none⟩,
 ⟨some 86, .iada 16 1 (.t 7) (.t 85), none⟩,
 ⟨some 87, .load 1 false (.t 86), none⟩,
 ⟨some 88, .bin .add .num (.t 83) (.t 87), none⟩,
 ⟨some 89, .mov (.t 14), none⟩,
 ⟨some 90, .bin .rem .num (.t 89) (.k (.int .i64 4)), none⟩,
 ⟨some 91, .bin .mul .num (.k (.int .i64 8)) (.t 90), none⟩,
 ⟨some 92, .bin .shr .num (.t 88) (.t 91), none⟩,
 ⟨some 93, .cvi .u8 (.t 92), none⟩,
 ⟨some 94, .iada 64 1 (.t 13) (.t 79), none⟩,
 ⟨none, .store 1 (.t 94) (.t 93), none⟩] (.lin [] [(0, none), (1, none), (2, none), (3, none), (4, none), (5, none), (6, none), (7, none), (8, none), (9, none), (10, none), (11, none), (12, none), (13, none), (14, none), (15, none), (16, some [])]))))
 (.reg [⟨some 95, .bin .add .num (.t 76) (.k (.int .i64 1)), none⟩,
 ⟨some 76, .mov (.t 95), none⟩])))))))
 (.seq (.reg [⟨some 96, .load 64 true (.t 13), none⟩,
 ⟨none, .store 64 (.t 6) (.t 96), none⟩])
 .ret)))))))))))⟩

/-- 24: slices.Concat[[]byte,byte] -/
def F24 : Fun :=
 ⟨36, 1, [.t 2],
 (.seq (.reg [⟨some 2, .mov (.k .nsl), none⟩])
 (.seq (.reg [⟨some 3, .mov (.k (.int .i64 0)), none⟩])
 (.seq (.seq (.reg [⟨some 9, .mov (.t 0), none⟩,
 ⟨some 10, .len .slc (.t 9), none⟩,
 ⟨some 11, .mov (.k (.int .i64 0)), none⟩])
 (.block 0
 (.loop
 (.seq (.reg [⟨some 12, .bin .lss .num (.t 11) (.t 10), none⟩])
 (.seq (.cond (.t 12)
 .skip
 (.exit 0))
 (.seq (.block 1
 (.seq (.reg [⟨some 13, .iad 1 (.t 9) (.t 11), none⟩,
 ⟨some 14, .load 1 false (.t 13), none⟩,
 ⟨some 5, .mov (.t 14), none⟩])
 (.seq (.reg [⟨some 15, .mov (.t 3), none⟩,
 ⟨some 16, .mov (.t 5), none⟩,
 ⟨some 17, .len .slc (.t 16), none⟩,
 ⟨some 18, .bin .add .num (.t 15) (.t 17), none⟩,
 ⟨some 3, .mov (.t 18), none⟩])
 (.seq (.reg [⟨some 19, .mov (.t 3), none⟩,
 ⟨some 20, .bin .lss .num (.t 19) (.k (.int .i64 0)), none⟩])
 (.cond (.t 20)
 (.reg [⟨some 21, .mki 9 (.k (.str [108, 101, 110, 32, 111, 117, 116, 32, 111, 102, 32, 114, 97, 110, 103, 101])), none⟩,
 ⟨none, .pan (.t 21), none⟩])
 .skip)))))
 (.reg [⟨some 22, .bin .add .num (.t 11) (.k (.int .i64 1)), none⟩,
 ⟨some 11, .mov (.t 22), none⟩])))))))
 (.seq (.reg [⟨some 23, .mov (.t 3), none⟩,
 ⟨some 24, .call (.k (.fn (.func 31) [] [])) [(.k .nsl), (.t 23)], none⟩,
 ⟨some 6, .mov (.t 24), none⟩])
 (.seq (.seq (.reg [⟨some 25, .mov (.t 0), none⟩,
 ⟨some 26, .len .slc (.t 25), none⟩,
 ⟨some 27, .mov (.k (.int .i64 0)), none⟩])
 (.block 2
 (.loop
 (.seq (.reg [⟨some 28, .bin .lss .num (.t 27) (.t 26), none⟩])
 (.seq (.cond (.t 28)
 .skip
 (.exit 2))
 (.seq (.block 3
 (.seq (.reg [⟨some 29, .iad 1 (.t 25) (.t 27), none⟩,
 ⟨some 30, .load 1 false (.t 29), none⟩,
 ⟨some 8, .mov (.t 30), none⟩])
 (.reg [⟨some 31, .mov (.t 6), none⟩,
 ⟨some 32, .mov (.t 8), none⟩,
 ⟨some 33, .app 1 1 false none (.t 31) (.t 32), none⟩,
 ⟨some 6, .mov (.t 33), none⟩])))
 (.reg [⟨some 34, .bin .add .num (.t 27) (.k (.int .i64 1)), none⟩,
 ⟨some 27, .mov (.t 34), none⟩])))))))
 (.seq (.reg [⟨some 35, .mov (.t 6), none⟩,
 ⟨some 2, .mov (.t 35), none⟩])
 .ret))))))⟩

/-- 25: signetring/sha.mixed -/
def F25 : Fun :=
 ⟨169, 2, [.c 4 8 true],
 (.seq (.reg [⟨some 2, .box none (.t 0), none⟩,
 ⟨some 4, .new [.int .u32 0, .int .u32 0, .int .u32 0, .int .u32 0, .int .u32 0, .int .u32 0, .int .u32 0, .int .u32 0] none, none⟩])
 (.seq (.reg [⟨some 5, .new [.int .u32 0, .int .u32 0, .int .u32 0, .int .u32 0, .int .u32 0, .int .u32 0, .int .u32 0, .int .u32 0, .int .u32 0, .int .u32 0, .int .u32 0, .int .u32 0, .int .u32 0, .int .u32 0, .int .u32 0, .int .u32 0, .int .u32 0, .int .u32 0, .int .u32 0, .int .u32 0, .int .u32 0, .int .u32 0, .int .u32 0, .int .u32 0, .int .u32 0, .int .u32 0, .int .u32 0, .int .u32 0, .int .u32 0, .int .u32 0, .int .u32 0, .int .u32 0, .int .u32 0, .int .u32 0, .int .u32 0, .int .u32 0, .int .u32 0, .int .u32 0, .int .u32 0, .int .u32 0, .int .u32 0, .int .u32 0, .int .u32 0, .int .u32 0, .int .u32 0, .int .u32 0, .int .u32 0, .int .u32 0, .int .u32 0, .int .u32 0, .int .u32 0, .int .u32 0, .int .u32 0, .int .u32 0, .int .u32 0, .int .u32 0, .int .u32 0, .int .u32 0, .int .u32 0, .int .u32 0, .int .u32 0, .int .u32 0, .int .u32 0, .int .u32 0] none, none⟩])
 (.seq (.seq (.reg [⟨some 15, .mov (.k (.int .i64 0)), none⟩])
 (.block 0
 (.loop
 (.seq (.reg [⟨some 16, .bin .lss .num (.t 15) (.k (.int .i64 64)), none⟩])
 (.seq (.cond (.t 16)
 .skip
 (.exit 0))
 (.seq (.block 1
 (.seq (.reg [⟨some 17, .mov (.t 15), none⟩,
 ⟨some 6, .mov (.t 17), none⟩])
 (.seq (.seq (.reg [⟨some 18, .mov (.t 6), none⟩,
 ⟨some 19, .bin .lss .num (.t 18) (.k (.int .i64 16)), none⟩])
 (.cond (.t 19)
 (.seq (.dreg [⟨some 20, .mov (.t 6), none⟩,
 ⟨some 21, .mov (.t 1), none⟩,
 ⟨some 22, .mov (.t 6), none⟩,
 ⟨some 23, .bin .mul .num (.k (.int .i64 4)) (.t 22), none⟩,
 ⟨some 24, .iad 1 (.t 21) (.t 23), none⟩,
 ⟨some 25, .load 1 false (.t 24), none⟩,
 ⟨some 26, .cvi .u32 (.t 25), none⟩,
 ⟨some 27, .bin .shl .num (.t 26) (.k (.int .u64 24)), none⟩,
 ⟨some 28, .mov (.t 1), none⟩,
 ⟨some 29, .mov (.t 6), none⟩,
 ⟨some 30, .bin .mul .num (.k (.int .i64 4)) (.t 29), none⟩,
 ⟨some 31, .bin .add .num (.t 30) (.k (.int .i64 1)), none⟩,
 ⟨some 32, .iad 1 (.t 28) (.t 31), none⟩,
 ⟨some 33, .load 1 false (.t 32), none⟩,
 ⟨some 34, .cvi .u32 (.t 33), none⟩,
 ⟨some 35, .bin .shl .num (.t 34) (.k (.int .u64 16)), none⟩,
 ⟨some 36, .bin .or .num (.t 27) (.t 35), none⟩,
 ⟨some 37, .mov (.t 1), none⟩,
 ⟨some 38, .mov (.t 6), none⟩,
 ⟨some 39, .bin .mul .num (.k (.int .i64 4)) (.t 38), none⟩,
 ⟨some 40, .bin .add .num (.t 39) (.k (.int .i64 2)), none⟩,
 ⟨some 41, .iad 1 (.t 37) (.t 40), none⟩,
 ⟨some 42, .load 1 false (.t 41), none⟩,
 ⟨some 43, .cvi .u32 (.t 42), none⟩,
 ⟨some 44, .bin .shl .num (.t 43) (.k (.int .u64 8)), none⟩,
 ⟨some 45, .bin .or .num (.t 36) (.t 44), none⟩,
 ⟨some 46, .mov (.t 1), none⟩,
 ⟨some 47, .mov (.t 6), none⟩,
 ⟨some 48, .bin .mul .num (.k (.int .i64 4)) (.t 47), none⟩,
 ⟨some 49, .bin .add .num (.t 48) (.k (.int .i64 3)), none⟩,
 ⟨some 50, .iad 1 (.t 46) (.t 49), none⟩,
 ⟨some 51, .load 1 false (.t 50), none⟩,
 ⟨some 52, .cvi .u32 (.t 51), none⟩,
 ⟨some 53, .bin .or .num (.t 45) (.t 52), none⟩,
 ⟨some 54, .iada 64 1 (.t 5) (.t 20), none⟩,
 ⟨none, .store 1 (.t 54) (.t 53), none⟩] (.lin [] [(0, none), (1, none), (2, none), (3, none), (4, none), (5, none), (6, none), (7, none), (8, none), (9, none), (10, none), (11, none), (12, none), (13, none), (14, none), (15, none), (16, none), (17, none), (18, none), (19, none), (20, none), (21, none), (22, none), (23, none), (24, none), (25, none), (26, none), (27, none), (28, none), (29, none), (30, none), (31, none), (32, none), (33, none), (34, none), (35, some [])]))
 (.exit 1))
 .skip))
 (.seq (.dreg [⟨some 55, .mov (.t 6), none⟩,
 ⟨some 56, .bin .sub .num (.t 55) (.k (.int .i64 2)), none⟩,
 ⟨some 57, .iada 64 1 (.t 5) (.t 56), none⟩,
 ⟨some 58, .load 1 false (.t 57), none⟩,
 ⟨some 59, .mov (.t 6), none⟩,
 ⟨some 60, .bin .sub .num (.t 59) (.k (.int .i64 15)), none⟩,
 ⟨some 61, .iada 64 1 (.t 5) (.t 60), none⟩,
 ⟨some 62, .load 1 false (.t 61), none⟩,
 ⟨some 7, .mov (.t 58), none⟩,
 ⟨some 8, .mov (.t 62), none⟩] (.lin [] [(0, none), (1, none), (2, none), (3, none), (4, none), (5, none), (6, none), (7, none), (8, none), (9, none)]))
 (.dreg [⟨some 63, .mov (.t 6), none⟩,
 ⟨some 64, .mov (.t 7), none⟩,
 ⟨some 65, .mks true 1 8 false [.int .i64 0, .int .i64 0] 2 [(0, (.k (.int .i64 17))), (1, (.k (.int .i64 19)))], none⟩,
 ⟨some 66, .call (.k (.fn (.func 32) [] [])) [(.t 64), (.t 65)], none⟩,
 ⟨some 67, .mov (.t 7), none⟩,
 ⟨some 68, .bin .shr .num (.t 67) (.k (.int .u64 10)), none⟩,
 ⟨some 69, .bin .xor .num (.t 66) (.t 68), none⟩,
 ⟨some 70, .mov (.t 6), none⟩,
 ⟨some 71, .bin .sub .num (.t 70) (.k (.int .i64 7)), none⟩,
 ⟨some 72, .iada 64 1 (.t 5) (.t 71), none⟩,
 ⟨some 73, .load 1 false (.t 72), none⟩,
 ⟨some 74, .bin .add .num (.t 69) (.t 73), none⟩,
 ⟨some 75, .mov (.t 8), none⟩,
 ⟨some 76, .mks true 1 8 false [.int .i64 0, .int .i64 0] 2 [(0, (.k (.int .i64 7))), (1, (.k (.int .i64 18)))], none⟩,
 ⟨some 77, .call (.k (.fn (.func 32) [] [])) [(.t 75), (.t 76)], none⟩,
 ⟨some 78, .mov (.t 8), none⟩,
 ⟨some 79, .bin .shr .num (.t 78) (.k (.int .u64 3)), none⟩,
 ⟨some 80, .bin .xor .num (.t 77) (.t 79), none⟩,
 ⟨some 81, .bin .add .num (.t 74) (.t 80), none⟩,
 ⟨some 82, .mov (.t 6), none⟩,
 ⟨some 83, .bin .sub .num (.t 82) (.k (.int .i64 16)), none⟩,
 ⟨some 84, .iada 64 1 (.t 5) (.t 83), none⟩,
 ⟨some 85, .load 1 false (.t 84), none⟩,
 ⟨some 86, .bin .add .num (.t 81) (.t 85), none⟩,
 ⟨some 87, .iada 64 1 (.t 5) (.t 63), none⟩,
 ⟨none, .store 1 (.t 87) (.t 86), none⟩] (.lin [] [(0, none), (1, none), (2, none), (4, none), (5, none), (7, none), (8, none), (9, none), (10, none), (12, none), (13, none), (15, none), (16, none), (19, none), (20, none), (21, none), (22, none), (3, some [0, 4, 5, 7, 8, 9, 10, 12, 13, 15, 16, 19, 20, 21, 22]), (6, none), (11, none), (14, some [0, 4, 5, 7, 8, 9, 10, 15, 16, 19, 20, 21, 22, 6, 11]), (17, none), (18, none), (23, none), (24, none), (25, some [])]))))))
 (.reg [⟨some 88, .bin .add .num (.t 15) (.k (.int .i64 1)), none⟩,
 ⟨some 15, .mov (.t 88), none⟩])))))))
 (.seq (.reg [⟨some 89, .load 8 true (.t 2), none⟩,
 ⟨some 9, .new [.int .u32 0, .int .u32 0, .int .u32 0, .int .u32 0, .int .u32 0, .int .u32 0, .int .u32 0, .int .u32 0] none, none⟩,
 ⟨none, .store 8 (.t 9) (.t 89), none⟩])
 (.seq (.seq (.reg [⟨some 90, .load 64 true (.g 2), none⟩,
 ⟨some 91, .mov (.k (.int .i64 0)), none⟩])
 (.block 2
 (.loop
 (.seq (.reg [⟨some 92, .bin .lss .num (.t 91) (.k (.int .i64 64)), none⟩])
 (.seq (.cond (.t 92)
 .skip
 (.exit 2))
 (.seq (.block 3
 (.seq (.reg [⟨some 93, .mov (.t 91), none⟩,
 ⟨some 94, .idxa 64 1 false (.t 90) (.t 91), none⟩,
 ⟨some 10, .mov (.t 93), none⟩,
 ⟨some 11, .mov (.t 94), none⟩])
 (.seq (.dreg [⟨some 95, .iada 8 1 (.t 9) (.k (.int .i64 7)), none⟩,
 ⟨some 96, .load 1 false (.t 95), none⟩,
 ⟨some 97, .iada 8 1 (.t 9) (.k (.int .i64 4)), none⟩,
 ⟨some 98, .load 1 false (.t 97), none⟩,
 ⟨some 99, .mks true 1 8 false [.int .i64 0, .int .i64 0, .int .i64 0] 3 [(0, (.k (.int .i64 6))), (1, (.k (.int .i64 11))), (2, (.k (.int .i64 25)))], none⟩,
 ⟨some 100, .call (.k (.fn (.func 32) [] [])) [(.t 98), (.t 99)], none⟩,
 ⟨some 101, .bin .add .num (.t 96) (.t 100), none⟩,
 ⟨some 102, .iada 8 1 (.t 9) (.k (.int .i64 4)), none⟩,
 ⟨some 103, .load 1 false (.t 102), none⟩,
 ⟨some 104, .iada 8 1 (.t 9) (.k (.int .i64 5)), none⟩,
 ⟨some 105, .load 1 false (.t 104), none⟩,
 ⟨some 106, .bin .and .num (.t 103) (.t 105), none⟩,
 ⟨some 107, .iada 8 1 (.t 9) (.k (.int .i64 4)), none⟩,
 ⟨some 108, .load 1 false (.t 107), none⟩,
 ⟨some 109, .un .xor (.t 108), none⟩,
 ⟨some 110, .iada 8 1 (.t 9) (.k (.int .i64 6)), none⟩,
 ⟨some 111, .load 1 false (.t 110), none⟩,
 ⟨some 112, .bin .and .num (.t 109) (.t 111), none⟩,
 ⟨some 113, .bin .xor .num (.t 106) (.t 112), none⟩,
 ⟨some 114, .bin .add .num (.t 101) (.t 113), none⟩,
 ⟨some 115, .mov (.t 11), none⟩,
 ⟨some 116, .bin .add .num (.t 114) (.t 115), none⟩,
 ⟨some 117, .mov (.t 10), none⟩,
 ⟨some 118, .iada 64 1 (.t 5) (.t 117), none⟩,
 ⟨some 119, .load 1 false (.t 118), none⟩,
 ⟨some 120, .bin .add .num (.t 116) (.t 119), none⟩,
 ⟨some 12, .mov (.t 120), none⟩] (.lin [] [(0, none), (1, none), (2, none), (3, none), (4, none), (7, none), (8, none), (9, none), (10, none), (11, none), (12, none), (13, none), (14, none), (15, none), (16, none), (17, none), (18, none), (20, none), (22, none), (23, none), (24, none), (5, some [0, 1, 7, 8, 9, 10, 11, 12, 13, 14, 15, 16, 17, 18, 20, 22, 23, 24]), (6, none), (19, none), (21, none), (25, none), (26, none)]))
 (.seq (.dreg [⟨some 121, .iada 8 1 (.t 9) (.k (.int .i64 0)), none⟩,
 ⟨some 122, .load 1 false (.t 121), none⟩,
 ⟨some 123, .mks true 1 8 false [.int .i64 0, .int .i64 0, .int .i64 0] 3 [(0, (.k (.int .i64 2))), (1, (.k (.int .i64 13))), (2, (.k (.int .i64 22)))], none⟩,
 ⟨some 124, .call (.k (.fn (.func 32) [] [])) [(.t 122), (.t 123)], none⟩,
 ⟨some 125, .iada 8 1 (.t 9) (.k (.int .i64 0)), none⟩,
 ⟨some 126, .load 1 false (.t 125), none⟩,
 ⟨some 127, .iada 8 1 (.t 9) (.k (.int .i64 1)), none⟩,
 ⟨some 128, .load 1 false (.t 127), none⟩,
 ⟨some 129, .bin .and .num (.t 126) (.t 128), none⟩,
 ⟨some 130, .iada 8 1 (.t 9) (.k (.int .i64 0)), none⟩,
 ⟨some 131, .load 1 false (.t 130), none⟩,
 ⟨some 132, .iada 8 1 (.t 9) (.k (.int .i64 2)), none⟩,
 ⟨some 133, .load 1 false (.t 132), none⟩,
 ⟨some 134, .bin .and .num (.t 131) (.t 133), none⟩,
 ⟨some 135, .bin .xor .num (.t 129) (.t 134), none⟩,
 ⟨some 136, .iada 8 1 (.t 9) (.k (.int .i64 1)), none⟩,
 ⟨some 137, .load 1 false (.t 136), none⟩,
 ⟨some 138, .iada 8 1 (.t 9) (.k (.int .i64 2)), none⟩,
 ⟨some 139, .load 1 false (.t 138), none⟩,
 ⟨some 140, .bin .and .num (.t 137) (.t 139), none⟩,
 ⟨some 141, .bin .xor .num (.t 135) (.t 140), none⟩,
 ⟨some 142, .bin .add .num (.t 124) (.t 141), none⟩,
 ⟨some 13, .mov (.t 142), none⟩] (.lin [] [(0, none), (1, none), (2, none), (4, none), (5, none), (6, none), (7, none), (8, none), (9, none), (10, none), (11, none), (12, none), (13, none), (14, none), (15, none), (16, none), (17, none), (18, none), (19, none), (20, none), (3, some [4, 5, 6, 7, 8, 9, 10, 11, 12, 13, 14, 15, 16, 17, 18, 19, 20]), (21, none), (22, none)]))
 (.seq (.dreg [⟨some 143, .slca 8 1 false (.t 9) (some (.k (.int .i64 1))) none none, none⟩,
 ⟨some 144, .slca 8 1 false (.t 9) none (some (.k (.int .i64 7))) none, none⟩,
 ⟨some 145, .cpy 1 (.t 143) (.t 144), none⟩] (.lin [] [(0, none), (1, none), (2, some [])]))
 (.seq (.reg [⟨some 146, .iada 8 1 (.t 9) (.k (.int .i64 4)), none⟩,
 ⟨some 147, .load 1 false (.t 146), none⟩,
 ⟨some 148, .mov (.t 12), none⟩,
 ⟨some 149, .bin .add .num (.t 147) (.t 148), none⟩,
 ⟨some 150, .iada 8 1 (.t 9) (.k (.int .i64 4)), none⟩,
 ⟨none, .store 1 (.t 150) (.t 149), none⟩])
 (.reg [⟨some 151, .mov (.t 12), none⟩,
 ⟨some 152, .mov (.t 13), none⟩,
 ⟨some 153, .bin .add .num (.t 151) (.t 152), none⟩,
 ⟨some 154, .iada 8 1 (.t 9) (.k (.int .i64 0)), none⟩,
 ⟨none, .store 1 (.t 154) (.t 153), none⟩])))))))
 (.reg [⟨some 155, .bin .add .num (.t 91) (.k (.int .i64 1)), none⟩,
 ⟨some 91, .mov (.t 155), none⟩])))))))
 (.seq (.seq (.reg [⟨some 156, .mov (.k (.int .i64 0)), none⟩])
 (.block 4
 (.loop
 (.seq (.reg [⟨some 157, .bin .lss .num (.t 156) (.k (.int .i64 8)), none⟩])
 (.seq (.cond (.t 157)
 .skip
 (.exit 4))
 (.seq (.block 5
 (.seq (.reg [⟨some 158, .mov (.t 156), none⟩,
 ⟨some 14, .mov (.t 158), none⟩])
 (.dreg [⟨some 159, .mov (.t 14), none⟩,
 ⟨some 160, .iada 8 1 (.t 2) (.t 159), none⟩,
 ⟨some 161, .load 1 false (.t 160), none⟩,
 ⟨some 162, .mov (.t 14), none⟩,
 ⟨some 163, .iada 8 1 (.t 9) (.t 162), none⟩,
 ⟨some 164, .load 1 false (.t 163), none⟩,
 ⟨some 165, .bin .add .num (.t 161) (.t 164), none⟩,
 ⟨some 166, .iada 8 1 (.t 2) (.t 159), none⟩,
 ⟨none, .store 1 (.t 166) (.t 165), none⟩] (.lin [] [(0, none), (1, none), (2, none), (3, none), (4, none), (5, none), (6, none), (7, none), (8, some [])]))))
 (.reg [⟨some 167, .bin .add .num (.t 156) (.k (.int .i64 1)), none⟩,
 ⟨some 156, .mov (.t 167), none⟩])))))))
 (.seq (.reg [⟨some 168, .load 8 true (.t 2), none⟩,
 ⟨none, .store 8 (.t 4) (.t 168), none⟩])
 .ret)))))))⟩

/-- 26: signetring/stream.word -/
def F26 : Fun :=
 ⟨25, 1, [.t 2],
 (.seq (.reg [⟨some 2, .mov (.k (.int .u32 0)), none⟩])
 (.seq (.dreg [⟨some 3, .mov (.t 0), none⟩,
 ⟨some 4, .iad 1 (.t 3) (.k (.int .i64 0)), none⟩,
 ⟨some 5, .load 1 false (.t 4), none⟩,
 ⟨some 6, .cvi .u32 (.t 5), none⟩,
 ⟨some 7, .mov (.t 0), none⟩,
 ⟨some 8, .iad 1 (.t 7) (.k (.int .i64 1)), none⟩,
 ⟨some 9, .load 1 false (.t 8), none⟩,
 ⟨some 10, .cvi .u32 (.t 9), none⟩,
 ⟨some 11, .bin .shl .num (.t 10) (.k (.int .u64 8)), none⟩,
 ⟨some 12, .bin .or .num (.t 6) (.t 11), none⟩,
 ⟨some 13, .mov (.t 0), none⟩,
 ⟨some 14, .iad 1 (.t 13) (.k (.int .i64 2)), none⟩,
 ⟨some 15, .load 1 false (.t 14), none⟩,
 ⟨some 16, .cvi .u32 (.t 15), none⟩,
 ⟨some 17, .bin .shl .num (.t 16) (.k (.int .u64 16)), none⟩,
 ⟨some 18, .bin .or .num (.t 12) (.t 17), none⟩,
 ⟨some 19, .mov (.t 0), none⟩,
 ⟨some 20, .iad 1 (.t 19) (.k (.int .i64 3)), none⟩,
 ⟨some 21, .load 1 false (.t 20), none⟩,
 ⟨some 22, .cvi .u32 (.t 21), none⟩,
 ⟨some 23, .bin .shl .num (.t 22) (.k (.int .u64 24)), none⟩,
 ⟨some 24, .bin .or .num (.t 18) (.t 23), none⟩,
 ⟨some 2, .mov (.t 24), none⟩] (.lin [] [(0, none), (1, none), (2, none), (3, none), (4, none), (5, none), (6, none), (7, none), (8, none), (9, none), (10, none), (11, none), (12, none), (13, none), (14, none), (15, none), (16, none), (17, none), (18, none), (19, none), (20, none), (21, none), (22, none)]))
 .ret))⟩

/-- 27: (*signetring/stream.words).quarter -/
def F27 : Fun :=
 ⟨81, 5, [],
 (.seq (.reg [⟨some 12, .build [.int .i64 0, .int .i64 0] [(0, 1, (.k (.int .i64 16))), (1, 1, (.k (.int .i64 12)))], none⟩,
 ⟨some 13, .build [.int .i64 0, .int .i64 0] [(0, 1, (.k (.int .i64 8))), (1, 1, (.k (.int .i64 7)))], none⟩,
 ⟨some 14, .build [.int .i64 0, .int .i64 0, .int .i64 0, .int .i64 0] [(0, 2, (.t 12)), (2, 2, (.t 13))], none⟩,
 ⟨some 15, .mov (.k (.int .i64 0)), none⟩])
 (.block 0
 (.loop
 (.seq (.reg [⟨some 16, .bin .lss .num (.t 15) (.k (.int .i64 2)), none⟩])
 (.seq (.cond (.t 16)
 .skip
 (.exit 0))
 (.seq (.block 1
 (.seq (.reg [⟨some 17, .idxa 2 2 true (.t 14) (.t 15), none⟩,
 ⟨some 11, .new [.int .i64 0, .int .i64 0] none, none⟩,
 ⟨none, .store 2 (.t 11) (.t 17), none⟩])
 (.seq (.dreg [⟨some 18, .mov (.t 0), none⟩,
 ⟨some 19, .mov (.t 1), none⟩,
 ⟨some 20, .nilck (.t 18), none⟩,
 ⟨some 21, .iada 16 1 (.t 20) (.t 19), none⟩,
 ⟨some 22, .load 1 false (.t 21), none⟩,
 ⟨some 23, .mov (.t 0), none⟩,
 ⟨some 24, .mov (.t 2), none⟩,
 ⟨some 25, .nilck (.t 23), none⟩,
 ⟨some 26, .iada 16 1 (.t 25) (.t 24), none⟩,
 ⟨some 27, .load 1 false (.t 26), none⟩,
 ⟨some 28, .bin .add .num (.t 22) (.t 27), none⟩,
 ⟨some 29, .nilck (.t 18), none⟩,
 ⟨some 30, .iada 16 1 (.t 29) (.t 19), none⟩,
 ⟨none, .store 1 (.t 30) (.t 28), none⟩] (.lin [] [(0, none), (1, none), (2, none), (3, none), (4, none), (5, none), (6, none), (7, none), (8, none), (9, none), (10, none), (11, none), (12, none), (13, some [])]))
 (.seq (.dreg [⟨some 31, .mov (.t 0), none⟩,
 ⟨some 32, .mov (.t 4), none⟩,
 ⟨some 33, .mov (.t 0), none⟩,
 ⟨some 34, .mov (.t 4), none⟩,
 ⟨some 35, .nilck (.t 33), none⟩,
 ⟨some 36, .iada 16 1 (.t 35) (.t 34), none⟩,
 ⟨some 37, .load 1 false (.t 36), none⟩,
 ⟨some 38, .mov (.t 0), none⟩,
 ⟨some 39, .mov (.t 1), none⟩,
 ⟨some 40, .nilck (.t 38), none⟩,
 ⟨some 41, .iada 16 1 (.t 40) (.t 39), none⟩,
 ⟨some 42, .load 1 false (.t 41), none⟩,
 ⟨some 43, .bin .xor .num (.t 37) (.t 42), none⟩,
 ⟨some 44, .iada 2 1 (.t 11) (.k (.int .i64 0)), none⟩,
 ⟨some 45, .load 1 false (.t 44), none⟩,
 ⟨some 46, .call (.k (.fn (.func 33) [] [])) [(.t 43), (.t 45)], none⟩,
 ⟨some 47, .nilck (.t 31), none⟩,
 ⟨some 48, .iada 16 1 (.t 47) (.t 32), none⟩,
 ⟨none, .store 1 (.t 48) (.t 46), none⟩] (.lin [] [(0, none), (1, none), (2, none), (3, none), (4, none), (5, none), (6, none), (7, none), (8, none), (9, none), (10, none), (11, none), (12, none), (13, none), (14, none), (16, none), (15, some [0, 1, 16]), (17, none), (18, some [])]))
 (.seq (.dreg [⟨some 49, .mov (.t 0), none⟩,
 ⟨some 50, .mov (.t 3), none⟩,
 ⟨some 51, .nilck (.t 49), none⟩,
 ⟨some 52, .iada 16 1 (.t 51) (.t 50), none⟩,
 ⟨some 53, .load 1 false (.t 52), none⟩,
 ⟨some 54, .mov (.t 0), none⟩,
 ⟨some 55, .mov (.t 4), none⟩,
 ⟨some 56, .nilck (.t 54), none⟩,
 ⟨some 57, .iada 16 1 (.t 56) (.t 55), none⟩,
 ⟨some 58, .load 1 false (.t 57), none⟩,
 ⟨some 59, .bin .add .num (.t 53) (.t 58), none⟩,
 ⟨some 60, .nilck (.t 49), none⟩,
 ⟨some 61, .iada 16 1 (.t 60) (.t 50), none⟩,
 ⟨none, .store 1 (.t 61) (.t 59), none⟩] (.lin [] [(0, none), (1, none), (2, none), (3, none), (4, none), (5, none), (6, none), (7, none), (8, none), (9, none), (10, none), (11, none), (12, none), (13, some [])]))
 (.dreg [⟨some 62, .mov (.t 0), none⟩,
 ⟨some 63, .mov (.t 2), none⟩,
 ⟨some 64, .mov (.t 0), none⟩,
 ⟨some 65, .mov (.t 2), none⟩,
 ⟨some 66, .nilck (.t 64), none⟩,
 ⟨some 67, .iada 16 1 (.t 66) (.t 65), none⟩,
 ⟨some 68, .load 1 false (.t 67), none⟩,
 ⟨some 69, .mov (.t 0), none⟩,
 ⟨some 70, .mov (.t 3), none⟩,
 ⟨some 71, .nilck (.t 69), none⟩,
 ⟨some 72, .iada 16 1 (.t 71) (.t 70), none⟩,
 ⟨some 73, .load 1 false (.t 72), none⟩,
 ⟨some 74, .bin .xor .num (.t 68) (.t 73), none⟩,
 ⟨some 75, .iada 2 1 (.t 11) (.k (.int .i64 1)), none⟩,
 ⟨some 76, .load 1 false (.t 75), none⟩,
 ⟨some 77, .call (.k (.fn (.func 33) [] [])) [(.t 74), (.t 76)], none⟩,
 ⟨some 78, .nilck (.t 62), none⟩,
 ⟨some 79, .iada 16 1 (.t 78) (.t 63), none⟩,
 ⟨none, .store 1 (.t 79) (.t 77), none⟩] (.lin [] [(0, none), (1, none), (2, none), (3, none), (4, none), (5, none), (6, none), (7, none), (8, none), (9, none), (10, none), (11, none), (12, none), (13, none), (14, none), (16, none), (15, some [0, 1, 16]), (17, none), (18, some [])])))))))
 (.reg [⟨some 80, .bin .add .num (.t 15) (.k (.int .i64 1)), none⟩,
 ⟨some 15, .mov (.t 80), none⟩])))))))⟩

/-- 28: signetring/tag.word -/
def F28 : Fun :=
 ⟨20, 1, [.t 2],
 (.seq (.reg [⟨some 2, .mov (.k (.int .u64 0)), none⟩])
 (.seq (.reg [⟨some 3, .mov (.k (.int .u64 0)), none⟩])
 (.seq (.seq (.reg [⟨some 5, .mov (.k (.int .i64 0)), none⟩])
 (.block 0
 (.loop
 (.seq (.reg [⟨some 6, .bin .lss .num (.t 5) (.k (.int .i64 8)), none⟩])
 (.seq (.cond (.t 6)
 .skip
 (.exit 0))
 (.seq (.block 1
 (.seq (.reg [⟨some 7, .mov (.t 5), none⟩,
 ⟨some 4, .mov (.t 7), none⟩])
 (.reg [⟨some 8, .mov (.t 3), none⟩,
 ⟨some 9, .mov (.t 0), none⟩,
 ⟨some 10, .mov (.t 4), none⟩,
 ⟨some 11, .iad 1 (.t 9) (.t 10), none⟩,
 ⟨some 12, .load 1 false (.t 11), none⟩,
 ⟨some 13, .cvi .u64 (.t 12), none⟩,
 ⟨some 14, .mov (.t 4), none⟩,
 ⟨some 15, .bin .mul .num (.k (.int .i64 8)) (.t 14), none⟩,
 ⟨some 16, .bin .shl .num (.t 13) (.t 15), none⟩,
 ⟨some 17, .bin .or .num (.t 8) (.t 16), none⟩,
 ⟨some 3, .mov (.t 17), none⟩])))
 (.reg [⟨some 18, .bin .add .num (.t 5) (.k (.int .i64 1)), none⟩,
 ⟨some 5, .mov (.t 18), none⟩])))))))
 (.seq (.reg [⟨some 19, .mov (.t 3), none⟩,
 ⟨some 2, .mov (.t 19), none⟩])
 .ret))))⟩

/-- 29: (signetring/tag.number).plus -/
def F29 : Fun :=
 ⟨25, 2, [.c 4 3 true],
 (.seq (.reg [⟨some 2, .box none (.t 0), none⟩,
 ⟨some 3, .box none (.t 1), none⟩,
 ⟨some 4, .new [.int .u64 0, .int .u64 0, .int .u64 0] none, none⟩])
 (.seq (.reg [⟨some 5, .mov (.k (.int .u64 0)), none⟩])
 (.seq (.seq (.reg [⟨some 7, .mov (.k (.int .i64 0)), none⟩])
 (.block 0
 (.loop
 (.seq (.reg [⟨some 8, .bin .lss .num (.t 7) (.k (.int .i64 3)), none⟩])
 (.seq (.cond (.t 8)
 .skip
 (.exit 0))
 (.seq (.block 1
 (.seq (.reg [⟨some 9, .mov (.t 7), none⟩,
 ⟨some 6, .mov (.t 9), none⟩])
 (.dreg [⟨some 11, .mov (.t 6), none⟩,
 ⟨some 12, .mov (.t 6), none⟩,
 ⟨some 13, .iada 3 1 (.t 2) (.t 12), none⟩,
 ⟨some 14, .load 1 false (.t 13), none⟩,
 ⟨some 15, .mov (.t 6), none⟩,
 ⟨some 16, .iada 3 1 (.t 3) (.t 15), none⟩,
 ⟨some 17, .load 1 false (.t 16), none⟩,
 ⟨some 18, .mov (.t 5), none⟩,
 ⟨some 19, .j (.adc (.t 14) (.t 17) (.t 18)), none⟩,
 ⟨some 10, .mov (.t 19), none⟩,
 ⟨some 20, .ext (.t 10) 0, none⟩,
 ⟨some 21, .ext (.t 10) 1, none⟩,
 ⟨some 22, .iada 3 1 (.t 2) (.t 11), none⟩,
 ⟨none, .store 1 (.t 22) (.t 20), none⟩,
 ⟨some 5, .mov (.t 21), none⟩] (.lin [] [(0, none), (1, none), (2, none), (3, none), (4, none), (5, none), (6, none), (7, none), (8, none), (9, none), (10, none), (11, none), (12, none), (13, some [11]), (14, some [])]))))
 (.reg [⟨some 23, .bin .add .num (.t 7) (.k (.int .i64 1)), none⟩,
 ⟨some 7, .mov (.t 23), none⟩])))))))
 (.seq (.reg [⟨some 24, .load 3 true (.t 2), none⟩,
 ⟨none, .store 3 (.t 4) (.t 24), none⟩])
 .ret))))⟩

/-- 30: (signetring/tag.number).times -/
def F30 : Fun :=
 ⟨108, 2, [.c 4 3 true],
 (.seq (.reg [⟨some 2, .box none (.t 0), none⟩,
 ⟨some 3, .box none (.t 1), none⟩,
 ⟨some 4, .new [.int .u64 0, .int .u64 0, .int .u64 0] none, none⟩])
 (.seq (.reg [⟨some 5, .new [.int .u64 0, .int .u64 0, .int .u64 0, .int .u64 0, .int .u64 0] none, none⟩])
 (.seq (.seq (.reg [⟨some 17, .load 3 true (.t 2), none⟩,
 ⟨some 18, .mov (.k (.int .i64 0)), none⟩])
 (.block 0
 (.loop
 (.seq (.reg [⟨some 19, .bin .lss .num (.t 18) (.k (.int .i64 3)), none⟩])
 (.seq (.cond (.t 19)
 .skip
 (.exit 0))
 (.seq (.block 1
 (.seq (.reg [⟨some 20, .mov (.t 18), none⟩,
 ⟨some 21, .idxa 3 1 false (.t 17) (.t 18), none⟩,
 ⟨some 6, .mov (.t 20), none⟩,
 ⟨some 7, .mov (.t 21), none⟩])
 (.seq (.reg [⟨some 8, .mov (.k (.int .u64 0)), none⟩])
 (.seq (.seq (.reg [⟨some 22, .load 2 true (.t 3), none⟩,
 ⟨some 23, .mov (.k (.int .i64 0)), none⟩])
 (.block 2
 (.loop
 (.seq (.reg [⟨some 24, .bin .lss .num (.t 23) (.k (.int .i64 2)), none⟩])
 (.seq (.cond (.t 24)
 .skip
 (.exit 2))
 (.seq (.block 3
 (.seq (.reg [⟨some 25, .mov (.t 23), none⟩,
 ⟨some 26, .idxa 2 1 false (.t 22) (.t 23), none⟩,
 ⟨some 9, .mov (.t 25), none⟩,
 ⟨some 10, .mov (.t 26), none⟩])
 (.seq (.reg [⟨some 28, .mov (.t 7), none⟩,
 ⟨some 29, .mov (.t 10), none⟩,
 ⟨some 30, .call (.k (.fn (.func 35) [] [])) [(.t 28), (.t 29)], none⟩,
 ⟨some 27, .mov (.t 30), none⟩,
 ⟨some 31, .ext (.t 27) 0, none⟩,
 ⟨some 32, .ext (.t 27) 1, none⟩,
 ⟨some 11, .mov (.t 31), none⟩,
 ⟨some 12, .mov (.t 32), none⟩])
 (.seq (.reg [⟨some 13, .mov (.k (.int .u64 0)), none⟩])
 (.seq (.reg [⟨some 34, .mov (.t 12), none⟩,
 ⟨some 35, .mov (.t 6), none⟩,
 ⟨some 36, .mov (.t 9), none⟩,
 ⟨some 37, .bin .add .num (.t 35) (.t 36), none⟩,
 ⟨some 38, .iada 5 1 (.t 5) (.t 37), none⟩,
 ⟨some 39, .load 1 false (.t 38), none⟩,
 ⟨some 40, .j (.adc (.t 34) (.t 39) (.k (.int .u64 0))), none⟩,
 ⟨some 33, .mov (.t 40), none⟩,
 ⟨some 41, .ext (.t 33) 0, none⟩,
 ⟨some 42, .ext (.t 33) 1, none⟩,
 ⟨some 12, .mov (.t 41), none⟩,
 ⟨some 13, .mov (.t 42), none⟩])
 (.seq (.reg [⟨some 43, .mov (.t 11), none⟩,
 ⟨some 44, .mov (.t 13), none⟩,
 ⟨some 45, .bin .add .num (.t 43) (.t 44), none⟩,
 ⟨some 11, .mov (.t 45), none⟩])
 (.seq (.reg [⟨some 47, .mov (.t 12), none⟩,
 ⟨some 48, .mov (.t 8), none⟩,
 ⟨some 49, .j (.adc (.t 47) (.t 48) (.k (.int .u64 0))), none⟩,
 ⟨some 46, .mov (.t 49), none⟩,
 ⟨some 50, .ext (.t 46) 0, none⟩,
 ⟨some 51, .ext (.t 46) 1, none⟩,
 ⟨some 12, .mov (.t 50), none⟩,
 ⟨some 13, .mov (.t 51), none⟩])
 (.seq (.reg [⟨some 52, .mov (.t 11), none⟩,
 ⟨some 53, .mov (.t 13), none⟩,
 ⟨some 54, .bin .add .num (.t 52) (.t 53), none⟩,
 ⟨some 8, .mov (.t 54), none⟩])
 (.reg [⟨some 55, .mov (.t 6), none⟩,
 ⟨some 56, .mov (.t 9), none⟩,
 ⟨some 57, .bin .add .num (.t 55) (.t 56), none⟩,
 ⟨some 58, .mov (.t 12), none⟩,
 ⟨some 59, .iada 5 1 (.t 5) (.t 57), none⟩,
 ⟨none, .store 1 (.t 59) (.t 58), none⟩])))))))))
 (.reg [⟨some 60, .bin .add .num (.t 23) (.k (.int .i64 1)), none⟩,
 ⟨some 23, .mov (.t 60), none⟩])))))))
 (.reg [⟨some 61, .mov (.t 6), none⟩,
 ⟨some 62, .bin .add .num (.t 61) (.k (.int .i64 2)), none⟩,
 ⟨some 63, .iada 5 1 (.t 5) (.t 62), none⟩,
 ⟨some 64, .load 1 false (.t 63), none⟩,
 ⟨some 65, .mov (.t 8), none⟩,
 ⟨some 66, .bin .add .num (.t 64) (.t 65), none⟩,
 ⟨some 67, .iada 5 1 (.t 5) (.t 62), none⟩,
 ⟨none, .store 1 (.t 67) (.t 66), none⟩])))))
 (.reg [⟨some 68, .bin .add .num (.t 18) (.k (.int .i64 1)), none⟩,
 ⟨some 18, .mov (.t 68), none⟩])))))))
 (.seq (.reg [⟨some 69, .iada 5 1 (.t 5) (.k (.int .i64 0)), none⟩,
 ⟨some 70, .load 1 false (.t 69), none⟩,
 ⟨some 71, .iada 5 1 (.t 5) (.k (.int .i64 1)), none⟩,
 ⟨some 72, .load 1 false (.t 71), none⟩,
 ⟨some 73, .iada 5 1 (.t 5) (.k (.int .i64 2)), none⟩,
 ⟨some 74, .load 1 false (.t 73), none⟩,
 ⟨some 75, .bin .and .num (.t 74) (.k (.int .u64 3)), none⟩,
 ⟨some 76, .build [.int .u64 0, .int .u64 0, .int .u64 0] [(0, 1, (.t 70)), (1, 1, (.t 72)), (2, 1, (.t 75))], none⟩,
 ⟨some 14, .new [.int .u64 0, .int .u64 0, .int .u64 0] none, none⟩,
 ⟨none, .store 3 (.t 14) (.t 76), none⟩])
 (.seq (.reg [⟨some 77, .iada 5 1 (.t 5) (.k (.int .i64 2)), none⟩,
 ⟨some 78, .load 1 false (.t 77), none⟩,
 ⟨some 79, .bin .andNot .num (.t 78) (.k (.int .u64 3)), none⟩,
 ⟨some 80, .iada 5 1 (.t 5) (.k (.int .i64 3)), none⟩,
 ⟨some 81, .load 1 false (.t 80), none⟩,
 ⟨some 82, .iada 5 1 (.t 5) (.k (.int .i64 4)), none⟩,
 ⟨some 83, .load 1 false (.t 82), none⟩,
 ⟨some 84, .build [.int .u64 0, .int .u64 0, .int .u64 0] [(0, 1, (.t 79)), (1, 1, (.t 81)), (2, 1, (.t 83))], none⟩,
 ⟨some 15, .new [.int .u64 0, .int .u64 0, .int .u64 0] none, none⟩,
 ⟨none, .store 3 (.t 15) (.t 84), none⟩])
 (.seq (.reg [⟨some 85, .iada 5 1 (.t 5) (.k (.int .i64 2)), none⟩,
 ⟨some 86, .load 1 false (.t 85), none⟩,
 ⟨some 87, .bin .shr .num (.t 86) (.k (.int .u64 2)), none⟩,
 ⟨some 88, .iada 5 1 (.t 5) (.k (.int .i64 3)), none⟩,
 ⟨some 89, .load 1 false (.t 88), none⟩,
 ⟨some 90, .bin .shl .num (.t 89) (.k (.int .u64 62)), none⟩,
 ⟨some 91, .bin .or .num (.t 87) (.t 90), none⟩,
 ⟨some 92, .iada 5 1 (.t 5) (.k (.int .i64 3)), none⟩,
 ⟨some 93, .load 1 false (.t 92), none⟩,
 ⟨some 94, .bin .shr .num (.t 93) (.k (.int .u64 2)), none⟩,
 ⟨some 95, .iada 5 1 (.t 5) (.k (.int .i64 4)), none⟩,
 ⟨some 96, .load 1 false (.t 95), none⟩,
 ⟨some 97, .bin .shl .num (.t 96) (.k (.int .u64 62)), none⟩,
 ⟨some 98, .bin .or .num (.t 94) (.t 97), none⟩,
 ⟨some 99, .iada 5 1 (.t 5) (.k (.int .i64 4)), none⟩,
 ⟨some 100, .load 1 false (.t 99), none⟩,
 ⟨some 101, .bin .shr .num (.t 100) (.k (.int .u64 2)), none⟩,
 ⟨some 102, .build [.int .u64 0, .int .u64 0, .int .u64 0] [(0, 1, (.t 91)), (1, 1, (.t 98)), (2, 1, (.t 101))], none⟩,
 ⟨some 16, .new [.int .u64 0, .int .u64 0, .int .u64 0] none, none⟩,
 ⟨none, .store 3 (.t 16) (.t 102), none⟩])
 (.seq (.dreg [⟨some 103, .load 3 true (.t 14), none⟩,
 ⟨some 104, .load 3 true (.t 15), none⟩,
 ⟨some 105, .call (.k (.fn (.func 29) [] [])) [(.t 103), (.t 104)], none⟩,
 ⟨some 106, .load 3 true (.t 16), none⟩,
 ⟨some 107, .call (.k (.fn (.func 29) [] [])) [(.t 105), (.t 106)], none⟩,
 ⟨none, .store 3 (.t 4) (.t 107), none⟩] (.lin [] [(0, none), (1, none), (3, none), (2, some [3]), (4, some []), (5, some [])]))
 .ret)))))))⟩

/-- 31: slices.Grow[[]byte,byte] -/
def F31 : Fun :=
 ⟨27, 2, [.t 4],
 (.seq (.reg [⟨some 4, .mov (.k .nsl), none⟩])
 (.seq (.seq (.reg [⟨some 5, .mov (.t 1), none⟩,
 ⟨some 6, .bin .lss .num (.t 5) (.k (.int .i64 0)), none⟩])
 (.cond (.t 6)
 (.reg [⟨some 7, .mki 9 (.k (.str [99, 97, 110, 110, 111, 116, 32, 98, 101, 32, 110, 101, 103, 97, 116, 105, 118, 101])), none⟩,
 ⟨none, .pan (.t 7), none⟩])
 .skip))
 (.seq (.seq (.reg [⟨some 8, .mov (.t 1), none⟩,
 ⟨some 9, .mov (.t 0), none⟩,
 ⟨some 10, .j (.cap (.t 9)), none⟩,
 ⟨some 11, .mov (.t 0), none⟩,
 ⟨some 12, .len .slc (.t 11), none⟩,
 ⟨some 13, .bin .sub .num (.t 10) (.t 12), none⟩,
 ⟨some 14, .bin .sub .num (.t 8) (.t 13), none⟩,
 ⟨some 1, .mov (.t 14), none⟩])
 (.seq (.reg [⟨some 15, .mov (.t 1), none⟩,
 ⟨some 16, .bin .gtr .num (.t 15) (.k (.int .i64 0)), none⟩])
 (.cond (.t 16)
 (.reg [⟨some 17, .mov (.t 0), none⟩,
 ⟨some 18, .mov (.t 0), none⟩,
 ⟨some 19, .j (.cap (.t 18)), none⟩,
 ⟨some 20, .slc false 1 (.t 17) none (some (.t 19)) none, none⟩,
 ⟨some 21, .mov (.t 1), none⟩,
 ⟨some 22, .j (.apm 1 1 false [.int .u8 0] (.t 20) (.t 21)), none⟩,
 ⟨some 23, .mov (.t 0), none⟩,
 ⟨some 24, .len .slc (.t 23), none⟩,
 ⟨some 25, .slc false 1 (.t 22) none (some (.t 24)) none, none⟩,
 ⟨some 0, .mov (.t 25), none⟩])
 .skip)))
 (.seq (.reg [⟨some 26, .mov (.t 0), none⟩,
 ⟨some 4, .mov (.t 26), none⟩])
 .ret))))⟩

/-- 32: signetring/sha.turned -/
def F32 : Fun :=
 ⟨22, 2, [.t 4],
 (.seq (.reg [⟨some 4, .mov (.k (.int .u32 0)), none⟩])
 (.seq (.reg [⟨some 5, .mov (.k (.int .u32 0)), none⟩])
 (.seq (.seq (.reg [⟨some 8, .mov (.t 1), none⟩,
 ⟨some 9, .len .slc (.t 8), none⟩,
 ⟨some 10, .mov (.k (.int .i64 0)), none⟩])
 (.block 0
 (.loop
 (.seq (.reg [⟨some 11, .bin .lss .num (.t 10) (.t 9), none⟩])
 (.seq (.cond (.t 11)
 .skip
 (.exit 0))
 (.seq (.block 1
 (.seq (.reg [⟨some 12, .iad 1 (.t 8) (.t 10), none⟩,
 ⟨some 13, .load 1 false (.t 12), none⟩,
 ⟨some 7, .mov (.t 13), none⟩])
 (.reg [⟨some 14, .mov (.t 5), none⟩,
 ⟨some 15, .mov (.t 0), none⟩,
 ⟨some 16, .mov (.t 7), none⟩,
 ⟨some 17, .un .neg (.t 16), none⟩,
 ⟨some 18, .call (.k (.fn (.func 33) [] [])) [(.t 15), (.t 17)], none⟩,
 ⟨some 19, .bin .xor .num (.t 14) (.t 18), none⟩,
 ⟨some 5, .mov (.t 19), none⟩])))
 (.reg [⟨some 20, .bin .add .num (.t 10) (.k (.int .i64 1)), none⟩,
 ⟨some 10, .mov (.t 20), none⟩])))))))
 (.seq (.reg [⟨some 21, .mov (.t 5), none⟩,
 ⟨some 4, .mov (.t 21), none⟩])
 .ret))))⟩

/-- 33: math/bits.RotateLeft32 -/
def F33 : Fun :=
 ⟨17, 2, [.t 4],
 (.seq (.reg [⟨some 4, .mov (.k (.int .u32 0)), none⟩])
 (.seq (.reg [⟨some 6, .mov (.t 1), none⟩,
 ⟨some 7, .cvi .u64 (.t 6), none⟩,
 ⟨some 8, .bin .and .num (.t 7) (.k (.int .u64 31)), none⟩,
 ⟨some 5, .mov (.t 8), none⟩])
 (.seq (.reg [⟨some 9, .mov (.t 0), none⟩,
 ⟨some 10, .mov (.t 5), none⟩,
 ⟨some 11, .bin .shl .num (.t 9) (.t 10), none⟩,
 ⟨some 12, .mov (.t 0), none⟩,
 ⟨some 13, .mov (.t 5), none⟩,
 ⟨some 14, .bin .sub .num (.k (.int .u64 32)) (.t 13), none⟩,
 ⟨some 15, .bin .shr .num (.t 12) (.t 14), none⟩,
 ⟨some 16, .bin .or .num (.t 11) (.t 15), none⟩,
 ⟨some 4, .mov (.t 16), none⟩])
 .ret)))⟩

-- 34 math/bits.Add64: no body
/-- 35: math/bits.Mul64 -/
def F35 : Fun :=
 ⟨51, 2, [.t 4, .t 5],
 (.seq (.reg [⟨some 4, .mov (.k (.int .u64 0)), none⟩,
 ⟨some 5, .mov (.k (.int .u64 0)), none⟩])
 (.seq (.reg [⟨some 14, .mov (.t 0), none⟩,
 ⟨some 15, .bin .and .num (.t 14) (.k (.int .u64 4294967295)), none⟩,
 ⟨some 6, .mov (.t 15), none⟩])
 (.seq (.reg [⟨some 16, .mov (.t 0), none⟩,
 ⟨some 17, .bin .shr .num (.t 16) (.k (.int .u64 32)), none⟩,
 ⟨some 7, .mov (.t 17), none⟩])
 (.seq (.reg [⟨some 18, .mov (.t 1), none⟩,
 ⟨some 19, .bin .and .num (.t 18) (.k (.int .u64 4294967295)), none⟩,
 ⟨some 8, .mov (.t 19), none⟩])
 (.seq (.reg [⟨some 20, .mov (.t 1), none⟩,
 ⟨some 21, .bin .shr .num (.t 20) (.k (.int .u64 32)), none⟩,
 ⟨some 9, .mov (.t 21), none⟩])
 (.seq (.reg [⟨some 22, .mov (.t 6), none⟩,
 ⟨some 23, .mov (.t 8), none⟩,
 ⟨some 24, .bin .mul .num (.t 22) (.t 23), none⟩,
 ⟨some 10, .mov (.t 24), none⟩])
 (.seq (.reg [⟨some 25, .mov (.t 7), none⟩,
 ⟨some 26, .mov (.t 8), none⟩,
 ⟨some 27, .bin .mul .num (.t 25) (.t 26), none⟩,
 ⟨some 28, .mov (.t 10), none⟩,
 ⟨some 29, .bin .shr .num (.t 28) (.k (.int .u64 32)), none⟩,
 ⟨some 30, .bin .add .num (.t 27) (.t 29), none⟩,
 ⟨some 11, .mov (.t 30), none⟩])
 (.seq (.reg [⟨some 31, .mov (.t 11), none⟩,
 ⟨some 32, .bin .and .num (.t 31) (.k (.int .u64 4294967295)), none⟩,
 ⟨some 12, .mov (.t 32), none⟩])
 (.seq (.reg [⟨some 33, .mov (.t 11), none⟩,
 ⟨some 34, .bin .shr .num (.t 33) (.k (.int .u64 32)), none⟩,
 ⟨some 13, .mov (.t 34), none⟩])
 (.seq (.reg [⟨some 35, .mov (.t 12), none⟩,
 ⟨some 36, .mov (.t 6), none⟩,
 ⟨some 37, .mov (.t 9), none⟩,
 ⟨some 38, .bin .mul .num (.t 36) (.t 37), none⟩,
 ⟨some 39, .bin .add .num (.t 35) (.t 38), none⟩,
 ⟨some 12, .mov (.t 39), none⟩])
 (.seq (.reg [⟨some 40, .mov (.t 7), none⟩,
 ⟨some 41, .mov (.t 9), none⟩,
 ⟨some 42, .bin .mul .num (.t 40) (.t 41), none⟩,
 ⟨some 43, .mov (.t 13), none⟩,
 ⟨some 44, .bin .add .num (.t 42) (.t 43), none⟩,
 ⟨some 45, .mov (.t 12), none⟩,
 ⟨some 46, .bin .shr .num (.t 45) (.k (.int .u64 32)), none⟩,
 ⟨some 47, .bin .add .num (.t 44) (.t 46), none⟩,
 ⟨some 4, .mov (.t 47), none⟩])
 (.seq (.reg [⟨some 48, .mov (.t 0), none⟩,
 ⟨some 49, .mov (.t 1), none⟩,
 ⟨some 50, .bin .mul .num (.t 48) (.t 49), none⟩,
 ⟨some 5, .mov (.t 50), none⟩])
 .ret))))))))))))⟩

-- 36 (runtime.boundsError).Error: no body
-- 37 (runtime.boundsError).RuntimeError: no body
-- 38 (runtime.errorString).Error: no body
-- 39 (runtime.errorString).RuntimeError: no body
-- 40 (runtime.plainError).Error: no body
-- 41 (runtime.plainError).RuntimeError: no body
-- 42 (runtime.errorAddressString).Error: no body
-- 43 (runtime.errorAddressString).RuntimeError: no body
-- 44 (*runtime.TypeAssertionError).Error: no body
-- 45 (*runtime.TypeAssertionError).RuntimeError: no body
-- 46 (*runtime.PanicNilError).Error: no body
-- 47 (*runtime.PanicNilError).RuntimeError: no body
-- 48 (*internal/abi.Type).Align: no body
-- 49 (internal/runtime/maps.unhashableTypeError).Error: no body
-- 50 (internal/runtime/maps.unhashableTypeError).RuntimeError: no body
-- 51 (*signetring/term.Table).Dh: no body
/-- 52: (*signetring/term.Table).Hash -/
def F52 : Fun :=
 ⟨8, 2, [.t 4],
 (.seq (.reg [⟨some 4, .mov (.k (.str [])), none⟩])
 (.seq (.reg [⟨some 5, .mov (.t 0), none⟩,
 ⟨some 6, .mov (.t 1), none⟩,
 ⟨some 7, .call (.k (.fn (.func 56) [] [])) [(.t 5), (.k (.int .u8 4)), (.t 6)], none⟩,
 ⟨some 4, .mov (.t 7), none⟩])
 .ret))⟩

/-- 53: (*signetring/term.Table).Pub -/
def F53 : Fun :=
 ⟨9, 2, [.t 4],
 (.seq (.reg [⟨some 4, .mov (.k (.str [])), none⟩])
 (.seq (.reg [⟨some 5, .mov (.t 0), none⟩,
 ⟨some 6, .mov (.t 1), none⟩,
 ⟨some 7, .mks true 1 16 false [(.str [])] 1 [(0, (.t 6))], none⟩,
 ⟨some 8, .call (.k (.fn (.func 56) [] [])) [(.t 5), (.k (.int .u8 2)), (.t 7)], none⟩,
 ⟨some 4, .mov (.t 8), none⟩])
 .ret))⟩

/-- 54: (*signetring/term.Table).Seal -/
def F54 : Fun :=
 ⟨19, 5, [.t 10],
 (.seq (.reg [⟨some 10, .mov (.k (.str [])), none⟩])
 (.seq (.reg [⟨some 11, .mov (.t 0), none⟩,
 ⟨some 12, .mov (.t 1), none⟩,
 ⟨some 13, .mov (.t 2), none⟩,
 ⟨some 14, .call (.k (.fn (.func 57) [] [])) [(.t 13)], none⟩,
 ⟨some 15, .mov (.t 3), none⟩,
 ⟨some 16, .mov (.t 4), none⟩,
 ⟨some 17, .mks true 1 16 false [(.str []), (.str []), (.str []), (.str [])] 4 [(0, (.t 12)), (1, (.t 14)), (2, (.t 15)), (3, (.t 16))], none⟩,
 ⟨some 18, .call (.k (.fn (.func 56) [] [])) [(.t 11), (.k (.int .u8 5)), (.t 17)], none⟩,
 ⟨some 10, .mov (.t 18), none⟩])
 .ret))⟩

/-- 55: (*signetring/term.Table).good -/
def F55 : Fun :=
 ⟨12, 1, [.t 2],
 (.seq (.reg [⟨some 2, .mov (.k (.bool false)), none⟩])
 (.seq (.reg [⟨some 3, .mov (.t 0), none⟩,
 ⟨some 4, .bin .neq .ptr (.t 3) (.k .nptr), none⟩,
 ⟨some 5, .mov (.t 4), none⟩,
 ⟨some 6, .mov (.t 0), some (5, true)⟩,
 ⟨some 7, .nilck (.t 6), some (5, true)⟩,
 ⟨some 8, .fad 0 (.t 7), some (5, true)⟩,
 ⟨some 9, .load 1 false (.t 8), some (5, true)⟩,
 ⟨some 10, .bin .neq .map (.t 9) (.k .nmap), some (5, true)⟩,
 ⟨some 11, .pick (.t 5) (.t 10) (.k (.bool false)), none⟩,
 ⟨some 2, .mov (.t 11), none⟩])
 .ret))⟩

/-- 56: (*signetring/term.Table).put -/
def F56 : Fun :=
 ⟨70, 3, [.t 6],
 (.seq (.reg [⟨some 6, .mov (.k (.str [])), none⟩])
 (.seq (.reg [⟨some 13, .mov (.t 1), none⟩,
 ⟨some 14, .mov (.t 2), none⟩,
 ⟨some 15, .call (.k (.fn (.func 58) [] [])) [(.t 13), (.t 14)], none⟩,
 ⟨some 12, .mov (.t 15), none⟩,
 ⟨some 16, .ext (.t 12) 0, none⟩,
 ⟨some 17, .ext (.t 12) 1, none⟩,
 ⟨some 7, .mov (.t 16), none⟩,
 ⟨some 8, .mov (.t 17), none⟩])
 (.seq (.seq (.reg [⟨some 18, .mov (.t 0), none⟩,
 ⟨some 19, .call (.k (.fn (.func 55) [] [])) [(.t 18)], none⟩,
 ⟨some 20, .un .not (.t 19), none⟩,
 ⟨some 21, .mov (.t 20), none⟩,
 ⟨some 22, .mov (.t 8), some (21, false)⟩,
 ⟨some 23, .bin .neq .num (.t 22) (.k (.int .i64 0)), some (21, false)⟩,
 ⟨some 24, .pick (.t 21) (.k (.bool true)) (.t 23), none⟩])
 (.cond (.t 24)
 (.seq (.reg [⟨some 6, .mov (.k (.str [])), none⟩])
 .ret)
 .skip))
 (.seq (.seq (.reg [⟨some 26, .mov (.t 0), none⟩,
 ⟨some 27, .nilck (.t 26), none⟩,
 ⟨some 28, .fad 0 (.t 27), none⟩,
 ⟨some 29, .load 1 false (.t 28), none⟩,
 ⟨some 30, .mov (.t 7), none⟩,
 ⟨some 31, .look .str (.str []) (.t 29) (.t 30) true, none⟩,
 ⟨some 25, .mov (.t 31), none⟩,
 ⟨some 32, .ext (.t 25) 0, none⟩,
 ⟨some 33, .ext (.t 25) 1, none⟩,
 ⟨some 9, .mov (.t 32), none⟩,
 ⟨some 10, .mov (.t 33), none⟩])
 (.seq (.reg [⟨some 34, .mov (.t 10), none⟩])
 (.cond (.t 34)
 (.seq (.reg [⟨some 35, .mov (.t 9), none⟩,
 ⟨some 6, .mov (.t 35), none⟩])
 .ret)
 .skip)))
 (.seq (.reg [⟨some 36, .mov (.t 0), none⟩,
 ⟨some 37, .nilck (.t 36), none⟩,
 ⟨some 38, .fad 2 (.t 37), none⟩,
 ⟨some 39, .load 1 false (.t 38), none⟩,
 ⟨some 40, .len .slc (.t 39), none⟩,
 ⟨some 41, .bin .add .num (.t 40) (.k (.int .i64 1)), none⟩,
 ⟨some 42, .call (.k (.fn (.func 59) [] [])) [(.t 41)], none⟩,
 ⟨some 11, .mov (.t 42), none⟩])
 (.seq (.dreg [⟨some 43, .mov (.t 0), none⟩,
 ⟨some 44, .nilck (.t 43), none⟩,
 ⟨some 45, .fad 0 (.t 44), none⟩,
 ⟨some 46, .load 1 false (.t 45), none⟩,
 ⟨some 47, .mov (.t 7), none⟩,
 ⟨some 48, .mov (.t 0), none⟩,
 ⟨some 49, .nilck (.t 48), none⟩,
 ⟨some 50, .fad 1 (.t 49), none⟩,
 ⟨some 51, .load 1 false (.t 50), none⟩,
 ⟨some 52, .mov (.t 11), none⟩,
 ⟨some 53, .mov (.t 11), none⟩,
 ⟨some 54, .mov (.t 7), none⟩,
 ⟨some 55, .ment .str (.str []) (.t 46) (.t 47), none⟩,
 ⟨some 56, .ext (.t 55) 1, none⟩,
 ⟨none, .ests (.t 46) (.t 56) (.t 53), none⟩,
 ⟨some 57, .ment .str (.str []) (.t 51) (.t 52), none⟩,
 ⟨some 58, .ext (.t 57) 1, none⟩,
 ⟨none, .ests (.t 51) (.t 58) (.t 54), none⟩] (.lin [] [(0, none), (1, none), (2, none), (3, none), (4, none), (5, none), (6, none), (7, none), (8, none), (9, none), (10, none), (11, none), (12, some [9, 10, 11]), (13, none), (14, some [9, 11]), (15, some [11]), (16, none), (17, some [])]))
 (.seq (.reg [⟨some 59, .mov (.t 0), none⟩,
 ⟨some 60, .mov (.t 0), none⟩,
 ⟨some 61, .nilck (.t 60), none⟩,
 ⟨some 62, .fad 2 (.t 61), none⟩,
 ⟨some 63, .load 1 false (.t 62), none⟩,
 ⟨some 64, .mov (.t 11), none⟩,
 ⟨some 65, .mks true 1 16 false [(.str [])] 1 [(0, (.t 64))], none⟩,
 ⟨some 66, .app 1 16 false none (.t 63) (.t 65), none⟩,
 ⟨some 67, .nilck (.t 59), none⟩,
 ⟨some 68, .fad 2 (.t 67), none⟩,
 ⟨none, .store 1 (.t 68) (.t 66), none⟩])
 (.seq (.reg [⟨some 69, .mov (.t 11), none⟩,
 ⟨some 6, .mov (.t 69), none⟩])
 .ret))))))))⟩

/-- 57: signetring/codec.Num -/
def F57 : Fun :=
 ⟨27, 1, [.t 2],
 (.seq (.reg [⟨some 2, .mov (.k (.str [])), none⟩])
 (.seq (.reg [⟨some 3, .mov (.k .nsl), none⟩])
 (.seq (.seq (.reg [⟨some 4, .mov (.k (.int .i64 56)), none⟩])
 (.block 0
 (.loop
 (.seq (.seq (.reg [⟨some 6, .mov (.t 4), none⟩,
 ⟨some 7, .bin .geq .num (.t 6) (.k (.int .i64 0)), none⟩])
 (.cond (.t 7)
 .skip
 (.exit 0)))
 (.seq (.block 1
 (.seq (.reg [⟨some 10, .mov (.t 0), none⟩,
 ⟨some 11, .mov (.t 4), none⟩,
 ⟨some 12, .bin .shr .num (.t 10) (.t 11), none⟩,
 ⟨some 13, .cvi .u8 (.t 12), none⟩,
 ⟨some 5, .mov (.t 13), none⟩])
 (.seq (.reg [⟨some 14, .mov (.t 5), none⟩,
 ⟨some 15, .bin .neq .num (.t 14) (.k (.int .u8 0)), none⟩,
 ⟨some 16, .mov (.t 15), none⟩,
 ⟨some 17, .mov (.t 3), some (16, false)⟩,
 ⟨some 18, .len .slc (.t 17), some (16, false)⟩,
 ⟨some 19, .bin .gtr .num (.t 18) (.k (.int .i64 0)), some (16, false)⟩,
 ⟨some 20, .pick (.t 16) (.k (.bool true)) (.t 19), none⟩])
 (.cond (.t 20)
 (.reg [⟨some 21, .mov (.t 3), none⟩,
 ⟨some 22, .mov (.t 5), none⟩,
 ⟨some 23, .mks true 1 1 false [.int .u8 0] 1 [(0, (.t 22))], none⟩,
 ⟨some 24, .app 1 1 false none (.t 21) (.t 23), none⟩,
 ⟨some 3, .mov (.t 24), none⟩])
 .skip))))
 (.reg [⟨some 8, .mov (.t 4), none⟩,
 ⟨some 9, .bin .sub .num (.t 8) (.k (.int .i64 8)), none⟩,
 ⟨some 4, .mov (.t 9), none⟩]))))))
 (.seq (.reg [⟨some 25, .mov (.t 3), none⟩,
 ⟨some 26, .b2s (.t 25), none⟩,
 ⟨some 2, .mov (.t 26), none⟩])
 .ret))))⟩

/-- 58: signetring/codec.Join -/
def F58 : Fun :=
 ⟨49, 2, [.t 4, .t 5],
 (.seq (.reg [⟨some 4, .mov (.k (.str [])), none⟩,
 ⟨some 5, .mov (.k (.int .i64 0)), none⟩])
 (.seq (.seq (.reg [⟨some 9, .mov (.t 1), none⟩,
 ⟨some 10, .len .slc (.t 9), none⟩,
 ⟨some 11, .bin .gtr .num (.t 10) (.k (.int .i64 255)), none⟩])
 (.cond (.t 11)
 (.seq (.reg [⟨some 4, .mov (.k (.str [])), none⟩,
 ⟨some 5, .mov (.k (.int .i64 3)), none⟩])
 .ret)
 .skip))
 (.seq (.reg [⟨some 12, .build [.nptr, .nsl] [], none⟩,
 ⟨some 13, .box (some 129) (.t 12), none⟩,
 ⟨some 6, .mov (.t 13), none⟩])
 (.seq (.reg [⟨some 14, .mov (.t 6), none⟩,
 ⟨some 15, .mov (.t 0), none⟩,
 ⟨some 16, .mov (.t 1), none⟩,
 ⟨some 17, .len .slc (.t 16), none⟩,
 ⟨some 18, .cvi .u8 (.t 17), none⟩,
 ⟨some 19, .mks true 1 1 false [.int .u8 0, .int .u8 0, .int .u8 0] 3 [(0, (.k (.int .u8 1))), (1, (.t 15)), (2, (.t 18))], none⟩,
 ⟨some 20, .call (.k (.fn (.func 60) [] [])) [(.t 14), (.t 19)], none⟩])
 (.seq (.seq (.reg [⟨some 21, .mov (.t 1), none⟩,
 ⟨some 22, .len .slc (.t 21), none⟩,
 ⟨some 23, .mov (.k (.int .i64 0)), none⟩])
 (.block 0
 (.loop
 (.seq (.reg [⟨some 24, .bin .lss .num (.t 23) (.t 22), none⟩])
 (.seq (.cond (.t 24)
 .skip
 (.exit 0))
 (.seq (.block 1
 (.seq (.reg [⟨some 25, .iad 1 (.t 21) (.t 23), none⟩,
 ⟨some 26, .load 1 false (.t 25), none⟩,
 ⟨some 8, .mov (.t 26), none⟩])
 (.seq (.seq (.reg [⟨some 27, .mov (.t 8), none⟩,
 ⟨some 28, .len .str (.t 27), none⟩,
 ⟨some 29, .bin .gtr .num (.t 28) (.k (.int .i64 4000)), none⟩])
 (.cond (.t 29)
 (.seq (.reg [⟨some 4, .mov (.k (.str [])), none⟩,
 ⟨some 5, .mov (.k (.int .i64 3)), none⟩])
 .ret)
 .skip))
 (.seq (.reg [⟨some 30, .mov (.t 6), none⟩,
 ⟨some 31, .mov (.t 8), none⟩,
 ⟨some 32, .len .str (.t 31), none⟩,
 ⟨some 33, .bin .shr .num (.t 32) (.k (.int .u64 8)), none⟩,
 ⟨some 34, .cvi .u8 (.t 33), none⟩,
 ⟨some 35, .mov (.t 8), none⟩,
 ⟨some 36, .len .str (.t 35), none⟩,
 ⟨some 37, .cvi .u8 (.t 36), none⟩,
 ⟨some 38, .mks true 1 1 false [.int .u8 0, .int .u8 0] 2 [(0, (.t 34)), (1, (.t 37))], none⟩,
 ⟨some 39, .call (.k (.fn (.func 60) [] [])) [(.t 30), (.t 38)], none⟩])
 (.reg [⟨some 40, .mov (.t 6), none⟩,
 ⟨some 41, .mov (.t 8), none⟩,
 ⟨some 42, .call (.k (.fn (.func 61) [] [])) [(.t 40), (.t 41)], none⟩])))))
 (.reg [⟨some 43, .bin .add .num (.t 23) (.k (.int .i64 1)), none⟩,
 ⟨some 23, .mov (.t 43), none⟩])))))))
 (.seq (.seq (.reg [⟨some 44, .mov (.t 6), none⟩,
 ⟨some 45, .call (.k (.fn (.func 62) [] [])) [(.t 44)], none⟩,
 ⟨some 46, .bin .gtr .num (.t 45) (.k (.int .i64 30000)), none⟩])
 (.cond (.t 46)
 (.seq (.reg [⟨some 4, .mov (.k (.str [])), none⟩,
 ⟨some 5, .mov (.k (.int .i64 3)), none⟩])
 .ret)
 .skip))
 (.seq (.reg [⟨some 47, .mov (.t 6), none⟩,
 ⟨some 48, .call (.k (.fn (.func 63) [] [])) [(.t 47)], none⟩,
 ⟨some 4, .mov (.t 48), none⟩,
 ⟨some 5, .mov (.k (.int .i64 0)), none⟩])
 .ret)))))))⟩

/-- 59: signetring/term.name -/
def F59 : Fun :=
 ⟨14, 1, [.t 2],
 (.seq (.reg [⟨some 2, .mov (.k (.str [])), none⟩])
 (.seq (.reg [⟨some 4, .mov (.t 0), none⟩,
 ⟨some 5, .cvi .u64 (.t 4), none⟩,
 ⟨some 6, .call (.k (.fn (.func 57) [] [])) [(.t 5)], none⟩,
 ⟨some 3, .mov (.t 6), none⟩])
 (.seq (.reg [⟨some 7, .mov (.t 3), none⟩,
 ⟨some 8, .len .str (.t 7), none⟩,
 ⟨some 9, .bin .sub .num (.k (.int .i64 28)) (.t 8), none⟩,
 ⟨some 10, .call (.k (.fn (.func 64) [] [])) [(.k (.str [0])), (.t 9)], none⟩,
 ⟨some 11, .bin .add .str (.k (.str [116, 101, 114, 109])) (.t 10), none⟩,
 ⟨some 12, .mov (.t 3), none⟩,
 ⟨some 13, .bin .add .str (.t 11) (.t 12), none⟩,
 ⟨some 2, .mov (.t 13), none⟩])
 .ret)))⟩

/-- 60: (*strings.Builder).Write -/
def F60 : Fun :=
 ⟨19, 2, [.t 4, .t 5],
 (.seq (.reg [⟨some 4, .mov (.k (.int .i64 0)), none⟩,
 ⟨some 5, .mov (.k .nifc), none⟩])
 (.seq (.reg [⟨some 6, .mov (.t 0), none⟩,
 ⟨some 7, .call (.k (.fn (.func 65) [] [])) [(.t 6)], none⟩])
 (.seq (.reg [⟨some 8, .mov (.t 0), none⟩,
 ⟨some 9, .mov (.t 0), none⟩,
 ⟨some 10, .nilck (.t 9), none⟩,
 ⟨some 11, .fad 1 (.t 10), none⟩,
 ⟨some 12, .load 1 false (.t 11), none⟩,
 ⟨some 13, .mov (.t 1), none⟩,
 ⟨some 14, .app 1 1 false (some 5) (.t 12) (.t 13), none⟩,
 ⟨some 15, .nilck (.t 8), none⟩,
 ⟨some 16, .fad 1 (.t 15), none⟩,
 ⟨none, .store 1 (.t 16) (.t 14), none⟩])
 (.seq (.reg [⟨some 17, .mov (.t 1), none⟩,
 ⟨some 18, .len .slc (.t 17), none⟩,
 ⟨some 4, .mov (.t 18), none⟩,
 ⟨some 5, .mov (.k .nifc), none⟩])
 .ret))))⟩

/-- 61: (*strings.Builder).WriteString -/
def F61 : Fun :=
 ⟨19, 2, [.t 4, .t 5],
 (.seq (.reg [⟨some 4, .mov (.k (.int .i64 0)), none⟩,
 ⟨some 5, .mov (.k .nifc), none⟩])
 (.seq (.reg [⟨some 6, .mov (.t 0), none⟩,
 ⟨some 7, .call (.k (.fn (.func 65) [] [])) [(.t 6)], none⟩])
 (.seq (.reg [⟨some 8, .mov (.t 0), none⟩,
 ⟨some 9, .mov (.t 0), none⟩,
 ⟨some 10, .nilck (.t 9), none⟩,
 ⟨some 11, .fad 1 (.t 10), none⟩,
 ⟨some 12, .load 1 false (.t 11), none⟩,
 ⟨some 13, .mov (.t 1), none⟩,
 ⟨some 14, .app 1 1 false (some 5) (.t 12) (.t 13), none⟩,
 ⟨some 15, .nilck (.t 8), none⟩,
 ⟨some 16, .fad 1 (.t 15), none⟩,
 ⟨none, .store 1 (.t 16) (.t 14), none⟩])
 (.seq (.reg [⟨some 17, .mov (.t 1), none⟩,
 ⟨some 18, .len .str (.t 17), none⟩,
 ⟨some 4, .mov (.t 18), none⟩,
 ⟨some 5, .mov (.k .nifc), none⟩])
 .ret))))⟩

/-- 62: (*strings.Builder).Len -/
def F62 : Fun :=
 ⟨8, 1, [.t 2],
 (.seq (.reg [⟨some 2, .mov (.k (.int .i64 0)), none⟩])
 (.seq (.reg [⟨some 3, .mov (.t 0), none⟩,
 ⟨some 4, .nilck (.t 3), none⟩,
 ⟨some 5, .fad 1 (.t 4), none⟩,
 ⟨some 6, .load 1 false (.t 5), none⟩,
 ⟨some 7, .len .slc (.t 6), none⟩,
 ⟨some 2, .mov (.t 7), none⟩])
 .ret))⟩

/-- 63: (*strings.Builder).String -/
def F63 : Fun :=
 ⟨14, 1, [.t 2],
 (.seq (.reg [⟨some 2, .mov (.k (.str [])), none⟩])
 (.seq (.dreg [⟨some 3, .mov (.t 0), none⟩,
 ⟨some 4, .nilck (.t 3), none⟩,
 ⟨some 5, .fad 1 (.t 4), none⟩,
 ⟨some 6, .load 1 false (.t 5), none⟩,
 ⟨some 7, .sld (.t 6), none⟩,
 ⟨some 8, .mov (.t 0), none⟩,
 ⟨some 9, .nilck (.t 8), none⟩,
 ⟨some 10, .fad 1 (.t 9), none⟩,
 ⟨some 11, .load 1 false (.t 10), none⟩,
 ⟨some 12, .len .slc (.t 11), none⟩,
 ⟨some 13, .ustr 5 (.t 7) (.t 12), none⟩,
 ⟨some 2, .mov (.t 13), none⟩] (.free 0 (.free 1 (.free 2 (.free 5 (.free 6 (.free 7 (.cho 3 (.free 4 (.cho 8 (.free 9 (.cho 10 (.free 11 .done) .nope)) .nope)) (.cho 8 (.free 9 (.cho 3 (.free 4 (.cho 10 (.free 11 .done) .nope)) .nope)) .nope)))))))))
 .ret))⟩

/-- 64: strings.Repeat -/
def F64 : Fun :=
 ⟨125, 2, [.t 4],
 (.seq (.reg [⟨some 4, .mov (.k (.str [])), none⟩])
 (.seq (.seq (.reg [⟨some 11, .mov (.t 1), none⟩])
 (.block 0
 (.seq (.reg [⟨some 13, .bin .eql .num (.t 11) (.k (.int .i64 0)), none⟩,
 ⟨some 12, .mov (.t 13), none⟩])
 (.cond (.t 12)
 (.seq (.reg [⟨some 4, .mov (.k (.str [])), none⟩])
 .ret)
 (.seq (.reg [⟨some 15, .bin .eql .num (.t 11) (.k (.int .i64 1)), none⟩,
 ⟨some 14, .mov (.t 15), none⟩])
 (.cond (.t 14)
 (.seq (.reg [⟨some 16, .mov (.t 0), none⟩,
 ⟨some 4, .mov (.t 16), none⟩])
 .ret)
 .skip))))))
 (.seq (.seq (.reg [⟨some 17, .mov (.t 1), none⟩,
 ⟨some 18, .bin .lss .num (.t 17) (.k (.int .i64 0)), none⟩])
 (.cond (.t 18)
 (.reg [⟨some 19, .mki 9 (.k (.str [115, 116, 114, 105, 110, 103, 115, 58, 32, 110, 101, 103, 97, 116, 105, 118, 101, 32, 82, 101, 112, 101, 97, 116, 32, 99, 111, 117, 110, 116])), none⟩,
 ⟨none, .pan (.t 19), none⟩])
 .skip))
 (.seq (.reg [⟨some 21, .mov (.t 0), none⟩,
 ⟨some 22, .len .str (.t 21), none⟩,
 ⟨some 23, .cvi .u64 (.t 22), none⟩,
 ⟨some 24, .mov (.t 1), none⟩,
 ⟨some 25, .cvi .u64 (.t 24), none⟩,
 ⟨some 26, .call (.k (.fn (.func 66) [] [])) [(.t 23), (.t 25)], none⟩,
 ⟨some 20, .mov (.t 26), none⟩,
 ⟨some 27, .ext (.t 20) 0, none⟩,
 ⟨some 28, .ext (.t 20) 1, none⟩,
 ⟨some 5, .mov (.t 27), none⟩,
 ⟨some 6, .mov (.t 28), none⟩])
 (.seq (.seq (.reg [⟨some 29, .mov (.t 5), none⟩,
 ⟨some 30, .bin .gtr .num (.t 29) (.k (.int .u64 0)), none⟩,
 ⟨some 31, .mov (.t 30), none⟩,
 ⟨some 32, .mov (.t 6), some (31, false)⟩,
 ⟨some 33, .bin .gtr .num (.t 32) (.k (.int .u64 9223372036854775807)), some (31, false)⟩,
 ⟨some 34, .pick (.t 31) (.k (.bool true)) (.t 33), none⟩])
 (.cond (.t 34)
 (.reg [⟨some 35, .mki 9 (.k (.str [115, 116, 114, 105, 110, 103, 115, 58, 32, 82, 101, 112, 101, 97, 116, 32, 111, 117, 116, 112, 117, 116, 32, 108, 101, 110, 103, 116, 104, 32, 111, 118, 101, 114, 102, 108, 111, 119])), none⟩,
 ⟨none, .pan (.t 35), none⟩])
 .skip))
 (.seq (.reg [⟨some 36, .mov (.t 6), none⟩,
 ⟨some 37, .cvi .i64 (.t 36), none⟩,
 ⟨some 7, .mov (.t 37), none⟩])
 (.seq (.seq (.reg [⟨some 38, .mov (.t 0), none⟩,
 ⟨some 39, .len .str (.t 38), none⟩,
 ⟨some 40, .bin .eql .num (.t 39) (.k (.int .i64 0)), none⟩])
 (.cond (.t 40)
 (.seq (.reg [⟨some 4, .mov (.k (.str [])), none⟩])
 .ret)
 .skip))
 (.seq (.seq (.reg [⟨some 41, .mov (.t 0), none⟩,
 ⟨some 42, .idxs (.t 41) (.k (.int .i64 0)), none⟩])
 (.block 1
 (.seq (.seq (.reg [⟨some 44, .bin .eql .num (.t 42) (.k (.int .u8 32)), none⟩,
 ⟨some 43, .mov (.t 44), none⟩])
 (.cond (.t 43)
 .skip
 (.seq (.reg [⟨some 45, .bin .eql .num (.t 42) (.k (.int .u8 45)), none⟩,
 ⟨some 43, .mov (.t 45), none⟩])
 (.cond (.t 43)
 .skip
 (.seq (.reg [⟨some 46, .bin .eql .num (.t 42) (.k (.int .u8 48)), none⟩,
 ⟨some 43, .mov (.t 46), none⟩])
 (.cond (.t 43)
 .skip
 (.seq (.reg [⟨some 47, .bin .eql .num (.t 42) (.k (.int .u8 61)), none⟩,
 ⟨some 43, .mov (.t 47), none⟩])
 (.cond (.t 43)
 .skip
 (.reg [⟨some 48, .bin .eql .num (.t 42) (.k (.int .u8 9)), none⟩,
 ⟨some 43, .mov (.t 48), none⟩])))))))))
 (.cond (.t 43)
 (.block 2
 (.seq (.reg [⟨some 50, .mov (.t 7), none⟩,
 ⟨some 51, .bin .leq .num (.t 50) (.k (.int .i64 128)), none⟩,
 ⟨some 52, .mov (.t 51), none⟩,
 ⟨some 53, .mov (.t 0), some (52, true)⟩,
 ⟨some 54, .call (.k (.fn (.func 67) [] [])) [(.k (.str [32, 32, 32, 32, 32, 32, 32, 32, 32, 32, 32, 32, 32, 32, 32, 32, 32, 32, 32, 32, 32, 32, 32, 32, 32, 32, 32, 32, 32, 32, 32, 32, 32, 32, 32, 32, 32, 32, 32, 32, 32, 32, 32, 32, 32, 32, 32, 32, 32, 32, 32, 32, 32, 32, 32, 32, 32, 32, 32, 32, 32, 32, 32, 32, 32, 32, 32, 32, 32, 32, 32, 32, 32, 32, 32, 32, 32, 32, 32, 32, 32, 32, 32, 32, 32, 32, 32, 32, 32, 32, 32, 32, 32, 32, 32, 32, 32, 32, 32, 32, 32, 32, 32, 32, 32, 32, 32, 32, 32, 32, 32, 32, 32, 32, 32, 32, 32, 32, 32, 32, 32, 32, 32, 32, 32, 32, 32, 32])), (.t 53)], some (52, true)⟩,
 ⟨some 55, .pick (.t 52) (.t 54) (.k (.bool false)), none⟩,
 ⟨some 49, .mov (.t 55), none⟩])
 (.cond (.t 49)
 (.seq (.reg [⟨some 56, .mov (.t 7), none⟩,
 ⟨some 57, .slc true 0 (.k (.str [32, 32, 32, 32, 32, 32, 32, 32, 32, 32, 32, 32, 32, 32, 32, 32, 32, 32, 32, 32, 32, 32, 32, 32, 32, 32, 32, 32, 32, 32, 32, 32, 32, 32, 32, 32, 32, 32, 32, 32, 32, 32, 32, 32, 32, 32, 32, 32, 32, 32, 32, 32, 32, 32, 32, 32, 32, 32, 32, 32, 32, 32, 32, 32, 32, 32, 32, 32, 32, 32, 32, 32, 32, 32, 32, 32, 32, 32, 32, 32, 32, 32, 32, 32, 32, 32, 32, 32, 32, 32, 32, 32, 32, 32, 32, 32, 32, 32, 32, 32, 32, 32, 32, 32, 32, 32, 32, 32, 32, 32, 32, 32, 32, 32, 32, 32, 32, 32, 32, 32, 32, 32, 32, 32, 32, 32, 32, 32])) none (some (.t 56)) none, none⟩,
 ⟨some 4, .mov (.t 57), none⟩])
 .ret)
 (.seq (.reg [⟨some 59, .mov (.t 7), none⟩,
 ⟨some 60, .bin .leq .num (.t 59) (.k (.int .i64 128)), none⟩,
 ⟨some 61, .mov (.t 60), none⟩,
 ⟨some 62, .mov (.t 0), some (61, true)⟩,
 ⟨some 63, .call (.k (.fn (.func 67) [] [])) [(.k (.str [45, 45, 45, 45, 45, 45, 45, 45, 45, 45, 45, 45, 45, 45, 45, 45, 45, 45, 45, 45, 45, 45, 45, 45, 45, 45, 45, 45, 45, 45, 45, 45, 45, 45, 45, 45, 45, 45, 45, 45, 45, 45, 45, 45, 45, 45, 45, 45, 45, 45, 45, 45, 45, 45, 45, 45, 45, 45, 45, 45, 45, 45, 45, 45, 45, 45, 45, 45, 45, 45, 45, 45, 45, 45, 45, 45, 45, 45, 45, 45, 45, 45, 45, 45, 45, 45, 45, 45, 45, 45, 45, 45, 45, 45, 45, 45, 45, 45, 45, 45, 45, 45, 45, 45, 45, 45, 45, 45, 45, 45, 45, 45, 45, 45, 45, 45, 45, 45, 45, 45, 45, 45, 45, 45, 45, 45, 45, 45])), (.t 62)], some (61, true)⟩,
 ⟨some 64, .pick (.t 61) (.t 63) (.k (.bool false)), none⟩,
 ⟨some 58, .mov (.t 64), none⟩])
 (.cond (.t 58)
 (.seq (.reg [⟨some 65, .mov (.t 7), none⟩,
 ⟨some 66, .slc true 0 (.k (.str [45, 45, 45, 45, 45, 45, 45, 45, 45, 45, 45, 45, 45, 45, 45, 45, 45, 45, 45, 45, 45, 45, 45, 45, 45, 45, 45, 45, 45, 45, 45, 45, 45, 45, 45, 45, 45, 45, 45, 45, 45, 45, 45, 45, 45, 45, 45, 45, 45, 45, 45, 45, 45, 45, 45, 45, 45, 45, 45, 45, 45, 45, 45, 45, 45, 45, 45, 45, 45, 45, 45, 45, 45, 45, 45, 45, 45, 45, 45, 45, 45, 45, 45, 45, 45, 45, 45, 45, 45, 45, 45, 45, 45, 45, 45, 45, 45, 45, 45, 45, 45, 45, 45, 45, 45, 45, 45, 45, 45, 45, 45, 45, 45, 45, 45, 45, 45, 45, 45, 45, 45, 45, 45, 45, 45, 45, 45, 45])) none (some (.t 65)) none, none⟩,
 ⟨some 4, .mov (.t 66), none⟩])
 .ret)
 (.seq (.reg [⟨some 68, .mov (.t 7), none⟩,
 ⟨some 69, .bin .leq .num (.t 68) (.k (.int .i64 64)), none⟩,
 ⟨some 70, .mov (.t 69), none⟩,
 ⟨some 71, .mov (.t 0), some (70, true)⟩,
 ⟨some 72, .call (.k (.fn (.func 67) [] [])) [(.k (.str [48, 48, 48, 48, 48, 48, 48, 48, 48, 48, 48, 48, 48, 48, 48, 48, 48, 48, 48, 48, 48, 48, 48, 48, 48, 48, 48, 48, 48, 48, 48, 48, 48, 48, 48, 48, 48, 48, 48, 48, 48, 48, 48, 48, 48, 48, 48, 48, 48, 48, 48, 48, 48, 48, 48, 48, 48, 48, 48, 48, 48, 48, 48, 48])), (.t 71)], some (70, true)⟩,
 ⟨some 73, .pick (.t 70) (.t 72) (.k (.bool false)), none⟩,
 ⟨some 67, .mov (.t 73), none⟩])
 (.cond (.t 67)
 (.seq (.reg [⟨some 74, .mov (.t 7), none⟩,
 ⟨some 75, .slc true 0 (.k (.str [48, 48, 48, 48, 48, 48, 48, 48, 48, 48, 48, 48, 48, 48, 48, 48, 48, 48, 48, 48, 48, 48, 48, 48, 48, 48, 48, 48, 48, 48, 48, 48, 48, 48, 48, 48, 48, 48, 48, 48, 48, 48, 48, 48, 48, 48, 48, 48, 48, 48, 48, 48, 48, 48, 48, 48, 48, 48, 48, 48, 48, 48, 48, 48])) none (some (.t 74)) none, none⟩,
 ⟨some 4, .mov (.t 75), none⟩])
 .ret)
 (.seq (.reg [⟨some 77, .mov (.t 7), none⟩,
 ⟨some 78, .bin .leq .num (.t 77) (.k (.int .i64 128)), none⟩,
 ⟨some 79, .mov (.t 78), none⟩,
 ⟨some 80, .mov (.t 0), some (79, true)⟩,
 ⟨some 81, .call (.k (.fn (.func 67) [] [])) [(.k (.str [61, 61, 61, 61, 61, 61, 61, 61, 61, 61, 61, 61, 61, 61, 61, 61, 61, 61, 61, 61, 61, 61, 61, 61, 61, 61, 61, 61, 61, 61, 61, 61, 61, 61, 61, 61, 61, 61, 61, 61, 61, 61, 61, 61, 61, 61, 61, 61, 61, 61, 61, 61, 61, 61, 61, 61, 61, 61, 61, 61, 61, 61, 61, 61, 61, 61, 61, 61, 61, 61, 61, 61, 61, 61, 61, 61, 61, 61, 61, 61, 61, 61, 61, 61, 61, 61, 61, 61, 61, 61, 61, 61, 61, 61, 61, 61, 61, 61, 61, 61, 61, 61, 61, 61, 61, 61, 61, 61, 61, 61, 61, 61, 61, 61, 61, 61, 61, 61, 61, 61, 61, 61, 61, 61, 61, 61, 61, 61])), (.t 80)], some (79, true)⟩,
 ⟨some 82, .pick (.t 79) (.t 81) (.k (.bool false)), none⟩,
 ⟨some 76, .mov (.t 82), none⟩])
 (.cond (.t 76)
 (.seq (.reg [⟨some 83, .mov (.t 7), none⟩,
 ⟨some 84, .slc true 0 (.k (.str [61, 61, 61, 61, 61, 61, 61, 61, 61, 61, 61, 61, 61, 61, 61, 61, 61, 61, 61, 61, 61, 61, 61, 61, 61, 61, 61, 61, 61, 61, 61, 61, 61, 61, 61, 61, 61, 61, 61, 61, 61, 61, 61, 61, 61, 61, 61, 61, 61, 61, 61, 61, 61, 61, 61, 61, 61, 61, 61, 61, 61, 61, 61, 61, 61, 61, 61, 61, 61, 61, 61, 61, 61, 61, 61, 61, 61, 61, 61, 61, 61, 61, 61, 61, 61, 61, 61, 61, 61, 61, 61, 61, 61, 61, 61, 61, 61, 61, 61, 61, 61, 61, 61, 61, 61, 61, 61, 61, 61, 61, 61, 61, 61, 61, 61, 61, 61, 61, 61, 61, 61, 61, 61, 61, 61, 61, 61, 61])) none (some (.t 83)) none, none⟩,
 ⟨some 4, .mov (.t 84), none⟩])
 .ret)
 (.seq (.reg [⟨some 86, .mov (.t 7), none⟩,
 ⟨some 87, .bin .leq .num (.t 86) (.k (.int .i64 64)), none⟩,
 ⟨some 88, .mov (.t 87), none⟩,
 ⟨some 89, .mov (.t 0), some (88, true)⟩,
 ⟨some 90, .call (.k (.fn (.func 67) [] [])) [(.k (.str [9, 9, 9, 9, 9, 9, 9, 9, 9, 9, 9, 9, 9, 9, 9, 9, 9, 9, 9, 9, 9, 9, 9, 9, 9, 9, 9, 9, 9, 9, 9, 9, 9, 9, 9, 9, 9, 9, 9, 9, 9, 9, 9, 9, 9, 9, 9, 9, 9, 9, 9, 9, 9, 9, 9, 9, 9, 9, 9, 9, 9, 9, 9, 9])), (.t 89)], some (88, true)⟩,
 ⟨some 91, .pick (.t 88) (.t 90) (.k (.bool false)), none⟩,
 ⟨some 85, .mov (.t 91), none⟩])
 (.cond (.t 85)
 (.seq (.reg [⟨some 92, .mov (.t 7), none⟩,
 ⟨some 93, .slc true 0 (.k (.str [9, 9, 9, 9, 9, 9, 9, 9, 9, 9, 9, 9, 9, 9, 9, 9, 9, 9, 9, 9, 9, 9, 9, 9, 9, 9, 9, 9, 9, 9, 9, 9, 9, 9, 9, 9, 9, 9, 9, 9, 9, 9, 9, 9, 9, 9, 9, 9, 9, 9, 9, 9, 9, 9, 9, 9, 9, 9, 9, 9, 9, 9, 9, 9])) none (some (.t 92)) none, none⟩,
 ⟨some 4, .mov (.t 93), none⟩])
 .ret)
 .skip)))))))))))
 .skip))))
 (.seq (.reg [⟨some 94, .mov (.t 7), none⟩,
 ⟨some 8, .mov (.t 94), none⟩])
 (.seq (.seq (.reg [⟨some 95, .mov (.t 7), none⟩,
 ⟨some 96, .bin .gtr .num (.t 95) (.k (.int .i64 8192)), none⟩])
 (.cond (.t 96)
 (.seq (.reg [⟨some 97, .mov (.t 0), none⟩,
 ⟨some 98, .len .str (.t 97), none⟩,
 ⟨some 99, .bin .quo .num (.k (.int .i64 8192)) (.t 98), none⟩,
 ⟨some 100, .mov (.t 0), none⟩,
 ⟨some 101, .len .str (.t 100), none⟩,
 ⟨some 102, .bin .mul .num (.t 99) (.t 101), none⟩,
 ⟨some 8, .mov (.t 102), none⟩])
 (.seq (.reg [⟨some 103, .mov (.t 8), none⟩,
 ⟨some 104, .bin .eql .num (.t 103) (.k (.int .i64 0)), none⟩])
 (.cond (.t 104)
 (.reg [⟨some 105, .mov (.t 0), none⟩,
 ⟨some 106, .len .str (.t 105), none⟩,
 ⟨some 8, .mov (.t 106), none⟩])
 .skip)))
 .skip))
 (.seq (.reg [⟨some 9, .new [.nptr, .nsl] (some 129), none⟩])
 (.seq (.reg [⟨some 107, .mov (.t 7), none⟩,
 ⟨some 108, .call (.k (.fn (.func 68) [] [])) [(.t 9), (.t 107)], none⟩])
 (.seq (.reg [⟨some 109, .mov (.t 0), none⟩,
 ⟨some 110, .call (.k (.fn (.func 61) [] [])) [(.t 9), (.t 109)], none⟩])
 (.seq (.block 3
 (.loop
 (.seq (.seq (.reg [⟨some 111, .call (.k (.fn (.func 62) [] [])) [(.t 9)], none⟩,
 ⟨some 112, .mov (.t 7), none⟩,
 ⟨some 113, .bin .lss .num (.t 111) (.t 112), none⟩])
 (.cond (.t 113)
 .skip
 (.exit 3)))
 (.block 4
 (.seq (.reg [⟨some 114, .mov (.t 7), none⟩,
 ⟨some 115, .call (.k (.fn (.func 62) [] [])) [(.t 9)], none⟩,
 ⟨some 116, .bin .sub .num (.t 114) (.t 115), none⟩,
 ⟨some 117, .call (.k (.fn (.func 62) [] [])) [(.t 9)], none⟩,
 ⟨some 118, .mov (.t 8), none⟩,
 ⟨some 119, .j (.min3 (.t 116) (.t 117) (.t 118)), none⟩,
 ⟨some 10, .mov (.t 119), none⟩])
 (.reg [⟨some 120, .call (.k (.fn (.func 63) [] [])) [(.t 9)], none⟩,
 ⟨some 121, .mov (.t 10), none⟩,
 ⟨some 122, .slc true 0 (.t 120) none (some (.t 121)) none, none⟩,
 ⟨some 123, .call (.k (.fn (.func 61) [] [])) [(.t 9), (.t 122)], none⟩]))))))
 (.seq (.reg [⟨some 124, .call (.k (.fn (.func 63) [] [])) [(.t 9)], none⟩,
 ⟨some 4, .mov (.t 124), none⟩])
 .ret)))))))))))))))⟩

/-- 65: (*strings.Builder).copyCheck -/
def F65 : Fun :=
 ⟨20, 1, [],
 (.seq (.reg [⟨some 2, .mov (.t 0), none⟩,
 ⟨some 3, .nilck (.t 2), none⟩,
 ⟨some 4, .fad 0 (.t 3), none⟩,
 ⟨some 5, .load 1 false (.t 4), none⟩,
 ⟨some 6, .bin .eql .ptr (.t 5) (.k .nptr), none⟩])
 (.cond (.t 6)
 (.reg [⟨some 7, .mov (.t 0), none⟩,
 ⟨some 8, .mov (.t 0), none⟩,
 ⟨some 9, .toU (.t 8), none⟩,
 ⟨some 10, .noEsc (.t 9), none⟩,
 ⟨some 11, .frU 129 2 (.t 10), none⟩,
 ⟨some 12, .nilck (.t 7), none⟩,
 ⟨some 13, .fad 0 (.t 12), none⟩,
 ⟨none, .store 1 (.t 13) (.t 11), none⟩])
 (.seq (.reg [⟨some 14, .mov (.t 0), none⟩,
 ⟨some 15, .nilck (.t 14), none⟩,
 ⟨some 16, .fad 0 (.t 15), none⟩,
 ⟨some 17, .load 1 false (.t 16), none⟩,
 ⟨some 18, .mov (.t 0), none⟩,
 ⟨some 19, .pne (.t 17) (.t 18), none⟩])
 (.cond (.t 19)
 .no
 .skip))))⟩

/-- 66: math/bits.Mul -/
def F66 : Fun :=
 ⟨30, 2, [.t 4, .t 5],
 (.seq (.reg [⟨some 4, .mov (.k (.int .u64 0)), none⟩,
 ⟨some 5, .mov (.k (.int .u64 0)), none⟩])
 (.seq (.cond (.k (.bool false))
 (.seq (.reg [⟨some 11, .mov (.t 0), none⟩,
 ⟨some 12, .cvi .u32 (.t 11), none⟩,
 ⟨some 13, .mov (.t 1), none⟩,
 ⟨some 14, .cvi .u32 (.t 13), none⟩,
 ⟨some 15, .call (.k (.fn (.func 70) [] [])) [(.t 12), (.t 14)], none⟩,
 ⟨some 10, .mov (.t 15), none⟩,
 ⟨some 16, .ext (.t 10) 0, none⟩,
 ⟨some 17, .ext (.t 10) 1, none⟩,
 ⟨some 6, .mov (.t 16), none⟩,
 ⟨some 7, .mov (.t 17), none⟩])
 (.seq (.reg [⟨some 18, .mov (.t 6), none⟩,
 ⟨some 19, .cvi .u64 (.t 18), none⟩,
 ⟨some 20, .mov (.t 7), none⟩,
 ⟨some 21, .cvi .u64 (.t 20), none⟩,
 ⟨some 4, .mov (.t 19), none⟩,
 ⟨some 5, .mov (.t 21), none⟩])
 .ret))
 .skip)
 (.seq (.reg [⟨some 23, .mov (.t 0), none⟩,
 ⟨some 24, .mov (.t 1), none⟩,
 ⟨some 25, .call (.k (.fn (.func 35) [] [])) [(.t 23), (.t 24)], none⟩,
 ⟨some 22, .mov (.t 25), none⟩,
 ⟨some 26, .ext (.t 22) 0, none⟩,
 ⟨some 27, .ext (.t 22) 1, none⟩,
 ⟨some 8, .mov (.t 26), none⟩,
 ⟨some 9, .mov (.t 27), none⟩])
 (.seq (.reg [⟨some 28, .mov (.t 8), none⟩,
 ⟨some 29, .mov (.t 9), none⟩,
 ⟨some 4, .mov (.t 28), none⟩,
 ⟨some 5, .mov (.t 29), none⟩])
 .ret))))⟩

/-- 67: strings.HasPrefix -/
def F67 : Fun :=
 ⟨8, 2, [.t 4],
 (.seq (.reg [⟨some 4, .mov (.k (.bool false)), none⟩])
 (.seq (.reg [⟨some 5, .mov (.t 0), none⟩,
 ⟨some 6, .mov (.t 1), none⟩,
 ⟨some 7, .call (.k (.fn (.func 71) [] [])) [(.t 5), (.t 6)], none⟩,
 ⟨some 4, .mov (.t 7), none⟩])
 .ret))⟩

/-- 68: (*strings.Builder).Grow -/
def F68 : Fun :=
 ⟨25, 2, [],
 (.seq (.reg [⟨some 4, .mov (.t 0), none⟩,
 ⟨some 5, .call (.k (.fn (.func 65) [] [])) [(.t 4)], none⟩])
 (.seq (.seq (.reg [⟨some 6, .mov (.t 1), none⟩,
 ⟨some 7, .bin .lss .num (.t 6) (.k (.int .i64 0)), none⟩])
 (.cond (.t 7)
 (.reg [⟨some 8, .mki 9 (.k (.str [115, 116, 114, 105, 110, 103, 115, 46, 66, 117, 105, 108, 100, 101, 114, 46, 71, 114, 111, 119, 58, 32, 110, 101, 103, 97, 116, 105, 118, 101, 32, 99, 111, 117, 110, 116])), none⟩,
 ⟨none, .pan (.t 8), none⟩])
 .skip))
 (.seq (.dreg [⟨some 9, .mov (.t 0), none⟩,
 ⟨some 10, .nilck (.t 9), none⟩,
 ⟨some 11, .fad 1 (.t 10), none⟩,
 ⟨some 12, .load 1 false (.t 11), none⟩,
 ⟨some 13, .j (.cap (.t 12)), none⟩,
 ⟨some 14, .mov (.t 0), none⟩,
 ⟨some 15, .nilck (.t 14), none⟩,
 ⟨some 16, .fad 1 (.t 15), none⟩,
 ⟨some 17, .load 1 false (.t 16), none⟩,
 ⟨some 18, .len .slc (.t 17), none⟩,
 ⟨some 19, .bin .sub .num (.t 13) (.t 18), none⟩,
 ⟨some 20, .mov (.t 1), none⟩,
 ⟨some 21, .bin .lss .num (.t 19) (.t 20), none⟩] (.lin [] [(0, none), (1, none), (2, none), (3, none), (4, none), (5, none), (6, none), (7, none), (8, none), (9, none), (10, none), (11, none), (12, none)]))
 (.cond (.t 21)
 (.reg [⟨some 22, .mov (.t 0), none⟩,
 ⟨some 23, .mov (.t 1), none⟩,
 ⟨some 24, .call (.k (.fn (.func 72) [] [])) [(.t 22), (.t 23)], none⟩])
 .skip))))⟩

-- 69 internal/abi.NoEscape: no body
/-- 70: math/bits.Mul32 -/
def F70 : Fun :=
 ⟨17, 2, [.t 4, .t 5],
 (.seq (.reg [⟨some 4, .mov (.k (.int .u32 0)), none⟩,
 ⟨some 5, .mov (.k (.int .u32 0)), none⟩])
 (.seq (.reg [⟨some 7, .mov (.t 0), none⟩,
 ⟨some 8, .cvi .u64 (.t 7), none⟩,
 ⟨some 9, .mov (.t 1), none⟩,
 ⟨some 10, .cvi .u64 (.t 9), none⟩,
 ⟨some 11, .bin .mul .num (.t 8) (.t 10), none⟩,
 ⟨some 6, .mov (.t 11), none⟩])
 (.seq (.reg [⟨some 12, .mov (.t 6), none⟩,
 ⟨some 13, .bin .shr .num (.t 12) (.k (.int .u64 32)), none⟩,
 ⟨some 14, .cvi .u32 (.t 13), none⟩,
 ⟨some 15, .mov (.t 6), none⟩,
 ⟨some 16, .cvi .u32 (.t 15), none⟩,
 ⟨some 4, .mov (.t 14), none⟩,
 ⟨some 5, .mov (.t 16), none⟩])
 .ret)))⟩

/-- 71: internal/stringslite.HasPrefix -/
def F71 : Fun :=
 ⟨18, 2, [.t 4],
 (.seq (.reg [⟨some 4, .mov (.k (.bool false)), none⟩])
 (.seq (.reg [⟨some 5, .mov (.t 0), none⟩,
 ⟨some 6, .len .str (.t 5), none⟩,
 ⟨some 7, .mov (.t 1), none⟩,
 ⟨some 8, .len .str (.t 7), none⟩,
 ⟨some 9, .bin .geq .num (.t 6) (.t 8), none⟩,
 ⟨some 10, .mov (.t 9), none⟩,
 ⟨some 11, .mov (.t 0), some (10, true)⟩,
 ⟨some 12, .mov (.t 1), some (10, true)⟩,
 ⟨some 13, .len .str (.t 12), some (10, true)⟩,
 ⟨some 14, .slc true 0 (.t 11) none (some (.t 13)) none, some (10, true)⟩,
 ⟨some 15, .mov (.t 1), some (10, true)⟩,
 ⟨some 16, .bin .eql .str (.t 14) (.t 15), some (10, true)⟩,
 ⟨some 17, .pick (.t 10) (.t 16) (.k (.bool false)), none⟩,
 ⟨some 4, .mov (.t 17), none⟩])
 .ret))⟩

/-- 72: (*strings.Builder).grow -/
def F72 : Fun :=
 ⟨30, 2, [],
 (.seq (.dreg [⟨some 5, .mov (.t 0), none⟩,
 ⟨some 6, .nilck (.t 5), none⟩,
 ⟨some 7, .fad 1 (.t 6), none⟩,
 ⟨some 8, .load 1 false (.t 7), none⟩,
 ⟨some 9, .j (.cap (.t 8)), none⟩,
 ⟨some 10, .bin .mul .num (.k (.int .i64 2)) (.t 9), none⟩,
 ⟨some 11, .mov (.t 1), none⟩,
 ⟨some 12, .bin .add .num (.t 10) (.t 11), none⟩,
 ⟨some 13, .j (.mnz 5 (.t 12)), none⟩,
 ⟨some 14, .mov (.t 0), none⟩,
 ⟨some 15, .nilck (.t 14), none⟩,
 ⟨some 16, .fad 1 (.t 15), none⟩,
 ⟨some 17, .load 1 false (.t 16), none⟩,
 ⟨some 18, .len .slc (.t 17), none⟩,
 ⟨some 19, .j (.slw 1 (.t 13) (.t 18)), none⟩,
 ⟨some 4, .mov (.t 19), none⟩] (.lin [] [(0, none), (1, none), (2, none), (3, none), (4, none), (5, none), (6, none), (7, none), (9, none), (10, none), (11, none), (12, none), (13, none), (8, some [9, 10, 11, 12, 13]), (14, none), (15, none)]))
 (.seq (.reg [⟨some 20, .mov (.t 4), none⟩,
 ⟨some 21, .mov (.t 0), none⟩,
 ⟨some 22, .nilck (.t 21), none⟩,
 ⟨some 23, .fad 1 (.t 22), none⟩,
 ⟨some 24, .load 1 false (.t 23), none⟩,
 ⟨some 25, .cpy 1 (.t 20) (.t 24), none⟩])
 (.reg [⟨some 26, .mov (.t 0), none⟩,
 ⟨some 27, .mov (.t 4), none⟩,
 ⟨some 28, .nilck (.t 26), none⟩,
 ⟨some 29, .fad 1 (.t 28), none⟩,
 ⟨none, .store 1 (.t 29) (.t 27), none⟩])))⟩

-- 73 internal/bytealg.MakeNoZero: no body
-- 74 (signetring/prims.real).Dh: no body
/-- 75: (signetring/prims.real).Hash -/
def F75 : Fun :=
 ⟨15, 3, [.t 6],
 (.seq (.reg [⟨some 3, .box none (.t 0), none⟩,
 ⟨some 6, .mov (.k (.str [])), none⟩])
 (.seq (.reg [⟨some 8, .mov (.t 1), none⟩,
 ⟨some 9, .mov (.t 2), none⟩,
 ⟨some 10, .bin .add .str (.t 8) (.t 9), none⟩,
 ⟨some 11, .s2b true (.t 10), none⟩,
 ⟨some 12, .call (.k (.fn (.func 14) [] [])) [(.t 11)], none⟩,
 ⟨some 7, .new [.int .u8 0, .int .u8 0, .int .u8 0, .int .u8 0, .int .u8 0, .int .u8 0, .int .u8 0, .int .u8 0, .int .u8 0, .int .u8 0, .int .u8 0, .int .u8 0, .int .u8 0, .int .u8 0, .int .u8 0, .int .u8 0, .int .u8 0, .int .u8 0, .int .u8 0, .int .u8 0, .int .u8 0, .int .u8 0, .int .u8 0, .int .u8 0, .int .u8 0, .int .u8 0, .int .u8 0, .int .u8 0, .int .u8 0, .int .u8 0, .int .u8 0, .int .u8 0] none, none⟩,
 ⟨none, .store 32 (.t 7) (.t 12), none⟩])
 (.seq (.reg [⟨some 13, .slca 32 1 false (.t 7) none none none, none⟩,
 ⟨some 14, .b2s (.t 13), none⟩,
 ⟨some 6, .mov (.t 14), none⟩])
 .ret)))⟩

/-- 76: (signetring/prims.real).Keys -/
def F76 : Fun :=
 ⟨48, 4, [.t 8],
 (.seq (.reg [⟨some 4, .box none (.t 0), none⟩,
 ⟨some 8, .mov (.k .nsl), none⟩])
 (.seq (.reg [⟨some 17, .mov (.t 1), none⟩,
 ⟨some 18, .call (.k (.fn (.func 80) [] [])) [(.t 17)], none⟩,
 ⟨some 16, .mov (.t 18), none⟩,
 ⟨some 19, .ext (.t 16) 0, none⟩,
 ⟨some 20, .ext (.t 16) 1, none⟩,
 ⟨some 9, .new [.int .u8 0, .int .u8 0, .int .u8 0, .int .u8 0, .int .u8 0, .int .u8 0, .int .u8 0, .int .u8 0, .int .u8 0, .int .u8 0, .int .u8 0, .int .u8 0, .int .u8 0, .int .u8 0, .int .u8 0, .int .u8 0, .int .u8 0, .int .u8 0, .int .u8 0, .int .u8 0, .int .u8 0, .int .u8 0, .int .u8 0, .int .u8 0, .int .u8 0, .int .u8 0, .int .u8 0, .int .u8 0, .int .u8 0, .int .u8 0, .int .u8 0, .int .u8 0] none, none⟩,
 ⟨none, .store 32 (.t 9) (.t 19), none⟩,
 ⟨some 10, .mov (.t 20), none⟩])
 (.seq (.reg [⟨some 22, .load 32 true (.t 9), none⟩,
 ⟨some 23, .mov (.t 2), none⟩,
 ⟨some 24, .s2b true (.t 23), none⟩,
 ⟨some 25, .mov (.t 3), none⟩,
 ⟨some 26, .call (.k (.fn (.func 81) [] [])) [(.t 22), (.t 24), (.t 25)], none⟩,
 ⟨some 21, .mov (.t 26), none⟩,
 ⟨some 27, .ext (.t 21) 0, none⟩,
 ⟨some 28, .ext (.t 21) 1, none⟩,
 ⟨some 11, .mov (.t 27), none⟩,
 ⟨some 12, .mov (.t 28), none⟩])
 (.seq (.seq (.reg [⟨some 29, .mov (.t 10), none⟩,
 ⟨some 30, .un .not (.t 29), none⟩,
 ⟨some 31, .mov (.t 30), none⟩,
 ⟨some 32, .mov (.t 12), some (31, false)⟩,
 ⟨some 33, .bin .neq .num (.t 32) (.k (.int .i64 0)), some (31, false)⟩,
 ⟨some 34, .pick (.t 31) (.k (.bool true)) (.t 33), none⟩])
 (.cond (.t 34)
 (.seq (.reg [⟨some 8, .mov (.k .nsl), none⟩])
 .ret)
 .skip))
 (.seq (.reg [⟨some 13, .mov (.k .nsl), none⟩])
 (.seq (.seq (.reg [⟨some 35, .mov (.t 11), none⟩,
 ⟨some 36, .len .slc (.t 35), none⟩,
 ⟨some 37, .mov (.k (.int .i64 0)), none⟩])
 (.block 0
 (.loop
 (.seq (.reg [⟨some 38, .bin .lss .num (.t 37) (.t 36), none⟩])
 (.seq (.cond (.t 38)
 .skip
 (.exit 0))
 (.seq (.block 1
 (.seq (.reg [⟨some 39, .iad 32 (.t 35) (.t 37), none⟩,
 ⟨some 40, .load 32 true (.t 39), none⟩,
 ⟨some 15, .new [.int .u8 0, .int .u8 0, .int .u8 0, .int .u8 0, .int .u8 0, .int .u8 0, .int .u8 0, .int .u8 0, .int .u8 0, .int .u8 0, .int .u8 0, .int .u8 0, .int .u8 0, .int .u8 0, .int .u8 0, .int .u8 0, .int .u8 0, .int .u8 0, .int .u8 0, .int .u8 0, .int .u8 0, .int .u8 0, .int .u8 0, .int .u8 0, .int .u8 0, .int .u8 0, .int .u8 0, .int .u8 0, .int .u8 0, .int .u8 0, .int .u8 0, .int .u8 0] none, none⟩,
 ⟨none, .store 32 (.t 15) (.t 40), none⟩])
 (.reg [⟨some 41, .mov (.t 13), none⟩,
 ⟨some 42, .slca 32 1 false (.t 15) none none none, none⟩,
 ⟨some 43, .b2s (.t 42), none⟩,
 ⟨some 44, .mks true 1 16 false [(.str [])] 1 [(0, (.t 43))], none⟩,
 ⟨some 45, .app 1 16 false none (.t 41) (.t 44), none⟩,
 ⟨some 13, .mov (.t 45), none⟩])))
 (.reg [⟨some 46, .bin .add .num (.t 37) (.k (.int .i64 1)), none⟩,
 ⟨some 37, .mov (.t 46), none⟩])))))))
 (.seq (.reg [⟨some 47, .mov (.t 13), none⟩,
 ⟨some 8, .mov (.t 47), none⟩])
 .ret)))))))⟩

/-- 77: (signetring/prims.real).Open -/
def F77 : Fun :=
 ⟨36, 5, [.t 10, .t 11],
 (.seq (.reg [⟨some 5, .box none (.t 0), none⟩,
 ⟨some 10, .mov (.k (.str [])), none⟩,
 ⟨some 11, .mov (.k (.int .i64 0)), none⟩])
 (.seq (.reg [⟨some 17, .mov (.t 1), none⟩,
 ⟨some 18, .call (.k (.fn (.func 80) [] [])) [(.t 17)], none⟩,
 ⟨some 16, .mov (.t 18), none⟩,
 ⟨some 19, .ext (.t 16) 0, none⟩,
 ⟨some 20, .ext (.t 16) 1, none⟩,
 ⟨some 12, .new [.int .u8 0, .int .u8 0, .int .u8 0, .int .u8 0, .int .u8 0, .int .u8 0, .int .u8 0, .int .u8 0, .int .u8 0, .int .u8 0, .int .u8 0, .int .u8 0, .int .u8 0, .int .u8 0, .int .u8 0, .int .u8 0, .int .u8 0, .int .u8 0, .int .u8 0, .int .u8 0, .int .u8 0, .int .u8 0, .int .u8 0, .int .u8 0, .int .u8 0, .int .u8 0, .int .u8 0, .int .u8 0, .int .u8 0, .int .u8 0, .int .u8 0, .int .u8 0] none, none⟩,
 ⟨none, .store 32 (.t 12) (.t 19), none⟩,
 ⟨some 13, .mov (.t 20), none⟩])
 (.seq (.seq (.reg [⟨some 21, .mov (.t 13), none⟩,
 ⟨some 22, .un .not (.t 21), none⟩])
 (.cond (.t 22)
 (.seq (.reg [⟨some 10, .mov (.k (.str [])), none⟩,
 ⟨some 11, .mov (.k (.int .i64 6)), none⟩])
 .ret)
 .skip))
 (.seq (.reg [⟨some 24, .load 32 true (.t 12), none⟩,
 ⟨some 25, .mov (.t 2), none⟩,
 ⟨some 26, .mov (.t 3), none⟩,
 ⟨some 27, .s2b true (.t 26), none⟩,
 ⟨some 28, .mov (.t 4), none⟩,
 ⟨some 29, .s2b true (.t 28), none⟩,
 ⟨some 30, .call (.k (.fn (.func 13) [] [])) [(.t 24), (.t 25), (.t 27), (.t 29)], none⟩,
 ⟨some 23, .mov (.t 30), none⟩,
 ⟨some 31, .ext (.t 23) 0, none⟩,
 ⟨some 32, .ext (.t 23) 1, none⟩,
 ⟨some 14, .mov (.t 31), none⟩,
 ⟨some 15, .mov (.t 32), none⟩])
 (.seq (.reg [⟨some 33, .mov (.t 14), none⟩,
 ⟨some 34, .b2s (.t 33), none⟩,
 ⟨some 35, .mov (.t 15), none⟩,
 ⟨some 10, .mov (.t 34), none⟩,
 ⟨some 11, .mov (.t 35), none⟩])
 .ret)))))⟩

/-- 78: (signetring/prims.real).Pub -/
def F78 : Fun :=
 ⟨19, 2, [.t 4],
 (.seq (.reg [⟨some 2, .box none (.t 0), none⟩,
 ⟨some 4, .mov (.k (.str [])), none⟩])
 (.seq (.reg [⟨some 9, .mov (.t 1), none⟩,
 ⟨some 10, .call (.k (.fn (.func 80) [] [])) [(.t 9)], none⟩,
 ⟨some 8, .mov (.t 10), none⟩,
 ⟨some 11, .ext (.t 8) 0, none⟩,
 ⟨some 12, .ext (.t 8) 1, none⟩,
 ⟨some 5, .new [.int .u8 0, .int .u8 0, .int .u8 0, .int .u8 0, .int .u8 0, .int .u8 0, .int .u8 0, .int .u8 0, .int .u8 0, .int .u8 0, .int .u8 0, .int .u8 0, .int .u8 0, .int .u8 0, .int .u8 0, .int .u8 0, .int .u8 0, .int .u8 0, .int .u8 0, .int .u8 0, .int .u8 0, .int .u8 0, .int .u8 0, .int .u8 0, .int .u8 0, .int .u8 0, .int .u8 0, .int .u8 0, .int .u8 0, .int .u8 0, .int .u8 0, .int .u8 0] none, none⟩,
 ⟨none, .store 32 (.t 5) (.t 11), none⟩,
 ⟨some 6, .mov (.t 12), none⟩])
 (.seq (.seq (.reg [⟨some 13, .mov (.t 6), none⟩,
 ⟨some 14, .un .not (.t 13), none⟩])
 (.cond (.t 14)
 (.seq (.reg [⟨some 4, .mov (.k (.str [])), none⟩])
 .ret)
 .skip))
 (.seq (.reg [⟨some 15, .load 32 true (.t 5), none⟩,
 ⟨some 16, .call (.k (.fn (.func 82) [] [])) [(.t 15)], none⟩,
 ⟨some 7, .new [.int .u8 0, .int .u8 0, .int .u8 0, .int .u8 0, .int .u8 0, .int .u8 0, .int .u8 0, .int .u8 0, .int .u8 0, .int .u8 0, .int .u8 0, .int .u8 0, .int .u8 0, .int .u8 0, .int .u8 0, .int .u8 0, .int .u8 0, .int .u8 0, .int .u8 0, .int .u8 0, .int .u8 0, .int .u8 0, .int .u8 0, .int .u8 0, .int .u8 0, .int .u8 0, .int .u8 0, .int .u8 0, .int .u8 0, .int .u8 0, .int .u8 0, .int .u8 0] none, none⟩,
 ⟨none, .store 32 (.t 7) (.t 16), none⟩])
 (.seq (.reg [⟨some 17, .slca 32 1 false (.t 7) none none none, none⟩,
 ⟨some 18, .b2s (.t 17), none⟩,
 ⟨some 4, .mov (.t 18), none⟩])
 .ret)))))⟩

/-- 79: (signetring/prims.real).Seal -/
def F79 : Fun :=
 ⟨38, 5, [.t 10],
 (.seq (.reg [⟨some 5, .box none (.t 0), none⟩,
 ⟨some 10, .mov (.k (.str [])), none⟩])
 (.seq (.reg [⟨some 16, .mov (.t 1), none⟩,
 ⟨some 17, .call (.k (.fn (.func 80) [] [])) [(.t 16)], none⟩,
 ⟨some 15, .mov (.t 17), none⟩,
 ⟨some 18, .ext (.t 15) 0, none⟩,
 ⟨some 19, .ext (.t 15) 1, none⟩,
 ⟨some 11, .new [.int .u8 0, .int .u8 0, .int .u8 0, .int .u8 0, .int .u8 0, .int .u8 0, .int .u8 0, .int .u8 0, .int .u8 0, .int .u8 0, .int .u8 0, .int .u8 0, .int .u8 0, .int .u8 0, .int .u8 0, .int .u8 0, .int .u8 0, .int .u8 0, .int .u8 0, .int .u8 0, .int .u8 0, .int .u8 0, .int .u8 0, .int .u8 0, .int .u8 0, .int .u8 0, .int .u8 0, .int .u8 0, .int .u8 0, .int .u8 0, .int .u8 0, .int .u8 0] none, none⟩,
 ⟨none, .store 32 (.t 11) (.t 18), none⟩,
 ⟨some 12, .mov (.t 19), none⟩])
 (.seq (.reg [⟨some 21, .load 32 true (.t 11), none⟩,
 ⟨some 22, .mov (.t 2), none⟩,
 ⟨some 23, .mov (.t 3), none⟩,
 ⟨some 24, .s2b true (.t 23), none⟩,
 ⟨some 25, .mov (.t 4), none⟩,
 ⟨some 26, .s2b true (.t 25), none⟩,
 ⟨some 27, .call (.k (.fn (.func 12) [] [])) [(.t 21), (.t 22), (.t 24), (.t 26)], none⟩,
 ⟨some 20, .mov (.t 27), none⟩,
 ⟨some 28, .ext (.t 20) 0, none⟩,
 ⟨some 29, .ext (.t 20) 1, none⟩,
 ⟨some 13, .mov (.t 28), none⟩,
 ⟨some 14, .mov (.t 29), none⟩])
 (.seq (.seq (.reg [⟨some 30, .mov (.t 12), none⟩,
 ⟨some 31, .un .not (.t 30), none⟩,
 ⟨some 32, .mov (.t 31), none⟩,
 ⟨some 33, .mov (.t 14), some (32, false)⟩,
 ⟨some 34, .bin .neq .num (.t 33) (.k (.int .i64 0)), some (32, false)⟩,
 ⟨some 35, .pick (.t 32) (.k (.bool true)) (.t 34), none⟩])
 (.cond (.t 35)
 (.seq (.reg [⟨some 10, .mov (.k (.str [])), none⟩])
 .ret)
 .skip))
 (.seq (.reg [⟨some 36, .mov (.t 13), none⟩,
 ⟨some 37, .b2s (.t 36), none⟩,
 ⟨some 10, .mov (.t 37), none⟩])
 .ret)))))⟩

/-- 80: signetring/prims.key -/
def F80 : Fun :=
 ⟨12, 1, [.c 2 32 true, .t 3],
 (.seq (.reg [⟨some 2, .new [.int .u8 0, .int .u8 0, .int .u8 0, .int .u8 0, .int .u8 0, .int .u8 0, .int .u8 0, .int .u8 0, .int .u8 0, .int .u8 0, .int .u8 0, .int .u8 0, .int .u8 0, .int .u8 0, .int .u8 0, .int .u8 0, .int .u8 0, .int .u8 0, .int .u8 0, .int .u8 0, .int .u8 0, .int .u8 0, .int .u8 0, .int .u8 0, .int .u8 0, .int .u8 0, .int .u8 0, .int .u8 0, .int .u8 0, .int .u8 0, .int .u8 0, .int .u8 0] none, none⟩,
 ⟨some 3, .mov (.k (.bool false)), none⟩])
 (.seq (.seq (.reg [⟨some 4, .mov (.t 0), none⟩,
 ⟨some 5, .len .str (.t 4), none⟩,
 ⟨some 6, .bin .neq .num (.t 5) (.k (.int .i64 32)), none⟩])
 (.cond (.t 6)
 (.seq (.reg [⟨some 7, .build [.int .u8 0, .int .u8 0, .int .u8 0, .int .u8 0, .int .u8 0, .int .u8 0, .int .u8 0, .int .u8 0, .int .u8 0, .int .u8 0, .int .u8 0, .int .u8 0, .int .u8 0, .int .u8 0, .int .u8 0, .int .u8 0, .int .u8 0, .int .u8 0, .int .u8 0, .int .u8 0, .int .u8 0, .int .u8 0, .int .u8 0, .int .u8 0, .int .u8 0, .int .u8 0, .int .u8 0, .int .u8 0, .int .u8 0, .int .u8 0, .int .u8 0, .int .u8 0] [], none⟩,
 ⟨none, .store 32 (.t 2) (.t 7), none⟩,
 ⟨some 3, .mov (.k (.bool false)), none⟩])
 .ret)
 .skip))
 (.seq (.reg [⟨some 8, .mov (.t 0), none⟩,
 ⟨some 9, .s2b true (.t 8), none⟩,
 ⟨some 10, .arrp 32 1 (.t 9), none⟩,
 ⟨some 11, .load 32 true (.t 10), none⟩,
 ⟨none, .store 32 (.t 2) (.t 11), none⟩,
 ⟨some 3, .mov (.k (.bool true)), none⟩])
 .ret)))⟩

/-- 81: signetring/mac.Keys -/
def F81 : Fun :=
 ⟨38, 3, [.t 6, .t 7],
 (.seq (.reg [⟨some 3, .box none (.t 0), none⟩,
 ⟨some 6, .mov (.k .nsl), none⟩,
 ⟨some 7, .mov (.k (.int .i64 0)), none⟩])
 (.seq (.seq (.reg [⟨some 12, .mov (.t 2), none⟩,
 ⟨some 13, .bin .lss .num (.t 12) (.k (.int .i64 1)), none⟩,
 ⟨some 14, .mov (.t 13), none⟩,
 ⟨some 15, .mov (.t 2), some (14, false)⟩,
 ⟨some 16, .bin .gtr .num (.t 15) (.k (.int .i64 3)), some (14, false)⟩,
 ⟨some 17, .pick (.t 14) (.k (.bool true)) (.t 16), none⟩])
 (.cond (.t 17)
 (.seq (.reg [⟨some 6, .mov (.k .nsl), none⟩,
 ⟨some 7, .mov (.k (.int .i64 2)), none⟩])
 .ret)
 .skip))
 (.seq (.reg [⟨some 19, .slca 32 1 false (.t 3) none none none, none⟩,
 ⟨some 20, .mov (.t 1), none⟩,
 ⟨some 21, .call (.k (.fn (.func 84) [] [])) [(.t 19), (.t 20)], none⟩,
 ⟨some 22, .mov (.t 2), none⟩,
 ⟨some 23, .bin .mul .num (.t 22) (.k (.int .i64 32)), none⟩,
 ⟨some 24, .call (.k (.fn (.func 83) [] [])) [(.t 21), (.k .nsl), (.t 23)], none⟩,
 ⟨some 18, .mov (.t 24), none⟩,
 ⟨some 25, .ext (.t 18) 0, none⟩,
 ⟨some 26, .ext (.t 18) 1, none⟩,
 ⟨some 8, .mov (.t 25), none⟩,
 ⟨some 9, .mov (.t 26), none⟩])
 (.seq (.reg [⟨some 10, .new [.nsl] none, none⟩])
 (.seq (.seq (.reg [⟨some 27, .mov (.t 8), none⟩,
 ⟨some 28, .call (.k (.fn (.func 85) [] [])) [(.t 27), (.k (.int .i64 32))], none⟩])
 (.block 0
 .no))
 (.seq (.reg [⟨some 36, .load 1 false (.t 10), none⟩,
 ⟨some 37, .mov (.t 9), none⟩,
 ⟨some 6, .mov (.t 36), none⟩,
 ⟨some 7, .mov (.t 37), none⟩])
 .ret))))))⟩

/-- 83: signetring/mac.Expand -/
def F83 : Fun :=
 ⟨39, 3, [.t 6, .t 7],
 (.seq (.reg [⟨some 3, .box none (.t 0), none⟩,
 ⟨some 6, .mov (.k .nsl), none⟩,
 ⟨some 7, .mov (.k (.int .i64 0)), none⟩])
 (.seq (.seq (.reg [⟨some 12, .mov (.t 2), none⟩,
 ⟨some 13, .bin .lss .num (.t 12) (.k (.int .i64 0)), none⟩,
 ⟨some 14, .mov (.t 13), none⟩,
 ⟨some 15, .mov (.t 2), some (14, false)⟩,
 ⟨some 16, .bin .gtr .num (.t 15) (.k (.int .i64 8160)), some (14, false)⟩,
 ⟨some 17, .pick (.t 14) (.k (.bool true)) (.t 16), none⟩])
 (.cond (.t 17)
 (.seq (.reg [⟨some 6, .mov (.k .nsl), none⟩,
 ⟨some 7, .mov (.k (.int .i64 2)), none⟩])
 .ret)
 .skip))
 (.seq (.reg [⟨some 8, .mov (.k .nsl), none⟩,
 ⟨some 9, .mov (.k .nsl), none⟩])
 (.seq (.seq (.reg [⟨some 10, .mov (.k (.int .u8 1)), none⟩])
 (.block 0
 (.loop
 (.seq (.seq (.reg [⟨some 18, .mov (.t 8), none⟩,
 ⟨some 19, .len .slc (.t 18), none⟩,
 ⟨some 20, .mov (.t 2), none⟩,
 ⟨some 21, .bin .lss .num (.t 19) (.t 20), none⟩])
 (.cond (.t 21)
 .skip
 (.exit 0)))
 (.seq (.block 1
 (.seq (.dreg [⟨some 24, .slca 32 1 false (.t 3) none none none, none⟩,
 ⟨some 25, .mov (.t 9), none⟩,
 ⟨some 26, .mov (.t 1), none⟩,
 ⟨some 27, .mov (.t 10), none⟩,
 ⟨some 28, .mks true 1 1 false [.int .u8 0] 1 [(0, (.t 27))], none⟩,
 ⟨some 29, .mks true 1 24 false [.nsl, .nsl, .nsl] 3 [(0, (.t 25)), (1, (.t 26)), (2, (.t 28))], none⟩,
 ⟨some 30, .call (.k (.fn (.func 24) [] [])) [(.t 29)], none⟩,
 ⟨some 31, .call (.k (.fn (.func 87) [] [])) [(.t 24), (.t 30)], none⟩,
 ⟨some 11, .new [.int .u8 0, .int .u8 0, .int .u8 0, .int .u8 0, .int .u8 0, .int .u8 0, .int .u8 0, .int .u8 0, .int .u8 0, .int .u8 0, .int .u8 0, .int .u8 0, .int .u8 0, .int .u8 0, .int .u8 0, .int .u8 0, .int .u8 0, .int .u8 0, .int .u8 0, .int .u8 0, .int .u8 0, .int .u8 0, .int .u8 0, .int .u8 0, .int .u8 0, .int .u8 0, .int .u8 0, .int .u8 0, .int .u8 0, .int .u8 0, .int .u8 0, .int .u8 0] none, none⟩,
 ⟨none, .store 32 (.t 11) (.t 31), none⟩] (.lin [8] [(0, none), (1, none), (2, none), (3, none), (4, none), (5, none), (6, some [0]), (7, some []), (9, some [])]))
 (.seq (.reg [⟨some 32, .slca 32 1 false (.t 11) none none none, none⟩,
 ⟨some 9, .mov (.t 32), none⟩])
 (.reg [⟨some 33, .mov (.t 8), none⟩,
 ⟨some 34, .mov (.t 9), none⟩,
 ⟨some 35, .app 1 1 false none (.t 33) (.t 34), none⟩,
 ⟨some 8, .mov (.t 35), none⟩]))))
 (.reg [⟨some 22, .mov (.t 10), none⟩,
 ⟨some 23, .bin .add .num (.t 22) (.k (.int .u8 1)), none⟩,
 ⟨some 10, .mov (.t 23), none⟩]))))))
 (.seq (.reg [⟨some 36, .mov (.t 8), none⟩,
 ⟨some 37, .mov (.t 2), none⟩,
 ⟨some 38, .slc false 1 (.t 36) none (some (.t 37)) none, none⟩,
 ⟨some 6, .mov (.t 38), none⟩,
 ⟨some 7, .mov (.k (.int .i64 0)), none⟩])
 .ret)))))⟩

/-- 84: signetring/mac.Extract -/
def F84 : Fun :=
 ⟨8, 2, [.c 4 32 true],
 (.seq (.reg [⟨some 4, .new [.int .u8 0, .int .u8 0, .int .u8 0, .int .u8 0, .int .u8 0, .int .u8 0, .int .u8 0, .int .u8 0, .int .u8 0, .int .u8 0, .int .u8 0, .int .u8 0, .int .u8 0, .int .u8 0, .int .u8 0, .int .u8 0, .int .u8 0, .int .u8 0, .int .u8 0, .int .u8 0, .int .u8 0, .int .u8 0, .int .u8 0, .int .u8 0, .int .u8 0, .int .u8 0, .int .u8 0, .int .u8 0, .int .u8 0, .int .u8 0, .int .u8 0, .int .u8 0] none, none⟩])
 (.seq (.reg [⟨some 5, .mov (.t 0), none⟩,
 ⟨some 6, .mov (.t 1), none⟩,
 ⟨some 7, .call (.k (.fn (.func 87) [] [])) [(.t 5), (.t 6)], none⟩,
 ⟨none, .store 32 (.t 4) (.t 7), none⟩])
 .ret))⟩

/-- 85: slices.Chunk[[]byte,byte] -/
def F85 : Fun :=
 ⟨9, 2, [.t 4],
 (.seq (.reg [⟨some 2, .box none (.t 0), none⟩,
 ⟨some 3, .box none (.t 1), none⟩,
 ⟨some 4, .mov (.k .nfn), none⟩])
 (.seq (.seq (.reg [⟨some 5, .load 1 false (.t 3), none⟩,
 ⟨some 6, .bin .lss .num (.t 5) (.k (.int .i64 1)), none⟩])
 (.cond (.t 6)
 (.reg [⟨some 7, .mki 9 (.k (.str [99, 97, 110, 110, 111, 116, 32, 98, 101, 32, 108, 101, 115, 115, 32, 116, 104, 97, 110, 32, 49])), none⟩,
 ⟨none, .pan (.t 7), none⟩])
 .skip))
 (.seq (.reg [⟨some 8, .mkf (.func 88) [] [(.t 2), (.t 3)], none⟩,
 ⟨some 4, .mov (.t 8), none⟩])
 .ret)))⟩


theorem ck6 : ckF Tryd.prog 6 F6 = true := by kernel_rfl
theorem ck7 : ckF Tryd.prog 7 F7 = true := by kernel_rfl
theorem ck8 : ckF Tryd.prog 8 F8 = true := by kernel_rfl
theorem ck9 : ckF Tryd.prog 9 F9 = true := by kernel_rfl
theorem ck10 : ckF Tryd.prog 10 F10 = true := by kernel_rfl
theorem ck11 : ckF Tryd.prog 11 F11 = true := by kernel_rfl
theorem ck14 : ckF Tryd.prog 14 F14 = true := by kernel_rfl
theorem ck15 : ckF Tryd.prog 15 F15 = true := by kernel_rfl
theorem ck16 : ckF Tryd.prog 16 F16 = true := by kernel_rfl
theorem ck18 : ckF Tryd.prog 18 F18 = true := by kernel_rfl
theorem ck19 : ckF Tryd.prog 19 F19 = true := by kernel_rfl
theorem ck20 : ckF Tryd.prog 20 F20 = true := by kernel_rfl
theorem ck21 : ckF Tryd.prog 21 F21 = true := by kernel_rfl
theorem ck22 : ckF Tryd.prog 22 F22 = true := by kernel_rfl
theorem ck24 : ckF Tryd.prog 24 F24 = true := by kernel_rfl
theorem ck25 : ckF Tryd.prog 25 F25 = true := by kernel_rfl
theorem ck26 : ckF Tryd.prog 26 F26 = true := by kernel_rfl
theorem ck27 : ckF Tryd.prog 27 F27 = true := by kernel_rfl
theorem ck28 : ckF Tryd.prog 28 F28 = true := by kernel_rfl
theorem ck29 : ckF Tryd.prog 29 F29 = true := by kernel_rfl
theorem ck30 : ckF Tryd.prog 30 F30 = true := by kernel_rfl
theorem ck31 : ckF Tryd.prog 31 F31 = true := by kernel_rfl
theorem ck32 : ckF Tryd.prog 32 F32 = true := by kernel_rfl
theorem ck33 : ckF Tryd.prog 33 F33 = true := by kernel_rfl
theorem ck35 : ckF Tryd.prog 35 F35 = true := by kernel_rfl
theorem ck52 : ckF Tryd.prog 52 F52 = true := by kernel_rfl
theorem ck53 : ckF Tryd.prog 53 F53 = true := by kernel_rfl
theorem ck54 : ckF Tryd.prog 54 F54 = true := by kernel_rfl
theorem ck55 : ckF Tryd.prog 55 F55 = true := by kernel_rfl
theorem ck56 : ckF Tryd.prog 56 F56 = true := by kernel_rfl
theorem ck57 : ckF Tryd.prog 57 F57 = true := by kernel_rfl
theorem ck58 : ckF Tryd.prog 58 F58 = true := by kernel_rfl
theorem ck59 : ckF Tryd.prog 59 F59 = true := by kernel_rfl
theorem ck60 : ckF Tryd.prog 60 F60 = true := by kernel_rfl
theorem ck61 : ckF Tryd.prog 61 F61 = true := by kernel_rfl
theorem ck62 : ckF Tryd.prog 62 F62 = true := by kernel_rfl
theorem ck63 : ckF Tryd.prog 63 F63 = true := by kernel_rfl
theorem ck64 : ckF Tryd.prog 64 F64 = true := by kernel_rfl
theorem ck65 : ckF Tryd.prog 65 F65 = true := by kernel_rfl
theorem ck66 : ckF Tryd.prog 66 F66 = true := by kernel_rfl
theorem ck67 : ckF Tryd.prog 67 F67 = true := by kernel_rfl
theorem ck68 : ckF Tryd.prog 68 F68 = true := by kernel_rfl
theorem ck70 : ckF Tryd.prog 70 F70 = true := by kernel_rfl
theorem ck71 : ckF Tryd.prog 71 F71 = true := by kernel_rfl
theorem ck72 : ckF Tryd.prog 72 F72 = true := by kernel_rfl
theorem ck75 : ckF Tryd.prog 75 F75 = true := by kernel_rfl
theorem ck76 : ckF Tryd.prog 76 F76 = true := by kernel_rfl
theorem ck77 : ckF Tryd.prog 77 F77 = true := by kernel_rfl
theorem ck78 : ckF Tryd.prog 78 F78 = true := by kernel_rfl
theorem ck79 : ckF Tryd.prog 79 F79 = true := by kernel_rfl
theorem ck80 : ckF Tryd.prog 80 F80 = true := by kernel_rfl
theorem ck81 : ckF Tryd.prog 81 F81 = true := by kernel_rfl
theorem ck83 : ckF Tryd.prog 83 F83 = true := by kernel_rfl
theorem ck84 : ckF Tryd.prog 84 F84 = true := by kernel_rfl
theorem ck85 : ckF Tryd.prog 85 F85 = true := by kernel_rfl
theorem st6 : K.stC F6.c = true := by kernel_rfl
theorem st7 : K.stC F7.c = true := by kernel_rfl
theorem st8 : K.stC F8.c = true := by kernel_rfl
theorem st9 : K.stC F9.c = true := by kernel_rfl
theorem st10 : K.stC F10.c = true := by kernel_rfl
theorem st11 : K.stC F11.c = true := by kernel_rfl
theorem st14 : K.stC F14.c = true := by kernel_rfl
theorem st15 : K.stC F15.c = true := by kernel_rfl
theorem st16 : K.stC F16.c = true := by kernel_rfl
theorem st18 : K.stC F18.c = true := by kernel_rfl
theorem st19 : K.stC F19.c = true := by kernel_rfl
theorem st20 : K.stC F20.c = true := by kernel_rfl
theorem st21 : K.stC F21.c = true := by kernel_rfl
theorem st22 : K.stC F22.c = true := by kernel_rfl
theorem st24 : K.stC F24.c = true := by kernel_rfl
theorem st25 : K.stC F25.c = true := by kernel_rfl
theorem st26 : K.stC F26.c = true := by kernel_rfl
theorem st27 : K.stC F27.c = true := by kernel_rfl
theorem st28 : K.stC F28.c = true := by kernel_rfl
theorem st29 : K.stC F29.c = true := by kernel_rfl
theorem st30 : K.stC F30.c = true := by kernel_rfl
theorem st31 : K.stC F31.c = true := by kernel_rfl
theorem st32 : K.stC F32.c = true := by kernel_rfl
theorem st33 : K.stC F33.c = true := by kernel_rfl
theorem st35 : K.stC F35.c = true := by kernel_rfl
theorem st52 : K.stC F52.c = true := by kernel_rfl
theorem st53 : K.stC F53.c = true := by kernel_rfl
theorem st54 : K.stC F54.c = true := by kernel_rfl
theorem st55 : K.stC F55.c = true := by kernel_rfl
theorem st56 : K.stC F56.c = true := by kernel_rfl
theorem st57 : K.stC F57.c = true := by kernel_rfl
theorem st58 : K.stC F58.c = true := by kernel_rfl
theorem st59 : K.stC F59.c = true := by kernel_rfl
theorem st60 : K.stC F60.c = true := by kernel_rfl
theorem st61 : K.stC F61.c = true := by kernel_rfl
theorem st62 : K.stC F62.c = true := by kernel_rfl
theorem st64 : K.stC F64.c = true := by kernel_rfl
theorem st65 : K.stC F65.c = true := by kernel_rfl
theorem st66 : K.stC F66.c = true := by kernel_rfl
theorem st67 : K.stC F67.c = true := by kernel_rfl
theorem st68 : K.stC F68.c = true := by kernel_rfl
theorem st70 : K.stC F70.c = true := by kernel_rfl
theorem st71 : K.stC F71.c = true := by kernel_rfl
theorem st72 : K.stC F72.c = true := by kernel_rfl
theorem st75 : K.stC F75.c = true := by kernel_rfl
theorem st76 : K.stC F76.c = true := by kernel_rfl
theorem st77 : K.stC F77.c = true := by kernel_rfl
theorem st78 : K.stC F78.c = true := by kernel_rfl
theorem st79 : K.stC F79.c = true := by kernel_rfl
theorem st80 : K.stC F80.c = true := by kernel_rfl
theorem st81 : K.stC F81.c = true := by kernel_rfl
theorem st83 : K.stC F83.c = true := by kernel_rfl
theorem st84 : K.stC F84.c = true := by kernel_rfl
theorem st85 : K.stC F85.c = true := by kernel_rfl
end Go.Proofs.YtfinnljkcgglfaaDoor
