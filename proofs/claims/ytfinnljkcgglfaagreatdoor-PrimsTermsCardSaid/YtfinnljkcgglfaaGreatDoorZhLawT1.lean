/- PrimsTerms: its code, with the end as a text of its own (printed by wip/tools/gentail.py). -/
import Derived.Test.YtfinnljkcgglfaaGreatDoorZhLawR
namespace Go.Proofs.YtfinnljkcgglfaaGreatDoor
open Go Go.Vs Go.RowKit
set_option maxRecDepth 100000
def tailC : C := (.seq (.reg [⟨(some 139), (.mov (.t 6)), none⟩,
      ⟨(some 140), (.fad 0 (.t 2)), none⟩,
      ⟨(some 141), (.load 1 false (.t 140)), none⟩,
      ⟨(some 142), (.fad 1 (.t 2)), none⟩,
      ⟨(some 143), (.load 1 false (.t 142)), none⟩,
      ⟨(some 144), (.mov (.t 1)), none⟩,
      ⟨(some 145), (.inv (.t 139) "Keys" [(.t 141), (.t 143), (.t 144)]), none⟩,
      ⟨(some 17), (.mov (.t 145)), none⟩])
    (.seq (.seq (.reg [⟨(some 146), (.mov (.t 1)), none⟩,
      ⟨(some 147), (.bin .lss .num (.t 146) (.k (.int .i64 1))), none⟩,
      ⟨(some 148), (.mov (.t 147)), none⟩,
      ⟨(some 149), (.mov (.t 1)), some (148, false)⟩,
      ⟨(some 150), (.bin .gtr .num (.t 149) (.k (.int .i64 3))), some (148, false)⟩,
      ⟨(some 151), (.pick (.t 148) (.k (.bool true)) (.t 150)), none⟩])
    (.cond (.t 151)
      (.seq (.reg [⟨(some 152), (.mov (.t 17)), none⟩,
        ⟨(some 153), (.len .slc (.t 152)), none⟩,
        ⟨(some 154), (.bin .eql .num (.t 153) (.k (.int .i64 0))), none⟩,
        ⟨(some 4), (.mov (.t 154)), none⟩])
      .ret)
      .skip))
    (.seq (.seq (.reg [⟨(some 155), (.mov (.t 17)), none⟩,
      ⟨(some 156), (.len .slc (.t 155)), none⟩,
      ⟨(some 157), (.mov (.t 1)), none⟩,
      ⟨(some 158), (.bin .neq .num (.t 156) (.t 157)), none⟩])
    (.cond (.t 158)
      (.seq (.reg [⟨(some 4), (.mov (.k (.bool false))), none⟩])
      .ret)
      .skip))
    (.seq (.seq (.reg [⟨(some 159), (.mov (.t 17)), none⟩,
      ⟨(some 160), (.len .slc (.t 159)), none⟩,
      ⟨(some 161), (.mov (.k (.int .i64 0))), none⟩])
    (.block 0
      (.loop
        (.seq (.reg [⟨(some 162), (.bin .lss .num (.t 161) (.t 160)), none⟩])
        (.seq (.cond (.t 162)
          .skip
          (.exit 0))
        (.seq (.block 1
          (.seq (.reg [⟨(some 163), (.mov (.t 161)), none⟩,
            ⟨(some 18), (.mov (.t 163)), none⟩])
          (.seq (.dreg [⟨(some 164), (.mov (.t 17)), none⟩,
            ⟨(some 165), (.mov (.t 18)), none⟩,
            ⟨(some 166), (.iad 1 (.t 164) (.t 165)), none⟩,
            ⟨(some 167), (.load 1 false (.t 166)), none⟩,
            ⟨(some 168), (.mov (.t 5)), none⟩,
            ⟨(some 169), (.mov (.t 18)), none⟩,
            ⟨(some 170), (.bin .add .num (.t 169) (.k (.int .i64 1))), none⟩,
            ⟨(some 171), (.cvi .u64 (.t 170)), none⟩,
            ⟨(some 172), (.call (.k (.fn (.func 20) [] [])) [(.t 171)]), none⟩,
            ⟨(some 173), (.fad 0 (.t 2)), none⟩,
            ⟨(some 174), (.load 1 false (.t 173)), none⟩,
            ⟨(some 175), (.fad 1 (.t 2)), none⟩,
            ⟨(some 176), (.load 1 false (.t 175)), none⟩,
            ⟨(some 177), (.mks true 1 16 false [(.str []), (.str []), (.str []), (.str [])] 4 [(0, (.k (.str [107, 101, 121]))), (1, (.t 172)), (2, (.t 174)), (3, (.t 176))]), none⟩,
            ⟨(some 178), (.call (.k (.fn (.func 17) [] [])) [(.t 168), (.t 177)]), none⟩,
            ⟨(some 179), (.bin .neq .str (.t 167) (.t 178)), none⟩] (.lin [] [(0, none), (1, none), (2, none), (3, none), (4, none), (5, none), (6, none), (7, none), (9, none), (10, none), (11, none), (12, none), (8, some [0, 1, 2, 3, 4, 9, 10, 11, 12]), (13, none), (14, some [0, 1, 2, 3]), (15, none)]))
          (.cond (.t 179)
            (.seq (.reg [⟨(some 4), (.mov (.k (.bool false))), none⟩])
            .ret)
            .skip))))
        (.reg [⟨(some 180), (.bin .add .num (.t 161) (.k (.int .i64 1))), none⟩,
          ⟨(some 161), (.mov (.t 180)), none⟩])))))))
    (.seq (.reg [⟨(some 4), (.mov (.k (.bool true))), none⟩])
    .ret)))))
def F4' : Fun :=
  ⟨181, 2, [.t 4],
    (.seq (.reg [⟨(some 2), (.box none (.t 0)), none⟩,
      ⟨(some 4), (.mov (.k (.bool false))), none⟩])
    (.seq (.seq (.reg [⟨(some 19), (.call (.k (.fn (.func 5) [] [])) []), none⟩,
      ⟨(some 20), (.un .not (.t 19)), none⟩])
    (.cond (.t 20)
      (.seq (.reg [⟨(some 4), (.mov (.k (.bool false))), none⟩])
      .ret)
      .skip))
    (.seq (.reg [⟨(some 21), (.call (.k (.fn (.func 13) [] [])) []), none⟩,
      ⟨(some 5), (.mov (.t 21)), none⟩])
    (.seq (.reg [⟨(some 22), (.mov (.t 5)), none⟩,
      ⟨(some 23), (.call (.k (.fn (.func 14) [] [])) [(.t 22)]), none⟩,
      ⟨(some 6), (.mov (.t 23)), none⟩])
    (.seq (.seq (.reg [⟨(some 24), (.mov (.t 5)), none⟩,
      ⟨(some 25), (.bin .eql .ptr (.t 24) (.k .nptr)), none⟩,
      ⟨(some 26), (.mov (.t 25)), none⟩,
      ⟨(some 27), (.mov (.t 6)), some (26, false)⟩,
      ⟨(some 28), (.bin .eql .ifc (.t 27) (.k .nifc)), some (26, false)⟩,
      ⟨(some 29), (.pick (.t 26) (.k (.bool true)) (.t 28)), none⟩,
      ⟨(some 30), (.mov (.t 29)), none⟩,
      ⟨(some 31), (.load 5 true (.t 2)), some (30, false)⟩,
      ⟨(some 32), (.call (.k (.fn (.func 7) [] [])) [(.t 31)]), some (30, false)⟩,
      ⟨(some 33), (.un .not (.t 32)), some (30, false)⟩,
      ⟨(some 34), (.pick (.t 30) (.k (.bool true)) (.t 33)), none⟩])
    (.cond (.t 34)
      (.seq (.reg [⟨(some 35), (.mov (.t 5)), none⟩,
        ⟨(some 36), (.bin .neq .ptr (.t 35) (.k .nptr)), none⟩,
        ⟨(some 37), (.mov (.t 36)), none⟩,
        ⟨(some 38), (.mov (.t 6)), some (37, true)⟩,
        ⟨(some 39), (.bin .neq .ifc (.t 38) (.k .nifc)), some (37, true)⟩,
        ⟨(some 40), (.pick (.t 37) (.t 39) (.k (.bool false))), none⟩,
        ⟨(some 4), (.mov (.t 40)), none⟩])
      .ret)
      .skip))
    (.seq (.reg [⟨(some 41), (.mov (.t 6)), none⟩,
      ⟨(some 42), (.fad 0 (.t 2)), none⟩,
      ⟨(some 43), (.load 1 false (.t 42)), none⟩,
      ⟨(some 44), (.inv (.t 41) "Pub" [(.t 43)]), none⟩,
      ⟨(some 7), (.mov (.t 44)), none⟩])
    (.seq (.reg [⟨(some 46), (.mov (.t 6)), none⟩,
      ⟨(some 47), (.fad 1 (.t 2)), none⟩,
      ⟨(some 48), (.load 1 false (.t 47)), none⟩,
      ⟨(some 49), (.mov (.t 7)), none⟩,
      ⟨(some 50), (.inv (.t 46) "Dh" [(.t 48), (.t 49)]), none⟩,
      ⟨(some 45), (.mov (.t 50)), none⟩,
      ⟨(some 51), (.ext (.t 45) 0), none⟩,
      ⟨(some 52), (.ext (.t 45) 1), none⟩,
      ⟨(some 8), (.mov (.t 51)), none⟩,
      ⟨(some 9), (.mov (.t 52)), none⟩])
    (.seq (.dreg [⟨(some 54), (.mov (.t 5)), none⟩,
      ⟨(some 55), (.fad 1 (.t 2)), none⟩,
      ⟨(some 56), (.load 1 false (.t 55)), none⟩,
      ⟨(some 57), (.mov (.t 5)), none⟩,
      ⟨(some 58), (.fad 0 (.t 2)), none⟩,
      ⟨(some 59), (.load 1 false (.t 58)), none⟩,
      ⟨(some 60), (.call (.k (.fn (.func 16) [] [])) [(.t 57), (.t 59)]), none⟩,
      ⟨(some 61), (.call (.k (.fn (.func 15) [] [])) [(.t 54), (.t 56), (.t 60)]), none⟩,
      ⟨(some 53), (.mov (.t 61)), none⟩,
      ⟨(some 62), (.ext (.t 53) 0), none⟩,
      ⟨(some 63), (.ext (.t 53) 1), none⟩,
      ⟨(some 10), (.mov (.t 62)), none⟩,
      ⟨(some 11), (.mov (.t 63)), none⟩] (.lin [] [(0, none), (1, none), (2, none), (3, none), (4, none), (5, none), (6, some [0, 1, 2]), (7, some []), (8, none), (9, none), (10, none), (11, none), (12, none)]))
    (.seq (.seq (.dreg [⟨(some 64), (.mov (.t 7)), none⟩,
      ⟨(some 65), (.mov (.t 5)), none⟩,
      ⟨(some 66), (.fad 0 (.t 2)), none⟩,
      ⟨(some 67), (.load 1 false (.t 66)), none⟩,
      ⟨(some 68), (.call (.k (.fn (.func 16) [] [])) [(.t 65), (.t 67)]), none⟩,
      ⟨(some 69), (.bin .neq .str (.t 64) (.t 68)), none⟩,
      ⟨(some 70), (.mov (.t 69)), none⟩,
      ⟨(some 71), (.mov (.t 8)), some (70, false)⟩,
      ⟨(some 72), (.mov (.t 10)), some (70, false)⟩,
      ⟨(some 73), (.bin .neq .str (.t 71) (.t 72)), some (70, false)⟩,
      ⟨(some 74), (.pick (.t 70) (.k (.bool true)) (.t 73)), none⟩,
      ⟨(some 75), (.mov (.t 74)), none⟩,
      ⟨(some 76), (.mov (.t 9)), some (75, false)⟩,
      ⟨(some 77), (.mov (.t 11)), some (75, false)⟩,
      ⟨(some 78), (.bin .neq .bool (.t 76) (.t 77)), some (75, false)⟩,
      ⟨(some 79), (.pick (.t 75) (.k (.bool true)) (.t 78)), none⟩,
      ⟨(some 80), (.mov (.t 79)), none⟩,
      ⟨(some 81), (.mov (.t 6)), some (80, false)⟩,
      ⟨(some 82), (.fad 0 (.t 2)), some (80, false)⟩,
      ⟨(some 83), (.load 1 false (.t 82)), some (80, false)⟩,
      ⟨(some 84), (.fad 1 (.t 2)), some (80, false)⟩,
      ⟨(some 85), (.load 1 false (.t 84)), some (80, false)⟩,
      ⟨(some 86), (.inv (.t 81) "Hash" [(.t 83), (.t 85)]), some (80, false)⟩,
      ⟨(some 87), (.mov (.t 5)), some (80, false)⟩,
      ⟨(some 88), (.fad 0 (.t 2)), some (80, false)⟩,
      ⟨(some 89), (.load 1 false (.t 88)), some (80, false)⟩,
      ⟨(some 90), (.fad 1 (.t 2)), some (80, false)⟩,
      ⟨(some 91), (.load 1 false (.t 90)), some (80, false)⟩,
      ⟨(some 92), (.mks true 1 16 false [(.str []), (.str []), (.str [])] 3 [(0, (.k (.str [104, 97, 115, 104]))), (1, (.t 89)), (2, (.t 91))]), some (80, false)⟩,
      ⟨(some 93), (.call (.k (.fn (.func 17) [] [])) [(.t 87), (.t 92)]), some (80, false)⟩,
      ⟨(some 94), (.bin .neq .str (.t 86) (.t 93)), some (80, false)⟩,
      ⟨(some 95), (.pick (.t 80) (.k (.bool true)) (.t 94)), none⟩,
      ⟨(some 96), (.mov (.t 95)), none⟩,
      ⟨(some 97), (.mov (.t 6)), some (96, false)⟩,
      ⟨(some 98), (.fad 0 (.t 2)), some (96, false)⟩,
      ⟨(some 99), (.load 1 false (.t 98)), some (96, false)⟩,
      ⟨(some 100), (.fad 2 (.t 2)), some (96, false)⟩,
      ⟨(some 101), (.load 1 false (.t 100)), some (96, false)⟩,
      ⟨(some 102), (.fad 3 (.t 2)), some (96, false)⟩,
      ⟨(some 103), (.load 1 false (.t 102)), some (96, false)⟩,
      ⟨(some 104), (.fad 4 (.t 2)), some (96, false)⟩,
      ⟨(some 105), (.load 1 false (.t 104)), some (96, false)⟩,
      ⟨(some 106), (.inv (.t 97) "Seal" [(.t 99), (.t 101), (.t 103), (.t 105)]), some (96, false)⟩,
      ⟨(some 107), (.mov (.t 5)), some (96, false)⟩,
      ⟨(some 108), (.fad 0 (.t 2)), some (96, false)⟩,
      ⟨(some 109), (.load 1 false (.t 108)), some (96, false)⟩,
      ⟨(some 110), (.fad 2 (.t 2)), some (96, false)⟩,
      ⟨(some 111), (.load 1 false (.t 110)), some (96, false)⟩,
      ⟨(some 112), (.fad 3 (.t 2)), some (96, false)⟩,
      ⟨(some 113), (.load 1 false (.t 112)), some (96, false)⟩,
      ⟨(some 114), (.fad 4 (.t 2)), some (96, false)⟩,
      ⟨(some 115), (.load 1 false (.t 114)), some (96, false)⟩,
      ⟨(some 116), (.call (.k (.fn (.func 18) [] [])) [(.t 107), (.t 109), (.t 111), (.t 113), (.t 115)]), some (96, false)⟩,
      ⟨(some 117), (.bin .neq .str (.t 106) (.t 116)), some (96, false)⟩,
      ⟨(some 118), (.pick (.t 96) (.k (.bool true)) (.t 117)), none⟩] (.lin [] [(0, none), (1, none), (2, none), (3, none), (4, some [0]), (5, none), (6, none), (7, none), (8, none), (9, none), (10, none), (11, none), (12, none), (13, none), (14, none), (15, none), (16, none), (17, none), (18, none), (19, none), (20, none), (21, none), (23, none), (24, none), (25, none), (26, none), (27, none), (28, none), (22, some [23, 24, 25, 26, 27, 28]), (29, some []), (30, none), (31, none), (32, none), (33, none), (34, none), (35, none), (36, none), (37, none), (38, none), (39, none), (40, none), (41, none), (43, none), (44, none), (45, none), (46, none), (47, none), (48, none), (49, none), (50, none), (51, none), (42, some [43, 44, 45, 46, 47, 48, 49, 50, 51]), (52, some []), (53, none), (54, none)]))
    (.cond (.t 118)
      (.seq (.reg [⟨(some 4), (.mov (.k (.bool false))), none⟩])
      .ret)
      .skip))
    (.seq (.seq (.reg [⟨(some 120), (.mov (.t 5)), none⟩,
      ⟨(some 121), (.fad 1 (.t 2)), none⟩,
      ⟨(some 122), (.load 1 false (.t 121)), none⟩,
      ⟨(some 123), (.call (.k (.fn (.func 19) [] [])) [(.t 120), (.t 122)]), none⟩,
      ⟨(some 119), (.mov (.t 123)), none⟩,
      ⟨(some 124), (.ext (.t 119) 0), none⟩,
      ⟨(some 125), (.ext (.t 119) 1), none⟩,
      ⟨(some 126), (.ext (.t 119) 2), none⟩,
      ⟨(some 12), (.mov (.t 124)), none⟩,
      ⟨(some 13), (.mov (.t 125)), none⟩,
      ⟨(some 14), (.mov (.t 126)), none⟩])
    (.seq (.reg [⟨(some 127), (.mov (.t 14)), none⟩,
      ⟨(some 128), (.un .not (.t 127)), none⟩])
    (.cond (.t 128)
      (.seq (.reg [⟨(some 130), (.mov (.t 6)), none⟩,
        ⟨(some 131), (.fad 0 (.t 2)), none⟩,
        ⟨(some 132), (.load 1 false (.t 131)), none⟩,
        ⟨(some 133), (.fad 1 (.t 2)), none⟩,
        ⟨(some 134), (.load 1 false (.t 133)), none⟩,
        ⟨(some 135), (.inv (.t 130) "Dh" [(.t 132), (.t 134)]), none⟩,
        ⟨(some 129), (.mov (.t 135)), none⟩,
        ⟨(some 136), (.ext (.t 129) 0), none⟩,
        ⟨(some 137), (.ext (.t 129) 1), none⟩,
        ⟨(some 15), (.mov (.t 136)), none⟩,
        ⟨(some 16), (.mov (.t 137)), none⟩])
      (.seq (.reg [⟨(some 138), (.mov (.t 16)), none⟩])
      (.cond (.t 138)
        (.seq (.reg [⟨(some 4), (.mov (.k (.bool false))), none⟩])
        .ret)
        .skip)))
      .skip)))
    tailC))))))))))⟩
theorem F4_eq : F4 = F4' := rfl
end Go.Proofs.YtfinnljkcgglfaaGreatDoor
