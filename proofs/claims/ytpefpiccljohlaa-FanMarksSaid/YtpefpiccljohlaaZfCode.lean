/- The code of the functions, as it is told, and that it is told rightly. -/
import Derived.Test.YtpefpiccljohlaaProg
import Derived.Test.YtpefpiccljohlaaZvRec
import Derived.KernelRfl
namespace Go.Proofs.Ytpefpiccljohlaa
open Go.Vs
set_option maxRecDepth 100000

/-- 3: signetring/signetringlaw20.FanGroups -/
def F3 : Fun :=
  ⟨65, 2, [.t 4],
    (.seq (.reg [⟨(some 4), (.mov (.k (.bool false))), none⟩])
    (.seq (.seq (.reg [⟨(some 13), (.call (.k (.fn (.func 8) [] [])) []), none⟩,
      ⟨(some 14), (.un .not (.t 13)), none⟩])
    (.cond (.t 14)
      (.seq (.reg [⟨(some 4), (.mov (.k (.bool false))), none⟩])
      .ret)
      .skip))
    (.seq (.seq (.reg [⟨(some 15), (.mov (.t 0)), none⟩,
      ⟨(some 16), (.call (.k (.fn (.func 9) [] [])) [(.t 15)]), none⟩,
      ⟨(some 17), (.un .not (.t 16)), none⟩,
      ⟨(some 18), (.mov (.t 17)), none⟩,
      ⟨(some 19), (.mov (.t 1)), some (18, false)⟩,
      ⟨(some 20), (.len .str (.t 19)), some (18, false)⟩,
      ⟨(some 21), (.bin .gtr .num (.t 20) (.k (.int .i64 500))), some (18, false)⟩,
      ⟨(some 22), (.pick (.t 18) (.k (.bool true)) (.t 21)), none⟩])
    (.cond (.t 22)
      (.seq (.reg [⟨(some 4), (.mov (.k (.bool true))), none⟩])
      .ret)
      .skip))
    (.seq (.reg [⟨(some 24), (.mov (.t 0)), none⟩,
      ⟨(some 25), (.mov (.t 1)), none⟩,
      ⟨(some 26), (.call (.k (.fn (.func 10) [] [])) [(.t 24), (.t 25)]), none⟩,
      ⟨(some 23), (.mov (.t 26)), none⟩,
      ⟨(some 27), (.ext (.t 23) 0), none⟩,
      ⟨(some 28), (.ext (.t 23) 1), none⟩,
      ⟨(some 5), (.mov (.t 27)), none⟩,
      ⟨(some 6), (.mov (.t 28)), none⟩])
    (.seq (.reg [⟨(some 30), (.mov (.t 0)), none⟩,
      ⟨(some 31), (.mov (.t 1)), none⟩,
      ⟨(some 32), (.call (.k (.fn (.func 11) [] [])) [(.t 30), (.t 31)]), none⟩,
      ⟨(some 29), (.mov (.t 32)), none⟩,
      ⟨(some 33), (.ext (.t 29) 0), none⟩,
      ⟨(some 34), (.ext (.t 29) 1), none⟩,
      ⟨(some 7), (.mov (.t 33)), none⟩,
      ⟨(some 8), (.mov (.t 34)), none⟩])
    (.seq (.reg [⟨(some 36), (.mov (.t 0)), none⟩,
      ⟨(some 37), (.mov (.t 1)), none⟩,
      ⟨(some 38), (.call (.k (.fn (.func 12) [] [])) [(.t 36), (.t 37)]), none⟩,
      ⟨(some 35), (.mov (.t 38)), none⟩,
      ⟨(some 39), (.ext (.t 35) 0), none⟩,
      ⟨(some 40), (.ext (.t 35) 1), none⟩,
      ⟨(some 9), (.mov (.t 39)), none⟩,
      ⟨(some 10), (.mov (.t 40)), none⟩])
    (.seq (.reg [⟨(some 42), (.mov (.t 0)), none⟩,
      ⟨(some 43), (.mov (.t 1)), none⟩,
      ⟨(some 44), (.call (.k (.fn (.func 13) [] [])) [(.t 42), (.t 43)]), none⟩,
      ⟨(some 41), (.mov (.t 44)), none⟩,
      ⟨(some 45), (.ext (.t 41) 0), none⟩,
      ⟨(some 46), (.ext (.t 41) 1), none⟩,
      ⟨(some 11), (.mov (.t 45)), none⟩,
      ⟨(some 12), (.mov (.t 46)), none⟩])
    (.seq (.reg [⟨(some 47), (.mov (.t 5)), none⟩,
      ⟨(some 48), (.mov (.t 7)), none⟩,
      ⟨(some 49), (.call (.k (.fn (.func 14) [] [])) [(.t 47), (.t 48)]), none⟩,
      ⟨(some 50), (.mov (.t 49)), none⟩,
      ⟨(some 51), (.mov (.t 6)), some (50, true)⟩,
      ⟨(some 52), (.mov (.t 8)), some (50, true)⟩,
      ⟨(some 53), (.bin .eql .num (.t 51) (.t 52)), some (50, true)⟩,
      ⟨(some 54), (.pick (.t 50) (.t 53) (.k (.bool false))), none⟩,
      ⟨(some 55), (.mov (.t 54)), none⟩,
      ⟨(some 56), (.mov (.t 9)), some (55, true)⟩,
      ⟨(some 57), (.mov (.t 11)), some (55, true)⟩,
      ⟨(some 58), (.call (.k (.fn (.func 14) [] [])) [(.t 56), (.t 57)]), some (55, true)⟩,
      ⟨(some 59), (.pick (.t 55) (.t 58) (.k (.bool false))), none⟩,
      ⟨(some 60), (.mov (.t 59)), none⟩,
      ⟨(some 61), (.mov (.t 10)), some (60, true)⟩,
      ⟨(some 62), (.mov (.t 12)), some (60, true)⟩,
      ⟨(some 63), (.bin .eql .num (.t 61) (.t 62)), some (60, true)⟩,
      ⟨(some 64), (.pick (.t 60) (.t 63) (.k (.bool false))), none⟩,
      ⟨(some 4), (.mov (.t 64)), none⟩])
    .ret))))))))⟩

/-- 4: signetring/signetringlaw20.FanTakes -/
def F4 : Fun :=
  ⟨94, 3, [.t 6],
    (.seq (.reg [⟨(some 6), (.mov (.k (.bool false))), none⟩])
    (.seq (.seq (.reg [⟨(some 19), (.call (.k (.fn (.func 8) [] [])) []), none⟩,
      ⟨(some 20), (.un .not (.t 19)), none⟩])
    (.cond (.t 20)
      (.seq (.reg [⟨(some 6), (.mov (.k (.bool false))), none⟩])
      .ret)
      .skip))
    (.seq (.seq (.reg [⟨(some 21), (.mov (.t 0)), none⟩,
      ⟨(some 22), (.len .slc (.t 21)), none⟩,
      ⟨(some 23), (.bin .gtr .num (.t 22) (.k (.int .i64 200))), none⟩,
      ⟨(some 24), (.mov (.t 23)), none⟩,
      ⟨(some 25), (.mov (.t 1)), some (24, false)⟩,
      ⟨(some 26), (.len .str (.t 25)), some (24, false)⟩,
      ⟨(some 27), (.bin .gtr .num (.t 26) (.k (.int .i64 500))), some (24, false)⟩,
      ⟨(some 28), (.pick (.t 24) (.k (.bool true)) (.t 27)), none⟩,
      ⟨(some 29), (.mov (.t 28)), none⟩,
      ⟨(some 30), (.mov (.t 2)), some (29, false)⟩,
      ⟨(some 31), (.len .str (.t 30)), some (29, false)⟩,
      ⟨(some 32), (.bin .gtr .num (.t 31) (.k (.int .i64 5000))), some (29, false)⟩,
      ⟨(some 33), (.pick (.t 29) (.k (.bool true)) (.t 32)), none⟩])
    (.cond (.t 33)
      (.seq (.reg [⟨(some 6), (.mov (.k (.bool true))), none⟩])
      .ret)
      .skip))
    (.seq (.reg [⟨(some 35), (.mov (.t 0)), none⟩,
      ⟨(some 36), (.call (.k (.fn (.func 16) [] [])) [(.t 35)]), none⟩,
      ⟨(some 37), (.mov (.t 1)), none⟩,
      ⟨(some 38), (.mov (.t 2)), none⟩,
      ⟨(some 39), (.call (.k (.fn (.func 15) [] [])) [(.t 36), (.t 37), (.t 38)]), none⟩,
      ⟨(some 34), (.mov (.t 39)), none⟩,
      ⟨(some 40), (.ext (.t 34) 0), none⟩,
      ⟨(some 41), (.ext (.t 34) 1), none⟩,
      ⟨(some 42), (.ext (.t 34) 2), none⟩,
      ⟨(some 43), (.ext (.t 34) 3), none⟩,
      ⟨(some 7), (.mov (.t 40)), none⟩,
      ⟨(some 8), (.mov (.t 41)), none⟩,
      ⟨(some 9), (.mov (.t 42)), none⟩,
      ⟨(some 10), (.mov (.t 43)), none⟩])
    (.seq (.reg [⟨(some 45), (.mov (.t 0)), none⟩,
      ⟨(some 46), (.mov (.t 1)), none⟩,
      ⟨(some 47), (.mov (.t 2)), none⟩,
      ⟨(some 48), (.call (.k (.fn (.func 17) [] [])) [(.t 45), (.t 46), (.t 47)]), none⟩,
      ⟨(some 44), (.mov (.t 48)), none⟩,
      ⟨(some 49), (.ext (.t 44) 0), none⟩,
      ⟨(some 50), (.ext (.t 44) 1), none⟩,
      ⟨(some 51), (.ext (.t 44) 2), none⟩,
      ⟨(some 52), (.ext (.t 44) 3), none⟩,
      ⟨(some 11), (.mov (.t 49)), none⟩,
      ⟨(some 12), (.mov (.t 50)), none⟩,
      ⟨(some 13), (.mov (.t 51)), none⟩,
      ⟨(some 14), (.mov (.t 52)), none⟩])
    (.seq (.reg [⟨(some 54), (.mov (.t 8)), none⟩,
      ⟨(some 55), (.mov (.t 2)), none⟩,
      ⟨(some 56), (.call (.k (.fn (.func 18) [] [])) [(.t 54), (.t 55)]), none⟩,
      ⟨(some 53), (.mov (.t 56)), none⟩,
      ⟨(some 57), (.ext (.t 53) 0), none⟩,
      ⟨(some 58), (.ext (.t 53) 1), none⟩,
      ⟨(some 15), (.mov (.t 57)), none⟩,
      ⟨(some 16), (.mov (.t 58)), none⟩])
    (.seq (.reg [⟨(some 60), (.mov (.t 8)), none⟩,
      ⟨(some 61), (.mov (.t 2)), none⟩,
      ⟨(some 62), (.call (.k (.fn (.func 19) [] [])) [(.t 60), (.t 61)]), none⟩,
      ⟨(some 59), (.mov (.t 62)), none⟩,
      ⟨(some 63), (.ext (.t 59) 0), none⟩,
      ⟨(some 64), (.ext (.t 59) 1), none⟩,
      ⟨(some 17), (.mov (.t 63)), none⟩,
      ⟨(some 18), (.mov (.t 64)), none⟩])
    (.seq (.reg [⟨(some 65), (.mov (.t 7)), none⟩,
      ⟨(some 66), (.call (.k (.fn (.func 21) [] [])) [(.t 65)]), none⟩,
      ⟨(some 67), (.mov (.t 11)), none⟩,
      ⟨(some 68), (.call (.k (.fn (.func 20) [] [])) [(.t 66), (.t 67)]), none⟩,
      ⟨(some 69), (.mov (.t 68)), none⟩,
      ⟨(some 70), (.mov (.t 8)), some (69, true)⟩,
      ⟨(some 71), (.mov (.t 12)), some (69, true)⟩,
      ⟨(some 72), (.bin .eql .num (.t 70) (.t 71)), some (69, true)⟩,
      ⟨(some 73), (.pick (.t 69) (.t 72) (.k (.bool false))), none⟩,
      ⟨(some 74), (.mov (.t 73)), none⟩,
      ⟨(some 75), (.mov (.t 9)), some (74, true)⟩,
      ⟨(some 76), (.mov (.t 13)), some (74, true)⟩,
      ⟨(some 77), (.bin .eql .str (.t 75) (.t 76)), some (74, true)⟩,
      ⟨(some 78), (.pick (.t 74) (.t 77) (.k (.bool false))), none⟩,
      ⟨(some 79), (.mov (.t 78)), none⟩,
      ⟨(some 80), (.mov (.t 10)), some (79, true)⟩,
      ⟨(some 81), (.mov (.t 14)), some (79, true)⟩,
      ⟨(some 82), (.bin .eql .num (.t 80) (.t 81)), some (79, true)⟩,
      ⟨(some 83), (.pick (.t 79) (.t 82) (.k (.bool false))), none⟩,
      ⟨(some 84), (.mov (.t 83)), none⟩,
      ⟨(some 85), (.mov (.t 15)), some (84, true)⟩,
      ⟨(some 86), (.mov (.t 17)), some (84, true)⟩,
      ⟨(some 87), (.bin .eql .str (.t 85) (.t 86)), some (84, true)⟩,
      ⟨(some 88), (.pick (.t 84) (.t 87) (.k (.bool false))), none⟩,
      ⟨(some 89), (.mov (.t 88)), none⟩,
      ⟨(some 90), (.mov (.t 16)), some (89, true)⟩,
      ⟨(some 91), (.mov (.t 18)), some (89, true)⟩,
      ⟨(some 92), (.bin .eql .num (.t 90) (.t 91)), some (89, true)⟩,
      ⟨(some 93), (.pick (.t 89) (.t 92) (.k (.bool false))), none⟩,
      ⟨(some 6), (.mov (.t 93)), none⟩])
    .ret))))))))⟩

/-- 5: signetring/signetringlaw20.FanOnce -/
def F5 : Fun :=
  ⟨103, 1, [.t 2],
    (.seq (.reg [⟨(some 2), (.mov (.k (.bool false))), none⟩])
    (.seq (.seq (.reg [⟨(some 16), (.call (.k (.fn (.func 8) [] [])) []), none⟩,
      ⟨(some 17), (.un .not (.t 16)), none⟩])
    (.cond (.t 17)
      (.seq (.reg [⟨(some 2), (.mov (.k (.bool false))), none⟩])
      .ret)
      .skip))
    (.seq (.seq (.reg [⟨(some 18), (.mov (.t 0)), none⟩,
      ⟨(some 19), (.len .slc (.t 18)), none⟩,
      ⟨(some 20), (.bin .gtr .num (.t 19) (.k (.int .i64 200))), none⟩])
    (.cond (.t 20)
      (.seq (.reg [⟨(some 2), (.mov (.k (.bool true))), none⟩])
      .ret)
      .skip))
    (.seq (.reg [⟨(some 3), (.mov (.k .nsl)), none⟩])
    (.seq (.reg [⟨(some 4), (.mov (.k .nsl)), none⟩])
    (.seq (.seq (.reg [⟨(some 21), (.mov (.t 0)), none⟩,
      ⟨(some 22), (.len .slc (.t 21)), none⟩,
      ⟨(some 23), (.mov (.k (.int .i64 0))), none⟩])
    (.block 0
      (.loop
        (.seq (.reg [⟨(some 24), (.bin .lss .num (.t 23) (.t 22)), none⟩])
        (.seq (.cond (.t 24)
          .skip
          (.exit 0))
        (.seq (.block 1
          (.seq (.reg [⟨(some 25), (.iad 2 (.t 21) (.t 23)), none⟩,
            ⟨(some 26), (.load 2 true (.t 25)), none⟩,
            ⟨(some 6), (.new [(.str []), (.int .u64 0)] none), none⟩,
            ⟨none, (.store 2 (.t 6) (.t 26)), none⟩])
          (.seq (.seq (.reg [⟨(some 27), (.fad 0 (.t 6)), none⟩,
            ⟨(some 28), (.load 1 false (.t 27)), none⟩,
            ⟨(some 29), (.len .str (.t 28)), none⟩,
            ⟨(some 30), (.bin .gtr .num (.t 29) (.k (.int .i64 500))), none⟩])
          (.cond (.t 30)
            (.exit 1)
            .skip))
          (.seq (.reg [⟨(some 32), (.fad 1 (.t 6)), none⟩,
            ⟨(some 33), (.load 1 false (.t 32)), none⟩,
            ⟨(some 34), (.call (.k (.fn (.func 18) [] [])) [(.t 33), (.k (.str [116, 101, 120, 116]))]), none⟩,
            ⟨(some 31), (.mov (.t 34)), none⟩,
            ⟨(some 35), (.ext (.t 31) 0), none⟩,
            ⟨(some 36), (.ext (.t 31) 1), none⟩,
            ⟨(some 7), (.mov (.t 35)), none⟩,
            ⟨(some 8), (.mov (.t 36)), none⟩])
          (.seq (.seq (.reg [⟨(some 37), (.mov (.t 8)), none⟩,
            ⟨(some 38), (.bin .neq .num (.t 37) (.k (.int .i64 0))), none⟩])
          (.cond (.t 38)
            (.seq (.reg [⟨(some 2), (.mov (.k (.bool false))), none⟩])
            .ret)
            .skip))
          (.seq (.reg [⟨(some 9), (.mov (.k (.bool false))), none⟩])
          (.seq (.seq (.reg [⟨(some 39), (.mov (.t 4)), none⟩,
            ⟨(some 40), (.mov (.t 4)), none⟩,
            ⟨(some 41), (.len .slc (.t 40)), none⟩,
            ⟨(some 42), (.bin .sub .num (.t 41) (.k (.int .i64 100))), none⟩,
            ⟨(some 43), (.max (.k (.int .i64 0)) (.t 42)), none⟩,
            ⟨(some 44), (.slc false 2 (.t 39) (some (.t 43)) none none), none⟩,
            ⟨(some 45), (.len .slc (.t 44)), none⟩,
            ⟨(some 46), (.mov (.k (.int .i64 0))), none⟩])
          (.block 2
            (.loop
              (.seq (.reg [⟨(some 47), (.bin .lss .num (.t 46) (.t 45)), none⟩])
              (.seq (.cond (.t 47)
                .skip
                (.exit 2))
              (.seq (.block 3
                (.seq (.reg [⟨(some 48), (.iad 2 (.t 44) (.t 46)), none⟩,
                  ⟨(some 49), (.load 2 true (.t 48)), none⟩,
                  ⟨(some 11), (.new [(.str []), (.int .u64 0)] none), none⟩,
                  ⟨none, (.store 2 (.t 11) (.t 49)), none⟩])
                (.reg [⟨(some 50), (.mov (.t 9)), none⟩,
                  ⟨(some 51), (.mov (.t 50)), none⟩,
                  ⟨(some 52), (.load 2 true (.t 11)), some (51, false)⟩,
                  ⟨(some 53), (.load 2 true (.t 6)), some (51, false)⟩,
                  ⟨(some 54), (.bin .eql (.agg [.str, .num]) (.t 52) (.t 53)), some (51, false)⟩,
                  ⟨(some 55), (.pick (.t 51) (.k (.bool true)) (.t 54)), none⟩,
                  ⟨(some 9), (.mov (.t 55)), none⟩])))
              (.reg [⟨(some 56), (.bin .add .num (.t 46) (.k (.int .i64 1))), none⟩,
                ⟨(some 46), (.mov (.t 56)), none⟩])))))))
          (.seq (.reg [⟨(some 58), (.mov (.t 3)), none⟩,
            ⟨(some 59), (.fad 0 (.t 6)), none⟩,
            ⟨(some 60), (.load 1 false (.t 59)), none⟩,
            ⟨(some 61), (.mov (.t 7)), none⟩,
            ⟨(some 62), (.call (.k (.fn (.func 15) [] [])) [(.t 58), (.t 60), (.t 61)]), none⟩,
            ⟨(some 57), (.mov (.t 62)), none⟩,
            ⟨(some 63), (.ext (.t 57) 0), none⟩,
            ⟨(some 64), (.ext (.t 57) 1), none⟩,
            ⟨(some 65), (.ext (.t 57) 2), none⟩,
            ⟨(some 66), (.ext (.t 57) 3), none⟩,
            ⟨(some 12), (.mov (.t 63)), none⟩,
            ⟨(some 13), (.mov (.t 64)), none⟩,
            ⟨(some 14), (.mov (.t 65)), none⟩,
            ⟨(some 15), (.mov (.t 66)), none⟩])
          (.seq (.seq (.reg [⟨(some 67), (.mov (.t 9)), none⟩,
            ⟨(some 68), (.mov (.t 15)), none⟩,
            ⟨(some 69), (.bin .eql .num (.t 68) (.k (.int .i64 10))), none⟩,
            ⟨(some 70), (.bin .neq .bool (.t 67) (.t 69)), none⟩,
            ⟨(some 71), (.mov (.t 70)), none⟩,
            ⟨(some 72), (.mov (.t 9)), some (71, false)⟩,
            ⟨(some 73), (.un .not (.t 72)), some (71, false)⟩,
            ⟨(some 74), (.mov (.t 73)), some (71, false)⟩,
            ⟨(some 75), (.mov (.t 15)), some (74, true)⟩,
            ⟨(some 76), (.bin .neq .num (.t 75) (.k (.int .i64 0))), some (74, true)⟩,
            ⟨(some 77), (.mov (.t 76)), some (74, true)⟩,
            ⟨(some 78), (.mov (.t 13)), some (77, false)⟩,
            ⟨(some 79), (.fad 1 (.t 6)), some (77, false)⟩,
            ⟨(some 80), (.load 1 false (.t 79)), some (77, false)⟩,
            ⟨(some 81), (.bin .neq .num (.t 78) (.t 80)), some (77, false)⟩,
            ⟨(some 82), (.pick (.t 77) (.k (.bool true)) (.t 81)), some (74, true)⟩,
            ⟨(some 83), (.mov (.t 82)), some (74, true)⟩,
            ⟨(some 84), (.mov (.t 14)), some (83, false)⟩,
            ⟨(some 85), (.bin .neq .str (.t 84) (.k (.str [116, 101, 120, 116]))), some (83, false)⟩,
            ⟨(some 86), (.pick (.t 83) (.k (.bool true)) (.t 85)), some (74, true)⟩,
            ⟨(some 87), (.pick (.t 74) (.t 86) (.k (.bool false))), some (71, false)⟩,
            ⟨(some 88), (.pick (.t 71) (.k (.bool true)) (.t 87)), none⟩])
          (.cond (.t 88)
            (.seq (.reg [⟨(some 2), (.mov (.k (.bool false))), none⟩])
            .ret)
            .skip))
          (.seq (.seq (.reg [⟨(some 89), (.mov (.t 9)), none⟩,
            ⟨(some 90), (.un .not (.t 89)), none⟩])
          (.cond (.t 90)
            (.reg [⟨(some 91), (.mov (.t 4)), none⟩,
              ⟨(some 92), (.load 2 true (.t 6)), none⟩,
              ⟨(some 93), (.mks true 2 24 true [(.str []), (.int .u64 0)] 1 [(0, (.t 92))]), none⟩,
              ⟨(some 94), (.app 2 24 true none (.t 91) (.t 93)), none⟩,
              ⟨(some 4), (.mov (.t 94)), none⟩])
            .skip))
          (.reg [⟨(some 95), (.mov (.t 12)), none⟩,
            ⟨(some 3), (.mov (.t 95)), none⟩])))))))))))
        (.reg [⟨(some 96), (.bin .add .num (.t 23) (.k (.int .i64 1))), none⟩,
          ⟨(some 23), (.mov (.t 96)), none⟩])))))))
    (.seq (.reg [⟨(some 97), (.mov (.t 3)), none⟩,
      ⟨(some 98), (.len .slc (.t 97)), none⟩,
      ⟨(some 99), (.mov (.t 4)), none⟩,
      ⟨(some 100), (.len .slc (.t 99)), none⟩,
      ⟨(some 101), (.min (.t 100) (.k (.int .i64 100))), none⟩,
      ⟨(some 102), (.bin .eql .num (.t 98) (.t 101)), none⟩,
      ⟨(some 2), (.mov (.t 102)), none⟩])
    .ret)))))))⟩

/-- 6: signetring/signetringlaw20.FanRow -/
def F6 : Fun :=
  ⟨96, 2, [.t 4],
    (.seq (.reg [⟨(some 4), (.mov (.k (.bool false))), none⟩])
    (.seq (.seq (.reg [⟨(some 17), (.call (.k (.fn (.func 8) [] [])) []), none⟩,
      ⟨(some 18), (.un .not (.t 17)), none⟩])
    (.cond (.t 18)
      (.seq (.reg [⟨(some 4), (.mov (.k (.bool false))), none⟩])
      .ret)
      .skip))
    (.seq (.seq (.reg [⟨(some 19), (.mov (.t 0)), none⟩,
      ⟨(some 20), (.call (.k (.fn (.func 9) [] [])) [(.t 19)]), none⟩,
      ⟨(some 21), (.un .not (.t 20)), none⟩,
      ⟨(some 22), (.mov (.t 21)), none⟩,
      ⟨(some 23), (.mov (.t 1)), some (22, false)⟩,
      ⟨(some 24), (.len .str (.t 23)), some (22, false)⟩,
      ⟨(some 25), (.bin .gtr .num (.t 24) (.k (.int .i64 500))), some (22, false)⟩,
      ⟨(some 26), (.pick (.t 22) (.k (.bool true)) (.t 25)), none⟩])
    (.cond (.t 26)
      (.seq (.reg [⟨(some 4), (.mov (.k (.bool true))), none⟩])
      .ret)
      .skip))
    (.seq (.reg [⟨(some 5), (.mov (.k .nsl)), none⟩])
    (.seq (.seq (.reg [⟨(some 27), (.mov (.t 0)), none⟩,
      ⟨(some 28), (.len .slc (.t 27)), none⟩,
      ⟨(some 29), (.mov (.k (.int .i64 0))), none⟩])
    (.block 0
      (.loop
        (.seq (.reg [⟨(some 30), (.bin .lss .num (.t 29) (.t 28)), none⟩])
        (.seq (.cond (.t 30)
          .skip
          (.exit 0))
        (.seq (.block 1
          (.seq (.reg [⟨(some 31), (.iad 1 (.t 27) (.t 29)), none⟩,
            ⟨(some 32), (.load 1 false (.t 31)), none⟩,
            ⟨(some 7), (.mov (.t 32)), none⟩])
          (.seq (.reg [⟨(some 34), (.mov (.t 5)), none⟩,
            ⟨(some 35), (.mov (.t 7)), none⟩,
            ⟨(some 36), (.call (.k (.fn (.func 10) [] [])) [(.t 34), (.t 35)]), none⟩,
            ⟨(some 33), (.mov (.t 36)), none⟩,
            ⟨(some 37), (.ext (.t 33) 0), none⟩,
            ⟨(some 38), (.ext (.t 33) 1), none⟩,
            ⟨(some 8), (.mov (.t 37)), none⟩,
            ⟨(some 9), (.mov (.t 38)), none⟩])
          (.seq (.seq (.reg [⟨(some 39), (.mov (.t 9)), none⟩,
            ⟨(some 40), (.bin .eql .num (.t 39) (.k (.int .i64 0))), none⟩,
            ⟨(some 41), (.mov (.t 8)), none⟩,
            ⟨(some 42), (.len .slc (.t 41)), none⟩,
            ⟨(some 43), (.mov (.t 5)), none⟩,
            ⟨(some 44), (.len .slc (.t 43)), none⟩,
            ⟨(some 45), (.bin .add .num (.t 44) (.k (.int .i64 1))), none⟩,
            ⟨(some 46), (.bin .eql .num (.t 42) (.t 45)), none⟩,
            ⟨(some 47), (.bin .neq .bool (.t 40) (.t 46)), none⟩])
          (.cond (.t 47)
            (.seq (.reg [⟨(some 4), (.mov (.k (.bool false))), none⟩])
            .ret)
            .skip))
          (.reg [⟨(some 48), (.mov (.t 8)), none⟩,
            ⟨(some 5), (.mov (.t 48)), none⟩])))))
        (.reg [⟨(some 49), (.bin .add .num (.t 29) (.k (.int .i64 1))), none⟩,
          ⟨(some 29), (.mov (.t 49)), none⟩])))))))
    (.seq (.reg [⟨(some 50), .mkm, none⟩,
      ⟨(some 10), (.mov (.t 50)), none⟩])
    (.seq (.seq (.reg [⟨(some 51), (.mov (.t 5)), none⟩,
      ⟨(some 52), (.len .slc (.t 51)), none⟩,
      ⟨(some 53), (.mov (.k (.int .i64 0))), none⟩])
    (.block 2
      (.loop
        (.seq (.reg [⟨(some 54), (.bin .lss .num (.t 53) (.t 52)), none⟩])
        (.seq (.cond (.t 54)
          .skip
          (.exit 2))
        (.seq (.block 3
          (.seq (.reg [⟨(some 55), (.iad 1 (.t 51) (.t 53)), none⟩,
            ⟨(some 56), (.load 1 false (.t 55)), none⟩,
            ⟨(some 12), (.mov (.t 56)), none⟩])
          (.reg [⟨(some 57), (.mov (.t 10)), none⟩,
            ⟨(some 58), (.mov (.t 12)), none⟩,
            ⟨(some 59), (.look .str (.int .i64 0) (.t 57) (.t 58) false), none⟩,
            ⟨(some 60), (.bin .add .num (.t 59) (.k (.int .i64 1))), none⟩,
            ⟨none, (.upd .str (.t 57) (.t 58) (.t 60)), none⟩])))
        (.reg [⟨(some 61), (.bin .add .num (.t 53) (.k (.int .i64 1))), none⟩,
          ⟨(some 53), (.mov (.t 61)), none⟩])))))))
    (.seq (.seq (.reg [⟨(some 62), (.mov (.t 10)), none⟩,
      ⟨(some 63), (.len .map (.t 62)), none⟩,
      ⟨(some 64), (.mov (.t 5)), none⟩,
      ⟨(some 65), (.len .slc (.t 64)), none⟩,
      ⟨(some 66), (.bin .neq .num (.t 63) (.t 65)), none⟩,
      ⟨(some 67), (.mov (.t 66)), none⟩,
      ⟨(some 68), (.mov (.t 5)), some (67, false)⟩,
      ⟨(some 69), (.len .slc (.t 68)), some (67, false)⟩,
      ⟨(some 70), (.bin .gtr .num (.t 69) (.k (.int .i64 6))), some (67, false)⟩,
      ⟨(some 71), (.pick (.t 67) (.k (.bool true)) (.t 70)), none⟩])
    (.cond (.t 71)
      (.seq (.reg [⟨(some 4), (.mov (.k (.bool false))), none⟩])
      .ret)
      .skip))
    (.seq (.reg [⟨(some 73), (.mov (.t 5)), none⟩,
      ⟨(some 74), (.mov (.t 1)), none⟩,
      ⟨(some 75), (.call (.k (.fn (.func 10) [] [])) [(.t 73), (.t 74)]), none⟩,
      ⟨(some 72), (.mov (.t 75)), none⟩,
      ⟨(some 76), (.ext (.t 72) 0), none⟩,
      ⟨(some 77), (.ext (.t 72) 1), none⟩,
      ⟨(some 13), (.mov (.t 76)), none⟩,
      ⟨(some 14), (.mov (.t 77)), none⟩])
    (.seq (.seq (.reg [⟨(some 78), (.mov (.t 14)), none⟩,
      ⟨(some 79), (.bin .neq .num (.t 78) (.k (.int .i64 0))), none⟩])
    (.cond (.t 79)
      (.seq (.reg [⟨(some 80), (.mov (.t 13)), none⟩,
        ⟨(some 81), (.mov (.t 5)), none⟩,
        ⟨(some 82), (.call (.k (.fn (.func 14) [] [])) [(.t 80), (.t 81)]), none⟩,
        ⟨(some 4), (.mov (.t 82)), none⟩])
      .ret)
      .skip))
    (.seq (.reg [⟨(some 84), (.mov (.t 13)), none⟩,
      ⟨(some 85), (.mov (.t 1)), none⟩,
      ⟨(some 86), (.call (.k (.fn (.func 12) [] [])) [(.t 84), (.t 85)]), none⟩,
      ⟨(some 83), (.mov (.t 86)), none⟩,
      ⟨(some 87), (.ext (.t 83) 0), none⟩,
      ⟨(some 88), (.ext (.t 83) 1), none⟩,
      ⟨(some 15), (.mov (.t 87)), none⟩,
      ⟨(some 16), (.mov (.t 88)), none⟩])
    (.seq (.reg [⟨(some 89), (.mov (.t 16)), none⟩,
      ⟨(some 90), (.bin .eql .num (.t 89) (.k (.int .i64 0))), none⟩,
      ⟨(some 91), (.mov (.t 90)), none⟩,
      ⟨(some 92), (.mov (.t 15)), some (91, true)⟩,
      ⟨(some 93), (.mov (.t 5)), some (91, true)⟩,
      ⟨(some 94), (.call (.k (.fn (.func 14) [] [])) [(.t 92), (.t 93)]), some (91, true)⟩,
      ⟨(some 95), (.pick (.t 91) (.t 94) (.k (.bool false))), none⟩,
      ⟨(some 4), (.mov (.t 95)), none⟩])
    .ret))))))))))))⟩

/-- 7: signetring/signetringlaw20.FanMarks -/
def F7 : Fun :=
  ⟨114, 3, [.t 6],
    (.seq (.reg [⟨(some 4), (.box none (.t 1)), none⟩,
      ⟨(some 6), (.mov (.k (.bool false))), none⟩])
    (.seq (.seq (.reg [⟨(some 16), (.call (.k (.fn (.func 8) [] [])) []), none⟩,
      ⟨(some 17), (.un .not (.t 16)), none⟩])
    (.cond (.t 17)
      (.seq (.reg [⟨(some 6), (.mov (.k (.bool false))), none⟩])
      .ret)
      .skip))
    (.seq (.seq (.reg [⟨(some 18), (.mov (.t 0)), none⟩,
      ⟨(some 19), (.len .slc (.t 18)), none⟩,
      ⟨(some 20), (.bin .gtr .num (.t 19) (.k (.int .i64 200))), none⟩,
      ⟨(some 21), (.mov (.t 20)), none⟩,
      ⟨(some 22), (.fad 0 (.t 4)), some (21, false)⟩,
      ⟨(some 23), (.load 1 false (.t 22)), some (21, false)⟩,
      ⟨(some 24), (.len .str (.t 23)), some (21, false)⟩,
      ⟨(some 25), (.bin .gtr .num (.t 24) (.k (.int .i64 500))), some (21, false)⟩,
      ⟨(some 26), (.pick (.t 21) (.k (.bool true)) (.t 25)), none⟩,
      ⟨(some 27), (.mov (.t 26)), none⟩,
      ⟨(some 28), (.mov (.t 2)), some (27, false)⟩,
      ⟨(some 29), (.len .str (.t 28)), some (27, false)⟩,
      ⟨(some 30), (.bin .gtr .num (.t 29) (.k (.int .i64 500))), some (27, false)⟩,
      ⟨(some 31), (.pick (.t 27) (.k (.bool true)) (.t 30)), none⟩])
    (.cond (.t 31)
      (.seq (.reg [⟨(some 6), (.mov (.k (.bool true))), none⟩])
      .ret)
      .skip))
    (.seq (.reg [⟨(some 33), (.fad 1 (.t 4)), none⟩,
      ⟨(some 34), (.load 1 false (.t 33)), none⟩,
      ⟨(some 35), (.mov (.t 2)), none⟩,
      ⟨(some 36), (.call (.k (.fn (.func 18) [] [])) [(.t 34), (.t 35)]), none⟩,
      ⟨(some 32), (.mov (.t 36)), none⟩,
      ⟨(some 37), (.ext (.t 32) 0), none⟩,
      ⟨(some 38), (.ext (.t 32) 1), none⟩,
      ⟨(some 7), (.mov (.t 37)), none⟩,
      ⟨(some 8), (.mov (.t 38)), none⟩])
    (.seq (.seq (.reg [⟨(some 39), (.mov (.t 8)), none⟩,
      ⟨(some 40), (.bin .neq .num (.t 39) (.k (.int .i64 0))), none⟩])
    (.cond (.t 40)
      (.seq (.reg [⟨(some 6), (.mov (.k (.bool false))), none⟩])
      .ret)
      .skip))
    (.seq (.reg [⟨(some 9), (.mov (.k (.bool false))), none⟩])
    (.seq (.seq (.reg [⟨(some 41), (.mov (.t 0)), none⟩,
      ⟨(some 42), (.len .slc (.t 41)), none⟩,
      ⟨(some 43), (.mov (.k (.int .i64 0))), none⟩])
    (.block 0
      (.loop
        (.seq (.reg [⟨(some 44), (.bin .lss .num (.t 43) (.t 42)), none⟩])
        (.seq (.cond (.t 44)
          .skip
          (.exit 0))
        (.seq (.block 1
          (.seq (.reg [⟨(some 45), (.iad 2 (.t 41) (.t 43)), none⟩,
            ⟨(some 46), (.load 2 true (.t 45)), none⟩,
            ⟨(some 11), (.new [(.str []), (.int .u64 0)] none), none⟩,
            ⟨none, (.store 2 (.t 11) (.t 46)), none⟩])
          (.reg [⟨(some 47), (.mov (.t 9)), none⟩,
            ⟨(some 48), (.mov (.t 47)), none⟩,
            ⟨(some 49), (.load 2 true (.t 11)), some (48, false)⟩,
            ⟨(some 50), (.load 2 true (.t 4)), some (48, false)⟩,
            ⟨(some 51), (.bin .eql (.agg [.str, .num]) (.t 49) (.t 50)), some (48, false)⟩,
            ⟨(some 52), (.pick (.t 48) (.k (.bool true)) (.t 51)), none⟩,
            ⟨(some 9), (.mov (.t 52)), none⟩])))
        (.reg [⟨(some 53), (.bin .add .num (.t 43) (.k (.int .i64 1))), none⟩,
          ⟨(some 43), (.mov (.t 53)), none⟩])))))))
    (.seq (.dreg [⟨(some 55), (.mov (.t 0)), none⟩,
      ⟨(some 56), (.call (.k (.fn (.func 16) [] [])) [(.t 55)]), none⟩,
      ⟨(some 57), (.fad 0 (.t 4)), none⟩,
      ⟨(some 58), (.load 1 false (.t 57)), none⟩,
      ⟨(some 59), (.mov (.t 7)), none⟩,
      ⟨(some 60), (.call (.k (.fn (.func 15) [] [])) [(.t 56), (.t 58), (.t 59)]), none⟩,
      ⟨(some 54), (.mov (.t 60)), none⟩,
      ⟨(some 61), (.ext (.t 54) 0), none⟩,
      ⟨(some 62), (.ext (.t 54) 1), none⟩,
      ⟨(some 63), (.ext (.t 54) 2), none⟩,
      ⟨(some 64), (.ext (.t 54) 3), none⟩,
      ⟨(some 12), (.mov (.t 61)), none⟩,
      ⟨(some 13), (.mov (.t 62)), none⟩,
      ⟨(some 14), (.mov (.t 63)), none⟩,
      ⟨(some 15), (.mov (.t 64)), none⟩] (.free 0 (.free 2 (.free 4 (.cho 1 (.free 3 (.cho 5 (.free 6 (.free 7 (.free 8 (.free 9 (.free 10 (.free 11 (.free 12 (.free 13 (.free 14 .done))))))))) .nope)) (.cho 3 (.cho 1 (.cho 5 (.free 6 (.free 7 (.free 8 (.free 9 (.free 10 (.free 11 (.free 12 (.free 13 (.free 14 .done))))))))) .nope) .nope) .nope))))))
    (.seq (.seq (.reg [⟨(some 65), (.mov (.t 9)), none⟩])
    (.cond (.t 65)
      (.seq (.reg [⟨(some 66), (.mov (.t 15)), none⟩,
        ⟨(some 67), (.bin .eql .num (.t 66) (.k (.int .i64 10))), none⟩,
        ⟨(some 68), (.mov (.t 67)), none⟩,
        ⟨(some 69), (.mov (.t 12)), some (68, true)⟩,
        ⟨(some 70), (.call (.k (.fn (.func 21) [] [])) [(.t 69)]), some (68, true)⟩,
        ⟨(some 71), (.mov (.t 0)), some (68, true)⟩,
        ⟨(some 72), (.call (.k (.fn (.func 20) [] [])) [(.t 70), (.t 71)]), some (68, true)⟩,
        ⟨(some 73), (.pick (.t 68) (.t 72) (.k (.bool false))), none⟩,
        ⟨(some 74), (.mov (.t 73)), none⟩,
        ⟨(some 75), (.mov (.t 14)), some (74, true)⟩,
        ⟨(some 76), (.bin .eql .str (.t 75) (.k (.str []))), some (74, true)⟩,
        ⟨(some 77), (.pick (.t 74) (.t 76) (.k (.bool false))), none⟩,
        ⟨(some 78), (.mov (.t 77)), none⟩,
        ⟨(some 79), (.mov (.t 13)), some (78, true)⟩,
        ⟨(some 80), (.bin .eql .num (.t 79) (.k (.int .u64 0))), some (78, true)⟩,
        ⟨(some 81), (.pick (.t 78) (.t 80) (.k (.bool false))), none⟩,
        ⟨(some 6), (.mov (.t 81)), none⟩])
      .ret)
      .skip))
    (.seq (.dreg [⟨(some 82), (.mov (.t 15)), none⟩,
      ⟨(some 83), (.bin .eql .num (.t 82) (.k (.int .i64 0))), none⟩,
      ⟨(some 84), (.mov (.t 83)), none⟩,
      ⟨(some 85), (.mov (.t 13)), some (84, true)⟩,
      ⟨(some 86), (.fad 1 (.t 4)), some (84, true)⟩,
      ⟨(some 87), (.load 1 false (.t 86)), some (84, true)⟩,
      ⟨(some 88), (.bin .eql .num (.t 85) (.t 87)), some (84, true)⟩,
      ⟨(some 89), (.pick (.t 84) (.t 88) (.k (.bool false))), none⟩,
      ⟨(some 90), (.mov (.t 89)), none⟩,
      ⟨(some 91), (.mov (.t 14)), some (90, true)⟩,
      ⟨(some 92), (.mov (.t 2)), some (90, true)⟩,
      ⟨(some 93), (.bin .eql .str (.t 91) (.t 92)), some (90, true)⟩,
      ⟨(some 94), (.pick (.t 90) (.t 93) (.k (.bool false))), none⟩,
      ⟨(some 95), (.mov (.t 94)), none⟩,
      ⟨(some 96), (.mov (.t 12)), some (95, true)⟩,
      ⟨(some 97), (.mov (.t 12)), some (95, true)⟩,
      ⟨(some 98), (.len .slc (.t 97)), some (95, true)⟩,
      ⟨(some 99), (.bin .sub .num (.t 98) (.k (.int .i64 1))), some (95, true)⟩,
      ⟨(some 100), (.iad 2 (.t 96) (.t 99)), some (95, true)⟩,
      ⟨(some 101), (.load 2 true (.t 100)), some (95, true)⟩,
      ⟨(some 102), (.load 2 true (.t 4)), some (95, true)⟩,
      ⟨(some 103), (.bin .eql (.agg [.str, .num]) (.t 101) (.t 102)), some (95, true)⟩,
      ⟨(some 104), (.pick (.t 95) (.t 103) (.k (.bool false))), none⟩,
      ⟨(some 105), (.mov (.t 104)), none⟩,
      ⟨(some 106), (.mov (.t 12)), some (105, true)⟩,
      ⟨(some 107), (.len .slc (.t 106)), some (105, true)⟩,
      ⟨(some 108), (.mov (.t 0)), some (105, true)⟩,
      ⟨(some 109), (.len .slc (.t 108)), some (105, true)⟩,
      ⟨(some 110), (.bin .add .num (.t 109) (.k (.int .i64 1))), some (105, true)⟩,
      ⟨(some 111), (.min (.t 110) (.k (.int .i64 100))), some (105, true)⟩,
      ⟨(some 112), (.bin .eql .num (.t 107) (.t 111)), some (105, true)⟩,
      ⟨(some 113), (.pick (.t 105) (.t 112) (.k (.bool false))), none⟩,
      ⟨(some 6), (.mov (.t 113)), none⟩] (.free 0 (.free 1 (.free 2 (.free 3 (.free 4 (.free 5 (.free 6 (.free 7 (.free 8 (.free 9 (.free 10 (.free 11 (.free 12 (.free 13 (.free 14 (.free 15 (.free 16 (.free 17 (.free 18 (.free 19 (.free 20 (.free 21 (.free 22 (.free 23 (.free 24 (.free 25 (.free 26 (.free 27 (.free 28 (.free 29 (.free 30 (.free 31 (.free 32 .done))))))))))))))))))))))))))))))))))
    .ret))))))))))⟩

/-- 8: signetring/signetringlaw20.alive -/
def F8 : Fun :=
  ⟨89, 0, [.t 0],
    (.seq (.reg [⟨(some 0), (.mov (.k (.bool false))), none⟩])
    (.seq (.reg [⟨(some 17), (.call (.k (.fn (.func 10) [] [])) [(.k .nsl), (.k (.str [97]))]), none⟩,
      ⟨(some 16), (.mov (.t 17)), none⟩,
      ⟨(some 18), (.ext (.t 16) 0), none⟩,
      ⟨(some 19), (.ext (.t 16) 1), none⟩,
      ⟨(some 1), (.mov (.t 18)), none⟩,
      ⟨(some 2), (.mov (.t 19)), none⟩])
    (.seq (.reg [⟨(some 21), (.mov (.t 1)), none⟩,
      ⟨(some 22), (.call (.k (.fn (.func 10) [] [])) [(.t 21), (.k (.str [98]))]), none⟩,
      ⟨(some 20), (.mov (.t 22)), none⟩,
      ⟨(some 23), (.ext (.t 20) 0), none⟩,
      ⟨(some 24), (.ext (.t 20) 1), none⟩,
      ⟨(some 1), (.mov (.t 23)), none⟩,
      ⟨(some 3), (.mov (.t 24)), none⟩])
    (.seq (.reg [⟨(some 26), (.mov (.t 1)), none⟩,
      ⟨(some 27), (.call (.k (.fn (.func 12) [] [])) [(.t 26), (.k (.str [97]))]), none⟩,
      ⟨(some 25), (.mov (.t 27)), none⟩,
      ⟨(some 28), (.ext (.t 25) 0), none⟩,
      ⟨(some 29), (.ext (.t 25) 1), none⟩,
      ⟨(some 4), (.mov (.t 28)), none⟩,
      ⟨(some 5), (.mov (.t 29)), none⟩])
    (.seq (.reg [⟨(some 31), (.call (.k (.fn (.func 18) [] [])) [(.k (.int .u64 300)), (.k (.str [116, 101, 120, 116]))]), none⟩,
      ⟨(some 30), (.mov (.t 31)), none⟩,
      ⟨(some 32), (.ext (.t 30) 0), none⟩,
      ⟨(some 33), (.ext (.t 30) 1), none⟩,
      ⟨(some 6), (.mov (.t 32)), none⟩,
      ⟨(some 7), (.mov (.t 33)), none⟩])
    (.seq (.reg [⟨(some 35), (.mov (.t 6)), none⟩,
      ⟨(some 36), (.call (.k (.fn (.func 15) [] [])) [(.k .nsl), (.k (.str [97])), (.t 35)]), none⟩,
      ⟨(some 34), (.mov (.t 36)), none⟩,
      ⟨(some 37), (.ext (.t 34) 0), none⟩,
      ⟨(some 38), (.ext (.t 34) 1), none⟩,
      ⟨(some 39), (.ext (.t 34) 2), none⟩,
      ⟨(some 40), (.ext (.t 34) 3), none⟩,
      ⟨(some 8), (.mov (.t 37)), none⟩,
      ⟨(some 9), (.mov (.t 38)), none⟩,
      ⟨(some 10), (.mov (.t 39)), none⟩,
      ⟨(some 11), (.mov (.t 40)), none⟩])
    (.seq (.reg [⟨(some 42), (.mov (.t 8)), none⟩,
      ⟨(some 43), (.mov (.t 6)), none⟩,
      ⟨(some 44), (.call (.k (.fn (.func 15) [] [])) [(.t 42), (.k (.str [97])), (.t 43)]), none⟩,
      ⟨(some 41), (.mov (.t 44)), none⟩,
      ⟨(some 45), (.ext (.t 41) 0), none⟩,
      ⟨(some 46), (.ext (.t 41) 1), none⟩,
      ⟨(some 47), (.ext (.t 41) 2), none⟩,
      ⟨(some 48), (.ext (.t 41) 3), none⟩,
      ⟨(some 12), (.mov (.t 45)), none⟩,
      ⟨(some 13), (.mov (.t 46)), none⟩,
      ⟨(some 14), (.mov (.t 47)), none⟩,
      ⟨(some 15), (.mov (.t 48)), none⟩])
    (.seq (.reg [⟨(some 49), (.mov (.t 2)), none⟩,
      ⟨(some 50), (.bin .eql .num (.t 49) (.k (.int .i64 0))), none⟩,
      ⟨(some 51), (.mov (.t 50)), none⟩,
      ⟨(some 52), (.mov (.t 3)), some (51, true)⟩,
      ⟨(some 53), (.bin .eql .num (.t 52) (.k (.int .i64 0))), some (51, true)⟩,
      ⟨(some 54), (.pick (.t 51) (.t 53) (.k (.bool false))), none⟩,
      ⟨(some 55), (.mov (.t 54)), none⟩,
      ⟨(some 56), (.mov (.t 4)), some (55, true)⟩,
      ⟨(some 57), (.mks true 1 16 false [(.str [])] 1 [(0, (.k (.str [98])))]), some (55, true)⟩,
      ⟨(some 58), (.call (.k (.fn (.func 14) [] [])) [(.t 56), (.t 57)]), some (55, true)⟩,
      ⟨(some 59), (.pick (.t 55) (.t 58) (.k (.bool false))), none⟩,
      ⟨(some 60), (.mov (.t 59)), none⟩,
      ⟨(some 61), (.mov (.t 5)), some (60, true)⟩,
      ⟨(some 62), (.bin .eql .num (.t 61) (.k (.int .i64 0))), some (60, true)⟩,
      ⟨(some 63), (.pick (.t 60) (.t 62) (.k (.bool false))), none⟩,
      ⟨(some 64), (.mov (.t 63)), none⟩,
      ⟨(some 65), (.mov (.t 7)), some (64, true)⟩,
      ⟨(some 66), (.bin .eql .num (.t 65) (.k (.int .i64 0))), some (64, true)⟩,
      ⟨(some 67), (.pick (.t 64) (.t 66) (.k (.bool false))), none⟩,
      ⟨(some 68), (.mov (.t 67)), none⟩,
      ⟨(some 69), (.mov (.t 9)), some (68, true)⟩,
      ⟨(some 70), (.bin .eql .num (.t 69) (.k (.int .u64 300))), some (68, true)⟩,
      ⟨(some 71), (.pick (.t 68) (.t 70) (.k (.bool false))), none⟩,
      ⟨(some 72), (.mov (.t 71)), none⟩,
      ⟨(some 73), (.mov (.t 10)), some (72, true)⟩,
      ⟨(some 74), (.bin .eql .str (.t 73) (.k (.str [116, 101, 120, 116]))), some (72, true)⟩,
      ⟨(some 75), (.pick (.t 72) (.t 74) (.k (.bool false))), none⟩,
      ⟨(some 76), (.mov (.t 75)), none⟩,
      ⟨(some 77), (.mov (.t 11)), some (76, true)⟩,
      ⟨(some 78), (.bin .eql .num (.t 77) (.k (.int .i64 0))), some (76, true)⟩,
      ⟨(some 79), (.pick (.t 76) (.t 78) (.k (.bool false))), none⟩,
      ⟨(some 80), (.mov (.t 79)), none⟩,
      ⟨(some 81), (.mov (.t 15)), some (80, true)⟩,
      ⟨(some 82), (.bin .eql .num (.t 81) (.k (.int .i64 10))), some (80, true)⟩,
      ⟨(some 83), (.pick (.t 80) (.t 82) (.k (.bool false))), none⟩,
      ⟨(some 84), (.mov (.t 83)), none⟩,
      ⟨(some 85), (.mov (.t 8)), some (84, true)⟩,
      ⟨(some 86), (.len .slc (.t 85)), some (84, true)⟩,
      ⟨(some 87), (.bin .eql .num (.t 86) (.k (.int .i64 1))), some (84, true)⟩,
      ⟨(some 88), (.pick (.t 84) (.t 87) (.k (.bool false))), none⟩,
      ⟨(some 0), (.mov (.t 88)), none⟩])
    .ret))))))))⟩

/-- 9: signetring/signetringlaw20.few -/
def F9 : Fun :=
  ⟨18, 1, [.t 2],
    (.seq (.reg [⟨(some 2), (.mov (.k (.bool false))), none⟩])
    (.seq (.seq (.reg [⟨(some 5), (.mov (.t 0)), none⟩,
      ⟨(some 6), (.len .slc (.t 5)), none⟩,
      ⟨(some 7), (.mov (.k (.int .i64 0))), none⟩])
    (.block 0
      (.loop
        (.seq (.reg [⟨(some 8), (.bin .lss .num (.t 7) (.t 6)), none⟩])
        (.seq (.cond (.t 8)
          .skip
          (.exit 0))
        (.seq (.block 1
          (.seq (.reg [⟨(some 9), (.iad 1 (.t 5) (.t 7)), none⟩,
            ⟨(some 10), (.load 1 false (.t 9)), none⟩,
            ⟨(some 4), (.mov (.t 10)), none⟩])
          (.seq (.reg [⟨(some 11), (.mov (.t 4)), none⟩,
            ⟨(some 12), (.len .str (.t 11)), none⟩,
            ⟨(some 13), (.bin .gtr .num (.t 12) (.k (.int .i64 500))), none⟩])
          (.cond (.t 13)
            (.seq (.reg [⟨(some 2), (.mov (.k (.bool false))), none⟩])
            .ret)
            .skip))))
        (.reg [⟨(some 14), (.bin .add .num (.t 7) (.k (.int .i64 1))), none⟩,
          ⟨(some 7), (.mov (.t 14)), none⟩])))))))
    (.seq (.reg [⟨(some 15), (.mov (.t 0)), none⟩,
      ⟨(some 16), (.len .slc (.t 15)), none⟩,
      ⟨(some 17), (.bin .leq .num (.t 16) (.k (.int .i64 200))), none⟩,
      ⟨(some 2), (.mov (.t 17)), none⟩])
    .ret)))⟩

/-- 10: signetring/fan.Add -/
def F10 : Fun :=
  ⟨26, 2, [.t 4, .t 5],
    (.seq (.reg [⟨(some 4), (.mov (.k .nsl)), none⟩,
      ⟨(some 5), (.mov (.k (.int .i64 0))), none⟩])
    (.seq (.reg [⟨(some 6), (.mov (.t 0)), none⟩,
      ⟨(some 7), (.call (.k (.fn (.func 22) [] [])) [(.t 6)]), none⟩,
      ⟨(some 0), (.mov (.t 7)), none⟩])
    (.seq (.block 0
      (.seq (.reg [⟨(some 9), (.mov (.t 1)), none⟩,
        ⟨(some 10), (.bin .eql .str (.t 9) (.k (.str []))), none⟩,
        ⟨(some 8), (.mov (.t 10)), none⟩])
      (.cond (.t 8)
        (.seq (.reg [⟨(some 11), (.mov (.t 0)), none⟩,
          ⟨(some 4), (.mov (.t 11)), none⟩,
          ⟨(some 5), (.mov (.k (.int .i64 2))), none⟩])
        .ret)
        (.seq (.reg [⟨(some 13), (.mov (.t 0)), none⟩,
          ⟨(some 14), (.mov (.t 1)), none⟩,
          ⟨(some 15), (.call (.k (.fn (.func 23) [] [])) [(.t 13), (.t 14)]), none⟩,
          ⟨(some 12), (.mov (.t 15)), none⟩])
        (.cond (.t 12)
          (.seq (.reg [⟨(some 16), (.mov (.t 0)), none⟩,
            ⟨(some 4), (.mov (.t 16)), none⟩,
            ⟨(some 5), (.mov (.k (.int .i64 10))), none⟩])
          .ret)
          (.seq (.reg [⟨(some 18), (.mov (.t 0)), none⟩,
            ⟨(some 19), (.len .slc (.t 18)), none⟩,
            ⟨(some 20), (.bin .geq .num (.t 19) (.k (.int .i64 6))), none⟩,
            ⟨(some 17), (.mov (.t 20)), none⟩])
          (.cond (.t 17)
            (.seq (.reg [⟨(some 21), (.mov (.t 0)), none⟩,
              ⟨(some 4), (.mov (.t 21)), none⟩,
              ⟨(some 5), (.mov (.k (.int .i64 11))), none⟩])
            .ret)
            .skip)))))))
    (.seq (.reg [⟨(some 22), (.mov (.t 0)), none⟩,
      ⟨(some 23), (.mov (.t 1)), none⟩,
      ⟨(some 24), (.mks true 1 16 false [(.str [])] 1 [(0, (.t 23))]), none⟩,
      ⟨(some 25), (.app 1 16 false none (.t 22) (.t 24)), none⟩,
      ⟨(some 4), (.mov (.t 25)), none⟩,
      ⟨(some 5), (.mov (.k (.int .i64 0))), none⟩])
    .ret))))⟩

/-- 11: signetring/signetringref20.Add -/
def F11 : Fun :=
  ⟨28, 2, [.t 4, .t 5],
    (.seq (.reg [⟨(some 4), (.mov (.k .nsl)), none⟩,
      ⟨(some 5), (.mov (.k (.int .i64 0))), none⟩])
    (.seq (.block 0
      (.seq (.reg [⟨(some 8), (.mov (.t 1)), none⟩,
        ⟨(some 9), (.bin .eql .str (.t 8) (.k (.str []))), none⟩,
        ⟨(some 7), (.mov (.t 9)), none⟩])
      (.cond (.t 7)
        (.seq (.reg [⟨(some 10), (.mov (.t 0)), none⟩,
          ⟨(some 4), (.mov (.t 10)), none⟩,
          ⟨(some 5), (.mov (.k (.int .i64 2))), none⟩])
        .ret)
        (.seq (.reg [⟨(some 12), (.mov (.t 0)), none⟩,
          ⟨(some 13), (.mov (.t 1)), none⟩,
          ⟨(some 14), (.call (.k (.fn (.func 24) [] [])) [(.t 12), (.t 13)]), none⟩,
          ⟨(some 11), (.mov (.t 14)), none⟩])
        (.cond (.t 11)
          (.seq (.reg [⟨(some 15), (.mov (.t 0)), none⟩,
            ⟨(some 4), (.mov (.t 15)), none⟩,
            ⟨(some 5), (.mov (.k (.int .i64 10))), none⟩])
          .ret)
          (.seq (.reg [⟨(some 17), (.mov (.t 0)), none⟩,
            ⟨(some 18), (.len .slc (.t 17)), none⟩,
            ⟨(some 19), (.bin .geq .num (.t 18) (.k (.int .i64 6))), none⟩,
            ⟨(some 16), (.mov (.t 19)), none⟩])
          (.cond (.t 16)
            (.seq (.reg [⟨(some 20), (.mov (.t 0)), none⟩,
              ⟨(some 4), (.mov (.t 20)), none⟩,
              ⟨(some 5), (.mov (.k (.int .i64 11))), none⟩])
            .ret)
            .skip)))))))
    (.seq (.reg [⟨(some 21), (.mks true 1 16 false [] 0 []), none⟩,
      ⟨(some 22), (.mov (.t 0)), none⟩,
      ⟨(some 23), (.app 1 16 false none (.t 21) (.t 22)), none⟩,
      ⟨(some 6), (.mov (.t 23)), none⟩])
    (.seq (.reg [⟨(some 24), (.mov (.t 6)), none⟩,
      ⟨(some 25), (.mov (.t 1)), none⟩,
      ⟨(some 26), (.mks true 1 16 false [(.str [])] 1 [(0, (.t 25))]), none⟩,
      ⟨(some 27), (.app 1 16 false none (.t 24) (.t 26)), none⟩,
      ⟨(some 4), (.mov (.t 27)), none⟩,
      ⟨(some 5), (.mov (.k (.int .i64 0))), none⟩])
    .ret))))⟩

/-- 12: signetring/fan.Remove -/
def F12 : Fun :=
  ⟨20, 2, [.t 4, .t 5],
    (.seq (.reg [⟨(some 4), (.mov (.k .nsl)), none⟩,
      ⟨(some 5), (.mov (.k (.int .i64 0))), none⟩])
    (.seq (.reg [⟨(some 7), (.mov (.t 0)), none⟩,
      ⟨(some 8), (.call (.k (.fn (.func 22) [] [])) [(.t 7)]), none⟩,
      ⟨(some 0), (.mov (.t 8)), none⟩])
    (.seq (.reg [⟨(some 9), (.mov (.t 0)), none⟩,
      ⟨(some 10), (.mov (.t 1)), none⟩,
      ⟨(some 11), (.call (.k (.fn (.func 25) [] [])) [(.t 9), (.t 10)]), none⟩,
      ⟨(some 6), (.mov (.t 11)), none⟩])
    (.seq (.seq (.reg [⟨(some 12), (.mov (.t 6)), none⟩,
      ⟨(some 13), (.bin .lss .num (.t 12) (.k (.int .i64 0))), none⟩])
    (.cond (.t 13)
      (.seq (.reg [⟨(some 14), (.mov (.t 0)), none⟩,
        ⟨(some 4), (.mov (.t 14)), none⟩,
        ⟨(some 5), (.mov (.k (.int .i64 9))), none⟩])
      .ret)
      .skip))
    (.seq (.reg [⟨(some 15), (.mov (.t 0)), none⟩,
      ⟨(some 16), (.mov (.t 6)), none⟩,
      ⟨(some 17), (.mov (.t 6)), none⟩,
      ⟨(some 18), (.bin .add .num (.t 17) (.k (.int .i64 1))), none⟩,
      ⟨(some 19), (.call (.k (.fn (.func 26) [] [])) [(.t 15), (.t 16), (.t 18)]), none⟩,
      ⟨(some 4), (.mov (.t 19)), none⟩,
      ⟨(some 5), (.mov (.k (.int .i64 0))), none⟩])
    .ret)))))⟩

/-- 13: signetring/signetringref20.Remove -/
def F13 : Fun :=
  ⟨32, 2, [.t 4, .t 5],
    (.seq (.reg [⟨(some 4), (.mov (.k .nsl)), none⟩,
      ⟨(some 5), (.mov (.k (.int .i64 0))), none⟩])
    (.seq (.seq (.reg [⟨(some 6), (.mov (.k (.int .i64 0))), none⟩])
    (.block 0
      (.loop
        (.seq (.seq (.reg [⟨(some 8), (.mov (.t 6)), none⟩,
          ⟨(some 9), (.mov (.t 0)), none⟩,
          ⟨(some 10), (.len .slc (.t 9)), none⟩,
          ⟨(some 11), (.bin .lss .num (.t 8) (.t 10)), none⟩])
        (.cond (.t 11)
          .skip
          (.exit 0)))
        (.seq (.block 1
          (.seq (.reg [⟨(some 14), (.mov (.t 0)), none⟩,
            ⟨(some 15), (.mov (.t 6)), none⟩,
            ⟨(some 16), (.iad 1 (.t 14) (.t 15)), none⟩,
            ⟨(some 17), (.load 1 false (.t 16)), none⟩,
            ⟨(some 18), (.mov (.t 1)), none⟩,
            ⟨(some 19), (.bin .eql .str (.t 17) (.t 18)), none⟩])
          (.cond (.t 19)
            (.seq (.reg [⟨(some 20), (.mks true 1 16 false [] 0 []), none⟩,
              ⟨(some 21), (.mov (.t 0)), none⟩,
              ⟨(some 22), (.mov (.t 6)), none⟩,
              ⟨(some 23), (.slc false 1 (.t 21) none (some (.t 22)) none), none⟩,
              ⟨(some 24), (.app 1 16 false none (.t 20) (.t 23)), none⟩,
              ⟨(some 7), (.mov (.t 24)), none⟩])
            (.seq (.reg [⟨(some 25), (.mov (.t 7)), none⟩,
              ⟨(some 26), (.mov (.t 0)), none⟩,
              ⟨(some 27), (.mov (.t 6)), none⟩,
              ⟨(some 28), (.bin .add .num (.t 27) (.k (.int .i64 1))), none⟩,
              ⟨(some 29), (.slc false 1 (.t 26) (some (.t 28)) none none), none⟩,
              ⟨(some 30), (.app 1 16 false none (.t 25) (.t 29)), none⟩,
              ⟨(some 4), (.mov (.t 30)), none⟩,
              ⟨(some 5), (.mov (.k (.int .i64 0))), none⟩])
            .ret))
            .skip)))
        (.reg [⟨(some 12), (.mov (.t 6)), none⟩,
          ⟨(some 13), (.bin .add .num (.t 12) (.k (.int .i64 1))), none⟩,
          ⟨(some 6), (.mov (.t 13)), none⟩]))))))
    (.seq (.reg [⟨(some 31), (.mov (.t 0)), none⟩,
      ⟨(some 4), (.mov (.t 31)), none⟩,
      ⟨(some 5), (.mov (.k (.int .i64 9))), none⟩])
    .ret)))⟩

/-- 14: signetring/signetringref08.Same -/
def F14 : Fun :=
  ⟨26, 2, [.t 4],
    (.seq (.reg [⟨(some 4), (.mov (.k (.bool false))), none⟩])
    (.seq (.seq (.reg [⟨(some 6), (.mov (.t 0)), none⟩,
      ⟨(some 7), (.len .slc (.t 6)), none⟩,
      ⟨(some 8), (.mov (.t 1)), none⟩,
      ⟨(some 9), (.len .slc (.t 8)), none⟩,
      ⟨(some 10), (.bin .neq .num (.t 7) (.t 9)), none⟩])
    (.cond (.t 10)
      (.seq (.reg [⟨(some 4), (.mov (.k (.bool false))), none⟩])
      .ret)
      .skip))
    (.seq (.seq (.reg [⟨(some 5), (.mov (.k (.int .i64 0))), none⟩])
    (.block 0
      (.loop
        (.seq (.seq (.reg [⟨(some 11), (.mov (.t 5)), none⟩,
          ⟨(some 12), (.mov (.t 0)), none⟩,
          ⟨(some 13), (.len .slc (.t 12)), none⟩,
          ⟨(some 14), (.bin .lss .num (.t 11) (.t 13)), none⟩])
        (.cond (.t 14)
          .skip
          (.exit 0)))
        (.seq (.block 1
          (.seq (.dreg [⟨(some 17), (.mov (.t 0)), none⟩,
            ⟨(some 18), (.mov (.t 5)), none⟩,
            ⟨(some 19), (.iad 1 (.t 17) (.t 18)), none⟩,
            ⟨(some 20), (.load 1 false (.t 19)), none⟩,
            ⟨(some 21), (.mov (.t 1)), none⟩,
            ⟨(some 22), (.mov (.t 5)), none⟩,
            ⟨(some 23), (.iad 1 (.t 21) (.t 22)), none⟩,
            ⟨(some 24), (.load 1 false (.t 23)), none⟩,
            ⟨(some 25), (.bin .neq .str (.t 20) (.t 24)), none⟩] (.free 0 (.free 1 (.free 2 (.free 3 (.free 4 (.free 5 (.free 6 (.free 7 (.free 8 .done))))))))))
          (.cond (.t 25)
            (.seq (.reg [⟨(some 4), (.mov (.k (.bool false))), none⟩])
            .ret)
            .skip)))
        (.reg [⟨(some 15), (.mov (.t 5)), none⟩,
          ⟨(some 16), (.bin .add .num (.t 15) (.k (.int .i64 1))), none⟩,
          ⟨(some 5), (.mov (.t 16)), none⟩]))))))
    (.seq (.reg [⟨(some 4), (.mov (.k (.bool true))), none⟩])
    .ret))))⟩

/-- 15: signetring/fan.Take -/
def F15 : Fun :=
  ⟨57, 3, [.t 6, .t 7, .t 8, .t 9],
    (.seq (.reg [⟨(some 6), (.mov (.k .nsl)), none⟩,
      ⟨(some 7), (.mov (.k (.int .u64 0))), none⟩,
      ⟨(some 8), (.mov (.k (.str []))), none⟩,
      ⟨(some 9), (.mov (.k (.int .i64 0))), none⟩])
    (.seq (.reg [⟨(some 13), (.mov (.t 0)), none⟩,
      ⟨(some 14), (.call (.k (.fn (.func 27) [] [])) [(.t 13)]), none⟩,
      ⟨(some 0), (.mov (.t 14)), none⟩])
    (.seq (.reg [⟨(some 16), (.mov (.t 2)), none⟩,
      ⟨(some 17), (.call (.k (.fn (.func 28) [] [])) [(.t 16), (.k (.int .u8 70)), (.k (.int .i64 2))]), none⟩,
      ⟨(some 15), (.mov (.t 17)), none⟩,
      ⟨(some 18), (.ext (.t 15) 0), none⟩,
      ⟨(some 19), (.ext (.t 15) 1), none⟩,
      ⟨(some 10), (.mov (.t 18)), none⟩,
      ⟨(some 11), (.mov (.t 19)), none⟩])
    (.seq (.seq (.reg [⟨(some 20), (.mov (.t 11)), none⟩,
      ⟨(some 21), (.bin .neq .num (.t 20) (.k (.int .i64 0))), none⟩])
    (.cond (.t 21)
      (.seq (.reg [⟨(some 22), (.mov (.t 0)), none⟩,
        ⟨(some 6), (.mov (.t 22)), none⟩,
        ⟨(some 7), (.mov (.k (.int .u64 0))), none⟩,
        ⟨(some 8), (.mov (.k (.str []))), none⟩,
        ⟨(some 9), (.mov (.k (.int .i64 4))), none⟩])
      .ret)
      .skip))
    (.seq (.reg [⟨(some 24), (.mov (.t 10)), none⟩,
      ⟨(some 25), (.iad 1 (.t 24) (.k (.int .i64 0))), none⟩,
      ⟨(some 26), (.load 1 false (.t 25)), none⟩,
      ⟨(some 27), (.call (.k (.fn (.func 29) [] [])) [(.t 26)]), none⟩,
      ⟨(some 23), (.mov (.t 27)), none⟩,
      ⟨(some 28), (.ext (.t 23) 0), none⟩,
      ⟨(some 29), (.ext (.t 23) 1), none⟩,
      ⟨(some 12), (.mov (.t 28)), none⟩,
      ⟨(some 11), (.mov (.t 29)), none⟩])
    (.seq (.block 0
      (.seq (.reg [⟨(some 31), (.mov (.t 11)), none⟩,
        ⟨(some 32), (.bin .neq .num (.t 31) (.k (.int .i64 0))), none⟩,
        ⟨(some 30), (.mov (.t 32)), none⟩])
      (.cond (.t 30)
        (.seq (.reg [⟨(some 33), (.mov (.t 0)), none⟩,
          ⟨(some 6), (.mov (.t 33)), none⟩,
          ⟨(some 7), (.mov (.k (.int .u64 0))), none⟩,
          ⟨(some 8), (.mov (.k (.str []))), none⟩,
          ⟨(some 9), (.mov (.k (.int .i64 4))), none⟩])
        .ret)
        (.seq (.reg [⟨(some 35), (.mov (.t 0)), none⟩,
          ⟨(some 36), (.mov (.t 1)), none⟩,
          ⟨(some 37), (.mov (.t 12)), none⟩,
          ⟨(some 38), (.build [(.str []), (.int .u64 0)] [(0, 1, (.t 36)), (1, 1, (.t 37))]), none⟩,
          ⟨(some 39), (.call (.k (.fn (.func 30) [] [])) [(.t 35), (.t 38)]), none⟩,
          ⟨(some 34), (.mov (.t 39)), none⟩])
        (.cond (.t 34)
          (.seq (.reg [⟨(some 40), (.mov (.t 0)), none⟩,
            ⟨(some 6), (.mov (.t 40)), none⟩,
            ⟨(some 7), (.mov (.k (.int .u64 0))), none⟩,
            ⟨(some 8), (.mov (.k (.str []))), none⟩,
            ⟨(some 9), (.mov (.k (.int .i64 10))), none⟩])
          .ret)
          .skip)))))
    (.seq (.reg [⟨(some 41), (.mov (.t 0)), none⟩,
      ⟨(some 42), (.mov (.t 1)), none⟩,
      ⟨(some 43), (.mov (.t 12)), none⟩,
      ⟨(some 44), (.build [(.str []), (.int .u64 0)] [(0, 1, (.t 42)), (1, 1, (.t 43))]), none⟩,
      ⟨(some 45), (.mks true 2 24 true [(.str []), (.int .u64 0)] 1 [(0, (.t 44))]), none⟩,
      ⟨(some 46), (.app 2 24 true none (.t 41) (.t 45)), none⟩,
      ⟨(some 0), (.mov (.t 46)), none⟩])
    (.seq (.dreg [⟨(some 47), (.mov (.t 0)), none⟩,
      ⟨(some 48), (.mov (.t 0)), none⟩,
      ⟨(some 49), (.len .slc (.t 48)), none⟩,
      ⟨(some 50), (.bin .sub .num (.t 49) (.k (.int .i64 100))), none⟩,
      ⟨(some 51), (.max (.t 50) (.k (.int .i64 0))), none⟩,
      ⟨(some 52), (.call (.k (.fn (.func 31) [] [])) [(.t 47), (.k (.int .i64 0)), (.t 51)]), none⟩,
      ⟨(some 53), (.mov (.t 12)), none⟩,
      ⟨(some 54), (.mov (.t 10)), none⟩,
      ⟨(some 55), (.iad 1 (.t 54) (.k (.int .i64 1))), none⟩,
      ⟨(some 56), (.load 1 false (.t 55)), none⟩,
      ⟨(some 6), (.mov (.t 52)), none⟩,
      ⟨(some 7), (.mov (.t 53)), none⟩,
      ⟨(some 8), (.mov (.t 56)), none⟩,
      ⟨(some 9), (.mov (.k (.int .i64 0))), none⟩] (.free 0 (.free 1 (.free 2 (.free 3 (.free 4 (.free 6 (.free 7 (.free 8 (.cho 5 (.free 9 (.free 10 (.free 11 (.free 12 (.free 13 .done))))) (.cho 9 (.cho 5 (.free 10 (.free 11 (.free 12 (.free 13 .done)))) .nope) .nope)))))))))))
    .ret))))))))⟩

/-- 16: signetring/signetringlaw20.theirs -/
def F16 : Fun :=
  ⟨18, 1, [.t 2],
    (.seq (.reg [⟨(some 2), (.mov (.k .nsl)), none⟩])
    (.seq (.reg [⟨(some 3), (.mov (.k .nsl)), none⟩])
    (.seq (.seq (.reg [⟨(some 6), (.mov (.t 0)), none⟩,
      ⟨(some 7), (.len .slc (.t 6)), none⟩,
      ⟨(some 8), (.mov (.k (.int .i64 0))), none⟩])
    (.block 0
      (.loop
        (.seq (.reg [⟨(some 9), (.bin .lss .num (.t 8) (.t 7)), none⟩])
        (.seq (.cond (.t 9)
          .skip
          (.exit 0))
        (.seq (.block 1
          (.seq (.reg [⟨(some 10), (.iad 2 (.t 6) (.t 8)), none⟩,
            ⟨(some 11), (.load 2 true (.t 10)), none⟩,
            ⟨(some 5), (.new [(.str []), (.int .u64 0)] none), none⟩,
            ⟨none, (.store 2 (.t 5) (.t 11)), none⟩])
          (.reg [⟨(some 12), (.mov (.t 3)), none⟩,
            ⟨(some 13), (.load 2 true (.t 5)), none⟩,
            ⟨(some 14), (.mks true 2 24 true [(.str []), (.int .u64 0)] 1 [(0, (.t 13))]), none⟩,
            ⟨(some 15), (.app 2 24 true none (.t 12) (.t 14)), none⟩,
            ⟨(some 3), (.mov (.t 15)), none⟩])))
        (.reg [⟨(some 16), (.bin .add .num (.t 8) (.k (.int .i64 1))), none⟩,
          ⟨(some 8), (.mov (.t 16)), none⟩])))))))
    (.seq (.reg [⟨(some 17), (.mov (.t 3)), none⟩,
      ⟨(some 2), (.mov (.t 17)), none⟩])
    .ret))))⟩

/-- 17: signetring/signetringref20.Take -/
def F17 : Fun :=
  ⟨82, 3, [.t 6, .t 7, .t 8, .t 9],
    (.seq (.reg [⟨(some 6), (.mov (.k .nsl)), none⟩,
      ⟨(some 7), (.mov (.k (.int .u64 0))), none⟩,
      ⟨(some 8), (.mov (.k (.str []))), none⟩,
      ⟨(some 9), (.mov (.k (.int .i64 0))), none⟩])
    (.seq (.reg [⟨(some 19), (.mov (.t 2)), none⟩,
      ⟨(some 20), (.call (.k (.fn (.func 32) [] [])) [(.t 19)]), none⟩,
      ⟨(some 18), (.mov (.t 20)), none⟩,
      ⟨(some 21), (.ext (.t 18) 0), none⟩,
      ⟨(some 22), (.ext (.t 18) 1), none⟩,
      ⟨(some 23), (.ext (.t 18) 2), none⟩,
      ⟨(some 10), (.mov (.t 21)), none⟩,
      ⟨(some 11), (.mov (.t 22)), none⟩,
      ⟨(some 12), (.mov (.t 23)), none⟩])
    (.seq (.seq (.reg [⟨(some 24), (.mov (.t 12)), none⟩,
      ⟨(some 25), (.bin .neq .num (.t 24) (.k (.int .i64 0))), none⟩,
      ⟨(some 26), (.mov (.t 25)), none⟩,
      ⟨(some 27), (.mov (.t 10)), some (26, false)⟩,
      ⟨(some 28), (.bin .neq .num (.t 27) (.k (.int .u8 70))), some (26, false)⟩,
      ⟨(some 29), (.pick (.t 26) (.k (.bool true)) (.t 28)), none⟩,
      ⟨(some 30), (.mov (.t 29)), none⟩,
      ⟨(some 31), (.mov (.t 11)), some (30, false)⟩,
      ⟨(some 32), (.len .slc (.t 31)), some (30, false)⟩,
      ⟨(some 33), (.bin .neq .num (.t 32) (.k (.int .i64 2))), some (30, false)⟩,
      ⟨(some 34), (.pick (.t 30) (.k (.bool true)) (.t 33)), none⟩])
    (.cond (.t 34)
      (.seq (.reg [⟨(some 35), (.mov (.t 0)), none⟩,
        ⟨(some 6), (.mov (.t 35)), none⟩,
        ⟨(some 7), (.mov (.k (.int .u64 0))), none⟩,
        ⟨(some 8), (.mov (.k (.str []))), none⟩,
        ⟨(some 9), (.mov (.k (.int .i64 4))), none⟩])
      .ret)
      .skip))
    (.seq (.reg [⟨(some 37), (.mov (.t 11)), none⟩,
      ⟨(some 38), (.iad 1 (.t 37) (.k (.int .i64 0))), none⟩,
      ⟨(some 39), (.load 1 false (.t 38)), none⟩,
      ⟨(some 40), (.call (.k (.fn (.func 33) [] [])) [(.t 39)]), none⟩,
      ⟨(some 36), (.mov (.t 40)), none⟩,
      ⟨(some 41), (.ext (.t 36) 0), none⟩,
      ⟨(some 42), (.ext (.t 36) 1), none⟩,
      ⟨(some 13), (.mov (.t 41)), none⟩,
      ⟨(some 14), (.mov (.t 42)), none⟩])
    (.seq (.seq (.reg [⟨(some 43), (.mov (.t 14)), none⟩,
      ⟨(some 44), (.bin .neq .num (.t 43) (.k (.int .i64 0))), none⟩])
    (.cond (.t 44)
      (.seq (.reg [⟨(some 45), (.mov (.t 0)), none⟩,
        ⟨(some 6), (.mov (.t 45)), none⟩,
        ⟨(some 7), (.mov (.k (.int .u64 0))), none⟩,
        ⟨(some 8), (.mov (.k (.str []))), none⟩,
        ⟨(some 9), (.mov (.k (.int .i64 4))), none⟩])
      .ret)
      .skip))
    (.seq (.reg [⟨(some 46), (.mov (.t 1)), none⟩,
      ⟨(some 47), (.mov (.t 13)), none⟩,
      ⟨(some 48), (.build [(.str []), (.int .u64 0)] [(0, 1, (.t 46)), (1, 1, (.t 47))]), none⟩,
      ⟨(some 15), (.new [(.str []), (.int .u64 0)] none), none⟩,
      ⟨none, (.store 2 (.t 15) (.t 48)), none⟩])
    (.seq (.seq (.reg [⟨(some 16), (.mov (.k (.int .i64 0))), none⟩])
    (.block 0
      (.loop
        (.seq (.seq (.reg [⟨(some 49), (.mov (.t 16)), none⟩,
          ⟨(some 50), (.mov (.t 0)), none⟩,
          ⟨(some 51), (.len .slc (.t 50)), none⟩,
          ⟨(some 52), (.bin .lss .num (.t 49) (.t 51)), none⟩])
        (.cond (.t 52)
          .skip
          (.exit 0)))
        (.seq (.block 1
          (.seq (.dreg [⟨(some 55), (.mov (.t 0)), none⟩,
            ⟨(some 56), (.mov (.t 16)), none⟩,
            ⟨(some 57), (.iad 2 (.t 55) (.t 56)), none⟩,
            ⟨(some 58), (.load 2 true (.t 57)), none⟩,
            ⟨(some 59), (.load 2 true (.t 15)), none⟩,
            ⟨(some 60), (.bin .eql (.agg [.str, .num]) (.t 58) (.t 59)), none⟩] (.free 0 (.free 1 (.free 2 (.free 3 (.free 4 (.free 5 .done)))))))
          (.cond (.t 60)
            (.seq (.reg [⟨(some 61), (.mov (.t 0)), none⟩,
              ⟨(some 6), (.mov (.t 61)), none⟩,
              ⟨(some 7), (.mov (.k (.int .u64 0))), none⟩,
              ⟨(some 8), (.mov (.k (.str []))), none⟩,
              ⟨(some 9), (.mov (.k (.int .i64 10))), none⟩])
            .ret)
            .skip)))
        (.reg [⟨(some 53), (.mov (.t 16)), none⟩,
          ⟨(some 54), (.bin .add .num (.t 53) (.k (.int .i64 1))), none⟩,
          ⟨(some 16), (.mov (.t 54)), none⟩]))))))
    (.seq (.reg [⟨(some 62), (.mks true 2 24 true [] 0 []), none⟩,
      ⟨(some 63), (.mov (.t 0)), none⟩,
      ⟨(some 64), (.app 2 24 true none (.t 62) (.t 63)), none⟩,
      ⟨(some 17), (.mov (.t 64)), none⟩])
    (.seq (.reg [⟨(some 65), (.mov (.t 17)), none⟩,
      ⟨(some 66), (.load 2 true (.t 15)), none⟩,
      ⟨(some 67), (.mks true 2 24 true [(.str []), (.int .u64 0)] 1 [(0, (.t 66))]), none⟩,
      ⟨(some 68), (.app 2 24 true none (.t 65) (.t 67)), none⟩,
      ⟨(some 17), (.mov (.t 68)), none⟩])
    (.seq (.seq (.reg [⟨(some 69), (.mov (.t 17)), none⟩,
      ⟨(some 70), (.len .slc (.t 69)), none⟩,
      ⟨(some 71), (.bin .gtr .num (.t 70) (.k (.int .i64 100))), none⟩])
    (.cond (.t 71)
      (.reg [⟨(some 72), (.mov (.t 17)), none⟩,
        ⟨(some 73), (.mov (.t 17)), none⟩,
        ⟨(some 74), (.len .slc (.t 73)), none⟩,
        ⟨(some 75), (.bin .sub .num (.t 74) (.k (.int .i64 100))), none⟩,
        ⟨(some 76), (.slc false 2 (.t 72) (some (.t 75)) none none), none⟩,
        ⟨(some 17), (.mov (.t 76)), none⟩])
      .skip))
    (.seq (.dreg [⟨(some 77), (.mov (.t 17)), none⟩,
      ⟨(some 78), (.mov (.t 13)), none⟩,
      ⟨(some 79), (.mov (.t 11)), none⟩,
      ⟨(some 80), (.iad 1 (.t 79) (.k (.int .i64 1))), none⟩,
      ⟨(some 81), (.load 1 false (.t 80)), none⟩,
      ⟨(some 6), (.mov (.t 77)), none⟩,
      ⟨(some 7), (.mov (.t 78)), none⟩,
      ⟨(some 8), (.mov (.t 81)), none⟩,
      ⟨(some 9), (.mov (.k (.int .i64 0))), none⟩] (.free 0 (.free 1 (.free 2 (.free 3 (.free 4 (.free 5 (.free 6 (.free 7 (.free 8 .done))))))))))
    .ret)))))))))))⟩

/-- 18: signetring/fan.Payload -/
def F18 : Fun :=
  ⟨13, 2, [.t 4, .t 5],
    (.seq (.reg [⟨(some 4), (.mov (.k (.str []))), none⟩,
      ⟨(some 5), (.mov (.k (.int .i64 0))), none⟩])
    (.seq (.reg [⟨(some 6), (.mov (.t 0)), none⟩,
      ⟨(some 7), (.call (.k (.fn (.func 35) [] [])) [(.t 6)]), none⟩,
      ⟨(some 8), (.mov (.t 1)), none⟩,
      ⟨(some 9), (.mks true 1 16 false [(.str []), (.str [])] 2 [(0, (.t 7)), (1, (.t 8))]), none⟩,
      ⟨(some 10), (.call (.k (.fn (.func 34) [] [])) [(.k (.int .u8 70)), (.t 9)]), none⟩,
      ⟨(some 11), (.ext (.t 10) 0), none⟩,
      ⟨(some 12), (.ext (.t 10) 1), none⟩,
      ⟨(some 4), (.mov (.t 11)), none⟩,
      ⟨(some 5), (.mov (.t 12)), none⟩])
    .ret))⟩

/-- 19: signetring/signetringref20.Payload -/
def F19 : Fun :=
  ⟨13, 2, [.t 4, .t 5],
    (.seq (.reg [⟨(some 4), (.mov (.k (.str []))), none⟩,
      ⟨(some 5), (.mov (.k (.int .i64 0))), none⟩])
    (.seq (.reg [⟨(some 6), (.mov (.t 0)), none⟩,
      ⟨(some 7), (.call (.k (.fn (.func 37) [] [])) [(.t 6)]), none⟩,
      ⟨(some 8), (.mov (.t 1)), none⟩,
      ⟨(some 9), (.mks true 1 16 false [(.str []), (.str [])] 2 [(0, (.t 7)), (1, (.t 8))]), none⟩,
      ⟨(some 10), (.call (.k (.fn (.func 36) [] [])) [(.k (.int .u8 70)), (.t 9)]), none⟩,
      ⟨(some 11), (.ext (.t 10) 0), none⟩,
      ⟨(some 12), (.ext (.t 10) 1), none⟩,
      ⟨(some 4), (.mov (.t 11)), none⟩,
      ⟨(some 5), (.mov (.t 12)), none⟩])
    .ret))⟩

/-- 20: signetring/signetringref20.Same -/
def F20 : Fun :=
  ⟨26, 2, [.t 4],
    (.seq (.reg [⟨(some 4), (.mov (.k (.bool false))), none⟩])
    (.seq (.seq (.reg [⟨(some 6), (.mov (.t 0)), none⟩,
      ⟨(some 7), (.len .slc (.t 6)), none⟩,
      ⟨(some 8), (.mov (.t 1)), none⟩,
      ⟨(some 9), (.len .slc (.t 8)), none⟩,
      ⟨(some 10), (.bin .neq .num (.t 7) (.t 9)), none⟩])
    (.cond (.t 10)
      (.seq (.reg [⟨(some 4), (.mov (.k (.bool false))), none⟩])
      .ret)
      .skip))
    (.seq (.seq (.reg [⟨(some 5), (.mov (.k (.int .i64 0))), none⟩])
    (.block 0
      (.loop
        (.seq (.seq (.reg [⟨(some 11), (.mov (.t 5)), none⟩,
          ⟨(some 12), (.mov (.t 0)), none⟩,
          ⟨(some 13), (.len .slc (.t 12)), none⟩,
          ⟨(some 14), (.bin .lss .num (.t 11) (.t 13)), none⟩])
        (.cond (.t 14)
          .skip
          (.exit 0)))
        (.seq (.block 1
          (.seq (.dreg [⟨(some 17), (.mov (.t 0)), none⟩,
            ⟨(some 18), (.mov (.t 5)), none⟩,
            ⟨(some 19), (.iad 2 (.t 17) (.t 18)), none⟩,
            ⟨(some 20), (.load 2 true (.t 19)), none⟩,
            ⟨(some 21), (.mov (.t 1)), none⟩,
            ⟨(some 22), (.mov (.t 5)), none⟩,
            ⟨(some 23), (.iad 2 (.t 21) (.t 22)), none⟩,
            ⟨(some 24), (.load 2 true (.t 23)), none⟩,
            ⟨(some 25), (.bin .neq (.agg [.str, .num]) (.t 20) (.t 24)), none⟩] (.free 0 (.free 1 (.free 2 (.free 3 (.free 4 (.free 5 (.free 6 (.free 7 (.free 8 .done))))))))))
          (.cond (.t 25)
            (.seq (.reg [⟨(some 4), (.mov (.k (.bool false))), none⟩])
            .ret)
            .skip)))
        (.reg [⟨(some 15), (.mov (.t 5)), none⟩,
          ⟨(some 16), (.bin .add .num (.t 15) (.k (.int .i64 1))), none⟩,
          ⟨(some 5), (.mov (.t 16)), none⟩]))))))
    (.seq (.reg [⟨(some 4), (.mov (.k (.bool true))), none⟩])
    .ret))))⟩

/-- 21: signetring/signetringlaw20.ours -/
def F21 : Fun :=
  ⟨18, 1, [.t 2],
    (.seq (.reg [⟨(some 2), (.mov (.k .nsl)), none⟩])
    (.seq (.reg [⟨(some 3), (.mov (.k .nsl)), none⟩])
    (.seq (.seq (.reg [⟨(some 6), (.mov (.t 0)), none⟩,
      ⟨(some 7), (.len .slc (.t 6)), none⟩,
      ⟨(some 8), (.mov (.k (.int .i64 0))), none⟩])
    (.block 0
      (.loop
        (.seq (.reg [⟨(some 9), (.bin .lss .num (.t 8) (.t 7)), none⟩])
        (.seq (.cond (.t 9)
          .skip
          (.exit 0))
        (.seq (.block 1
          (.seq (.reg [⟨(some 10), (.iad 2 (.t 6) (.t 8)), none⟩,
            ⟨(some 11), (.load 2 true (.t 10)), none⟩,
            ⟨(some 5), (.new [(.str []), (.int .u64 0)] none), none⟩,
            ⟨none, (.store 2 (.t 5) (.t 11)), none⟩])
          (.reg [⟨(some 12), (.mov (.t 3)), none⟩,
            ⟨(some 13), (.load 2 true (.t 5)), none⟩,
            ⟨(some 14), (.mks true 2 24 true [(.str []), (.int .u64 0)] 1 [(0, (.t 13))]), none⟩,
            ⟨(some 15), (.app 2 24 true none (.t 12) (.t 14)), none⟩,
            ⟨(some 3), (.mov (.t 15)), none⟩])))
        (.reg [⟨(some 16), (.bin .add .num (.t 8) (.k (.int .i64 1))), none⟩,
          ⟨(some 8), (.mov (.t 16)), none⟩])))))))
    (.seq (.reg [⟨(some 17), (.mov (.t 3)), none⟩,
      ⟨(some 2), (.mov (.t 17)), none⟩])
    .ret))))⟩

/-- 22: slices.Clone[signetring/fan.Group,string] -/
def F22 : Fun :=
  ⟨8, 1, [.t 2],
    (.seq (.reg [⟨(some 2), (.mov (.k .nsl)), none⟩])
    (.seq (.seq (.reg [⟨(some 3), (.mov (.t 0)), none⟩,
      ⟨(some 4), (.bin .eql .slc (.t 3) (.k .nsl)), none⟩])
    (.cond (.t 4)
      (.seq (.reg [⟨(some 2), (.mov (.k .nsl)), none⟩])
      .ret)
      .skip))
    (.seq (.reg [⟨(some 5), (.mks true 1 16 false [] 0 []), none⟩,
      ⟨(some 6), (.mov (.t 0)), none⟩,
      ⟨(some 7), (.app 1 16 false none (.t 5) (.t 6)), none⟩,
      ⟨(some 2), (.mov (.t 7)), none⟩])
    .ret)))⟩

/-- 23: slices.Contains[signetring/fan.Group,string] -/
def F23 : Fun :=
  ⟨9, 2, [.t 4],
    (.seq (.reg [⟨(some 4), (.mov (.k (.bool false))), none⟩])
    (.seq (.reg [⟨(some 5), (.mov (.t 0)), none⟩,
      ⟨(some 6), (.mov (.t 1)), none⟩,
      ⟨(some 7), (.call (.k (.fn (.func 25) [] [])) [(.t 5), (.t 6)]), none⟩,
      ⟨(some 8), (.bin .geq .num (.t 7) (.k (.int .i64 0))), none⟩,
      ⟨(some 4), (.mov (.t 8)), none⟩])
    .ret))⟩

/-- 24: signetring/signetringref20.has -/
def F24 : Fun :=
  ⟨18, 2, [.t 4],
    (.seq (.reg [⟨(some 4), (.mov (.k (.bool false))), none⟩])
    (.seq (.seq (.reg [⟨(some 5), (.mov (.k (.int .i64 0))), none⟩])
    (.block 0
      (.loop
        (.seq (.seq (.reg [⟨(some 6), (.mov (.t 5)), none⟩,
          ⟨(some 7), (.mov (.t 0)), none⟩,
          ⟨(some 8), (.len .slc (.t 7)), none⟩,
          ⟨(some 9), (.bin .lss .num (.t 6) (.t 8)), none⟩])
        (.cond (.t 9)
          .skip
          (.exit 0)))
        (.seq (.block 1
          (.seq (.reg [⟨(some 12), (.mov (.t 0)), none⟩,
            ⟨(some 13), (.mov (.t 5)), none⟩,
            ⟨(some 14), (.iad 1 (.t 12) (.t 13)), none⟩,
            ⟨(some 15), (.load 1 false (.t 14)), none⟩,
            ⟨(some 16), (.mov (.t 1)), none⟩,
            ⟨(some 17), (.bin .eql .str (.t 15) (.t 16)), none⟩])
          (.cond (.t 17)
            (.seq (.reg [⟨(some 4), (.mov (.k (.bool true))), none⟩])
            .ret)
            .skip)))
        (.reg [⟨(some 10), (.mov (.t 5)), none⟩,
          ⟨(some 11), (.bin .add .num (.t 10) (.k (.int .i64 1))), none⟩,
          ⟨(some 5), (.mov (.t 11)), none⟩]))))))
    (.seq (.reg [⟨(some 4), (.mov (.k (.bool false))), none⟩])
    .ret)))⟩

/-- 25: slices.Index[signetring/fan.Group,string] -/
def F25 : Fun :=
  ⟨19, 2, [.t 4],
    (.seq (.reg [⟨(some 4), (.mov (.k (.int .i64 0))), none⟩])
    (.seq (.seq (.reg [⟨(some 6), (.mov (.t 0)), none⟩,
      ⟨(some 7), (.len .slc (.t 6)), none⟩,
      ⟨(some 8), (.mov (.k (.int .i64 0))), none⟩])
    (.block 0
      (.loop
        (.seq (.reg [⟨(some 9), (.bin .lss .num (.t 8) (.t 7)), none⟩])
        (.seq (.cond (.t 9)
          .skip
          (.exit 0))
        (.seq (.block 1
          (.seq (.reg [⟨(some 10), (.mov (.t 8)), none⟩,
            ⟨(some 5), (.mov (.t 10)), none⟩])
          (.seq (.reg [⟨(some 11), (.mov (.t 1)), none⟩,
            ⟨(some 12), (.mov (.t 0)), none⟩,
            ⟨(some 13), (.mov (.t 5)), none⟩,
            ⟨(some 14), (.iad 1 (.t 12) (.t 13)), none⟩,
            ⟨(some 15), (.load 1 false (.t 14)), none⟩,
            ⟨(some 16), (.bin .eql .str (.t 11) (.t 15)), none⟩])
          (.cond (.t 16)
            (.seq (.reg [⟨(some 17), (.mov (.t 5)), none⟩,
              ⟨(some 4), (.mov (.t 17)), none⟩])
            .ret)
            .skip))))
        (.reg [⟨(some 18), (.bin .add .num (.t 8) (.k (.int .i64 1))), none⟩,
          ⟨(some 8), (.mov (.t 18)), none⟩])))))))
    (.seq (.reg [⟨(some 4), (.mov (.k (.int .i64 (-1)))), none⟩])
    .ret)))⟩

/-- 26: slices.Delete[signetring/fan.Group,string] -/
def F26 : Fun :=
  ⟨33, 3, [.t 6],
    (.seq (.reg [⟨(some 6), (.mov (.k .nsl)), none⟩])
    (.seq (.reg [⟨(some 8), (.mov (.t 0)), none⟩,
      ⟨(some 9), (.mov (.t 1)), none⟩,
      ⟨(some 10), (.mov (.t 2)), none⟩,
      ⟨(some 11), (.mov (.t 0)), none⟩,
      ⟨(some 12), (.len .slc (.t 11)), none⟩,
      ⟨(some 13), (.slc false 1 (.t 8) (some (.t 9)) (some (.t 10)) (some (.t 12))), none⟩])
    (.seq (.seq (.reg [⟨(some 14), (.mov (.t 1)), none⟩,
      ⟨(some 15), (.mov (.t 2)), none⟩,
      ⟨(some 16), (.bin .eql .num (.t 14) (.t 15)), none⟩])
    (.cond (.t 16)
      (.seq (.reg [⟨(some 17), (.mov (.t 0)), none⟩,
        ⟨(some 6), (.mov (.t 17)), none⟩])
      .ret)
      .skip))
    (.seq (.reg [⟨(some 18), (.mov (.t 0)), none⟩,
      ⟨(some 19), (.len .slc (.t 18)), none⟩,
      ⟨(some 7), (.mov (.t 19)), none⟩])
    (.seq (.dreg [⟨(some 20), (.mov (.t 0)), none⟩,
      ⟨(some 21), (.mov (.t 1)), none⟩,
      ⟨(some 22), (.slc false 1 (.t 20) none (some (.t 21)) none), none⟩,
      ⟨(some 23), (.mov (.t 0)), none⟩,
      ⟨(some 24), (.mov (.t 2)), none⟩,
      ⟨(some 25), (.slc false 1 (.t 23) (some (.t 24)) none none), none⟩,
      ⟨(some 26), (.app 1 16 false none (.t 22) (.t 25)), none⟩,
      ⟨(some 0), (.mov (.t 26)), none⟩] (.free 0 (.free 1 (.free 2 (.free 3 (.free 4 (.free 5 (.cho 6 (.free 7 .done) .nope))))))))
    (.seq (.reg [⟨(some 27), (.mov (.t 0)), none⟩,
      ⟨(some 28), (.mov (.t 0)), none⟩,
      ⟨(some 29), (.len .slc (.t 28)), none⟩,
      ⟨(some 30), (.mov (.t 7)), none⟩,
      ⟨(some 31), (.slc false 1 (.t 27) (some (.t 29)) (some (.t 30)) none), none⟩,
      ⟨none, (.clr [(.str [])] (.t 31)), none⟩])
    (.seq (.reg [⟨(some 32), (.mov (.t 0)), none⟩,
      ⟨(some 6), (.mov (.t 32)), none⟩])
    .ret)))))))⟩

/-- 27: slices.Clone[signetring/fan.Seen,signetring/fan.Mark] -/
def F27 : Fun :=
  ⟨8, 1, [.t 2],
    (.seq (.reg [⟨(some 2), (.mov (.k .nsl)), none⟩])
    (.seq (.seq (.reg [⟨(some 3), (.mov (.t 0)), none⟩,
      ⟨(some 4), (.bin .eql .slc (.t 3) (.k .nsl)), none⟩])
    (.cond (.t 4)
      (.seq (.reg [⟨(some 2), (.mov (.k .nsl)), none⟩])
      .ret)
      .skip))
    (.seq (.reg [⟨(some 5), (.mks true 2 24 true [] 0 []), none⟩,
      ⟨(some 6), (.mov (.t 0)), none⟩,
      ⟨(some 7), (.app 2 24 true none (.t 5) (.t 6)), none⟩,
      ⟨(some 2), (.mov (.t 7)), none⟩])
    .ret)))⟩

/-- 28: signetring/codec.Take -/
def F28 : Fun :=
  ⟨31, 3, [.t 6, .t 7],
    (.seq (.reg [⟨(some 6), (.mov (.k .nsl)), none⟩,
      ⟨(some 7), (.mov (.k (.int .i64 0))), none⟩])
    (.seq (.reg [⟨(some 12), (.mov (.t 0)), none⟩,
      ⟨(some 13), (.call (.k (.fn (.func 38) [] [])) [(.t 12)]), none⟩,
      ⟨(some 11), (.mov (.t 13)), none⟩,
      ⟨(some 14), (.ext (.t 11) 0), none⟩,
      ⟨(some 15), (.ext (.t 11) 1), none⟩,
      ⟨(some 16), (.ext (.t 11) 2), none⟩,
      ⟨(some 8), (.mov (.t 14)), none⟩,
      ⟨(some 9), (.mov (.t 15)), none⟩,
      ⟨(some 10), (.mov (.t 16)), none⟩])
    (.seq (.seq (.reg [⟨(some 17), (.mov (.t 10)), none⟩,
      ⟨(some 18), (.bin .neq .num (.t 17) (.k (.int .i64 0))), none⟩,
      ⟨(some 19), (.mov (.t 18)), none⟩,
      ⟨(some 20), (.mov (.t 8)), some (19, false)⟩,
      ⟨(some 21), (.mov (.t 1)), some (19, false)⟩,
      ⟨(some 22), (.bin .neq .num (.t 20) (.t 21)), some (19, false)⟩,
      ⟨(some 23), (.pick (.t 19) (.k (.bool true)) (.t 22)), none⟩,
      ⟨(some 24), (.mov (.t 23)), none⟩,
      ⟨(some 25), (.mov (.t 9)), some (24, false)⟩,
      ⟨(some 26), (.len .slc (.t 25)), some (24, false)⟩,
      ⟨(some 27), (.mov (.t 2)), some (24, false)⟩,
      ⟨(some 28), (.bin .neq .num (.t 26) (.t 27)), some (24, false)⟩,
      ⟨(some 29), (.pick (.t 24) (.k (.bool true)) (.t 28)), none⟩])
    (.cond (.t 29)
      (.seq (.reg [⟨(some 6), (.mov (.k .nsl)), none⟩,
        ⟨(some 7), (.mov (.k (.int .i64 4))), none⟩])
      .ret)
      .skip))
    (.seq (.reg [⟨(some 30), (.mov (.t 9)), none⟩,
      ⟨(some 6), (.mov (.t 30)), none⟩,
      ⟨(some 7), (.mov (.k (.int .i64 0))), none⟩])
    .ret))))⟩

/-- 29: signetring/codec.Read -/
def F29 : Fun :=
  ⟨28, 1, [.t 2, .t 3],
    (.seq (.reg [⟨(some 2), (.mov (.k (.int .u64 0))), none⟩,
      ⟨(some 3), (.mov (.k (.int .i64 0))), none⟩])
    (.seq (.seq (.reg [⟨(some 7), (.mov (.t 0)), none⟩,
      ⟨(some 8), (.len .str (.t 7)), none⟩,
      ⟨(some 9), (.bin .gtr .num (.t 8) (.k (.int .i64 8))), none⟩,
      ⟨(some 10), (.mov (.t 9)), none⟩,
      ⟨(some 11), (.mov (.t 0)), some (10, false)⟩,
      ⟨(some 12), (.call (.k (.fn (.func 39) [] [])) [(.t 11), (.k (.str [0]))]), some (10, false)⟩,
      ⟨(some 13), (.pick (.t 10) (.k (.bool true)) (.t 12)), none⟩])
    (.cond (.t 13)
      (.seq (.reg [⟨(some 2), (.mov (.k (.int .u64 0))), none⟩,
        ⟨(some 3), (.mov (.k (.int .i64 4))), none⟩])
      .ret)
      .skip))
    (.seq (.reg [⟨(some 4), (.mov (.k (.int .u64 0))), none⟩])
    (.seq (.seq (.reg [⟨(some 14), (.mov (.t 0)), none⟩,
      ⟨(some 15), (.s2b true (.t 14)), none⟩,
      ⟨(some 16), (.len .slc (.t 15)), none⟩,
      ⟨(some 17), (.mov (.k (.int .i64 0))), none⟩])
    (.block 0
      (.loop
        (.seq (.reg [⟨(some 18), (.bin .lss .num (.t 17) (.t 16)), none⟩])
        (.seq (.cond (.t 18)
          .skip
          (.exit 0))
        (.seq (.block 1
          (.seq (.reg [⟨(some 19), (.iad 1 (.t 15) (.t 17)), none⟩,
            ⟨(some 20), (.load 1 false (.t 19)), none⟩,
            ⟨(some 6), (.mov (.t 20)), none⟩])
          (.reg [⟨(some 21), (.mov (.t 4)), none⟩,
            ⟨(some 22), (.bin .shl .num (.t 21) (.k (.int .u64 8))), none⟩,
            ⟨(some 23), (.mov (.t 6)), none⟩,
            ⟨(some 24), (.cvi .u64 (.t 23)), none⟩,
            ⟨(some 25), (.bin .or .num (.t 22) (.t 24)), none⟩,
            ⟨(some 4), (.mov (.t 25)), none⟩])))
        (.reg [⟨(some 26), (.bin .add .num (.t 17) (.k (.int .i64 1))), none⟩,
          ⟨(some 17), (.mov (.t 26)), none⟩])))))))
    (.seq (.reg [⟨(some 27), (.mov (.t 4)), none⟩,
      ⟨(some 2), (.mov (.t 27)), none⟩,
      ⟨(some 3), (.mov (.k (.int .i64 0))), none⟩])
    .ret)))))⟩

/-- 30: slices.Contains[signetring/fan.Seen,signetring/fan.Mark] -/
def F30 : Fun :=
  ⟨9, 2, [.t 4],
    (.seq (.reg [⟨(some 3), (.box none (.t 1)), none⟩,
      ⟨(some 4), (.mov (.k (.bool false))), none⟩])
    (.seq (.reg [⟨(some 5), (.mov (.t 0)), none⟩,
      ⟨(some 6), (.load 2 true (.t 3)), none⟩,
      ⟨(some 7), (.call (.k (.fn (.func 40) [] [])) [(.t 5), (.t 6)]), none⟩,
      ⟨(some 8), (.bin .geq .num (.t 7) (.k (.int .i64 0))), none⟩,
      ⟨(some 4), (.mov (.t 8)), none⟩])
    .ret))⟩

/-- 31: slices.Delete[signetring/fan.Seen,signetring/fan.Mark] -/
def F31 : Fun :=
  ⟨33, 3, [.t 6],
    (.seq (.reg [⟨(some 6), (.mov (.k .nsl)), none⟩])
    (.seq (.reg [⟨(some 8), (.mov (.t 0)), none⟩,
      ⟨(some 9), (.mov (.t 1)), none⟩,
      ⟨(some 10), (.mov (.t 2)), none⟩,
      ⟨(some 11), (.mov (.t 0)), none⟩,
      ⟨(some 12), (.len .slc (.t 11)), none⟩,
      ⟨(some 13), (.slc false 2 (.t 8) (some (.t 9)) (some (.t 10)) (some (.t 12))), none⟩])
    (.seq (.seq (.reg [⟨(some 14), (.mov (.t 1)), none⟩,
      ⟨(some 15), (.mov (.t 2)), none⟩,
      ⟨(some 16), (.bin .eql .num (.t 14) (.t 15)), none⟩])
    (.cond (.t 16)
      (.seq (.reg [⟨(some 17), (.mov (.t 0)), none⟩,
        ⟨(some 6), (.mov (.t 17)), none⟩])
      .ret)
      .skip))
    (.seq (.reg [⟨(some 18), (.mov (.t 0)), none⟩,
      ⟨(some 19), (.len .slc (.t 18)), none⟩,
      ⟨(some 7), (.mov (.t 19)), none⟩])
    (.seq (.dreg [⟨(some 20), (.mov (.t 0)), none⟩,
      ⟨(some 21), (.mov (.t 1)), none⟩,
      ⟨(some 22), (.slc false 2 (.t 20) none (some (.t 21)) none), none⟩,
      ⟨(some 23), (.mov (.t 0)), none⟩,
      ⟨(some 24), (.mov (.t 2)), none⟩,
      ⟨(some 25), (.slc false 2 (.t 23) (some (.t 24)) none none), none⟩,
      ⟨(some 26), (.app 2 24 true none (.t 22) (.t 25)), none⟩,
      ⟨(some 0), (.mov (.t 26)), none⟩] (.free 0 (.free 1 (.free 2 (.free 3 (.free 4 (.free 5 (.cho 6 (.free 7 .done) .nope))))))))
    (.seq (.reg [⟨(some 27), (.mov (.t 0)), none⟩,
      ⟨(some 28), (.mov (.t 0)), none⟩,
      ⟨(some 29), (.len .slc (.t 28)), none⟩,
      ⟨(some 30), (.mov (.t 7)), none⟩,
      ⟨(some 31), (.slc false 2 (.t 27) (some (.t 29)) (some (.t 30)) none), none⟩,
      ⟨none, (.clr [(.str []), (.int .u64 0)] (.t 31)), none⟩])
    (.seq (.reg [⟨(some 32), (.mov (.t 0)), none⟩,
      ⟨(some 6), (.mov (.t 32)), none⟩])
    .ret)))))))⟩

/-- 32: signetring/signetringref08.Split -/
def F32 : Fun :=
  ⟨76, 1, [.t 2, .t 3, .t 4],
    (.seq (.reg [⟨(some 2), (.mov (.k (.int .u8 0))), none⟩,
      ⟨(some 3), (.mov (.k .nsl)), none⟩,
      ⟨(some 4), (.mov (.k (.int .i64 0))), none⟩])
    (.seq (.seq (.reg [⟨(some 11), (.mov (.t 0)), none⟩,
      ⟨(some 12), (.len .str (.t 11)), none⟩,
      ⟨(some 13), (.bin .lss .num (.t 12) (.k (.int .i64 3))), none⟩])
    (.cond (.t 13)
      (.seq (.reg [⟨(some 2), (.mov (.k (.int .u8 0))), none⟩,
        ⟨(some 3), (.mov (.k .nsl)), none⟩,
        ⟨(some 4), (.mov (.k (.int .i64 4))), none⟩])
      .ret)
      .skip))
    (.seq (.reg [⟨(some 5), (.mov (.k .nsl)), none⟩])
    (.seq (.reg [⟨(some 6), (.mov (.k (.int .i64 3))), none⟩])
    (.seq (.seq (.reg [⟨(some 7), (.mov (.k (.int .i64 0))), none⟩])
    (.block 0
      (.loop
        (.seq (.seq (.reg [⟨(some 14), (.mov (.t 7)), none⟩,
          ⟨(some 15), (.mov (.t 0)), none⟩,
          ⟨(some 16), (.idxs (.t 15) (.k (.int .i64 2))), none⟩,
          ⟨(some 17), (.cvi .i64 (.t 16)), none⟩,
          ⟨(some 18), (.bin .lss .num (.t 14) (.t 17)), none⟩])
        (.cond (.t 18)
          .skip
          (.exit 0)))
        (.seq (.block 1
          (.seq (.seq (.reg [⟨(some 21), (.mov (.t 6)), none⟩,
            ⟨(some 22), (.bin .add .num (.t 21) (.k (.int .i64 2))), none⟩,
            ⟨(some 23), (.mov (.t 0)), none⟩,
            ⟨(some 24), (.len .str (.t 23)), none⟩,
            ⟨(some 25), (.bin .gtr .num (.t 22) (.t 24)), none⟩])
          (.cond (.t 25)
            (.seq (.reg [⟨(some 2), (.mov (.k (.int .u8 0))), none⟩,
              ⟨(some 3), (.mov (.k .nsl)), none⟩,
              ⟨(some 4), (.mov (.k (.int .i64 4))), none⟩])
            .ret)
            .skip))
          (.seq (.dreg [⟨(some 26), (.mov (.t 0)), none⟩,
            ⟨(some 27), (.mov (.t 6)), none⟩,
            ⟨(some 28), (.idxs (.t 26) (.t 27)), none⟩,
            ⟨(some 29), (.cvi .i64 (.t 28)), none⟩,
            ⟨(some 30), (.bin .mul .num (.k (.int .i64 256)) (.t 29)), none⟩,
            ⟨(some 31), (.mov (.t 0)), none⟩,
            ⟨(some 32), (.mov (.t 6)), none⟩,
            ⟨(some 33), (.bin .add .num (.t 32) (.k (.int .i64 1))), none⟩,
            ⟨(some 34), (.idxs (.t 31) (.t 33)), none⟩,
            ⟨(some 35), (.cvi .i64 (.t 34)), none⟩,
            ⟨(some 36), (.bin .add .num (.t 30) (.t 35)), none⟩,
            ⟨(some 8), (.mov (.t 36)), none⟩] (.free 0 (.free 1 (.free 2 (.free 3 (.free 4 (.free 5 (.free 6 (.free 7 (.free 8 (.free 9 (.free 10 (.free 11 .done)))))))))))))
          (.seq (.seq (.reg [⟨(some 37), (.mov (.t 6)), none⟩,
            ⟨(some 38), (.bin .add .num (.t 37) (.k (.int .i64 2))), none⟩,
            ⟨(some 39), (.mov (.t 8)), none⟩,
            ⟨(some 40), (.bin .add .num (.t 38) (.t 39)), none⟩,
            ⟨(some 41), (.mov (.t 0)), none⟩,
            ⟨(some 42), (.len .str (.t 41)), none⟩,
            ⟨(some 43), (.bin .gtr .num (.t 40) (.t 42)), none⟩])
          (.cond (.t 43)
            (.seq (.reg [⟨(some 2), (.mov (.k (.int .u8 0))), none⟩,
              ⟨(some 3), (.mov (.k .nsl)), none⟩,
              ⟨(some 4), (.mov (.k (.int .i64 4))), none⟩])
            .ret)
            .skip))
          (.seq (.reg [⟨(some 44), (.mov (.t 5)), none⟩,
            ⟨(some 45), (.mov (.t 0)), none⟩,
            ⟨(some 46), (.mov (.t 6)), none⟩,
            ⟨(some 47), (.bin .add .num (.t 46) (.k (.int .i64 2))), none⟩,
            ⟨(some 48), (.mov (.t 6)), none⟩,
            ⟨(some 49), (.bin .add .num (.t 48) (.k (.int .i64 2))), none⟩,
            ⟨(some 50), (.mov (.t 8)), none⟩,
            ⟨(some 51), (.bin .add .num (.t 49) (.t 50)), none⟩,
            ⟨(some 52), (.slc true 0 (.t 45) (some (.t 47)) (some (.t 51)) none), none⟩,
            ⟨(some 53), (.mks true 1 16 false [(.str [])] 1 [(0, (.t 52))]), none⟩,
            ⟨(some 54), (.app 1 16 false none (.t 44) (.t 53)), none⟩,
            ⟨(some 5), (.mov (.t 54)), none⟩])
          (.reg [⟨(some 55), (.mov (.t 6)), none⟩,
            ⟨(some 56), (.bin .add .num (.t 55) (.k (.int .i64 2))), none⟩,
            ⟨(some 57), (.mov (.t 8)), none⟩,
            ⟨(some 58), (.bin .add .num (.t 56) (.t 57)), none⟩,
            ⟨(some 6), (.mov (.t 58)), none⟩]))))))
        (.reg [⟨(some 19), (.mov (.t 7)), none⟩,
          ⟨(some 20), (.bin .add .num (.t 19) (.k (.int .i64 1))), none⟩,
          ⟨(some 7), (.mov (.t 20)), none⟩]))))))
    (.seq (.reg [⟨(some 60), (.mov (.t 0)), none⟩,
      ⟨(some 61), (.idxs (.t 60) (.k (.int .i64 1))), none⟩,
      ⟨(some 62), (.mov (.t 5)), none⟩,
      ⟨(some 63), (.call (.k (.fn (.func 36) [] [])) [(.t 61), (.t 62)]), none⟩,
      ⟨(some 59), (.mov (.t 63)), none⟩,
      ⟨(some 64), (.ext (.t 59) 0), none⟩,
      ⟨(some 65), (.ext (.t 59) 1), none⟩,
      ⟨(some 9), (.mov (.t 64)), none⟩,
      ⟨(some 10), (.mov (.t 65)), none⟩])
    (.seq (.seq (.reg [⟨(some 66), (.mov (.t 10)), none⟩,
      ⟨(some 67), (.bin .neq .num (.t 66) (.k (.int .i64 0))), none⟩,
      ⟨(some 68), (.mov (.t 67)), none⟩,
      ⟨(some 69), (.mov (.t 9)), some (68, false)⟩,
      ⟨(some 70), (.mov (.t 0)), some (68, false)⟩,
      ⟨(some 71), (.bin .neq .str (.t 69) (.t 70)), some (68, false)⟩,
      ⟨(some 72), (.pick (.t 68) (.k (.bool true)) (.t 71)), none⟩])
    (.cond (.t 72)
      (.seq (.reg [⟨(some 2), (.mov (.k (.int .u8 0))), none⟩,
        ⟨(some 3), (.mov (.k .nsl)), none⟩,
        ⟨(some 4), (.mov (.k (.int .i64 4))), none⟩])
      .ret)
      .skip))
    (.seq (.reg [⟨(some 73), (.mov (.t 0)), none⟩,
      ⟨(some 74), (.idxs (.t 73) (.k (.int .i64 1))), none⟩,
      ⟨(some 75), (.mov (.t 5)), none⟩,
      ⟨(some 2), (.mov (.t 74)), none⟩,
      ⟨(some 3), (.mov (.t 75)), none⟩,
      ⟨(some 4), (.mov (.k (.int .i64 0))), none⟩])
    .ret))))))))⟩

/-- 33: signetring/signetringref08.Read -/
def F33 : Fun :=
  ⟨28, 1, [.t 2, .t 3],
    (.seq (.reg [⟨(some 2), (.mov (.k (.int .u64 0))), none⟩,
      ⟨(some 3), (.mov (.k (.int .i64 0))), none⟩])
    (.seq (.reg [⟨(some 4), (.mov (.k (.int .u64 0))), none⟩])
    (.seq (.seq (.reg [⟨(some 5), (.mov (.k (.int .i64 0))), none⟩])
    (.block 0
      (.loop
        (.seq (.seq (.reg [⟨(some 6), (.mov (.t 5)), none⟩,
          ⟨(some 7), (.mov (.t 0)), none⟩,
          ⟨(some 8), (.len .str (.t 7)), none⟩,
          ⟨(some 9), (.bin .lss .num (.t 6) (.t 8)), none⟩,
          ⟨(some 10), (.mov (.t 9)), none⟩,
          ⟨(some 11), (.mov (.t 5)), some (10, true)⟩,
          ⟨(some 12), (.bin .lss .num (.t 11) (.k (.int .i64 8))), some (10, true)⟩,
          ⟨(some 13), (.pick (.t 10) (.t 12) (.k (.bool false))), none⟩])
        (.cond (.t 13)
          .skip
          (.exit 0)))
        (.seq (.block 1
          (.reg [⟨(some 16), (.mov (.t 4)), none⟩,
            ⟨(some 17), (.bin .mul .num (.t 16) (.k (.int .u64 256))), none⟩,
            ⟨(some 18), (.mov (.t 0)), none⟩,
            ⟨(some 19), (.mov (.t 5)), none⟩,
            ⟨(some 20), (.idxs (.t 18) (.t 19)), none⟩,
            ⟨(some 21), (.cvi .u64 (.t 20)), none⟩,
            ⟨(some 22), (.bin .add .num (.t 17) (.t 21)), none⟩,
            ⟨(some 4), (.mov (.t 22)), none⟩]))
        (.reg [⟨(some 14), (.mov (.t 5)), none⟩,
          ⟨(some 15), (.bin .add .num (.t 14) (.k (.int .i64 1))), none⟩,
          ⟨(some 5), (.mov (.t 15)), none⟩]))))))
    (.seq (.seq (.reg [⟨(some 23), (.mov (.t 4)), none⟩,
      ⟨(some 24), (.call (.k (.fn (.func 37) [] [])) [(.t 23)]), none⟩,
      ⟨(some 25), (.mov (.t 0)), none⟩,
      ⟨(some 26), (.bin .neq .str (.t 24) (.t 25)), none⟩])
    (.cond (.t 26)
      (.seq (.reg [⟨(some 2), (.mov (.k (.int .u64 0))), none⟩,
        ⟨(some 3), (.mov (.k (.int .i64 4))), none⟩])
      .ret)
      .skip))
    (.seq (.reg [⟨(some 27), (.mov (.t 4)), none⟩,
      ⟨(some 2), (.mov (.t 27)), none⟩,
      ⟨(some 3), (.mov (.k (.int .i64 0))), none⟩])
    .ret)))))⟩

/-- 34: signetring/codec.Join -/
def F34 : Fun :=
  ⟨49, 2, [.t 4, .t 5],
    (.seq (.reg [⟨(some 4), (.mov (.k (.str []))), none⟩,
      ⟨(some 5), (.mov (.k (.int .i64 0))), none⟩])
    (.seq (.seq (.reg [⟨(some 9), (.mov (.t 1)), none⟩,
      ⟨(some 10), (.len .slc (.t 9)), none⟩,
      ⟨(some 11), (.bin .gtr .num (.t 10) (.k (.int .i64 255))), none⟩])
    (.cond (.t 11)
      (.seq (.reg [⟨(some 4), (.mov (.k (.str []))), none⟩,
        ⟨(some 5), (.mov (.k (.int .i64 3))), none⟩])
      .ret)
      .skip))
    (.seq (.reg [⟨(some 12), (.build [.nptr, .nsl] []), none⟩,
      ⟨(some 13), (.box (some 81) (.t 12)), none⟩,
      ⟨(some 6), (.mov (.t 13)), none⟩])
    (.seq (.reg [⟨(some 14), (.mov (.t 6)), none⟩,
      ⟨(some 15), (.mov (.t 0)), none⟩,
      ⟨(some 16), (.mov (.t 1)), none⟩,
      ⟨(some 17), (.len .slc (.t 16)), none⟩,
      ⟨(some 18), (.cvi .u8 (.t 17)), none⟩,
      ⟨(some 19), (.mks true 1 1 false [(.int .u8 0), (.int .u8 0), (.int .u8 0)] 3 [(0, (.k (.int .u8 1))), (1, (.t 15)), (2, (.t 18))]), none⟩,
      ⟨(some 20), (.call (.k (.fn (.func 41) [] [])) [(.t 14), (.t 19)]), none⟩])
    (.seq (.seq (.reg [⟨(some 21), (.mov (.t 1)), none⟩,
      ⟨(some 22), (.len .slc (.t 21)), none⟩,
      ⟨(some 23), (.mov (.k (.int .i64 0))), none⟩])
    (.block 0
      (.loop
        (.seq (.reg [⟨(some 24), (.bin .lss .num (.t 23) (.t 22)), none⟩])
        (.seq (.cond (.t 24)
          .skip
          (.exit 0))
        (.seq (.block 1
          (.seq (.reg [⟨(some 25), (.iad 1 (.t 21) (.t 23)), none⟩,
            ⟨(some 26), (.load 1 false (.t 25)), none⟩,
            ⟨(some 8), (.mov (.t 26)), none⟩])
          (.seq (.seq (.reg [⟨(some 27), (.mov (.t 8)), none⟩,
            ⟨(some 28), (.len .str (.t 27)), none⟩,
            ⟨(some 29), (.bin .gtr .num (.t 28) (.k (.int .i64 4000))), none⟩])
          (.cond (.t 29)
            (.seq (.reg [⟨(some 4), (.mov (.k (.str []))), none⟩,
              ⟨(some 5), (.mov (.k (.int .i64 3))), none⟩])
            .ret)
            .skip))
          (.seq (.reg [⟨(some 30), (.mov (.t 6)), none⟩,
            ⟨(some 31), (.mov (.t 8)), none⟩,
            ⟨(some 32), (.len .str (.t 31)), none⟩,
            ⟨(some 33), (.bin .shr .num (.t 32) (.k (.int .u64 8))), none⟩,
            ⟨(some 34), (.cvi .u8 (.t 33)), none⟩,
            ⟨(some 35), (.mov (.t 8)), none⟩,
            ⟨(some 36), (.len .str (.t 35)), none⟩,
            ⟨(some 37), (.cvi .u8 (.t 36)), none⟩,
            ⟨(some 38), (.mks true 1 1 false [(.int .u8 0), (.int .u8 0)] 2 [(0, (.t 34)), (1, (.t 37))]), none⟩,
            ⟨(some 39), (.call (.k (.fn (.func 41) [] [])) [(.t 30), (.t 38)]), none⟩])
          (.reg [⟨(some 40), (.mov (.t 6)), none⟩,
            ⟨(some 41), (.mov (.t 8)), none⟩,
            ⟨(some 42), (.call (.k (.fn (.func 42) [] [])) [(.t 40), (.t 41)]), none⟩])))))
        (.reg [⟨(some 43), (.bin .add .num (.t 23) (.k (.int .i64 1))), none⟩,
          ⟨(some 23), (.mov (.t 43)), none⟩])))))))
    (.seq (.seq (.reg [⟨(some 44), (.mov (.t 6)), none⟩,
      ⟨(some 45), (.call (.k (.fn (.func 43) [] [])) [(.t 44)]), none⟩,
      ⟨(some 46), (.bin .gtr .num (.t 45) (.k (.int .i64 30000))), none⟩])
    (.cond (.t 46)
      (.seq (.reg [⟨(some 4), (.mov (.k (.str []))), none⟩,
        ⟨(some 5), (.mov (.k (.int .i64 3))), none⟩])
      .ret)
      .skip))
    (.seq (.reg [⟨(some 47), (.mov (.t 6)), none⟩,
      ⟨(some 48), (.call (.k (.fn (.func 44) [] [])) [(.t 47)]), none⟩,
      ⟨(some 4), (.mov (.t 48)), none⟩,
      ⟨(some 5), (.mov (.k (.int .i64 0))), none⟩])
    .ret)))))))⟩

/-- 35: signetring/codec.Num -/
def F35 : Fun :=
  ⟨27, 1, [.t 2],
    (.seq (.reg [⟨(some 2), (.mov (.k (.str []))), none⟩])
    (.seq (.reg [⟨(some 3), (.mov (.k .nsl)), none⟩])
    (.seq (.seq (.reg [⟨(some 4), (.mov (.k (.int .i64 56))), none⟩])
    (.block 0
      (.loop
        (.seq (.seq (.reg [⟨(some 6), (.mov (.t 4)), none⟩,
          ⟨(some 7), (.bin .geq .num (.t 6) (.k (.int .i64 0))), none⟩])
        (.cond (.t 7)
          .skip
          (.exit 0)))
        (.seq (.block 1
          (.seq (.reg [⟨(some 10), (.mov (.t 0)), none⟩,
            ⟨(some 11), (.mov (.t 4)), none⟩,
            ⟨(some 12), (.bin .shr .num (.t 10) (.t 11)), none⟩,
            ⟨(some 13), (.cvi .u8 (.t 12)), none⟩,
            ⟨(some 5), (.mov (.t 13)), none⟩])
          (.seq (.reg [⟨(some 14), (.mov (.t 5)), none⟩,
            ⟨(some 15), (.bin .neq .num (.t 14) (.k (.int .u8 0))), none⟩,
            ⟨(some 16), (.mov (.t 15)), none⟩,
            ⟨(some 17), (.mov (.t 3)), some (16, false)⟩,
            ⟨(some 18), (.len .slc (.t 17)), some (16, false)⟩,
            ⟨(some 19), (.bin .gtr .num (.t 18) (.k (.int .i64 0))), some (16, false)⟩,
            ⟨(some 20), (.pick (.t 16) (.k (.bool true)) (.t 19)), none⟩])
          (.cond (.t 20)
            (.reg [⟨(some 21), (.mov (.t 3)), none⟩,
              ⟨(some 22), (.mov (.t 5)), none⟩,
              ⟨(some 23), (.mks true 1 1 false [(.int .u8 0)] 1 [(0, (.t 22))]), none⟩,
              ⟨(some 24), (.app 1 1 false none (.t 21) (.t 23)), none⟩,
              ⟨(some 3), (.mov (.t 24)), none⟩])
            .skip))))
        (.reg [⟨(some 8), (.mov (.t 4)), none⟩,
          ⟨(some 9), (.bin .sub .num (.t 8) (.k (.int .i64 8))), none⟩,
          ⟨(some 4), (.mov (.t 9)), none⟩]))))))
    (.seq (.reg [⟨(some 25), (.mov (.t 3)), none⟩,
      ⟨(some 26), (.b2s (.t 25)), none⟩,
      ⟨(some 2), (.mov (.t 26)), none⟩])
    .ret))))⟩

/-- 36: signetring/signetringref08.Join -/
def F36 : Fun :=
  ⟨50, 2, [.t 4, .t 5],
    (.seq (.reg [⟨(some 4), (.mov (.k (.str []))), none⟩,
      ⟨(some 5), (.mov (.k (.int .i64 0))), none⟩])
    (.seq (.seq (.reg [⟨(some 9), (.mov (.t 1)), none⟩,
      ⟨(some 10), (.len .slc (.t 9)), none⟩,
      ⟨(some 11), (.bin .gtr .num (.t 10) (.k (.int .i64 255))), none⟩])
    (.cond (.t 11)
      (.seq (.reg [⟨(some 4), (.mov (.k (.str []))), none⟩,
        ⟨(some 5), (.mov (.k (.int .i64 3))), none⟩])
      .ret)
      .skip))
    (.seq (.reg [⟨(some 12), (.mov (.t 0)), none⟩,
      ⟨(some 13), (.mov (.t 1)), none⟩,
      ⟨(some 14), (.len .slc (.t 13)), none⟩,
      ⟨(some 15), (.cvi .u8 (.t 14)), none⟩,
      ⟨(some 16), (.mks true 1 1 false [(.int .u8 0), (.int .u8 0), (.int .u8 0)] 3 [(0, (.k (.int .u8 1))), (1, (.t 12)), (2, (.t 15))]), none⟩,
      ⟨(some 17), (.b2s (.t 16)), none⟩,
      ⟨(some 6), (.mov (.t 17)), none⟩])
    (.seq (.seq (.reg [⟨(some 7), (.mov (.k (.int .i64 0))), none⟩])
    (.block 0
      (.loop
        (.seq (.seq (.reg [⟨(some 18), (.mov (.t 7)), none⟩,
          ⟨(some 19), (.mov (.t 1)), none⟩,
          ⟨(some 20), (.len .slc (.t 19)), none⟩,
          ⟨(some 21), (.bin .lss .num (.t 18) (.t 20)), none⟩])
        (.cond (.t 21)
          .skip
          (.exit 0)))
        (.seq (.block 1
          (.seq (.reg [⟨(some 24), (.mov (.t 1)), none⟩,
            ⟨(some 25), (.mov (.t 7)), none⟩,
            ⟨(some 26), (.iad 1 (.t 24) (.t 25)), none⟩,
            ⟨(some 27), (.load 1 false (.t 26)), none⟩,
            ⟨(some 28), (.len .str (.t 27)), none⟩,
            ⟨(some 8), (.mov (.t 28)), none⟩])
          (.seq (.seq (.reg [⟨(some 29), (.mov (.t 8)), none⟩,
            ⟨(some 30), (.bin .gtr .num (.t 29) (.k (.int .i64 4000))), none⟩])
          (.cond (.t 30)
            (.seq (.reg [⟨(some 4), (.mov (.k (.str []))), none⟩,
              ⟨(some 5), (.mov (.k (.int .i64 3))), none⟩])
            .ret)
            .skip))
          (.dreg [⟨(some 31), (.mov (.t 6)), none⟩,
            ⟨(some 32), (.mov (.t 8)), none⟩,
            ⟨(some 33), (.bin .quo .num (.t 32) (.k (.int .i64 256))), none⟩,
            ⟨(some 34), (.cvi .u8 (.t 33)), none⟩,
            ⟨(some 35), (.mov (.t 8)), none⟩,
            ⟨(some 36), (.bin .rem .num (.t 35) (.k (.int .i64 256))), none⟩,
            ⟨(some 37), (.cvi .u8 (.t 36)), none⟩,
            ⟨(some 38), (.mks true 1 1 false [(.int .u8 0), (.int .u8 0)] 2 [(0, (.t 34)), (1, (.t 37))]), none⟩,
            ⟨(some 39), (.b2s (.t 38)), none⟩,
            ⟨(some 40), (.bin .add .str (.t 31) (.t 39)), none⟩,
            ⟨(some 41), (.mov (.t 1)), none⟩,
            ⟨(some 42), (.mov (.t 7)), none⟩,
            ⟨(some 43), (.iad 1 (.t 41) (.t 42)), none⟩,
            ⟨(some 44), (.load 1 false (.t 43)), none⟩,
            ⟨(some 45), (.bin .add .str (.t 40) (.t 44)), none⟩,
            ⟨(some 6), (.mov (.t 45)), none⟩] (.free 0 (.free 1 (.free 2 (.free 3 (.free 4 (.free 5 (.free 6 (.free 7 (.free 8 (.free 9 (.free 10 (.free 11 (.free 12 (.free 13 (.free 14 (.free 15 .done))))))))))))))))))))
        (.reg [⟨(some 22), (.mov (.t 7)), none⟩,
          ⟨(some 23), (.bin .add .num (.t 22) (.k (.int .i64 1))), none⟩,
          ⟨(some 7), (.mov (.t 23)), none⟩]))))))
    (.seq (.seq (.reg [⟨(some 46), (.mov (.t 6)), none⟩,
      ⟨(some 47), (.len .str (.t 46)), none⟩,
      ⟨(some 48), (.bin .gtr .num (.t 47) (.k (.int .i64 30000))), none⟩])
    (.cond (.t 48)
      (.seq (.reg [⟨(some 4), (.mov (.k (.str []))), none⟩,
        ⟨(some 5), (.mov (.k (.int .i64 3))), none⟩])
      .ret)
      .skip))
    (.seq (.reg [⟨(some 49), (.mov (.t 6)), none⟩,
      ⟨(some 4), (.mov (.t 49)), none⟩,
      ⟨(some 5), (.mov (.k (.int .i64 0))), none⟩])
    .ret))))))⟩

/-- 37: signetring/signetringref08.Num -/
def F37 : Fun :=
  ⟨16, 1, [.t 2],
    (.seq (.reg [⟨(some 2), (.mov (.k (.str []))), none⟩])
    (.seq (.reg [⟨(some 3), (.mov (.k (.str []))), none⟩])
    (.seq (.block 0
      (.loop
        (.seq (.seq (.reg [⟨(some 4), (.mov (.t 0)), none⟩,
          ⟨(some 5), (.bin .gtr .num (.t 4) (.k (.int .u64 0))), none⟩])
        (.cond (.t 5)
          .skip
          (.exit 0)))
        (.block 1
          (.seq (.reg [⟨(some 6), (.mov (.t 0)), none⟩,
            ⟨(some 7), (.bin .rem .num (.t 6) (.k (.int .u64 256))), none⟩,
            ⟨(some 8), (.cvi .u8 (.t 7)), none⟩,
            ⟨(some 9), (.mks true 1 1 false [(.int .u8 0)] 1 [(0, (.t 8))]), none⟩,
            ⟨(some 10), (.b2s (.t 9)), none⟩,
            ⟨(some 11), (.mov (.t 3)), none⟩,
            ⟨(some 12), (.bin .add .str (.t 10) (.t 11)), none⟩,
            ⟨(some 3), (.mov (.t 12)), none⟩])
          (.reg [⟨(some 13), (.mov (.t 0)), none⟩,
            ⟨(some 14), (.bin .quo .num (.t 13) (.k (.int .u64 256))), none⟩,
            ⟨(some 0), (.mov (.t 14)), none⟩]))))))
    (.seq (.reg [⟨(some 15), (.mov (.t 3)), none⟩,
      ⟨(some 2), (.mov (.t 15)), none⟩])
    .ret))))⟩

/-- 38: signetring/codec.Split -/
def F38 : Fun :=
  ⟨19, 1, [.t 2, .t 3, .t 4],
    (.seq (.reg [⟨(some 2), (.mov (.k (.int .u8 0))), none⟩,
      ⟨(some 3), (.mov (.k .nsl)), none⟩,
      ⟨(some 4), (.mov (.k (.int .i64 0))), none⟩])
    (.seq (.reg [⟨(some 9), (.mov (.t 0)), none⟩,
      ⟨(some 10), (.call (.k (.fn (.func 45) [] [])) [(.t 9)]), none⟩,
      ⟨(some 8), (.mov (.t 10)), none⟩,
      ⟨(some 11), (.ext (.t 8) 0), none⟩,
      ⟨(some 12), (.ext (.t 8) 1), none⟩,
      ⟨(some 13), (.ext (.t 8) 2), none⟩,
      ⟨(some 5), (.mov (.t 11)), none⟩,
      ⟨(some 6), (.mov (.t 12)), none⟩,
      ⟨(some 7), (.mov (.t 13)), none⟩])
    (.seq (.seq (.reg [⟨(some 14), (.mov (.t 7)), none⟩,
      ⟨(some 15), (.bin .neq .num (.t 14) (.k (.int .i64 0))), none⟩])
    (.cond (.t 15)
      (.seq (.reg [⟨(some 16), (.mov (.t 7)), none⟩,
        ⟨(some 2), (.mov (.k (.int .u8 0))), none⟩,
        ⟨(some 3), (.mov (.k .nsl)), none⟩,
        ⟨(some 4), (.mov (.t 16)), none⟩])
      .ret)
      .skip))
    (.seq (.reg [⟨(some 17), (.mov (.t 5)), none⟩,
      ⟨(some 18), (.mov (.t 6)), none⟩,
      ⟨(some 2), (.mov (.t 17)), none⟩,
      ⟨(some 3), (.mov (.t 18)), none⟩,
      ⟨(some 4), (.mov (.k (.int .i64 0))), none⟩])
    .ret))))⟩

/-- 39: strings.HasPrefix -/
def F39 : Fun :=
  ⟨8, 2, [.t 4],
    (.seq (.reg [⟨(some 4), (.mov (.k (.bool false))), none⟩])
    (.seq (.reg [⟨(some 5), (.mov (.t 0)), none⟩,
      ⟨(some 6), (.mov (.t 1)), none⟩,
      ⟨(some 7), (.call (.k (.fn (.func 46) [] [])) [(.t 5), (.t 6)]), none⟩,
      ⟨(some 4), (.mov (.t 7)), none⟩])
    .ret))⟩

/-- 40: slices.Index[signetring/fan.Seen,signetring/fan.Mark] -/
def F40 : Fun :=
  ⟨19, 2, [.t 4],
    (.seq (.reg [⟨(some 3), (.box none (.t 1)), none⟩,
      ⟨(some 4), (.mov (.k (.int .i64 0))), none⟩])
    (.seq (.seq (.reg [⟨(some 6), (.mov (.t 0)), none⟩,
      ⟨(some 7), (.len .slc (.t 6)), none⟩,
      ⟨(some 8), (.mov (.k (.int .i64 0))), none⟩])
    (.block 0
      (.loop
        (.seq (.reg [⟨(some 9), (.bin .lss .num (.t 8) (.t 7)), none⟩])
        (.seq (.cond (.t 9)
          .skip
          (.exit 0))
        (.seq (.block 1
          (.seq (.reg [⟨(some 10), (.mov (.t 8)), none⟩,
            ⟨(some 5), (.mov (.t 10)), none⟩])
          (.seq (.dreg [⟨(some 11), (.load 2 true (.t 3)), none⟩,
            ⟨(some 12), (.mov (.t 0)), none⟩,
            ⟨(some 13), (.mov (.t 5)), none⟩,
            ⟨(some 14), (.iad 2 (.t 12) (.t 13)), none⟩,
            ⟨(some 15), (.load 2 true (.t 14)), none⟩,
            ⟨(some 16), (.bin .eql (.agg [.str, .num]) (.t 11) (.t 15)), none⟩] (.free 0 (.free 1 (.free 2 (.free 3 (.free 4 (.free 5 .done)))))))
          (.cond (.t 16)
            (.seq (.reg [⟨(some 17), (.mov (.t 5)), none⟩,
              ⟨(some 4), (.mov (.t 17)), none⟩])
            .ret)
            .skip))))
        (.reg [⟨(some 18), (.bin .add .num (.t 8) (.k (.int .i64 1))), none⟩,
          ⟨(some 8), (.mov (.t 18)), none⟩])))))))
    (.seq (.reg [⟨(some 4), (.mov (.k (.int .i64 (-1)))), none⟩])
    .ret)))⟩

/-- 41: (*strings.Builder).Write -/
def F41 : Fun :=
  ⟨19, 2, [.t 4, .t 5],
    (.seq (.reg [⟨(some 4), (.mov (.k (.int .i64 0))), none⟩,
      ⟨(some 5), (.mov (.k .nifc)), none⟩])
    (.seq (.reg [⟨(some 6), (.mov (.t 0)), none⟩,
      ⟨(some 7), (.call (.k (.fn (.func 47) [] [])) [(.t 6)]), none⟩])
    (.seq (.reg [⟨(some 8), (.mov (.t 0)), none⟩,
      ⟨(some 9), (.mov (.t 0)), none⟩,
      ⟨(some 10), (.nilck (.t 9)), none⟩,
      ⟨(some 11), (.fad 1 (.t 10)), none⟩,
      ⟨(some 12), (.load 1 false (.t 11)), none⟩,
      ⟨(some 13), (.mov (.t 1)), none⟩,
      ⟨(some 14), (.app 1 1 false (some 5) (.t 12) (.t 13)), none⟩,
      ⟨(some 15), (.nilck (.t 8)), none⟩,
      ⟨(some 16), (.fad 1 (.t 15)), none⟩,
      ⟨none, (.store 1 (.t 16) (.t 14)), none⟩])
    (.seq (.reg [⟨(some 17), (.mov (.t 1)), none⟩,
      ⟨(some 18), (.len .slc (.t 17)), none⟩,
      ⟨(some 4), (.mov (.t 18)), none⟩,
      ⟨(some 5), (.mov (.k .nifc)), none⟩])
    .ret))))⟩

/-- 42: (*strings.Builder).WriteString -/
def F42 : Fun :=
  ⟨19, 2, [.t 4, .t 5],
    (.seq (.reg [⟨(some 4), (.mov (.k (.int .i64 0))), none⟩,
      ⟨(some 5), (.mov (.k .nifc)), none⟩])
    (.seq (.reg [⟨(some 6), (.mov (.t 0)), none⟩,
      ⟨(some 7), (.call (.k (.fn (.func 47) [] [])) [(.t 6)]), none⟩])
    (.seq (.reg [⟨(some 8), (.mov (.t 0)), none⟩,
      ⟨(some 9), (.mov (.t 0)), none⟩,
      ⟨(some 10), (.nilck (.t 9)), none⟩,
      ⟨(some 11), (.fad 1 (.t 10)), none⟩,
      ⟨(some 12), (.load 1 false (.t 11)), none⟩,
      ⟨(some 13), (.mov (.t 1)), none⟩,
      ⟨(some 14), (.app 1 1 false (some 5) (.t 12) (.t 13)), none⟩,
      ⟨(some 15), (.nilck (.t 8)), none⟩,
      ⟨(some 16), (.fad 1 (.t 15)), none⟩,
      ⟨none, (.store 1 (.t 16) (.t 14)), none⟩])
    (.seq (.reg [⟨(some 17), (.mov (.t 1)), none⟩,
      ⟨(some 18), (.len .str (.t 17)), none⟩,
      ⟨(some 4), (.mov (.t 18)), none⟩,
      ⟨(some 5), (.mov (.k .nifc)), none⟩])
    .ret))))⟩

/-- 43: (*strings.Builder).Len -/
def F43 : Fun :=
  ⟨8, 1, [.t 2],
    (.seq (.reg [⟨(some 2), (.mov (.k (.int .i64 0))), none⟩])
    (.seq (.reg [⟨(some 3), (.mov (.t 0)), none⟩,
      ⟨(some 4), (.nilck (.t 3)), none⟩,
      ⟨(some 5), (.fad 1 (.t 4)), none⟩,
      ⟨(some 6), (.load 1 false (.t 5)), none⟩,
      ⟨(some 7), (.len .slc (.t 6)), none⟩,
      ⟨(some 2), (.mov (.t 7)), none⟩])
    .ret))⟩

/-- 44: (*strings.Builder).String -/
def F44 : Fun :=
  ⟨14, 1, [.t 2],
    (.seq (.reg [⟨(some 2), (.mov (.k (.str []))), none⟩])
    (.seq (.dreg [⟨(some 3), (.mov (.t 0)), none⟩,
      ⟨(some 4), (.nilck (.t 3)), none⟩,
      ⟨(some 5), (.fad 1 (.t 4)), none⟩,
      ⟨(some 6), (.load 1 false (.t 5)), none⟩,
      ⟨(some 7), (.sld (.t 6)), none⟩,
      ⟨(some 8), (.mov (.t 0)), none⟩,
      ⟨(some 9), (.nilck (.t 8)), none⟩,
      ⟨(some 10), (.fad 1 (.t 9)), none⟩,
      ⟨(some 11), (.load 1 false (.t 10)), none⟩,
      ⟨(some 12), (.len .slc (.t 11)), none⟩,
      ⟨(some 13), (.ustr 5 (.t 7) (.t 12)), none⟩,
      ⟨(some 2), (.mov (.t 13)), none⟩] (.free 0 (.free 1 (.free 2 (.free 5 (.free 6 (.free 7 (.cho 3 (.free 4 (.cho 8 (.free 9 (.cho 10 (.free 11 .done) .nope)) .nope)) (.cho 8 (.free 9 (.cho 3 (.free 4 (.cho 10 (.free 11 .done) .nope)) .nope)) .nope)))))))))
    .ret))⟩

/-- 45: signetring/codec.read -/
def F45 : Fun :=
  ⟨50, 1, [.t 2, .t 3, .c 4 1 false],
    (.seq (.reg [⟨(some 2), (.mov (.k (.int .u8 0))), none⟩,
      ⟨(some 3), (.mov (.k .nsl)), none⟩,
      ⟨(some 4), (.new [(.int .i64 0)] none), none⟩])
    (.seq (.reg [⟨none, (.dfr (.k (.fn (.func 48) [] [])) [(.t 4)]), none⟩])
    (.seq (.reg [⟨(some 7), (.mov (.t 0)), none⟩,
      ⟨(some 8), (.len .str (.t 7)), none⟩,
      ⟨(some 9), (.bin .leq .num (.t 8) (.k (.int .i64 30000))), none⟩,
      ⟨(some 10), (.call (.k (.fn (.func 49) [] [])) [(.t 9)]), none⟩])
    (.seq (.reg [⟨(some 11), (.mov (.t 0)), none⟩,
      ⟨(some 12), (.build [(.str [])] [(0, 1, (.t 11))]), none⟩,
      ⟨(some 13), (.box none (.t 12)), none⟩,
      ⟨(some 5), (.mov (.t 13)), none⟩])
    (.seq (.reg [⟨(some 14), (.mov (.t 5)), none⟩,
      ⟨(some 15), (.call (.k (.fn (.func 50) [] [])) [(.t 14)]), none⟩,
      ⟨(some 16), (.bin .eql .num (.t 15) (.k (.int .i64 1))), none⟩,
      ⟨(some 17), (.call (.k (.fn (.func 49) [] [])) [(.t 16)]), none⟩])
    (.seq (.reg [⟨(some 18), (.mov (.t 5)), none⟩,
      ⟨(some 19), (.call (.k (.fn (.func 50) [] [])) [(.t 18)]), none⟩,
      ⟨(some 20), (.cvi .u8 (.t 19)), none⟩,
      ⟨(some 2), (.mov (.t 20)), none⟩])
    (.seq (.seq (.reg [⟨(some 21), (.mov (.t 5)), none⟩,
      ⟨(some 22), (.call (.k (.fn (.func 50) [] [])) [(.t 21)]), none⟩,
      ⟨(some 23), (.mov (.k (.int .i64 0))), none⟩])
    (.block 0
      (.loop
        (.seq (.reg [⟨(some 24), (.bin .lss .num (.t 23) (.t 22)), none⟩])
        (.seq (.cond (.t 24)
          .skip
          (.exit 0))
        (.seq (.block 1
          (.seq (.reg [⟨(some 25), (.mov (.t 5)), none⟩,
            ⟨(some 26), (.call (.k (.fn (.func 50) [] [])) [(.t 25)]), none⟩,
            ⟨(some 27), (.bin .shl .num (.t 26) (.k (.int .u64 8))), none⟩,
            ⟨(some 6), (.mov (.t 27)), none⟩])
          (.seq (.reg [⟨(some 28), (.mov (.t 6)), none⟩,
            ⟨(some 29), (.mov (.t 5)), none⟩,
            ⟨(some 30), (.call (.k (.fn (.func 50) [] [])) [(.t 29)]), none⟩,
            ⟨(some 31), (.bin .add .num (.t 28) (.t 30)), none⟩,
            ⟨(some 6), (.mov (.t 31)), none⟩])
          (.seq (.reg [⟨(some 32), (.mov (.t 6)), none⟩,
            ⟨(some 33), (.bin .leq .num (.t 32) (.k (.int .i64 4000))), none⟩,
            ⟨(some 34), (.call (.k (.fn (.func 49) [] [])) [(.t 33)]), none⟩])
          (.reg [⟨(some 35), (.mov (.t 3)), none⟩,
            ⟨(some 36), (.mov (.t 5)), none⟩,
            ⟨(some 37), (.mov (.t 6)), none⟩,
            ⟨(some 38), (.call (.k (.fn (.func 51) [] [])) [(.t 36), (.t 37)]), none⟩,
            ⟨(some 39), (.mks true 1 16 false [(.str [])] 1 [(0, (.t 38))]), none⟩,
            ⟨(some 40), (.app 1 16 false none (.t 35) (.t 39)), none⟩,
            ⟨(some 3), (.mov (.t 40)), none⟩])))))
        (.reg [⟨(some 41), (.bin .add .num (.t 23) (.k (.int .i64 1))), none⟩,
          ⟨(some 23), (.mov (.t 41)), none⟩])))))))
    (.seq (.reg [⟨(some 42), (.mov (.t 5)), none⟩,
      ⟨(some 43), (.nilck (.t 42)), none⟩,
      ⟨(some 44), (.fad 0 (.t 43)), none⟩,
      ⟨(some 45), (.load 1 false (.t 44)), none⟩,
      ⟨(some 46), (.bin .eql .str (.t 45) (.k (.str []))), none⟩,
      ⟨(some 47), (.call (.k (.fn (.func 49) [] [])) [(.t 46)]), none⟩])
    (.seq (.reg [⟨(some 48), (.mov (.t 2)), none⟩,
      ⟨(some 49), (.mov (.t 3)), none⟩,
      ⟨(some 2), (.mov (.t 48)), none⟩,
      ⟨(some 3), (.mov (.t 49)), none⟩,
      ⟨none, (.store 1 (.t 4) (.k (.int .i64 0))), none⟩])
    .ret)))))))))⟩

/-- 46: internal/stringslite.HasPrefix -/
def F46 : Fun :=
  ⟨18, 2, [.t 4],
    (.seq (.reg [⟨(some 4), (.mov (.k (.bool false))), none⟩])
    (.seq (.reg [⟨(some 5), (.mov (.t 0)), none⟩,
      ⟨(some 6), (.len .str (.t 5)), none⟩,
      ⟨(some 7), (.mov (.t 1)), none⟩,
      ⟨(some 8), (.len .str (.t 7)), none⟩,
      ⟨(some 9), (.bin .geq .num (.t 6) (.t 8)), none⟩,
      ⟨(some 10), (.mov (.t 9)), none⟩,
      ⟨(some 11), (.mov (.t 0)), some (10, true)⟩,
      ⟨(some 12), (.mov (.t 1)), some (10, true)⟩,
      ⟨(some 13), (.len .str (.t 12)), some (10, true)⟩,
      ⟨(some 14), (.slc true 0 (.t 11) none (some (.t 13)) none), some (10, true)⟩,
      ⟨(some 15), (.mov (.t 1)), some (10, true)⟩,
      ⟨(some 16), (.bin .eql .str (.t 14) (.t 15)), some (10, true)⟩,
      ⟨(some 17), (.pick (.t 10) (.t 16) (.k (.bool false))), none⟩,
      ⟨(some 4), (.mov (.t 17)), none⟩])
    .ret))⟩

/-- 47: (*strings.Builder).copyCheck -/
def F47 : Fun :=
  ⟨20, 1, [],
    (.seq (.reg [⟨(some 2), (.mov (.t 0)), none⟩,
      ⟨(some 3), (.nilck (.t 2)), none⟩,
      ⟨(some 4), (.fad 0 (.t 3)), none⟩,
      ⟨(some 5), (.load 1 false (.t 4)), none⟩,
      ⟨(some 6), (.bin .eql .ptr (.t 5) (.k .nptr)), none⟩])
    (.cond (.t 6)
      (.reg [⟨(some 7), (.mov (.t 0)), none⟩,
        ⟨(some 8), (.mov (.t 0)), none⟩,
        ⟨(some 9), (.toU (.t 8)), none⟩,
        ⟨(some 10), (.noEsc (.t 9)), none⟩,
        ⟨(some 11), (.frU 81 2 (.t 10)), none⟩,
        ⟨(some 12), (.nilck (.t 7)), none⟩,
        ⟨(some 13), (.fad 0 (.t 12)), none⟩,
        ⟨none, (.store 1 (.t 13) (.t 11)), none⟩])
      (.seq (.reg [⟨(some 14), (.mov (.t 0)), none⟩,
        ⟨(some 15), (.nilck (.t 14)), none⟩,
        ⟨(some 16), (.fad 0 (.t 15)), none⟩,
        ⟨(some 17), (.load 1 false (.t 16)), none⟩,
        ⟨(some 18), (.mov (.t 0)), none⟩,
        ⟨(some 19), (.pne (.t 17) (.t 18)), none⟩])
      (.cond (.t 19)
        .no
        .skip))))⟩

/-- 48: signetring/codec.caught -/
def F48 : Fun :=
  ⟨14, 1, [],
    (.seq (.reg [⟨(some 5), .recov, none⟩])
    (.block 0
      (.seq (.reg [⟨(some 7), (.bin .eql .ifc (.t 5) (.k .nifc)), none⟩])
      (.cond (.t 7)
        (.reg [⟨(some 2), (.mov (.t 5)), none⟩])
        (.seq (.reg [⟨(some 8), (.asrt 26 (.int .i64 0) (.t 5) true), none⟩,
          ⟨(some 9), (.ext (.t 8) 1), none⟩,
          ⟨(some 10), (.ext (.t 8) 0), none⟩])
        (.cond (.t 9)
          (.seq (.reg [⟨(some 3), (.mov (.t 10)), none⟩])
          (.reg [⟨(some 11), (.mov (.t 0)), none⟩,
            ⟨(some 12), (.mov (.t 3)), none⟩,
            ⟨(some 13), (.nilck (.t 11)), none⟩,
            ⟨none, (.store 1 (.t 13) (.t 12)), none⟩]))
          (.seq (.reg [⟨(some 4), (.mov (.t 5)), none⟩])
          (.reg [⟨(some 6), (.mov (.t 4)), none⟩,
            ⟨none, (.pan (.t 6)), none⟩]))))))))⟩

/-- 49: signetring/codec.need -/
def F49 : Fun :=
  ⟨5, 1, [],
    (.seq (.reg [⟨(some 2), (.mov (.t 0)), none⟩,
      ⟨(some 3), (.un .not (.t 2)), none⟩])
    (.cond (.t 3)
      (.reg [⟨(some 4), (.mki 26 (.k (.int .i64 4))), none⟩,
        ⟨none, (.pan (.t 4)), none⟩])
      .skip))⟩

/-- 50: (*signetring/codec.reader).byte -/
def F50 : Fun :=
  ⟨7, 1, [.t 2],
    (.seq (.reg [⟨(some 2), (.mov (.k (.int .i64 0))), none⟩])
    (.seq (.reg [⟨(some 3), (.mov (.t 0)), none⟩,
      ⟨(some 4), (.call (.k (.fn (.func 51) [] [])) [(.t 3), (.k (.int .i64 1))]), none⟩,
      ⟨(some 5), (.idxs (.t 4) (.k (.int .i64 0))), none⟩,
      ⟨(some 6), (.cvi .i64 (.t 5)), none⟩,
      ⟨(some 2), (.mov (.t 6)), none⟩])
    .ret))⟩

/-- 51: (*signetring/codec.reader).take -/
def F51 : Fun :=
  ⟨30, 2, [.t 4],
    (.seq (.reg [⟨(some 4), (.mov (.k (.str []))), none⟩])
    (.seq (.reg [⟨(some 6), (.mov (.t 1)), none⟩,
      ⟨(some 7), (.mov (.t 0)), none⟩,
      ⟨(some 8), (.nilck (.t 7)), none⟩,
      ⟨(some 9), (.fad 0 (.t 8)), none⟩,
      ⟨(some 10), (.load 1 false (.t 9)), none⟩,
      ⟨(some 11), (.len .str (.t 10)), none⟩,
      ⟨(some 12), (.bin .leq .num (.t 6) (.t 11)), none⟩,
      ⟨(some 13), (.call (.k (.fn (.func 49) [] [])) [(.t 12)]), none⟩])
    (.seq (.reg [⟨(some 5), (.mov (.k (.str []))), none⟩])
    (.seq (.dreg [⟨(some 14), (.mov (.t 0)), none⟩,
      ⟨(some 15), (.mov (.t 0)), none⟩,
      ⟨(some 16), (.nilck (.t 15)), none⟩,
      ⟨(some 17), (.fad 0 (.t 16)), none⟩,
      ⟨(some 18), (.load 1 false (.t 17)), none⟩,
      ⟨(some 19), (.mov (.t 1)), none⟩,
      ⟨(some 20), (.slc true 0 (.t 18) none (some (.t 19)) none), none⟩,
      ⟨(some 21), (.mov (.t 0)), none⟩,
      ⟨(some 22), (.nilck (.t 21)), none⟩,
      ⟨(some 23), (.fad 0 (.t 22)), none⟩,
      ⟨(some 24), (.load 1 false (.t 23)), none⟩,
      ⟨(some 25), (.mov (.t 1)), none⟩,
      ⟨(some 26), (.slc true 0 (.t 24) (some (.t 25)) none none), none⟩,
      ⟨(some 5), (.mov (.t 20)), none⟩,
      ⟨(some 27), (.nilck (.t 14)), none⟩,
      ⟨(some 28), (.fad 0 (.t 27)), none⟩,
      ⟨none, (.store 1 (.t 28) (.t 26)), none⟩] (.free 0 (.free 1 (.free 2 (.free 3 (.free 4 (.free 5 (.free 6 (.free 7 (.free 8 (.free 9 (.free 10 (.free 11 (.free 12 (.free 13 (.free 14 (.free 15 (.cho 16 .done .nope))))))))))))))))))
    (.seq (.reg [⟨(some 29), (.mov (.t 5)), none⟩,
      ⟨(some 4), (.mov (.t 29)), none⟩])
    .ret)))))⟩


theorem ck3 : ckF Try.prog 3 F3 = true := by kernel_rfl
theorem ck4 : ckF Try.prog 4 F4 = true := by kernel_rfl
theorem ck5 : ckF Try.prog 5 F5 = true := by kernel_rfl
theorem ck6 : ckF Try.prog 6 F6 = true := by kernel_rfl
theorem ck7 : ckF Try.prog 7 F7 = true := by kernel_rfl
theorem ck8 : ckF Try.prog 8 F8 = true := by kernel_rfl
theorem ck9 : ckF Try.prog 9 F9 = true := by kernel_rfl
theorem ck10 : ckF Try.prog 10 F10 = true := by kernel_rfl
theorem ck11 : ckF Try.prog 11 F11 = true := by kernel_rfl
theorem ck12 : ckF Try.prog 12 F12 = true := by kernel_rfl
theorem ck13 : ckF Try.prog 13 F13 = true := by kernel_rfl
theorem ck14 : ckF Try.prog 14 F14 = true := by kernel_rfl
theorem ck15 : ckF Try.prog 15 F15 = true := by kernel_rfl
theorem ck16 : ckF Try.prog 16 F16 = true := by kernel_rfl
theorem ck17 : ckF Try.prog 17 F17 = true := by kernel_rfl
theorem ck18 : ckF Try.prog 18 F18 = true := by kernel_rfl
theorem ck19 : ckF Try.prog 19 F19 = true := by kernel_rfl
theorem ck20 : ckF Try.prog 20 F20 = true := by kernel_rfl
theorem ck21 : ckF Try.prog 21 F21 = true := by kernel_rfl
theorem ck22 : ckF Try.prog 22 F22 = true := by kernel_rfl
theorem ck23 : ckF Try.prog 23 F23 = true := by kernel_rfl
theorem ck24 : ckF Try.prog 24 F24 = true := by kernel_rfl
theorem ck25 : ckF Try.prog 25 F25 = true := by kernel_rfl
theorem ck26 : ckF Try.prog 26 F26 = true := by kernel_rfl
theorem ck27 : ckF Try.prog 27 F27 = true := by kernel_rfl
theorem ck28 : ckF Try.prog 28 F28 = true := by kernel_rfl
theorem ck29 : ckF Try.prog 29 F29 = true := by kernel_rfl
theorem ck30 : ckF Try.prog 30 F30 = true := by kernel_rfl
theorem ck31 : ckF Try.prog 31 F31 = true := by kernel_rfl
theorem ck32 : ckF Try.prog 32 F32 = true := by kernel_rfl
theorem ck33 : ckF Try.prog 33 F33 = true := by kernel_rfl
theorem ck34 : ckF Try.prog 34 F34 = true := by kernel_rfl
theorem ck35 : ckF Try.prog 35 F35 = true := by kernel_rfl
theorem ck36 : ckF Try.prog 36 F36 = true := by kernel_rfl
theorem ck37 : ckF Try.prog 37 F37 = true := by kernel_rfl
theorem ck38 : ckF Try.prog 38 F38 = true := by kernel_rfl
theorem ck39 : ckF Try.prog 39 F39 = true := by kernel_rfl
theorem ck40 : ckF Try.prog 40 F40 = true := by kernel_rfl
theorem ck41 : ckF Try.prog 41 F41 = true := by kernel_rfl
theorem ck42 : ckF Try.prog 42 F42 = true := by kernel_rfl
theorem ck43 : ckF Try.prog 43 F43 = true := by kernel_rfl
theorem ck44 : ckF Try.prog 44 F44 = true := by kernel_rfl
theorem ck45 : ckF Try.prog 45 F45 = true := by kernel_rfl
theorem ck46 : ckF Try.prog 46 F46 = true := by kernel_rfl
theorem ck47 : ckF Try.prog 47 F47 = true := by kernel_rfl
theorem ck48 : ckFS Try.prog 48 F48 = true := by kernel_rfl
theorem ck49 : ckF Try.prog 49 F49 = true := by kernel_rfl
theorem ck50 : ckF Try.prog 50 F50 = true := by kernel_rfl
theorem ck51 : ckF Try.prog 51 F51 = true := by kernel_rfl
end Go.Proofs.Ytpefpiccljohlaa
