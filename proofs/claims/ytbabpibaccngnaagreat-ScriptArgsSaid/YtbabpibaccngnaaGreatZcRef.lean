/- ScriptDecodes' code, told for a proof by hand. -/
import Derived.Test.YtbabpibaccngnaaGreatZcTab
import Derived.KernelRfl
set_option linter.unusedSimpArgs false
set_option linter.unusedVariables false
namespace Go.Proofs.YtbabpibaccngnaaGreat
open Go Go.Vs
set_option maxRecDepth 100000

/-- 29: signetring/signetringref22.Decode -/
def L29 : Fun :=
  ⟨56, 1, [.t 2],
    (.seq (.reg [⟨(some 2), (.mov (.k .nsl)), none⟩])
    (.seq (.reg [⟨(some 3), (.mov (.k .nsl)), none⟩])
    (.seq (.seq (.reg [⟨(some 4), (.mov (.k (.int .i64 0))), none⟩])
    (.block 0
      (.loop
        (.seq (.seq (.reg [⟨(some 6), (.mov (.t 4)), none⟩,
          ⟨(some 7), (.bin .add .num (.t 6) (.k (.int .i64 2))), none⟩,
          ⟨(some 8), (.mov (.t 0)), none⟩,
          ⟨(some 9), (.len .slc (.t 8)), none⟩,
          ⟨(some 10), (.bin .lss .num (.t 7) (.t 9)), none⟩,
          ⟨(some 11), (.mov (.t 10)), none⟩,
          ⟨(some 12), (.mov (.t 3)), some (11, true)⟩,
          ⟨(some 13), (.len .slc (.t 12)), some (11, true)⟩,
          ⟨(some 14), (.bin .lss .num (.t 13) (.k (.int .i64 500))), some (11, true)⟩,
          ⟨(some 15), (.pick (.t 11) (.t 14) (.k (.bool false))), none⟩])
        (.cond (.t 15)
          .skip
          (.exit 0)))
        (.seq (.block 1
          (.seq (.dreg [⟨(some 18), (.mov (.t 0)), none⟩,
            ⟨(some 19), (.mov (.t 4)), none⟩,
            ⟨(some 20), (.iad 1 (.t 18) (.t 19)), none⟩,
            ⟨(some 21), (.load 1 false (.t 20)), none⟩,
            ⟨(some 22), (.cvi .i64 (.t 21)), none⟩,
            ⟨(some 23), (.bin .rem .num (.t 22) (.k (.int .i64 12))), none⟩,
            ⟨(some 24), (.bin .add .num (.t 23) (.k (.int .i64 1))), none⟩,
            ⟨(some 25), (.mov (.t 0)), none⟩,
            ⟨(some 26), (.mov (.t 4)), none⟩,
            ⟨(some 27), (.bin .add .num (.t 26) (.k (.int .i64 1))), none⟩,
            ⟨(some 28), (.iad 1 (.t 25) (.t 27)), none⟩,
            ⟨(some 29), (.load 1 false (.t 28)), none⟩,
            ⟨(some 30), (.bin .rem .num (.t 29) (.k (.int .u8 6))), none⟩,
            ⟨(some 31), (.mov (.t 0)), none⟩,
            ⟨(some 32), (.mov (.t 4)), none⟩,
            ⟨(some 33), (.bin .add .num (.t 32) (.k (.int .i64 1))), none⟩,
            ⟨(some 34), (.iad 1 (.t 31) (.t 33)), none⟩,
            ⟨(some 35), (.load 1 false (.t 34)), none⟩,
            ⟨(some 36), (.bin .quo .num (.t 35) (.k (.int .u8 6))), none⟩,
            ⟨(some 37), (.bin .rem .num (.t 36) (.k (.int .u8 6))), none⟩,
            ⟨(some 38), (.mov (.t 0)), none⟩,
            ⟨(some 39), (.mov (.t 4)), none⟩,
            ⟨(some 40), (.bin .add .num (.t 39) (.k (.int .i64 2))), none⟩,
            ⟨(some 41), (.iad 1 (.t 38) (.t 40)), none⟩,
            ⟨(some 42), (.load 1 false (.t 41)), none⟩,
            ⟨(some 43), (.cvi .u64 (.t 42)), none⟩,
            ⟨(some 44), (.build [(.int .i64 0), (.int .u8 0), (.int .u8 0), (.int .u64 0), (.str [])] [(0, 1, (.t 24)), (1, 1, (.t 30)), (2, 1, (.t 37)), (3, 1, (.t 43))]), none⟩,
            ⟨(some 5), (.new [(.int .i64 0), (.int .u8 0), (.int .u8 0), (.int .u64 0), (.str [])] none), none⟩,
            ⟨none, (.store 5 (.t 5) (.t 44)), none⟩] (.lin [27] [(0, none), (1, none), (2, none), (3, none), (4, none), (5, none), (6, none), (7, none), (8, none), (9, none), (10, none), (11, none), (12, none), (13, none), (14, none), (15, none), (16, none), (17, none), (18, none), (19, none), (20, none), (21, none), (22, none), (23, none), (24, none), (25, none), (26, none), (28, some [])]))
          (.seq (.reg [⟨(some 45), (.mov (.t 4)), none⟩,
            ⟨(some 46), (.bin .quo .num (.t 45) (.k (.int .i64 3))), none⟩,
            ⟨(some 47), (.cvi .u64 (.t 46)), none⟩,
            ⟨(some 48), (.call (.k (.fn (.func 68) [] [])) [(.t 47)]), none⟩,
            ⟨(some 49), (.bin .add .str (.k (.str [116, 101, 120, 116])) (.t 48)), none⟩,
            ⟨(some 50), (.fad 4 (.t 5)), none⟩,
            ⟨none, (.store 1 (.t 50) (.t 49)), none⟩])
          (.reg [⟨(some 51), (.mov (.t 3)), none⟩,
            ⟨(some 52), (.load 5 true (.t 5)), none⟩,
            ⟨(some 53), (.mks true 5 40 true [(.int .i64 0), (.int .u8 0), (.int .u8 0), (.int .u64 0), (.str [])] 1 [(0, (.t 52))]), none⟩,
            ⟨(some 54), (.app 5 40 true none (.t 51) (.t 53)), none⟩,
            ⟨(some 3), (.mov (.t 54)), none⟩]))))
        (.reg [⟨(some 16), (.mov (.t 4)), none⟩,
          ⟨(some 17), (.bin .add .num (.t 16) (.k (.int .i64 3))), none⟩,
          ⟨(some 4), (.mov (.t 17)), none⟩]))))))
    (.seq (.reg [⟨(some 55), (.mov (.t 3)), none⟩,
      ⟨(some 2), (.mov (.t 55)), none⟩])
    .ret))))⟩

/-- 8: signetring/signetringlaw22.ScriptDecodes -/
def L8 : Fun :=
  ⟨35, 1, [.t 2],
    (.seq (.reg [⟨(some 2), (.mov (.k (.bool false))), none⟩])
    (.seq (.seq (.reg [⟨(some 6), (.call (.k (.fn (.func 27) [] [])) []), none⟩,
      ⟨(some 7), (.un .not (.t 6)), none⟩])
    (.cond (.t 7)
      (.seq (.reg [⟨(some 2), (.mov (.k (.bool false))), none⟩])
      .ret)
      .skip))
    (.seq (.seq (.reg [⟨(some 8), (.mov (.t 0)), none⟩,
      ⟨(some 9), (.len .slc (.t 8)), none⟩,
      ⟨(some 10), (.bin .gtr .num (.t 9) (.k (.int .i64 3000))), none⟩])
    (.cond (.t 10)
      (.seq (.reg [⟨(some 2), (.mov (.k (.bool true))), none⟩])
      .ret)
      .skip))
    (.seq (.reg [⟨(some 11), (.mov (.t 0)), none⟩,
      ⟨(some 12), (.call (.k (.fn (.func 28) [] [])) [(.t 11)]), none⟩,
      ⟨(some 13), (.mov (.t 0)), none⟩,
      ⟨(some 14), (.call (.k (.fn (.func 29) [] [])) [(.t 13)]), none⟩,
      ⟨(some 3), (.mov (.t 12)), none⟩,
      ⟨(some 4), (.mov (.t 14)), none⟩])
    (.seq (.seq (.reg [⟨(some 15), (.mov (.t 3)), none⟩,
      ⟨(some 16), (.len .slc (.t 15)), none⟩,
      ⟨(some 17), (.mov (.t 4)), none⟩,
      ⟨(some 18), (.len .slc (.t 17)), none⟩,
      ⟨(some 19), (.bin .neq .num (.t 16) (.t 18)), none⟩])
    (.cond (.t 19)
      (.seq (.reg [⟨(some 2), (.mov (.k (.bool false))), none⟩])
      .ret)
      .skip))
    (.seq (.seq (.reg [⟨(some 20), (.mov (.t 3)), none⟩,
      ⟨(some 21), (.len .slc (.t 20)), none⟩,
      ⟨(some 22), (.mov (.k (.int .i64 0))), none⟩])
    (.block 0
      (.loop
        (.seq (.reg [⟨(some 23), (.bin .lss .num (.t 22) (.t 21)), none⟩])
        (.seq (.cond (.t 23)
          .skip
          (.exit 0))
        (.seq (.block 1
          (.seq (.reg [⟨(some 24), (.mov (.t 22)), none⟩,
            ⟨(some 5), (.mov (.t 24)), none⟩])
          (.seq (.dreg [⟨(some 25), (.mov (.t 3)), none⟩,
            ⟨(some 26), (.mov (.t 5)), none⟩,
            ⟨(some 27), (.iad 5 (.t 25) (.t 26)), none⟩,
            ⟨(some 28), (.load 5 true (.t 27)), none⟩,
            ⟨(some 29), (.mov (.t 4)), none⟩,
            ⟨(some 30), (.mov (.t 5)), none⟩,
            ⟨(some 31), (.iad 5 (.t 29) (.t 30)), none⟩,
            ⟨(some 32), (.load 5 true (.t 31)), none⟩,
            ⟨(some 33), (.bin .neq (.agg [.num, .num, .num, .num, .str]) (.t 28) (.t 32)), none⟩] (.free 0 (.free 1 (.free 2 (.free 3 (.free 4 (.free 5 (.free 6 (.free 7 (.free 8 .done))))))))))
          (.cond (.t 33)
            (.seq (.reg [⟨(some 2), (.mov (.k (.bool false))), none⟩])
            .ret)
            .skip))))
        (.reg [⟨(some 34), (.bin .add .num (.t 22) (.k (.int .i64 1))), none⟩,
          ⟨(some 22), (.mov (.t 34)), none⟩])))))))
    (.seq (.reg [⟨(some 2), (.mov (.k (.bool true))), none⟩])
    .ret)))))))⟩


theorem ckL29 : ckF CX.P 29 L29 = true := by kernel_rfl
theorem ckL8 : ckF CX.P 8 L8 = true := by kernel_rfl
end Go.Proofs.YtbabpibaccngnaaGreat
