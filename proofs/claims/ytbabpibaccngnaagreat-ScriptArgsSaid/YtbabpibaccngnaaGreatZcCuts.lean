/- ScriptCuts' code, told for a proof by hand. -/
import Derived.Test.YtbabpibaccngnaaGreatZcTab
import Derived.KernelRfl
set_option linter.unusedSimpArgs false
set_option linter.unusedVariables false
namespace Go.Proofs.YtbabpibaccngnaaGreat
open Go Go.Vs
set_option maxRecDepth 100000

/-- 10: signetring/signetringlaw22.ScriptCuts -/
def L10 : Fun :=
  ⟨83, 2, [.t 4],
    (.seq (.reg [⟨(some 4), (.mov (.k (.bool false))), none⟩])
    (.seq (.seq (.reg [⟨(some 9), (.call (.k (.fn (.func 27) [] [])) []), none⟩,
      ⟨(some 10), (.un .not (.t 9)), none⟩])
    (.cond (.t 10)
      (.seq (.reg [⟨(some 4), (.mov (.k (.bool false))), none⟩])
      .ret)
      .skip))
    (.seq (.seq (.reg [⟨(some 11), (.mov (.t 0)), none⟩,
      ⟨(some 12), (.len .slc (.t 11)), none⟩,
      ⟨(some 13), (.bin .gtr .num (.t 12) (.k (.int .i64 3000))), none⟩])
    (.cond (.t 13)
      (.seq (.reg [⟨(some 4), (.mov (.k (.bool true))), none⟩])
      .ret)
      .skip))
    (.seq (.dreg [⟨(some 14), (.mov (.t 0)), none⟩,
      ⟨(some 15), (.call (.k (.fn (.func 28) [] [])) [(.t 14)]), none⟩,
      ⟨(some 16), (.mov (.t 0)), none⟩,
      ⟨(some 17), (.mov (.t 1)), none⟩,
      ⟨(some 18), (.cvi .i64 (.t 17)), none⟩,
      ⟨(some 19), (.mov (.t 0)), none⟩,
      ⟨(some 20), (.len .slc (.t 19)), none⟩,
      ⟨(some 21), (.min (.t 18) (.t 20)), none⟩,
      ⟨(some 22), (.slc false 1 (.t 16) none (some (.t 21)) none), none⟩,
      ⟨(some 23), (.call (.k (.fn (.func 28) [] [])) [(.t 22)]), none⟩,
      ⟨(some 5), (.mov (.t 15)), none⟩,
      ⟨(some 6), (.mov (.t 23)), none⟩] (.free 0 (.free 2 (.free 3 (.free 4 (.free 5 (.free 6 (.free 7 (.free 8 (.cho 1 (.cho 9 (.free 10 (.free 11 .done)) .nope) .nope))))))))))
    (.seq (.seq (.reg [⟨(some 24), (.mov (.t 5)), none⟩,
      ⟨(some 25), (.len .slc (.t 24)), none⟩,
      ⟨(some 26), (.mov (.t 0)), none⟩,
      ⟨(some 27), (.len .slc (.t 26)), none⟩,
      ⟨(some 28), (.bin .quo .num (.t 27) (.k (.int .i64 3))), none⟩,
      ⟨(some 29), (.min (.t 28) (.k (.int .i64 500))), none⟩,
      ⟨(some 30), (.bin .neq .num (.t 25) (.t 29)), none⟩,
      ⟨(some 31), (.mov (.t 30)), none⟩,
      ⟨(some 32), (.mov (.t 6)), some (31, false)⟩,
      ⟨(some 33), (.len .slc (.t 32)), some (31, false)⟩,
      ⟨(some 34), (.mov (.t 5)), some (31, false)⟩,
      ⟨(some 35), (.len .slc (.t 34)), some (31, false)⟩,
      ⟨(some 36), (.bin .gtr .num (.t 33) (.t 35)), some (31, false)⟩,
      ⟨(some 37), (.pick (.t 31) (.k (.bool true)) (.t 36)), none⟩])
    (.cond (.t 37)
      (.seq (.reg [⟨(some 4), (.mov (.k (.bool false))), none⟩])
      .ret)
      .skip))
    (.seq (.seq (.reg [⟨(some 38), (.mov (.t 5)), none⟩,
      ⟨(some 39), (.len .slc (.t 38)), none⟩,
      ⟨(some 40), (.mov (.k (.int .i64 0))), none⟩])
    (.block 0
      (.loop
        (.seq (.reg [⟨(some 41), (.bin .lss .num (.t 40) (.t 39)), none⟩])
        (.seq (.cond (.t 41)
          .skip
          (.exit 0))
        (.seq (.block 1
          (.seq (.reg [⟨(some 42), (.mov (.t 40)), none⟩,
            ⟨(some 43), (.iad 5 (.t 38) (.t 40)), none⟩,
            ⟨(some 44), (.load 5 true (.t 43)), none⟩,
            ⟨(some 8), (.new [(.int .i64 0), (.int .u8 0), (.int .u8 0), (.int .u64 0), (.str [])] none), none⟩,
            ⟨(some 7), (.mov (.t 42)), none⟩,
            ⟨none, (.store 5 (.t 8) (.t 44)), none⟩])
          (.seq (.dreg [⟨(some 45), (.mov (.t 7)), none⟩,
            ⟨(some 46), (.mov (.t 6)), none⟩,
            ⟨(some 47), (.len .slc (.t 46)), none⟩,
            ⟨(some 48), (.bin .lss .num (.t 45) (.t 47)), none⟩,
            ⟨(some 49), (.mov (.t 48)), none⟩,
            ⟨(some 50), (.mov (.t 6)), some (49, true)⟩,
            ⟨(some 51), (.mov (.t 7)), some (49, true)⟩,
            ⟨(some 52), (.iad 5 (.t 50) (.t 51)), some (49, true)⟩,
            ⟨(some 53), (.load 5 true (.t 52)), some (49, true)⟩,
            ⟨(some 54), (.load 5 true (.t 8)), some (49, true)⟩,
            ⟨(some 55), (.bin .neq (.agg [.num, .num, .num, .num, .str]) (.t 53) (.t 54)), some (49, true)⟩,
            ⟨(some 56), (.pick (.t 49) (.t 55) (.k (.bool false))), none⟩,
            ⟨(some 57), (.mov (.t 56)), none⟩,
            ⟨(some 58), (.fad 0 (.t 8)), some (57, false)⟩,
            ⟨(some 59), (.load 1 false (.t 58)), some (57, false)⟩,
            ⟨(some 60), (.bin .lss .num (.t 59) (.k (.int .i64 1))), some (57, false)⟩,
            ⟨(some 61), (.pick (.t 57) (.k (.bool true)) (.t 60)), none⟩,
            ⟨(some 62), (.mov (.t 61)), none⟩,
            ⟨(some 63), (.fad 0 (.t 8)), some (62, false)⟩,
            ⟨(some 64), (.load 1 false (.t 63)), some (62, false)⟩,
            ⟨(some 65), (.bin .gtr .num (.t 64) (.k (.int .i64 12))), some (62, false)⟩,
            ⟨(some 66), (.pick (.t 62) (.k (.bool true)) (.t 65)), none⟩,
            ⟨(some 67), (.mov (.t 66)), none⟩,
            ⟨(some 68), (.fad 1 (.t 8)), some (67, false)⟩,
            ⟨(some 69), (.load 1 false (.t 68)), some (67, false)⟩,
            ⟨(some 70), (.bin .gtr .num (.t 69) (.k (.int .u8 5))), some (67, false)⟩,
            ⟨(some 71), (.pick (.t 67) (.k (.bool true)) (.t 70)), none⟩,
            ⟨(some 72), (.mov (.t 71)), none⟩,
            ⟨(some 73), (.fad 2 (.t 8)), some (72, false)⟩,
            ⟨(some 74), (.load 1 false (.t 73)), some (72, false)⟩,
            ⟨(some 75), (.bin .gtr .num (.t 74) (.k (.int .u8 5))), some (72, false)⟩,
            ⟨(some 76), (.pick (.t 72) (.k (.bool true)) (.t 75)), none⟩,
            ⟨(some 77), (.mov (.t 76)), none⟩,
            ⟨(some 78), (.fad 3 (.t 8)), some (77, false)⟩,
            ⟨(some 79), (.load 1 false (.t 78)), some (77, false)⟩,
            ⟨(some 80), (.bin .gtr .num (.t 79) (.k (.int .u64 255))), some (77, false)⟩,
            ⟨(some 81), (.pick (.t 77) (.k (.bool true)) (.t 80)), none⟩] (.free 0 (.free 1 (.free 2 (.free 3 (.free 4 (.free 5 (.free 6 (.free 7 (.free 8 (.free 9 (.free 10 (.free 11 (.free 12 (.free 13 (.free 14 (.free 15 (.free 16 (.free 17 (.free 18 (.free 19 (.free 20 (.free 21 (.free 22 (.free 23 (.free 24 (.free 25 (.free 26 (.free 27 (.free 28 (.free 29 (.free 30 (.free 31 (.free 32 (.free 33 (.free 34 (.free 35 (.free 36 .done))))))))))))))))))))))))))))))))))))))
          (.cond (.t 81)
            (.seq (.reg [⟨(some 4), (.mov (.k (.bool false))), none⟩])
            .ret)
            .skip))))
        (.reg [⟨(some 82), (.bin .add .num (.t 40) (.k (.int .i64 1))), none⟩,
          ⟨(some 40), (.mov (.t 82)), none⟩])))))))
    (.seq (.reg [⟨(some 4), (.mov (.k (.bool true))), none⟩])
    .ret)))))))⟩


theorem ckL10 : ckF CX.P 10 L10 = true := by kernel_rfl
end Go.Proofs.YtbabpibaccngnaaGreat
