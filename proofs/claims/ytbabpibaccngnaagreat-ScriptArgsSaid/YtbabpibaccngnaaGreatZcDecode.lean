/- script.Decode's code, told. -/
import Derived.Test.YtbabpibaccngnaaGreatZcTab
import Derived.KernelRfl
import Derived.Test.YtbabpibaccngnaaGreatZw
set_option linter.unusedSimpArgs false
set_option linter.unusedVariables false
namespace Go.Proofs.YtbabpibaccngnaaGreat
open Go Go.Vs
set_option maxRecDepth 100000

/-- 28: the body of a loop over a function -/
def B28 : C :=
  (.block 1
    (.seq (.seq (.reg [⟨(some 9), (.mov (.t 4)), none⟩,
      ⟨(some 10), (.len .slc (.t 9)), none⟩,
      ⟨(some 11), (.bin .lss .num (.t 10) (.k (.int .i64 3))), none⟩,
      ⟨(some 12), (.mov (.t 11)), none⟩,
      ⟨(some 13), (.load 1 false (.t 3)), some (12, false)⟩,
      ⟨(some 14), (.len .slc (.t 13)), some (12, false)⟩,
      ⟨(some 15), (.bin .eql .num (.t 14) (.k (.int .i64 500))), some (12, false)⟩,
      ⟨(some 16), (.pick (.t 12) (.k (.bool true)) (.t 15)), none⟩])
    (.cond (.t 16)
      (.exit 0)
      .skip))
    (.seq (.reg [⟨(some 17), (.mov (.t 4)), none⟩,
      ⟨(some 18), (.iad 1 (.t 17) (.k (.int .i64 1))), none⟩,
      ⟨(some 19), (.load 1 false (.t 18)), none⟩,
      ⟨(some 5), (.mov (.t 19)), none⟩])
    (.dreg [⟨(some 20), (.load 1 false (.t 3)), none⟩,
      ⟨(some 21), (.mov (.t 4)), none⟩,
      ⟨(some 22), (.iad 1 (.t 21) (.k (.int .i64 0))), none⟩,
      ⟨(some 23), (.load 1 false (.t 22)), none⟩,
      ⟨(some 24), (.cvi .i64 (.t 23)), none⟩,
      ⟨(some 25), (.bin .rem .num (.t 24) (.k (.int .i64 12))), none⟩,
      ⟨(some 26), (.bin .add .num (.t 25) (.k (.int .i64 1))), none⟩,
      ⟨(some 27), (.mov (.t 5)), none⟩,
      ⟨(some 28), (.bin .rem .num (.t 27) (.k (.int .u8 6))), none⟩,
      ⟨(some 29), (.mov (.t 5)), none⟩,
      ⟨(some 30), (.bin .quo .num (.t 29) (.k (.int .u8 6))), none⟩,
      ⟨(some 31), (.bin .rem .num (.t 30) (.k (.int .u8 6))), none⟩,
      ⟨(some 32), (.mov (.t 4)), none⟩,
      ⟨(some 33), (.iad 1 (.t 32) (.k (.int .i64 2))), none⟩,
      ⟨(some 34), (.load 1 false (.t 33)), none⟩,
      ⟨(some 35), (.cvi .u64 (.t 34)), none⟩,
      ⟨(some 36), (.load 1 false (.t 3)), none⟩,
      ⟨(some 37), (.len .slc (.t 36)), none⟩,
      ⟨(some 38), (.cvi .u64 (.t 37)), none⟩,
      ⟨(some 39), (.call (.k (.fn (.func 67) [] [])) [(.t 38)]), none⟩,
      ⟨(some 40), (.bin .add .str (.k (.str [116, 101, 120, 116])) (.t 39)), none⟩,
      ⟨(some 41), (.build [(.int .i64 0), (.int .u8 0), (.int .u8 0), (.int .u64 0), (.str [])] [(0, 1, (.t 26)), (1, 1, (.t 28)), (2, 1, (.t 31)), (3, 1, (.t 35)), (4, 1, (.t 40))]), none⟩,
      ⟨(some 42), (.mks true 5 40 true [(.int .i64 0), (.int .u8 0), (.int .u8 0), (.int .u64 0), (.str [])] 1 [(0, (.t 41))]), none⟩,
      ⟨(some 43), (.app 5 40 true none (.t 20) (.t 42)), none⟩,
      ⟨none, (.store 1 (.t 3) (.t 43)), none⟩] (.free 1 (.free 2 (.free 7 (.free 8 (.free 9 (.free 10 (.free 11 (.free 12 (.free 13 (.com [0, 3, 4, 5, 6, 14, 15, 16, 17, 18, 19, 20, 21, 22] (.cho 23 (.cho 24 .done .nope) .nope)))))))))))))))
/-- 28: signetring/script.Decode -/
def F28 : Fun :=
  ⟨45, 1, [.t 2],
    (.seq (.reg [⟨(some 2), (.mov (.k .nsl)), none⟩])
    (.seq (.reg [⟨(some 3), (.new [.nsl] none), none⟩])
    (.seq (.seq (.reg [⟨(some 6), (.mov (.t 0)), none⟩,
      ⟨(some 7), (.call (.k (.fn (.func 66) [] [])) [(.t 6), (.k (.int .i64 3))]), none⟩])
    (.block 0
      .no))
    (.seq (.reg [⟨(some 44), (.load 1 false (.t 3)), none⟩,
      ⟨(some 2), (.mov (.t 44)), none⟩])
    .ret))))⟩


theorem callable28 : callable CX.P 28 = true := by kernel_rfl
theorem dec_shape : ∃ r0 r1 r2 bd ops ty pos af, Tryz.f28.body = some (.seq r0 (.seq r1 (.seq (.seq r2 (.block 0 (.rangeFunc (.tmp 7) #[8] (.region 3 #[{ dst := some 4, op := .assign (.tmp 8), type := ty, pos := pos, after := af, guard := none }] false) bd))) (.seq (.region 7 ops false) .ret)))) ∧
    ckC CX.P 45 r0 (.reg [⟨(some 2), (.mov (.k .nsl)), none⟩]) = true ∧ ckC CX.P 45 r1 (.reg [⟨(some 3), (.new [.nsl] none), none⟩]) = true ∧
    ckC CX.P 45 r2 (.reg [⟨(some 6), (.mov (.t 0)), none⟩, ⟨(some 7), (.call (.k (.fn (.func 66) [] [])) [(.t 6), (.k (.int .i64 3))]), none⟩]) = true ∧
    ckC CX.P 45 bd B28 = true ∧ noDs bd = true ∧ ckAs CX.P 45 ops ops.toList [⟨(some 44), (.load 1 false (.t 3)), none⟩, ⟨(some 2), (.mov (.t 44)), none⟩] = true :=
  ⟨_, _, _, _, _, _, _, _, rfl, by kernel_rfl, by kernel_rfl, by kernel_rfl, by kernel_rfl, by kernel_rfl, by kernel_rfl⟩
theorem ckrs28 : ckRs CX.P Tryz.f28.results.toList [.t 2] = true := by kernel_rfl
end Go.Proofs.YtbabpibaccngnaaGreat
