/- sha.Sum behind a rest of so many bytes: one answer each (printed by wip/tools/gensums.py). -/
import Derived.Test.YtfinnljkcgglfaaDoorZjS0J
namespace Go.Proofs.YtfinnljkcgglfaaDoor
open Go Go.Vs
set_option maxRecDepth 100000
theorem sum_16 (s l : List V) (n : Int) : SumX s l n 16 := ex_of DX.ok DX.low CMB.ok (n := 3000) (by kernel_rfl)
theorem sum_17 (s l : List V) (n : Int) : SumX s l n 17 := ex_of DX.ok DX.low CMB.ok (n := 3000) (by kernel_rfl)
theorem sum_18 (s l : List V) (n : Int) : SumX s l n 18 := ex_of DX.ok DX.low CMB.ok (n := 3000) (by kernel_rfl)
theorem sum_19 (s l : List V) (n : Int) : SumX s l n 19 := ex_of DX.ok DX.low CMB.ok (n := 3000) (by kernel_rfl)
theorem sum_20 (s l : List V) (n : Int) : SumX s l n 20 := ex_of DX.ok DX.low CMB.ok (n := 3000) (by kernel_rfl)
theorem sum_21 (s l : List V) (n : Int) : SumX s l n 21 := ex_of DX.ok DX.low CMB.ok (n := 3000) (by kernel_rfl)
theorem sum_22 (s l : List V) (n : Int) : SumX s l n 22 := ex_of DX.ok DX.low CMB.ok (n := 3000) (by kernel_rfl)
theorem sum_23 (s l : List V) (n : Int) : SumX s l n 23 := ex_of DX.ok DX.low CMB.ok (n := 3000) (by kernel_rfl)
theorem sum_24 (s l : List V) (n : Int) : SumX s l n 24 := ex_of DX.ok DX.low CMB.ok (n := 3000) (by kernel_rfl)
theorem sum_25 (s l : List V) (n : Int) : SumX s l n 25 := ex_of DX.ok DX.low CMB.ok (n := 3000) (by kernel_rfl)
theorem sum_26 (s l : List V) (n : Int) : SumX s l n 26 := ex_of DX.ok DX.low CMB.ok (n := 3000) (by kernel_rfl)
theorem sum_27 (s l : List V) (n : Int) : SumX s l n 27 := ex_of DX.ok DX.low CMB.ok (n := 3000) (by kernel_rfl)
theorem sum_28 (s l : List V) (n : Int) : SumX s l n 28 := ex_of DX.ok DX.low CMB.ok (n := 3000) (by kernel_rfl)
theorem sum_29 (s l : List V) (n : Int) : SumX s l n 29 := ex_of DX.ok DX.low CMB.ok (n := 3000) (by kernel_rfl)
theorem sum_30 (s l : List V) (n : Int) : SumX s l n 30 := ex_of DX.ok DX.low CMB.ok (n := 3000) (by kernel_rfl)
theorem sum_31 (s l : List V) (n : Int) : SumX s l n 31 := ex_of DX.ok DX.low CMB.ok (n := 3000) (by kernel_rfl)
end Go.Proofs.YtfinnljkcgglfaaDoor
