/- sha.Sum behind a rest of so many bytes: one answer each (printed by wip/tools/gensums.py). -/
import Derived.Test.YtfinnljkcgglfaaDoorZjS0J
namespace Go.Proofs.YtfinnljkcgglfaaDoor
open Go Go.Vs
set_option maxRecDepth 100000
theorem sum_32 (s l : List V) (n : Int) : SumX s l n 32 := ex_of DX.ok DX.low CMB.ok (n := 3000) (by kernel_rfl)
theorem sum_33 (s l : List V) (n : Int) : SumX s l n 33 := ex_of DX.ok DX.low CMB.ok (n := 3000) (by kernel_rfl)
theorem sum_34 (s l : List V) (n : Int) : SumX s l n 34 := ex_of DX.ok DX.low CMB.ok (n := 3000) (by kernel_rfl)
theorem sum_35 (s l : List V) (n : Int) : SumX s l n 35 := ex_of DX.ok DX.low CMB.ok (n := 3000) (by kernel_rfl)
theorem sum_36 (s l : List V) (n : Int) : SumX s l n 36 := ex_of DX.ok DX.low CMB.ok (n := 3000) (by kernel_rfl)
theorem sum_37 (s l : List V) (n : Int) : SumX s l n 37 := ex_of DX.ok DX.low CMB.ok (n := 3000) (by kernel_rfl)
theorem sum_38 (s l : List V) (n : Int) : SumX s l n 38 := ex_of DX.ok DX.low CMB.ok (n := 3000) (by kernel_rfl)
theorem sum_39 (s l : List V) (n : Int) : SumX s l n 39 := ex_of DX.ok DX.low CMB.ok (n := 3000) (by kernel_rfl)
theorem sum_40 (s l : List V) (n : Int) : SumX s l n 40 := ex_of DX.ok DX.low CMB.ok (n := 3000) (by kernel_rfl)
theorem sum_41 (s l : List V) (n : Int) : SumX s l n 41 := ex_of DX.ok DX.low CMB.ok (n := 3000) (by kernel_rfl)
theorem sum_42 (s l : List V) (n : Int) : SumX s l n 42 := ex_of DX.ok DX.low CMB.ok (n := 3000) (by kernel_rfl)
theorem sum_43 (s l : List V) (n : Int) : SumX s l n 43 := ex_of DX.ok DX.low CMB.ok (n := 3000) (by kernel_rfl)
theorem sum_44 (s l : List V) (n : Int) : SumX s l n 44 := ex_of DX.ok DX.low CMB.ok (n := 3000) (by kernel_rfl)
theorem sum_45 (s l : List V) (n : Int) : SumX s l n 45 := ex_of DX.ok DX.low CMB.ok (n := 3000) (by kernel_rfl)
theorem sum_46 (s l : List V) (n : Int) : SumX s l n 46 := ex_of DX.ok DX.low CMB.ok (n := 3000) (by kernel_rfl)
theorem sum_47 (s l : List V) (n : Int) : SumX s l n 47 := ex_of DX.ok DX.low CMB.ok (n := 3000) (by kernel_rfl)
end Go.Proofs.YtfinnljkcgglfaaDoor
