/- sha.Sum behind a rest of so many bytes: one answer each (printed by wip/tools/gensums.py). -/
import Derived.Test.YtfinnljkcgglfaaDoorZjS0J
namespace Go.Proofs.YtfinnljkcgglfaaDoor
open Go Go.Vs
set_option maxRecDepth 100000
theorem sum_48 (s l : List V) (n : Int) : SumX s l n 48 := ex_of DX.ok DX.low CMB.ok (n := 3000) (by kernel_rfl)
theorem sum_49 (s l : List V) (n : Int) : SumX s l n 49 := ex_of DX.ok DX.low CMB.ok (n := 3000) (by kernel_rfl)
theorem sum_50 (s l : List V) (n : Int) : SumX s l n 50 := ex_of DX.ok DX.low CMB.ok (n := 3000) (by kernel_rfl)
theorem sum_51 (s l : List V) (n : Int) : SumX s l n 51 := ex_of DX.ok DX.low CMB.ok (n := 3000) (by kernel_rfl)
theorem sum_52 (s l : List V) (n : Int) : SumX s l n 52 := ex_of DX.ok DX.low CMB.ok (n := 3000) (by kernel_rfl)
theorem sum_53 (s l : List V) (n : Int) : SumX s l n 53 := ex_of DX.ok DX.low CMB.ok (n := 3000) (by kernel_rfl)
theorem sum_54 (s l : List V) (n : Int) : SumX s l n 54 := ex_of DX.ok DX.low CMB.ok (n := 3000) (by kernel_rfl)
theorem sum_55 (s l : List V) (n : Int) : SumX s l n 55 := ex_of DX.ok DX.low CMB.ok (n := 3000) (by kernel_rfl)
theorem sum_56 (s l : List V) (n : Int) : SumX s l n 56 := ex_of DX.ok DX.low CMB.ok (n := 3000) (by kernel_rfl)
theorem sum_57 (s l : List V) (n : Int) : SumX s l n 57 := ex_of DX.ok DX.low CMB.ok (n := 3000) (by kernel_rfl)
theorem sum_58 (s l : List V) (n : Int) : SumX s l n 58 := ex_of DX.ok DX.low CMB.ok (n := 3000) (by kernel_rfl)
theorem sum_59 (s l : List V) (n : Int) : SumX s l n 59 := ex_of DX.ok DX.low CMB.ok (n := 3000) (by kernel_rfl)
theorem sum_60 (s l : List V) (n : Int) : SumX s l n 60 := ex_of DX.ok DX.low CMB.ok (n := 3000) (by kernel_rfl)
theorem sum_61 (s l : List V) (n : Int) : SumX s l n 61 := ex_of DX.ok DX.low CMB.ok (n := 3000) (by kernel_rfl)
theorem sum_62 (s l : List V) (n : Int) : SumX s l n 62 := ex_of DX.ok DX.low CMB.ok (n := 3000) (by kernel_rfl)
theorem sum_63 (s l : List V) (n : Int) : SumX s l n 63 := ex_of DX.ok DX.low CMB.ok (n := 3000) (by kernel_rfl)
end Go.Proofs.YtfinnljkcgglfaaDoor
