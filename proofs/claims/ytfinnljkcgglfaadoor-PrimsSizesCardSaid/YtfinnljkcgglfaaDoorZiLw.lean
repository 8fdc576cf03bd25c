/- The laws world: a table of terms. -/
import Derived.Test.YtfinnljkcgglfaaDoorZiKeysT
namespace Go.Proofs.YtfinnljkcgglfaaDoor
open Go Go.Vs Go.RowKit
set_option maxRecDepth 100000
set_option linter.unusedSimpArgs false
set_option linter.unusedVariables false
attribute [local simp] unV extV wanted strBin vpt vpn vmp nilV_ptr vic

theorem new_spec (h : Hp) : ACalls DX 9 [] h fun r h' => r = .ret (.ptr (h.length + 2) 0) ∧ h' = h ++ [some (.map []), some (.map []), some (.cells [.map h.length, .map (h.length + 1), .nsl] none)] := by
  refine acall DX.ok ck9 rfl ?_
  simp [F9, aop_mkmV, fillV, setAll, V.cells, V.one]
theorem symbol_spec (b : Nat) (h : Hp) : ACalls DX 8 [.ptr b 0] h fun r h' => r = .ret (.ifc 54 (.agg [.ptr b 0])) ∧ h' = h := by
  refine acall DX.ok ck8 rfl ?_
  simp [F8, fillV, setAll, V.cells, V.one]

theorem LW0 (c5 : List V) : LW [some (.cells c5 none), some (.map []), some (.map []), some (.cells [.map 1, .map 2, .nsl] none)] .nsl [] c5 :=
  ⟨⟨rfl, rfl, rfl, ⟨rfl, .inl ⟨rfl, rfl⟩⟩, by omega, by omega, by omega, (fun e => by cases e), (fun e => by cases e), (fun e => by cases e), by simp, fun k hk => by cases hk⟩, rfl, (fun c e => by cases e), by simp⟩

theorem lenV_nsl (h : Hp) : lenV h .slc .nsl = some (.int .i64 0) := rfl
theorem keys_early {h : Hp} {a b : List UInt8} {n : Int} (hn : n < 1 ∨ 3 < n) : ACalls DX 106 [.agg [.ptr 3 0], .str a, .str b, .int .i64 n] h fun r h' => r = .ret .nsl ∧ h' = h ++ [some (.cells [.ptr 3 0] none)] := by
  refine acall DX.ok ck106 rfl ?_
  rcases hn with hn | hn
  · simp [F106, V.cells, V.one, hn]
  · have h1 : ¬ n < 1 := by omega
    have h1' : 1 ≤ n := by omega
    simp [F106, V.cells, V.one, hn, h1, h1']

end Go.Proofs.YtfinnljkcgglfaaDoor
