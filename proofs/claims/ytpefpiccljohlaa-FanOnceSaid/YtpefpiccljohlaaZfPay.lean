/- Payloads. -/
import Derived.Test.YtpefpiccljohlaaZfJoin
namespace Go.Proofs.Ytpefpiccljohlaa
open Go.Vs Go.RowKit
set_option linter.unusedSimpArgs false
set_option linter.unusedVariables false

theorem Fz.strs2 (a b : List UInt8) : Fz 1 (.lst true [.str a, .str b]) [a, b].length ([a, b].map .str) := fun h => ⟨by simp [src, flat, V.cells], rfl, trivial⟩

set_option maxHeartbeats 1000000 in
theorem payload_spec {h : Hp} {n : Nat} {s : List UInt8} (hn : n < 18446744073709551616) (hlow : LowH h.length h) :
    ACalls FX 18 [.int .u64 n, .str s] h (fun r h' => r = .ret (.tup [.str (joinR 70 [numB n, s]).1, .int .i64 (joinR 70 [numB n, s]).2]) ∧ h' = h) := by
  refine acall FX.ok ck18 rfl ?_
  simp [F18]
  refine (num_spec hn hlow).mono ?_
  rintro r h' ⟨rfl, rfl⟩
  simp [fillV, V.cells, V.one, setAll, chunk]
  refine (join_spec (k := 70) (Fz.strs2 (numB n) s) (by simp) hlow).mono ?_
  rintro r g ⟨rfl, rfl⟩
  simp [extV]

set_option maxHeartbeats 1000000 in
theorem refPayload_spec {h : Hp} {n : Nat} {s : List UInt8} (hn : n < 18446744073709551616) :
    ACalls FX 19 [.int .u64 n, .str s] h (fun r h' => r = .ret (.tup [.str (joinR 70 [numB n, s]).1, .int .i64 (joinR 70 [numB n, s]).2]) ∧ h' = h) := by
  refine acall FX.ok ck19 rfl ?_
  simp [F19]
  refine (refNum_spec hn).mono ?_
  rintro r h' ⟨rfl, rfl⟩
  simp [fillV, V.cells, V.one, setAll, chunk]
  refine (refJoin_spec (k := 70) (Fz.strs2 (numB n) s) (by simp)).mono ?_
  rintro r g ⟨rfl, rfl⟩
  simp [extV]

end Go.Proofs.Ytpefpiccljohlaa
