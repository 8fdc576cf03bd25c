/-
  DERIVED. GIVEN WITH THE SEED: THE PROGRAM's TIES (one call each: nine closed facts by the kernel) AND EACH ROW's TIE, after the 31st guide's Derived/Test/Toyas{Tie, Card}.lean. No idea stands in it: it is a product of the set-up. Laid BY PROGRAM, IN A SANDBOX (cutbox-door.mjs). By AI agents, Wed Nov 11 2026. No macro, syntax, notation, axiom, sorry.
-/
import Derived.Test.YtfinnljkcgglfaaDoorRows
import Derived.LaidByTextLater
import Derived.SevenTiedAt
import Derived.LaidSub
import Derived.LaidOnce
namespace Go.Proofs.YtfinnljkcgglfaaDoor
open Go
set_option maxRecDepth 100000
theorem seatTie1 : Tryd.prog.laidByTextLater [("signetring/stream.first", Rows.laid_signetring_stream_first), ("signetring/sha.start", Rows.laid_signetring_sha_start), ("signetring/sha.constants", Rows.laid_signetring_sha_constants)] [.widerDeep, .data, .data] true :=
  Program.laidByTextLater_by_one 29 8 65 (by kernel_rfl) (by kernel_rfl) (by kernel_rfl) (by kernel_rfl) (by kernel_rfl) (by kernel_rfl) (fun _ _ => by kernel_rfl)
theorem noOwnUnsafe : Tryd.pinned.checked.prog.headLifts.contains "ownunsafe" = false := by kernel_rfl
theorem tie : Tryd.prog.laidByTextLater [("signetring/sha.start", Rows.laid_signetring_sha_start), ("signetring/sha.constants", Rows.laid_signetring_sha_constants)] [.data, .data] true :=
  Program.laidByTextLater.sub seatTie1 ["signetring/sha.start", "signetring/sha.constants"] (by kernel_rfl) (by kernel_rfl)
theorem primsSizes_row_tie : Rows.primsSizesRow.laidByTextAt .later Tryd.pinned [.data, .data] true :=
  OpenClaim.laidByTextAt_later rfl rfl tie noOwnUnsafe
theorem primsBack_row_tie : Rows.primsBackRow.laidByTextAt .later Tryd.pinned [.data, .data] true :=
  OpenClaim.laidByTextAt_later rfl rfl tie noOwnUnsafe
theorem tie2 : Tryd.prog.laidByTextLater [("signetring/stream.first", Rows.laid_signetring_stream_first), ("signetring/sha.start", Rows.laid_signetring_sha_start), ("signetring/sha.constants", Rows.laid_signetring_sha_constants)] [.widerDeep, .data, .data] true :=
  Program.laidByTextLater.sub seatTie1 ["signetring/stream.first", "signetring/sha.start", "signetring/sha.constants"] (by kernel_rfl) (by kernel_rfl)
theorem primsBoxes_row_tie : Rows.primsBoxesRow.laidByTextAt .later Tryd.pinned [.widerDeep, .data, .data] true :=
  OpenClaim.laidByTextAt_later rfl rfl tie2 noOwnUnsafe
theorem primsSizesUpto_row_tie : Rows.primsSizesUptoRow.laidByTextAt .later Tryd.pinned [.data, .data] true :=
  OpenClaim.laidByTextAt_later rfl rfl tie noOwnUnsafe
theorem primsBoxesUpto_row_tie : Rows.primsBoxesUptoRow.laidByTextAt .later Tryd.pinned [.widerDeep, .data, .data] true :=
  OpenClaim.laidByTextAt_later rfl rfl tie2 noOwnUnsafe
theorem primsBackUpto_row_tie : Rows.primsBackUptoRow.laidByTextAt .later Tryd.pinned [.data, .data] true :=
  OpenClaim.laidByTextAt_later rfl rfl tie noOwnUnsafe
end Go.Proofs.YtfinnljkcgglfaaDoor
