/-
  DERIVED. GIVEN WITH THE SEED: THE PROGRAM's TIES (one call each: nine closed facts by the kernel) AND EACH ROW's TIE, after the 31st guide's Derived/Test/Toyas{Tie, Card}.lean. No idea stands in it: it is a product of the set-up. Laid BY PROGRAM, IN A SANDBOX (cutbox-door.mjs). By AI agents, Wed Nov 11 2026. No macro, syntax, notation, axiom, sorry.
-/
import Derived.Test.YtfinnljkcgglfaaGreatDoorRows
import Derived.LaidByTextLater
import Derived.SevenTiedAt
import Derived.LaidSub
import Derived.LaidOnce
namespace Go.Proofs.YtfinnljkcgglfaaGreatDoor
open Go
set_option maxRecDepth 100000
theorem seatTie1 : Tryz.prog.laidByTextLater [("signetring/ladder.a24", Rows.laid_signetring_ladder_a24), ("signetring/sha.start", Rows.laid_signetring_sha_start), ("signetring/sha.constants", Rows.laid_signetring_sha_constants)] [.data, .data, .data] true :=
  Program.laidByTextLater_by_one 29 8 65 (by kernel_rfl) (by kernel_rfl) (by kernel_rfl) (by kernel_rfl) (by kernel_rfl) (by kernel_rfl) (fun _ _ => by kernel_rfl)
theorem noOwnUnsafe : Tryz.pinned.checked.prog.headLifts.contains "ownunsafe" = false := by kernel_rfl
theorem tie : Tryz.prog.laidByTextLater [("signetring/ladder.a24", Rows.laid_signetring_ladder_a24), ("signetring/sha.start", Rows.laid_signetring_sha_start), ("signetring/sha.constants", Rows.laid_signetring_sha_constants)] [.data, .data, .data] true :=
  Program.laidByTextLater.sub seatTie1 ["signetring/ladder.a24", "signetring/sha.start", "signetring/sha.constants"] (by kernel_rfl) (by kernel_rfl)
theorem primsReal_row_tie : Rows.primsRealRow.laidByTextAt .later Tryz.pinned [.data, .data, .data] true :=
  OpenClaim.laidByTextAt_later rfl rfl tie noOwnUnsafe
theorem tie2 : Tryz.prog.laidByTextLater [("signetring/sha.start", Rows.laid_signetring_sha_start), ("signetring/sha.constants", Rows.laid_signetring_sha_constants)] [.data, .data] true :=
  Program.laidByTextLater.sub seatTie1 ["signetring/sha.start", "signetring/sha.constants"] (by kernel_rfl) (by kernel_rfl)
theorem primsTerms_row_tie : Rows.primsTermsRow.laidByTextAt .later Tryz.pinned [.data, .data] true :=
  OpenClaim.laidByTextAt_later rfl rfl tie2 noOwnUnsafe
theorem primsRealUpto_row_tie : Rows.primsRealUptoRow.laidByTextAt .later Tryz.pinned [.data, .data, .data] true :=
  OpenClaim.laidByTextAt_later rfl rfl tie noOwnUnsafe
theorem primsTermsUpto_row_tie : Rows.primsTermsUptoRow.laidByTextAt .later Tryz.pinned [.data, .data] true :=
  OpenClaim.laidByTextAt_later rfl rfl tie2 noOwnUnsafe
end Go.Proofs.YtfinnljkcgglfaaGreatDoor
