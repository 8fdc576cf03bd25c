/-
  DERIVED. GIVEN WITH THE SEED: THE CARDS: each row of YtfinnljkcgglfaaGreatDoorRows.lean that lists a variable, with what it lists TIED to the program's text (the seventh form; the later family's looks); each row that meets fmt, with fmt's text TOLD by the authors' own Lean function (tested against real Go, not proved from fmt's source: count such statements apart). THE CARD IS WHAT COUNTS. Prove the row's statement (the work); the ties are given (YtfinnljkcgglfaaGreatDoorTie.lean); close each card by the builder's one call (the guide's Derived/Test/ToyasCard.lean, 'card_holds'). Laid BY PROGRAM, IN A SANDBOX (cutbox-door.mjs). By AI agents, Wed Nov 11 2026. No macro, syntax, notation, axiom, sorry.
-/
import Derived.Test.YtfinnljkcgglfaaGreatDoorRows
import GoSem.ClaimSeven
namespace Go.Proofs.YtfinnljkcgglfaaGreatDoor
namespace Rows

/-- THE TIED CARD OF 'signetringlaw11.PrimsReal'. -/
def primsRealCard : Claim7 := { stood := { row := primsRealRow, standIns := [], harness := (true, "4ddf46d4a387b3efa093f0aa5dc49f4a1e67050ef9df6a264e74ddccc1d47809"), looks := true }, kinds := [], alts := [], laidByText := true, laidKinds := [.data, .data, .data], laidTests := true, laidLooks := .later }
def PrimsRealCardSaid : Prop := Claim7.holds Tryz.pinned (.plain (OpenSpec.ofChange primsRealSpec)) primsRealCard

/-- THE TIED CARD OF 'signetringlaw11.PrimsTerms'. -/
def primsTermsCard : Claim7 := { stood := { row := primsTermsRow, standIns := [], harness := (true, "4ddf46d4a387b3efa093f0aa5dc49f4a1e67050ef9df6a264e74ddccc1d47809"), looks := true }, kinds := [], alts := [], laidByText := true, laidKinds := [.data, .data], laidTests := true, laidLooks := .later }
def PrimsTermsCardSaid : Prop := Claim7.holds Tryz.pinned (.plain (OpenSpec.ofChange primsTermsSpec)) primsTermsCard

/-- THE SECOND FORM's CARD OF 'signetringlaw11.PrimsReal'. -/
def primsRealUptoCard : Claim7 := { stood := { row := primsRealUptoRow, standIns := [], harness := (true, "4ddf46d4a387b3efa093f0aa5dc49f4a1e67050ef9df6a264e74ddccc1d47809"), looks := true }, kinds := [], alts := [], laidByText := true, laidKinds := [.data, .data, .data], laidTests := true, laidLooks := .later }
def PrimsRealUptoCardSaid : Prop := Claim7.holds Tryz.pinned (.plain (OpenSpec.upto primsRealSpec)) primsRealUptoCard

/-- THE SECOND FORM's CARD OF 'signetringlaw11.PrimsTerms'. -/
def primsTermsUptoCard : Claim7 := { stood := { row := primsTermsUptoRow, standIns := [], harness := (true, "4ddf46d4a387b3efa093f0aa5dc49f4a1e67050ef9df6a264e74ddccc1d47809"), looks := true }, kinds := [], alts := [], laidByText := true, laidKinds := [.data, .data], laidTests := true, laidLooks := .later }
def PrimsTermsUptoCardSaid : Prop := Claim7.holds Tryz.pinned (.plain (OpenSpec.upto primsTermsSpec)) primsTermsUptoCard
end Rows
end Go.Proofs.YtfinnljkcgglfaaGreatDoor
