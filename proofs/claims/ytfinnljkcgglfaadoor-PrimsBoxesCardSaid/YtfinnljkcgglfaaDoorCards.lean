/-
  DERIVED. GIVEN WITH THE SEED: THE CARDS: each row of YtfinnljkcgglfaaDoorRows.lean that lists a variable, with what it lists TIED to the program's text (the seventh form; the later family's looks); each row that meets fmt, with fmt's text TOLD by the authors' own Lean function (tested against real Go, not proved from fmt's source: count such statements apart). THE CARD IS WHAT COUNTS. Prove the row's statement (the work); the ties are given (YtfinnljkcgglfaaDoorTie.lean); close each card by the builder's one call (the guide's Derived/Test/ToyasCard.lean, 'card_holds'). Laid BY PROGRAM, IN A SANDBOX (cutbox-door.mjs). By AI agents, Wed Nov 11 2026. No macro, syntax, notation, axiom, sorry.
-/
import Derived.Test.YtfinnljkcgglfaaDoorRows
import GoSem.ClaimSeven
namespace Go.Proofs.YtfinnljkcgglfaaDoor
namespace Rows

/-- THE TIED CARD OF 'signetringlaw11.PrimsSizes'. -/
def primsSizesCard : Claim7 := { stood := { row := primsSizesRow, standIns := [], harness := (true, "5a00ed3b55971f3104b8cb1e36f6aac4f038b1ccf7a60a28d2905264792237a0"), looks := true }, kinds := [], alts := [], laidByText := true, laidKinds := [.data, .data], laidTests := true, laidLooks := .later }
def PrimsSizesCardSaid : Prop := Claim7.holds Tryd.pinned (.plain (OpenSpec.ofChange primsSizesSpec)) primsSizesCard

/-- THE TIED CARD OF 'signetringlaw11.PrimsBoxes'. -/
def primsBoxesCard : Claim7 := { stood := { row := primsBoxesRow, standIns := [], harness := (true, "5a00ed3b55971f3104b8cb1e36f6aac4f038b1ccf7a60a28d2905264792237a0"), looks := true }, kinds := [], alts := [], laidByText := true, laidKinds := [.widerDeep, .data, .data], laidTests := true, laidLooks := .later }
def PrimsBoxesCardSaid : Prop := Claim7.holds Tryd.pinned (.plain (OpenSpec.ofChange primsBoxesSpec)) primsBoxesCard

/-- THE TIED CARD OF 'signetringlaw11.PrimsBack'. -/
def primsBackCard : Claim7 := { stood := { row := primsBackRow, standIns := [], harness := (true, "5a00ed3b55971f3104b8cb1e36f6aac4f038b1ccf7a60a28d2905264792237a0"), looks := true }, kinds := [], alts := [], laidByText := true, laidKinds := [.data, .data], laidTests := true, laidLooks := .later }
def PrimsBackCardSaid : Prop := Claim7.holds Tryd.pinned (.plain (OpenSpec.ofChange primsBackSpec)) primsBackCard

/-- THE SECOND FORM's CARD OF 'signetringlaw11.PrimsSizes'. -/
def primsSizesUptoCard : Claim7 := { stood := { row := primsSizesUptoRow, standIns := [], harness := (true, "5a00ed3b55971f3104b8cb1e36f6aac4f038b1ccf7a60a28d2905264792237a0"), looks := true }, kinds := [], alts := [], laidByText := true, laidKinds := [.data, .data], laidTests := true, laidLooks := .later }
def PrimsSizesUptoCardSaid : Prop := Claim7.holds Tryd.pinned (.plain (OpenSpec.upto primsSizesSpec)) primsSizesUptoCard

/-- THE SECOND FORM's CARD OF 'signetringlaw11.PrimsBoxes'. -/
def primsBoxesUptoCard : Claim7 := { stood := { row := primsBoxesUptoRow, standIns := [], harness := (true, "5a00ed3b55971f3104b8cb1e36f6aac4f038b1ccf7a60a28d2905264792237a0"), looks := true }, kinds := [], alts := [], laidByText := true, laidKinds := [.widerDeep, .data, .data], laidTests := true, laidLooks := .later }
def PrimsBoxesUptoCardSaid : Prop := Claim7.holds Tryd.pinned (.plain (OpenSpec.upto primsBoxesSpec)) primsBoxesUptoCard

/-- THE SECOND FORM's CARD OF 'signetringlaw11.PrimsBack'. -/
def primsBackUptoCard : Claim7 := { stood := { row := primsBackUptoRow, standIns := [], harness := (true, "5a00ed3b55971f3104b8cb1e36f6aac4f038b1ccf7a60a28d2905264792237a0"), looks := true }, kinds := [], alts := [], laidByText := true, laidKinds := [.data, .data], laidTests := true, laidLooks := .later }
def PrimsBackUptoCardSaid : Prop := Claim7.holds Tryd.pinned (.plain (OpenSpec.upto primsBackSpec)) primsBackUptoCard
end Rows
end Go.Proofs.YtfinnljkcgglfaaDoor
