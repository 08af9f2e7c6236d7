/-
  DERIVED. GIVEN WITH THE SEED: THE CARDS: each row of YtkdcfkfdkimaeaaGreatDoorRows.lean that lists a variable, with what it lists TIED to the program's text (the seventh form; the later family's looks); each row that meets fmt, with fmt's text TOLD by the authors' own Lean function (tested against real Go, not proved from fmt's source: count such statements apart). THE CARD IS WHAT COUNTS. Prove the row's statement (the work); the ties are given (YtkdcfkfdkimaeaaGreatDoorTie.lean); close each card by the builder's one call (the guide's Derived/Test/ToyasCard.lean, 'card_holds'). Laid BY PROGRAM, IN A SANDBOX (cutbox-door.mjs). By AI agents, Wed Nov 11 2026. No macro, syntax, notation, axiom, sorry.
-/
import Derived.Test.YtkdcfkfdkimaeaaGreatDoorRows
import GoSem.ClaimSeven
namespace Go.Proofs.YtkdcfkfdkimaeaaGreatDoor
namespace Rows

/-- THE TIED CARD OF 'dwindlelaw18.ResidualCube'. -/
def residualCubeCard : Claim7 := { stood := { row := residualCubeRow, standIns := [], harness := (true, "83f9f3d82a37c86f4640b7048b8c29e017361501c03675963cafe7e4e7f50767"), looks := false }, kinds := [], alts := [], laidByText := true, laidKinds := [.data, .data, .data], laidTests := true, laidLooks := .later }
def ResidualCubeCardSaid : Prop := Claim7.holds Tryz.pinned (.plain (OpenSpec.ofChange residualCubeSpec)) residualCubeCard

/-- THE TIED CARD OF 'dwindlelaw18.ResidualDivides'. -/
def residualDividesCard : Claim7 := { stood := { row := residualDividesRow, standIns := [], harness := (true, "83f9f3d82a37c86f4640b7048b8c29e017361501c03675963cafe7e4e7f50767"), looks := false }, kinds := [], alts := [], laidByText := true, laidKinds := [.data, .data, .data], laidTests := true, laidLooks := .later }
def ResidualDividesCardSaid : Prop := Claim7.holds Tryz.pinned (.plain (OpenSpec.ofChange residualDividesSpec)) residualDividesCard

/-- THE TIED CARD OF 'dwindlelaw18.ResidualDiamond'. -/
def residualDiamondCard : Claim7 := { stood := { row := residualDiamondRow, standIns := [], harness := (true, "83f9f3d82a37c86f4640b7048b8c29e017361501c03675963cafe7e4e7f50767"), looks := false }, kinds := [], alts := [], laidByText := true, laidKinds := [.data, .data, .data], laidTests := true, laidLooks := .later }
def ResidualDiamondCardSaid : Prop := Claim7.holds Tryz.pinned (.plain (OpenSpec.ofChange residualDiamondSpec)) residualDiamondCard

/-- THE TIED CARD OF 'dwindlelaw18.ResidualProjects'. -/
def residualProjectsCard : Claim7 := { stood := { row := residualProjectsRow, standIns := [], harness := (true, "83f9f3d82a37c86f4640b7048b8c29e017361501c03675963cafe7e4e7f50767"), looks := false }, kinds := [], alts := [], laidByText := true, laidKinds := [.data, .data, .data], laidTests := true, laidLooks := .later }
def ResidualProjectsCardSaid : Prop := Claim7.holds Tryz.pinned (.plain (OpenSpec.ofChange residualProjectsSpec)) residualProjectsCard

/-- THE TIED CARD OF 'dwindlelaw18.ResidualFull'. -/
def residualFullCard : Claim7 := { stood := { row := residualFullRow, standIns := [], harness := (true, "83f9f3d82a37c86f4640b7048b8c29e017361501c03675963cafe7e4e7f50767"), looks := false }, kinds := [], alts := [], laidByText := true, laidKinds := [.data, .data, .data], laidTests := true, laidLooks := .later }
def ResidualFullCardSaid : Prop := Claim7.holds Tryz.pinned (.plain (OpenSpec.ofChange residualFullSpec)) residualFullCard

/-- THE TIED CARD OF 'dwindlelaw18.ResidualTriangle'. -/
def residualTriangleCard : Claim7 := { stood := { row := residualTriangleRow, standIns := [], harness := (true, "83f9f3d82a37c86f4640b7048b8c29e017361501c03675963cafe7e4e7f50767"), looks := false }, kinds := [], alts := [], laidByText := true, laidKinds := [.data, .data, .data], laidTests := true, laidLooks := .later }
def ResidualTriangleCardSaid : Prop := Claim7.holds Tryz.pinned (.plain (OpenSpec.ofChange residualTriangleSpec)) residualTriangleCard

/-- THE TIED CARD OF 'dwindlelaw18.ResidualSame'. -/
def residualSameCard : Claim7 := { stood := { row := residualSameRow, standIns := [], harness := (true, "83f9f3d82a37c86f4640b7048b8c29e017361501c03675963cafe7e4e7f50767"), looks := false }, kinds := [], alts := [], laidByText := true, laidKinds := [.data, .data, .data], laidTests := true, laidLooks := .later }
def ResidualSameCardSaid : Prop := Claim7.holds Tryz.pinned (.plain (OpenSpec.ofChange residualSameSpec)) residualSameCard

/-- THE TIED CARD OF 'dwindlelaw18.ResidualJoins'. -/
def residualJoinsCard : Claim7 := { stood := { row := residualJoinsRow, standIns := [], harness := (true, "83f9f3d82a37c86f4640b7048b8c29e017361501c03675963cafe7e4e7f50767"), looks := false }, kinds := [], alts := [], laidByText := true, laidKinds := [.data, .data, .data], laidTests := true, laidLooks := .later }
def ResidualJoinsCardSaid : Prop := Claim7.holds Tryz.pinned (.plain (OpenSpec.ofChange residualJoinsSpec)) residualJoinsCard

/-- THE SECOND FORM's CARD OF 'dwindlelaw18.ResidualCube'. -/
def residualCubeUptoCard : Claim7 := { stood := { row := residualCubeUptoRow, standIns := [], harness := (true, "83f9f3d82a37c86f4640b7048b8c29e017361501c03675963cafe7e4e7f50767"), looks := false }, kinds := [], alts := [], laidByText := true, laidKinds := [.data, .data, .data], laidTests := true, laidLooks := .later }
def ResidualCubeUptoCardSaid : Prop := Claim7.holds Tryz.pinned (.plain (OpenSpec.upto residualCubeSpec)) residualCubeUptoCard

/-- THE SECOND FORM's CARD OF 'dwindlelaw18.ResidualDivides'. -/
def residualDividesUptoCard : Claim7 := { stood := { row := residualDividesUptoRow, standIns := [], harness := (true, "83f9f3d82a37c86f4640b7048b8c29e017361501c03675963cafe7e4e7f50767"), looks := false }, kinds := [], alts := [], laidByText := true, laidKinds := [.data, .data, .data], laidTests := true, laidLooks := .later }
def ResidualDividesUptoCardSaid : Prop := Claim7.holds Tryz.pinned (.plain (OpenSpec.upto residualDividesSpec)) residualDividesUptoCard

/-- THE SECOND FORM's CARD OF 'dwindlelaw18.ResidualDiamond'. -/
def residualDiamondUptoCard : Claim7 := { stood := { row := residualDiamondUptoRow, standIns := [], harness := (true, "83f9f3d82a37c86f4640b7048b8c29e017361501c03675963cafe7e4e7f50767"), looks := false }, kinds := [], alts := [], laidByText := true, laidKinds := [.data, .data, .data], laidTests := true, laidLooks := .later }
def ResidualDiamondUptoCardSaid : Prop := Claim7.holds Tryz.pinned (.plain (OpenSpec.upto residualDiamondSpec)) residualDiamondUptoCard

/-- THE SECOND FORM's CARD OF 'dwindlelaw18.ResidualProjects'. -/
def residualProjectsUptoCard : Claim7 := { stood := { row := residualProjectsUptoRow, standIns := [], harness := (true, "83f9f3d82a37c86f4640b7048b8c29e017361501c03675963cafe7e4e7f50767"), looks := false }, kinds := [], alts := [], laidByText := true, laidKinds := [.data, .data, .data], laidTests := true, laidLooks := .later }
def ResidualProjectsUptoCardSaid : Prop := Claim7.holds Tryz.pinned (.plain (OpenSpec.upto residualProjectsSpec)) residualProjectsUptoCard

/-- THE SECOND FORM's CARD OF 'dwindlelaw18.ResidualFull'. -/
def residualFullUptoCard : Claim7 := { stood := { row := residualFullUptoRow, standIns := [], harness := (true, "83f9f3d82a37c86f4640b7048b8c29e017361501c03675963cafe7e4e7f50767"), looks := false }, kinds := [], alts := [], laidByText := true, laidKinds := [.data, .data, .data], laidTests := true, laidLooks := .later }
def ResidualFullUptoCardSaid : Prop := Claim7.holds Tryz.pinned (.plain (OpenSpec.upto residualFullSpec)) residualFullUptoCard

/-- THE SECOND FORM's CARD OF 'dwindlelaw18.ResidualTriangle'. -/
def residualTriangleUptoCard : Claim7 := { stood := { row := residualTriangleUptoRow, standIns := [], harness := (true, "83f9f3d82a37c86f4640b7048b8c29e017361501c03675963cafe7e4e7f50767"), looks := false }, kinds := [], alts := [], laidByText := true, laidKinds := [.data, .data, .data], laidTests := true, laidLooks := .later }
def ResidualTriangleUptoCardSaid : Prop := Claim7.holds Tryz.pinned (.plain (OpenSpec.upto residualTriangleSpec)) residualTriangleUptoCard

/-- THE SECOND FORM's CARD OF 'dwindlelaw18.ResidualSame'. -/
def residualSameUptoCard : Claim7 := { stood := { row := residualSameUptoRow, standIns := [], harness := (true, "83f9f3d82a37c86f4640b7048b8c29e017361501c03675963cafe7e4e7f50767"), looks := false }, kinds := [], alts := [], laidByText := true, laidKinds := [.data, .data, .data], laidTests := true, laidLooks := .later }
def ResidualSameUptoCardSaid : Prop := Claim7.holds Tryz.pinned (.plain (OpenSpec.upto residualSameSpec)) residualSameUptoCard

/-- THE SECOND FORM's CARD OF 'dwindlelaw18.ResidualJoins'. -/
def residualJoinsUptoCard : Claim7 := { stood := { row := residualJoinsUptoRow, standIns := [], harness := (true, "83f9f3d82a37c86f4640b7048b8c29e017361501c03675963cafe7e4e7f50767"), looks := false }, kinds := [], alts := [], laidByText := true, laidKinds := [.data, .data, .data], laidTests := true, laidLooks := .later }
def ResidualJoinsUptoCardSaid : Prop := Claim7.holds Tryz.pinned (.plain (OpenSpec.upto residualJoinsSpec)) residualJoinsUptoCard
end Rows
end Go.Proofs.YtkdcfkfdkimaeaaGreatDoor
