/-
  DERIVED. GIVEN WITH THE SEED: THE CARDS: each row of YtinkjpfkemkhaaaGreatDoorRows.lean that lists a variable, with what it lists TIED to the program's text (the seventh form; the later family's looks); each row that meets fmt, with fmt's text TOLD by the authors' own Lean function (tested against real Go, not proved from fmt's source: count such statements apart). THE CARD IS WHAT COUNTS. Prove the row's statement (the work); the ties are given (YtinkjpfkemkhaaaGreatDoorTie.lean); close each card by the builder's one call (the guide's Derived/Test/ToyasCard.lean, 'card_holds'). Laid BY PROGRAM, IN A SANDBOX (cutbox-door.mjs). By AI agents, Wed Nov 11 2026. No macro, syntax, notation, axiom, sorry.
-/
import Derived.Test.YtinkjpfkemkhaaaGreatDoorRows
import GoSem.ClaimSeven
namespace Go.Proofs.YtinkjpfkemkhaaaGreatDoor
namespace Rows

/-- THE TIED CARD OF 'laws.FnExactSpared'. -/
def fnExactSparedCard : Claim7 := { stood := { row := fnExactSparedRow, standIns := [], harness := (true, "927388484c02389c850939d99cb12d089c96c883bf77d281e748ea96a6935599"), looks := false }, kinds := [], alts := [], laidByText := true, laidKinds := [.data, .pinned], laidTests := true, laidLooks := .later }
def FnExactSparedCardSaid : Prop := Claim7.holds Tryz.pinned (.plain (OpenSpec.ofChange fnExactSparedSpec)) fnExactSparedCard

/-- THE TIED CARD OF 'laws.FnExactOrderedGroups'. -/
def fnExactOrderedGroupsCard : Claim7 := { stood := { row := fnExactOrderedGroupsRow, standIns := [], harness := (true, "927388484c02389c850939d99cb12d089c96c883bf77d281e748ea96a6935599"), looks := false }, kinds := [], alts := [], laidByText := true, laidKinds := [.data, .pinned], laidTests := true, laidLooks := .later }
def FnExactOrderedGroupsCardSaid : Prop := Claim7.holds Tryz.pinned (.plain (OpenSpec.ofChange fnExactOrderedGroupsSpec)) fnExactOrderedGroupsCard

/-- THE TIED CARD OF 'laws.FnExactSignsIn'. -/
def fnExactSignsInCard : Claim7 := { stood := { row := fnExactSignsInRow, standIns := [], harness := (true, "927388484c02389c850939d99cb12d089c96c883bf77d281e748ea96a6935599"), looks := false }, kinds := [], alts := [], laidByText := true, laidKinds := [.data, .pinned], laidTests := true, laidLooks := .later }
def FnExactSignsInCardSaid : Prop := Claim7.holds Tryz.pinned (.plain (OpenSpec.ofChange fnExactSignsInSpec)) fnExactSignsInCard

/-- THE TIED CARD OF 'laws.FnExactFoldsIn'. -/
def fnExactFoldsInCard : Claim7 := { stood := { row := fnExactFoldsInRow, standIns := [], harness := (true, "927388484c02389c850939d99cb12d089c96c883bf77d281e748ea96a6935599"), looks := false }, kinds := [], alts := [], laidByText := true, laidKinds := [.data, .data, .data, .data, .pinned], laidTests := true, laidLooks := .later }
def FnExactFoldsInCardSaid : Prop := Claim7.holds Tryz.pinned (.plain (OpenSpec.ofChange fnExactFoldsInSpec)) fnExactFoldsInCard

/-- THE TIED CARD OF 'laws.FnExactOrdered'. -/
def fnExactOrderedCard : Claim7 := { stood := { row := fnExactOrderedRow, standIns := [], harness := (true, "927388484c02389c850939d99cb12d089c96c883bf77d281e748ea96a6935599"), looks := false }, kinds := [], alts := [], laidByText := true, laidKinds := [.data, .pinned], laidTests := true, laidLooks := .later }
def FnExactOrderedCardSaid : Prop := Claim7.holds Tryz.pinned (.plain (OpenSpec.ofChange fnExactOrderedSpec)) fnExactOrderedCard

/-- THE TIED CARD OF 'laws.FnExactFolded'. -/
def fnExactFoldedCard : Claim7 := { stood := { row := fnExactFoldedRow, standIns := [], harness := (true, "927388484c02389c850939d99cb12d089c96c883bf77d281e748ea96a6935599"), looks := false }, kinds := [], alts := [], laidByText := true, laidKinds := [.data, .data, .data, .data, .pinned], laidTests := true, laidLooks := .later }
def FnExactFoldedCardSaid : Prop := Claim7.holds Tryz.pinned (.plain (OpenSpec.ofChange fnExactFoldedSpec)) fnExactFoldedCard

/-- THE TIED CARD OF 'laws.FnExactRunMethod'. -/
def fnExactRunMethodCard : Claim7 := { stood := { row := fnExactRunMethodRow, standIns := [], harness := (true, "927388484c02389c850939d99cb12d089c96c883bf77d281e748ea96a6935599"), looks := false }, kinds := [], alts := [], laidByText := true, laidKinds := [.data, .pinned], laidTests := true, laidLooks := .later }
def FnExactRunMethodCardSaid : Prop := Claim7.holds Tryz.pinned (.plain (OpenSpec.ofChange fnExactRunMethodSpec)) fnExactRunMethodCard

/-- THE TIED CARD OF 'laws.FnExactPieceOf'. -/
def fnExactPieceOfCard : Claim7 := { stood := { row := fnExactPieceOfRow, standIns := [], harness := (true, "927388484c02389c850939d99cb12d089c96c883bf77d281e748ea96a6935599"), looks := false }, kinds := [], alts := [], laidByText := true, laidKinds := [.data, .pinned], laidTests := true, laidLooks := .later }
def FnExactPieceOfCardSaid : Prop := Claim7.holds Tryz.pinned (.plain (OpenSpec.ofChange fnExactPieceOfSpec)) fnExactPieceOfCard

/-- THE SECOND FORM's CARD OF 'laws.FnExactSpared'. -/
def fnExactSparedUptoCard : Claim7 := { stood := { row := fnExactSparedUptoRow, standIns := [], harness := (true, "927388484c02389c850939d99cb12d089c96c883bf77d281e748ea96a6935599"), looks := false }, kinds := [], alts := [], laidByText := true, laidKinds := [.data, .pinned], laidTests := true, laidLooks := .later }
def FnExactSparedUptoCardSaid : Prop := Claim7.holds Tryz.pinned (.plain (OpenSpec.upto fnExactSparedSpec)) fnExactSparedUptoCard

/-- THE SECOND FORM's CARD OF 'laws.FnExactOrderedGroups'. -/
def fnExactOrderedGroupsUptoCard : Claim7 := { stood := { row := fnExactOrderedGroupsUptoRow, standIns := [], harness := (true, "927388484c02389c850939d99cb12d089c96c883bf77d281e748ea96a6935599"), looks := false }, kinds := [], alts := [], laidByText := true, laidKinds := [.data, .pinned], laidTests := true, laidLooks := .later }
def FnExactOrderedGroupsUptoCardSaid : Prop := Claim7.holds Tryz.pinned (.plain (OpenSpec.upto fnExactOrderedGroupsSpec)) fnExactOrderedGroupsUptoCard

/-- THE SECOND FORM's CARD OF 'laws.FnExactSignsIn'. -/
def fnExactSignsInUptoCard : Claim7 := { stood := { row := fnExactSignsInUptoRow, standIns := [], harness := (true, "927388484c02389c850939d99cb12d089c96c883bf77d281e748ea96a6935599"), looks := false }, kinds := [], alts := [], laidByText := true, laidKinds := [.data, .pinned], laidTests := true, laidLooks := .later }
def FnExactSignsInUptoCardSaid : Prop := Claim7.holds Tryz.pinned (.plain (OpenSpec.upto fnExactSignsInSpec)) fnExactSignsInUptoCard

/-- THE SECOND FORM's CARD OF 'laws.FnExactFoldsIn'. -/
def fnExactFoldsInUptoCard : Claim7 := { stood := { row := fnExactFoldsInUptoRow, standIns := [], harness := (true, "927388484c02389c850939d99cb12d089c96c883bf77d281e748ea96a6935599"), looks := false }, kinds := [], alts := [], laidByText := true, laidKinds := [.data, .data, .data, .data, .pinned], laidTests := true, laidLooks := .later }
def FnExactFoldsInUptoCardSaid : Prop := Claim7.holds Tryz.pinned (.plain (OpenSpec.upto fnExactFoldsInSpec)) fnExactFoldsInUptoCard

/-- THE SECOND FORM's CARD OF 'laws.FnExactOrdered'. -/
def fnExactOrderedUptoCard : Claim7 := { stood := { row := fnExactOrderedUptoRow, standIns := [], harness := (true, "927388484c02389c850939d99cb12d089c96c883bf77d281e748ea96a6935599"), looks := false }, kinds := [], alts := [], laidByText := true, laidKinds := [.data, .pinned], laidTests := true, laidLooks := .later }
def FnExactOrderedUptoCardSaid : Prop := Claim7.holds Tryz.pinned (.plain (OpenSpec.upto fnExactOrderedSpec)) fnExactOrderedUptoCard

/-- THE SECOND FORM's CARD OF 'laws.FnExactFolded'. -/
def fnExactFoldedUptoCard : Claim7 := { stood := { row := fnExactFoldedUptoRow, standIns := [], harness := (true, "927388484c02389c850939d99cb12d089c96c883bf77d281e748ea96a6935599"), looks := false }, kinds := [], alts := [], laidByText := true, laidKinds := [.data, .data, .data, .data, .pinned], laidTests := true, laidLooks := .later }
def FnExactFoldedUptoCardSaid : Prop := Claim7.holds Tryz.pinned (.plain (OpenSpec.upto fnExactFoldedSpec)) fnExactFoldedUptoCard

/-- THE SECOND FORM's CARD OF 'laws.FnExactRunMethod'. -/
def fnExactRunMethodUptoCard : Claim7 := { stood := { row := fnExactRunMethodUptoRow, standIns := [], harness := (true, "927388484c02389c850939d99cb12d089c96c883bf77d281e748ea96a6935599"), looks := false }, kinds := [], alts := [], laidByText := true, laidKinds := [.data, .pinned], laidTests := true, laidLooks := .later }
def FnExactRunMethodUptoCardSaid : Prop := Claim7.holds Tryz.pinned (.plain (OpenSpec.upto fnExactRunMethodSpec)) fnExactRunMethodUptoCard

/-- THE SECOND FORM's CARD OF 'laws.FnExactPieceOf'. -/
def fnExactPieceOfUptoCard : Claim7 := { stood := { row := fnExactPieceOfUptoRow, standIns := [], harness := (true, "927388484c02389c850939d99cb12d089c96c883bf77d281e748ea96a6935599"), looks := false }, kinds := [], alts := [], laidByText := true, laidKinds := [.data, .pinned], laidTests := true, laidLooks := .later }
def FnExactPieceOfUptoCardSaid : Prop := Claim7.holds Tryz.pinned (.plain (OpenSpec.upto fnExactPieceOfSpec)) fnExactPieceOfUptoCard
end Rows
end Go.Proofs.YtinkjpfkemkhaaaGreatDoor
