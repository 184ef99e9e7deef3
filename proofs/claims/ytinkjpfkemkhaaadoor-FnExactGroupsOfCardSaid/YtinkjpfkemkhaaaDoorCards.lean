/-
  DERIVED. GIVEN WITH THE SEED: THE CARDS: each row of YtinkjpfkemkhaaaDoorRows.lean that lists a variable, with what it lists TIED to the program's text (the seventh form; the later family's looks); each row that meets fmt, with fmt's text TOLD by the authors' own Lean function (tested against real Go, not proved from fmt's source: count such statements apart). THE CARD IS WHAT COUNTS. Prove the row's statement (the work); the ties are given (YtinkjpfkemkhaaaDoorTie.lean); close each card by the builder's one call (the guide's Derived/Test/ToyasCard.lean, 'card_holds'). Laid BY PROGRAM, IN A SANDBOX (cutbox-door.mjs). By AI agents, Wed Nov 11 2026. No macro, syntax, notation, axiom, sorry.
-/
import Derived.Test.YtinkjpfkemkhaaaDoorRows
import GoSem.ClaimSeven
namespace Go.Proofs.YtinkjpfkemkhaaaDoor
namespace Rows

/-- THE TIED CARD OF 'laws.FnExactConstOf'. -/
def fnExactConstOfCard : Claim7 := { stood := { row := fnExactConstOfRow, standIns := [], harness := (true, "d441928f21993a0364eac0c68eeeee11e4c0ad1f42e2171b92a8a929f0c8b684"), looks := false }, kinds := [], alts := [], laidByText := true, laidKinds := [.data, .pinned], laidTests := true, laidLooks := .later }
def FnExactConstOfCardSaid : Prop := Claim7.holds Tryd.pinned (.plain (OpenSpec.ofChange fnExactConstOfSpec)) fnExactConstOfCard

/-- THE TIED CARD OF 'laws.FnExactFoldable'. -/
def fnExactFoldableCard : Claim7 := { stood := { row := fnExactFoldableRow, standIns := [], harness := (true, "d441928f21993a0364eac0c68eeeee11e4c0ad1f42e2171b92a8a929f0c8b684"), looks := false }, kinds := [], alts := [], laidByText := true, laidKinds := [.data, .pinned], laidTests := true, laidLooks := .later }
def FnExactFoldableCardSaid : Prop := Claim7.holds Tryd.pinned (.plain (OpenSpec.ofChange fnExactFoldableSpec)) fnExactFoldableCard

/-- THE TIED CARD OF 'laws.FnExactIsOrdered'. -/
def fnExactIsOrderedCard : Claim7 := { stood := { row := fnExactIsOrderedRow, standIns := [], harness := (true, "d441928f21993a0364eac0c68eeeee11e4c0ad1f42e2171b92a8a929f0c8b684"), looks := false }, kinds := [], alts := [], laidByText := true, laidKinds := [.data, .pinned], laidTests := true, laidLooks := .later }
def FnExactIsOrderedCardSaid : Prop := Claim7.holds Tryd.pinned (.plain (OpenSpec.ofChange fnExactIsOrderedSpec)) fnExactIsOrderedCard

/-- THE TIED CARD OF 'laws.FnExactGroupsOf'. -/
def fnExactGroupsOfCard : Claim7 := { stood := { row := fnExactGroupsOfRow, standIns := [], harness := (true, "d441928f21993a0364eac0c68eeeee11e4c0ad1f42e2171b92a8a929f0c8b684"), looks := false }, kinds := [], alts := [], laidByText := true, laidKinds := [.data, .pinned], laidTests := true, laidLooks := .later }
def FnExactGroupsOfCardSaid : Prop := Claim7.holds Tryd.pinned (.plain (OpenSpec.ofChange fnExactGroupsOfSpec)) fnExactGroupsOfCard

/-- THE SECOND FORM's CARD OF 'laws.FnExactConstOf'. -/
def fnExactConstOfUptoCard : Claim7 := { stood := { row := fnExactConstOfUptoRow, standIns := [], harness := (true, "d441928f21993a0364eac0c68eeeee11e4c0ad1f42e2171b92a8a929f0c8b684"), looks := false }, kinds := [], alts := [], laidByText := true, laidKinds := [.data, .pinned], laidTests := true, laidLooks := .later }
def FnExactConstOfUptoCardSaid : Prop := Claim7.holds Tryd.pinned (.plain (OpenSpec.upto fnExactConstOfSpec)) fnExactConstOfUptoCard

/-- THE SECOND FORM's CARD OF 'laws.FnExactFoldable'. -/
def fnExactFoldableUptoCard : Claim7 := { stood := { row := fnExactFoldableUptoRow, standIns := [], harness := (true, "d441928f21993a0364eac0c68eeeee11e4c0ad1f42e2171b92a8a929f0c8b684"), looks := false }, kinds := [], alts := [], laidByText := true, laidKinds := [.data, .pinned], laidTests := true, laidLooks := .later }
def FnExactFoldableUptoCardSaid : Prop := Claim7.holds Tryd.pinned (.plain (OpenSpec.upto fnExactFoldableSpec)) fnExactFoldableUptoCard

/-- THE SECOND FORM's CARD OF 'laws.FnExactIsOrdered'. -/
def fnExactIsOrderedUptoCard : Claim7 := { stood := { row := fnExactIsOrderedUptoRow, standIns := [], harness := (true, "d441928f21993a0364eac0c68eeeee11e4c0ad1f42e2171b92a8a929f0c8b684"), looks := false }, kinds := [], alts := [], laidByText := true, laidKinds := [.data, .pinned], laidTests := true, laidLooks := .later }
def FnExactIsOrderedUptoCardSaid : Prop := Claim7.holds Tryd.pinned (.plain (OpenSpec.upto fnExactIsOrderedSpec)) fnExactIsOrderedUptoCard

/-- THE SECOND FORM's CARD OF 'laws.FnExactGroupsOf'. -/
def fnExactGroupsOfUptoCard : Claim7 := { stood := { row := fnExactGroupsOfUptoRow, standIns := [], harness := (true, "d441928f21993a0364eac0c68eeeee11e4c0ad1f42e2171b92a8a929f0c8b684"), looks := false }, kinds := [], alts := [], laidByText := true, laidKinds := [.data, .pinned], laidTests := true, laidLooks := .later }
def FnExactGroupsOfUptoCardSaid : Prop := Claim7.holds Tryd.pinned (.plain (OpenSpec.upto fnExactGroupsOfSpec)) fnExactGroupsOfUptoCard
end Rows
end Go.Proofs.YtinkjpfkemkhaaaDoor
