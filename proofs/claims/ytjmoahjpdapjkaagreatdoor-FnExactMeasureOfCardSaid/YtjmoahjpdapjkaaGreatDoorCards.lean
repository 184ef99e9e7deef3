/-
  DERIVED. GIVEN WITH THE SEED: THE CARDS: each row of YtjmoahjpdapjkaaGreatDoorRows.lean that lists a variable, with what it lists TIED to the program's text (the seventh form; the later family's looks); each row that meets fmt, with fmt's text TOLD by the authors' own Lean function (tested against real Go, not proved from fmt's source: count such statements apart). THE CARD IS WHAT COUNTS. Prove the row's statement (the work); the ties are given (YtjmoahjpdapjkaaGreatDoorTie.lean); close each card by the builder's one call (the guide's Derived/Test/ToyasCard.lean, 'card_holds'). Laid BY PROGRAM, IN A SANDBOX (cutbox-door.mjs). By AI agents, Wed Nov 11 2026. No macro, syntax, notation, axiom, sorry.
-/
import Derived.Test.YtjmoahjpdapjkaaGreatDoorRows
import GoSem.ClaimSeven
namespace Go.Proofs.YtjmoahjpdapjkaaGreatDoor
namespace Rows

/-- THE TIED CARD OF 'laws.FnExactKept'. -/
def fnExactKeptCard : Claim7 := { stood := { row := fnExactKeptRow, standIns := [], harness := (true, "5df6d81c6d7728fbeed38f72e097cbe26e2a3febeae79a2d2cde9063849da026"), looks := false }, kinds := [], alts := [], laidByText := true, laidKinds := [.data, .pinned], laidTests := true, laidLooks := .later }
def FnExactKeptCardSaid : Prop := Claim7.holds Tryz.pinned (.plain (OpenSpec.ofChange fnExactKeptSpec)) fnExactKeptCard

/-- THE TIED CARD OF 'laws.FnExactMeasureOf'. -/
def fnExactMeasureOfCard : Claim7 := { stood := { row := fnExactMeasureOfRow, standIns := [], harness := (true, "5df6d81c6d7728fbeed38f72e097cbe26e2a3febeae79a2d2cde9063849da026"), looks := false }, kinds := [], alts := [], laidByText := true, laidKinds := [.data, .pinned], laidTests := true, laidLooks := .later }
def FnExactMeasureOfCardSaid : Prop := Claim7.holds Tryz.pinned (.plain (OpenSpec.ofChange fnExactMeasureOfSpec)) fnExactMeasureOfCard

/-- THE TIED CARD OF 'laws.FnExactMembersOf'. -/
def fnExactMembersOfCard : Claim7 := { stood := { row := fnExactMembersOfRow, standIns := [], harness := (true, "5df6d81c6d7728fbeed38f72e097cbe26e2a3febeae79a2d2cde9063849da026"), looks := false }, kinds := [], alts := [], laidByText := true, laidKinds := [.data, .pinned], laidTests := true, laidLooks := .later }
def FnExactMembersOfCardSaid : Prop := Claim7.holds Tryz.pinned (.plain (OpenSpec.ofChange fnExactMembersOfSpec)) fnExactMembersOfCard

/-- THE SECOND FORM's CARD OF 'laws.FnExactKept'. -/
def fnExactKeptUptoCard : Claim7 := { stood := { row := fnExactKeptUptoRow, standIns := [], harness := (true, "5df6d81c6d7728fbeed38f72e097cbe26e2a3febeae79a2d2cde9063849da026"), looks := false }, kinds := [], alts := [], laidByText := true, laidKinds := [.data, .pinned], laidTests := true, laidLooks := .later }
def FnExactKeptUptoCardSaid : Prop := Claim7.holds Tryz.pinned (.plain (OpenSpec.upto fnExactKeptSpec)) fnExactKeptUptoCard

/-- THE SECOND FORM's CARD OF 'laws.FnExactMeasureOf'. -/
def fnExactMeasureOfUptoCard : Claim7 := { stood := { row := fnExactMeasureOfUptoRow, standIns := [], harness := (true, "5df6d81c6d7728fbeed38f72e097cbe26e2a3febeae79a2d2cde9063849da026"), looks := false }, kinds := [], alts := [], laidByText := true, laidKinds := [.data, .pinned], laidTests := true, laidLooks := .later }
def FnExactMeasureOfUptoCardSaid : Prop := Claim7.holds Tryz.pinned (.plain (OpenSpec.upto fnExactMeasureOfSpec)) fnExactMeasureOfUptoCard

/-- THE SECOND FORM's CARD OF 'laws.FnExactMembersOf'. -/
def fnExactMembersOfUptoCard : Claim7 := { stood := { row := fnExactMembersOfUptoRow, standIns := [], harness := (true, "5df6d81c6d7728fbeed38f72e097cbe26e2a3febeae79a2d2cde9063849da026"), looks := false }, kinds := [], alts := [], laidByText := true, laidKinds := [.data, .pinned], laidTests := true, laidLooks := .later }
def FnExactMembersOfUptoCardSaid : Prop := Claim7.holds Tryz.pinned (.plain (OpenSpec.upto fnExactMembersOfSpec)) fnExactMembersOfUptoCard
end Rows
end Go.Proofs.YtjmoahjpdapjkaaGreatDoor
