/-
  DERIVED. GIVEN WITH THE SEED: THE CARDS: each row of YtglbamflbnldhaaGreatDoorRows.lean that lists a variable, with what it lists TIED to the program's text (the seventh form; the later family's looks); each row that meets fmt, with fmt's text TOLD by the authors' own Lean function (tested against real Go, not proved from fmt's source: count such statements apart). THE CARD IS WHAT COUNTS. Prove the row's statement (the work); the ties are given (YtglbamflbnldhaaGreatDoorTie.lean); close each card by the builder's one call (the guide's Derived/Test/ToyasCard.lean, 'card_holds'). Laid BY PROGRAM, IN A SANDBOX (cutbox-door.mjs). By AI agents, Wed Nov 11 2026. No macro, syntax, notation, axiom, sorry.
-/
import Derived.Test.YtglbamflbnldhaaGreatDoorRows
import GoSem.ClaimSeven
namespace Go.Proofs.YtglbamflbnldhaaGreatDoor
namespace Rows

/-- THE TIED CARD OF 'laws.FnOrdersRun'. -/
def fnOrdersRunCard : Claim7 := { stood := { row := fnOrdersRunRow, standIns := [], harness := (true, "ae0b5e43f0650d4f95fd84f18e880d26b8db46774128641605cadfa0e84bd7fd"), looks := false }, kinds := [], alts := [], laidByText := true, laidKinds := [.data, .pinned], laidTests := true, laidLooks := .later }
def FnOrdersRunCardSaid : Prop := Claim7.holds Tryz.pinned (.plain (OpenSpec.ofChange fnOrdersRunSpec)) fnOrdersRunCard

/-- THE TIED CARD OF 'laws.FnFolds'. -/
def fnFoldsCard : Claim7 := { stood := { row := fnFoldsRow, standIns := [], harness := (true, "ae0b5e43f0650d4f95fd84f18e880d26b8db46774128641605cadfa0e84bd7fd"), looks := false }, kinds := [], alts := [], laidByText := true, laidKinds := [.data, .data, .data, .data, .pinned], laidTests := true, laidLooks := .later }
def FnFoldsCardSaid : Prop := Claim7.holds Tryz.pinned (.plain (OpenSpec.ofChange fnFoldsSpec)) fnFoldsCard

/-- THE TIED CARD OF 'laws.FnRunsFew'. -/
def fnRunsFewCard : Claim7 := { stood := { row := fnRunsFewRow, standIns := [], harness := (true, "ae0b5e43f0650d4f95fd84f18e880d26b8db46774128641605cadfa0e84bd7fd"), looks := false }, kinds := [], alts := [], laidByText := true, laidKinds := [.data, .pinned], laidTests := true, laidLooks := .later }
def FnRunsFewCardSaid : Prop := Claim7.holds Tryz.pinned (.plain (OpenSpec.ofChange fnRunsFewSpec)) fnRunsFewCard

/-- THE SECOND FORM's CARD OF 'laws.FnOrdersRun'. -/
def fnOrdersRunUptoCard : Claim7 := { stood := { row := fnOrdersRunUptoRow, standIns := [], harness := (true, "ae0b5e43f0650d4f95fd84f18e880d26b8db46774128641605cadfa0e84bd7fd"), looks := false }, kinds := [], alts := [], laidByText := true, laidKinds := [.data, .pinned], laidTests := true, laidLooks := .later }
def FnOrdersRunUptoCardSaid : Prop := Claim7.holds Tryz.pinned (.plain (OpenSpec.upto fnOrdersRunSpec)) fnOrdersRunUptoCard

/-- THE SECOND FORM's CARD OF 'laws.FnFolds'. -/
def fnFoldsUptoCard : Claim7 := { stood := { row := fnFoldsUptoRow, standIns := [], harness := (true, "ae0b5e43f0650d4f95fd84f18e880d26b8db46774128641605cadfa0e84bd7fd"), looks := false }, kinds := [], alts := [], laidByText := true, laidKinds := [.data, .data, .data, .data, .pinned], laidTests := true, laidLooks := .later }
def FnFoldsUptoCardSaid : Prop := Claim7.holds Tryz.pinned (.plain (OpenSpec.upto fnFoldsSpec)) fnFoldsUptoCard

/-- THE SECOND FORM's CARD OF 'laws.FnRunsFew'. -/
def fnRunsFewUptoCard : Claim7 := { stood := { row := fnRunsFewUptoRow, standIns := [], harness := (true, "ae0b5e43f0650d4f95fd84f18e880d26b8db46774128641605cadfa0e84bd7fd"), looks := false }, kinds := [], alts := [], laidByText := true, laidKinds := [.data, .pinned], laidTests := true, laidLooks := .later }
def FnRunsFewUptoCardSaid : Prop := Claim7.holds Tryz.pinned (.plain (OpenSpec.upto fnRunsFewSpec)) fnRunsFewUptoCard
end Rows
end Go.Proofs.YtglbamflbnldhaaGreatDoor
