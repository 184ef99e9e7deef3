/-
  DERIVED. GIVEN WITH THE SEED: THE CARDS: each row of YtblmpjljedglaaaGreatDoorRows.lean that lists a variable, with what it lists TIED to the program's text (the seventh form; the later family's looks); each row that meets fmt, with fmt's text TOLD by the authors' own Lean function (tested against real Go, not proved from fmt's source: count such statements apart). THE CARD IS WHAT COUNTS. Prove the row's statement (the work); the ties are given (YtblmpjljedglaaaGreatDoorTie.lean); close each card by the builder's one call (the guide's Derived/Test/ToyasCard.lean, 'card_holds'). Laid BY PROGRAM, IN A SANDBOX (cutbox-door.mjs). By AI agents, Wed Nov 11 2026. No macro, syntax, notation, axiom, sorry.
-/
import Derived.Test.YtblmpjljedglaaaGreatDoorRows
import GoSem.ClaimSeven
namespace Go.Proofs.YtblmpjljedglaaaGreatDoor
namespace Rows

/-- THE TIED CARD OF 'laws.FnBuilds'. -/
def fnBuildsCard : Claim7 := { stood := { row := fnBuildsRow, standIns := [], harness := (true, "89e0bdf3bf2f055532e3ad2a205c598ac582656044c1d651a7fb07761f3098b8"), looks := false }, kinds := [], alts := [], laidByText := true, laidKinds := [.data, .pinned], laidTests := true, laidLooks := .later }
def FnBuildsCardSaid : Prop := Claim7.holds Tryz.pinned (.plain (OpenSpec.ofChange fnBuildsSpec)) fnBuildsCard

/-- THE TIED CARD OF 'laws.FnExactWriteNode'. -/
def fnExactWriteNodeCard : Claim7 := { stood := { row := fnExactWriteNodeRow, standIns := [], harness := (true, "89e0bdf3bf2f055532e3ad2a205c598ac582656044c1d651a7fb07761f3098b8"), looks := false }, kinds := [], alts := [], laidByText := true, laidKinds := [.data, .pinned], laidTests := true, laidLooks := .later }
def FnExactWriteNodeCardSaid : Prop := Claim7.holds Tryz.pinned (.plain (OpenSpec.ofChange fnExactWriteNodeSpec)) fnExactWriteNodeCard

/-- THE TIED CARD OF 'laws.FnExactWriteFile'. -/
def fnExactWriteFileCard : Claim7 := { stood := { row := fnExactWriteFileRow, standIns := [], harness := (true, "89e0bdf3bf2f055532e3ad2a205c598ac582656044c1d651a7fb07761f3098b8"), looks := false }, kinds := [], alts := [], laidByText := true, laidKinds := [.data, .pinned], laidTests := true, laidLooks := .later }
def FnExactWriteFileCardSaid : Prop := Claim7.holds Tryz.pinned (.plain (OpenSpec.ofChange fnExactWriteFileSpec)) fnExactWriteFileCard

/-- THE SECOND FORM's CARD OF 'laws.FnBuilds'. -/
def fnBuildsUptoCard : Claim7 := { stood := { row := fnBuildsUptoRow, standIns := [], harness := (true, "89e0bdf3bf2f055532e3ad2a205c598ac582656044c1d651a7fb07761f3098b8"), looks := false }, kinds := [], alts := [], laidByText := true, laidKinds := [.data, .pinned], laidTests := true, laidLooks := .later }
def FnBuildsUptoCardSaid : Prop := Claim7.holds Tryz.pinned (.plain (OpenSpec.upto fnBuildsSpec)) fnBuildsUptoCard

/-- THE SECOND FORM's CARD OF 'laws.FnExactWriteNode'. -/
def fnExactWriteNodeUptoCard : Claim7 := { stood := { row := fnExactWriteNodeUptoRow, standIns := [], harness := (true, "89e0bdf3bf2f055532e3ad2a205c598ac582656044c1d651a7fb07761f3098b8"), looks := false }, kinds := [], alts := [], laidByText := true, laidKinds := [.data, .pinned], laidTests := true, laidLooks := .later }
def FnExactWriteNodeUptoCardSaid : Prop := Claim7.holds Tryz.pinned (.plain (OpenSpec.upto fnExactWriteNodeSpec)) fnExactWriteNodeUptoCard

/-- THE SECOND FORM's CARD OF 'laws.FnExactWriteFile'. -/
def fnExactWriteFileUptoCard : Claim7 := { stood := { row := fnExactWriteFileUptoRow, standIns := [], harness := (true, "89e0bdf3bf2f055532e3ad2a205c598ac582656044c1d651a7fb07761f3098b8"), looks := false }, kinds := [], alts := [], laidByText := true, laidKinds := [.data, .pinned], laidTests := true, laidLooks := .later }
def FnExactWriteFileUptoCardSaid : Prop := Claim7.holds Tryz.pinned (.plain (OpenSpec.upto fnExactWriteFileSpec)) fnExactWriteFileUptoCard
end Rows
end Go.Proofs.YtblmpjljedglaaaGreatDoor
