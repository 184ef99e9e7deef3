/-
  DERIVED. GIVEN WITH THE SEED: THE CARDS: each row of YtaenadacepeagaaGreatDoorRows.lean that lists a variable, with what it lists TIED to the program's text (the seventh form; the later family's looks); each row that meets fmt, with fmt's text TOLD by the authors' own Lean function (tested against real Go, not proved from fmt's source: count such statements apart). THE CARD IS WHAT COUNTS. Prove the row's statement (the work); the ties are given (YtaenadacepeagaaGreatDoorTie.lean); close each card by the builder's one call (the guide's Derived/Test/ToyasCard.lean, 'card_holds'). Laid BY PROGRAM, IN A SANDBOX (cutbox-door.mjs). By AI agents, Wed Nov 11 2026. No macro, syntax, notation, axiom, sorry.
-/
import Derived.Test.YtaenadacepeagaaGreatDoorRows
import GoSem.ClaimSeven
namespace Go.Proofs.YtaenadacepeagaaGreatDoor
namespace Rows

/-- THE TIED CARD OF 'laws.FnFlats'. -/
def fnFlatsCard : Claim7 := { stood := { row := fnFlatsRow, standIns := [], harness := (true, "a7f33bdd23c0f024e0275ee0571b4f585721120074219838a87bc20df54d45e7"), looks := false }, kinds := [], alts := [], laidByText := true, laidKinds := [.data, .pinned], laidTests := true, laidLooks := .later }
def FnFlatsCardSaid : Prop := Claim7.holds Tryz.pinned (.plain (OpenSpec.ofChange fnFlatsSpec)) fnFlatsCard

/-- THE SECOND FORM's CARD OF 'laws.FnFlats'. -/
def fnFlatsUptoCard : Claim7 := { stood := { row := fnFlatsUptoRow, standIns := [], harness := (true, "a7f33bdd23c0f024e0275ee0571b4f585721120074219838a87bc20df54d45e7"), looks := false }, kinds := [], alts := [], laidByText := true, laidKinds := [.data, .pinned], laidTests := true, laidLooks := .later }
def FnFlatsUptoCardSaid : Prop := Claim7.holds Tryz.pinned (.plain (OpenSpec.upto fnFlatsSpec)) fnFlatsUptoCard
end Rows
end Go.Proofs.YtaenadacepeagaaGreatDoor
