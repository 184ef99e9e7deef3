/-
  DERIVED. GIVEN WITH THE SEED: THE CARDS: each row of YtplklcfglbkfhaaGreatDoorRows.lean that lists a variable, with what it lists TIED to the program's text (the seventh form; the later family's looks); each row that meets fmt, with fmt's text TOLD by the authors' own Lean function (tested against real Go, not proved from fmt's source: count such statements apart). THE CARD IS WHAT COUNTS. Prove the row's statement (the work); the ties are given (YtplklcfglbkfhaaGreatDoorTie.lean); close each card by the builder's one call (the guide's Derived/Test/ToyasCard.lean, 'card_holds'). Laid BY PROGRAM, IN A SANDBOX (cutbox-door.mjs). By AI agents, Wed Nov 11 2026. No macro, syntax, notation, axiom, sorry.
-/
import Derived.Test.YtplklcfglbkfhaaGreatDoorRows
import GoSem.ClaimSeven
namespace Go.Proofs.YtplklcfglbkfhaaGreatDoor
namespace Rows

/-- THE TIED CARD OF 'laws.FnTrees'. -/
def fnTreesCard : Claim7 := { stood := { row := fnTreesRow, standIns := [], harness := (true, "b568ae52853f0db509f057595630dbcaca6d7337a8d0ce0511c3c38d93666a31"), looks := false }, kinds := [], alts := [], laidByText := true, laidKinds := [.data, .pinned], laidTests := true, laidLooks := .later }
def FnTreesCardSaid : Prop := Claim7.holds Tryz.pinned (.plain (OpenSpec.ofChange fnTreesSpec)) fnTreesCard

/-- THE TIED CARD OF 'laws.FnNames'. -/
def fnNamesCard : Claim7 := { stood := { row := fnNamesRow, standIns := [], harness := (true, "b568ae52853f0db509f057595630dbcaca6d7337a8d0ce0511c3c38d93666a31"), looks := false }, kinds := [], alts := [], laidByText := true, laidKinds := [.data, .data, .data, .data, .pinned], laidTests := true, laidLooks := .later }
def FnNamesCardSaid : Prop := Claim7.holds Tryz.pinned (.plain (OpenSpec.ofChange fnNamesSpec)) fnNamesCard

/-- THE TIED CARD OF 'laws.FnNamesTold'. -/
def fnNamesToldCard : Claim7 := { stood := { row := fnNamesToldRow, standIns := [], harness := (true, "b568ae52853f0db509f057595630dbcaca6d7337a8d0ce0511c3c38d93666a31"), looks := false }, kinds := [], alts := [], laidByText := true, laidKinds := [.data, .data, .data, .data, .pinned], laidTests := true, laidLooks := .later }
def FnNamesToldCardSaid : Prop := Claim7.holds Tryz.pinned (.plain (OpenSpec.ofChange fnNamesToldSpec)) fnNamesToldCard

/-- THE SECOND FORM's CARD OF 'laws.FnTrees'. -/
def fnTreesUptoCard : Claim7 := { stood := { row := fnTreesUptoRow, standIns := [], harness := (true, "b568ae52853f0db509f057595630dbcaca6d7337a8d0ce0511c3c38d93666a31"), looks := false }, kinds := [], alts := [], laidByText := true, laidKinds := [.data, .pinned], laidTests := true, laidLooks := .later }
def FnTreesUptoCardSaid : Prop := Claim7.holds Tryz.pinned (.plain (OpenSpec.upto fnTreesSpec)) fnTreesUptoCard

/-- THE SECOND FORM's CARD OF 'laws.FnNames'. -/
def fnNamesUptoCard : Claim7 := { stood := { row := fnNamesUptoRow, standIns := [], harness := (true, "b568ae52853f0db509f057595630dbcaca6d7337a8d0ce0511c3c38d93666a31"), looks := false }, kinds := [], alts := [], laidByText := true, laidKinds := [.data, .data, .data, .data, .pinned], laidTests := true, laidLooks := .later }
def FnNamesUptoCardSaid : Prop := Claim7.holds Tryz.pinned (.plain (OpenSpec.upto fnNamesSpec)) fnNamesUptoCard

/-- THE SECOND FORM's CARD OF 'laws.FnNamesTold'. -/
def fnNamesToldUptoCard : Claim7 := { stood := { row := fnNamesToldUptoRow, standIns := [], harness := (true, "b568ae52853f0db509f057595630dbcaca6d7337a8d0ce0511c3c38d93666a31"), looks := false }, kinds := [], alts := [], laidByText := true, laidKinds := [.data, .data, .data, .data, .pinned], laidTests := true, laidLooks := .later }
def FnNamesToldUptoCardSaid : Prop := Claim7.holds Tryz.pinned (.plain (OpenSpec.upto fnNamesToldSpec)) fnNamesToldUptoCard
end Rows
end Go.Proofs.YtplklcfglbkfhaaGreatDoor
