/-
  DERIVED. GIVEN WITH THE SEED: THE CARDS: each row of YtfmoohdaimlggaaGreatDoorRows.lean that lists a variable, with what it lists TIED to the program's text (the seventh form; the later family's looks); each row that meets fmt, with fmt's text TOLD by the authors' own Lean function (tested against real Go, not proved from fmt's source: count such statements apart). THE CARD IS WHAT COUNTS. Prove the row's statement (the work); the ties are given (YtfmoohdaimlggaaGreatDoorTie.lean); close each card by the builder's one call (the guide's Derived/Test/ToyasCard.lean, 'card_holds'). Laid BY PROGRAM, IN A SANDBOX (cutbox-door.mjs). By AI agents, Wed Nov 11 2026. No macro, syntax, notation, axiom, sorry.
-/
import Derived.Test.YtfmoohdaimlggaaGreatDoorRows
import GoSem.ClaimSeven
namespace Go.Proofs.YtfmoohdaimlggaaGreatDoor
namespace Rows

/-- THE TIED CARD OF 'saturatelaw27.GuardChecks'. -/
def guardChecksCard : Claim7 := { stood := { row := guardChecksRow, standIns := [], harness := (true, "b33c5f87f66f03fcd88950e0ee61bca486aa7094f21560d0d44fc60b542af9ce"), looks := false }, kinds := [], alts := [], laidByText := true, laidKinds := [.data, .data, .data], laidTests := true, laidLooks := .later }
def GuardChecksCardSaid : Prop := Claim7.holds Tryz.pinned (.plain (OpenSpec.ofChange guardChecksSpec)) guardChecksCard

/-- THE TIED CARD OF 'saturatelaw27.GuardValues'. -/
def guardValuesCard : Claim7 := { stood := { row := guardValuesRow, standIns := [], harness := (true, "b33c5f87f66f03fcd88950e0ee61bca486aa7094f21560d0d44fc60b542af9ce"), looks := false }, kinds := [], alts := [], laidByText := true, laidKinds := [.data, .data, .data], laidTests := true, laidLooks := .later }
def GuardValuesCardSaid : Prop := Claim7.holds Tryz.pinned (.plain (OpenSpec.ofChange guardValuesSpec)) guardValuesCard

/-- THE SECOND FORM's CARD OF 'saturatelaw27.GuardChecks'. -/
def guardChecksUptoCard : Claim7 := { stood := { row := guardChecksUptoRow, standIns := [], harness := (true, "b33c5f87f66f03fcd88950e0ee61bca486aa7094f21560d0d44fc60b542af9ce"), looks := false }, kinds := [], alts := [], laidByText := true, laidKinds := [.data, .data, .data], laidTests := true, laidLooks := .later }
def GuardChecksUptoCardSaid : Prop := Claim7.holds Tryz.pinned (.plain (OpenSpec.upto guardChecksSpec)) guardChecksUptoCard

/-- THE SECOND FORM's CARD OF 'saturatelaw27.GuardValues'. -/
def guardValuesUptoCard : Claim7 := { stood := { row := guardValuesUptoRow, standIns := [], harness := (true, "b33c5f87f66f03fcd88950e0ee61bca486aa7094f21560d0d44fc60b542af9ce"), looks := false }, kinds := [], alts := [], laidByText := true, laidKinds := [.data, .data, .data], laidTests := true, laidLooks := .later }
def GuardValuesUptoCardSaid : Prop := Claim7.holds Tryz.pinned (.plain (OpenSpec.upto guardValuesSpec)) guardValuesUptoCard
end Rows
end Go.Proofs.YtfmoohdaimlggaaGreatDoor
