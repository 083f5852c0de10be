/-
  DERIVED. GIVEN WITH THE SEED: THE CARDS: each row of YtnghikjbjlmpaaaGreatDoorRows.lean that lists a variable, with what it lists TIED to the program's text (the seventh form; the later family's looks); each row that meets fmt, with fmt's text TOLD by the authors' own Lean function (tested against real Go, not proved from fmt's source: count such statements apart). THE CARD IS WHAT COUNTS. Prove the row's statement (the work); the ties are given (YtnghikjbjlmpaaaGreatDoorTie.lean); close each card by the builder's one call (the guide's Derived/Test/ToyasCard.lean, 'card_holds'). Laid BY PROGRAM, IN A SANDBOX (cutbox-door.mjs). By AI agents, Wed Nov 11 2026. No macro, syntax, notation, axiom, sorry.
-/
import Derived.Test.YtnghikjbjlmpaaaGreatDoorRows
import GoSem.ClaimSeven
namespace Go.Proofs.YtnghikjbjlmpaaaGreatDoor
namespace Rows

/-- THE TIED CARD OF 'saturatelaw20.AnalysisNil'. -/
def analysisNilCard : Claim7 := { stood := { row := analysisNilRow, standIns := [], harness := (true, "b2ba640d58cc2e46662bd440f42c97708a4a53c943e0d7f0f3edd52ee88dfff5"), looks := false }, kinds := [], alts := [], laidByText := true, laidKinds := [.data, .data, .data], laidTests := true, laidLooks := .later }
def AnalysisNilCardSaid : Prop := Claim7.holds Tryz.pinned (.plain (OpenSpec.ofChange analysisNilSpec)) analysisNilCard

/-- THE SECOND FORM's CARD OF 'saturatelaw20.AnalysisNil'. -/
def analysisNilUptoCard : Claim7 := { stood := { row := analysisNilUptoRow, standIns := [], harness := (true, "b2ba640d58cc2e46662bd440f42c97708a4a53c943e0d7f0f3edd52ee88dfff5"), looks := false }, kinds := [], alts := [], laidByText := true, laidKinds := [.data, .data, .data], laidTests := true, laidLooks := .later }
def AnalysisNilUptoCardSaid : Prop := Claim7.holds Tryz.pinned (.plain (OpenSpec.upto analysisNilSpec)) analysisNilUptoCard
end Rows
end Go.Proofs.YtnghikjbjlmpaaaGreatDoor
