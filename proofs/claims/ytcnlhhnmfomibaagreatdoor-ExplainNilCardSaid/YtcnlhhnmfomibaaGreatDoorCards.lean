/-
  DERIVED. GIVEN WITH THE SEED: THE CARDS: each row of YtcnlhhnmfomibaaGreatDoorRows.lean that lists a variable, with what it lists TIED to the program's text (the seventh form; the later family's looks); each row that meets fmt, with fmt's text TOLD by the authors' own Lean function (tested against real Go, not proved from fmt's source: count such statements apart). THE CARD IS WHAT COUNTS. Prove the row's statement (the work); the ties are given (YtcnlhhnmfomibaaGreatDoorTie.lean); close each card by the builder's one call (the guide's Derived/Test/ToyasCard.lean, 'card_holds'). Laid BY PROGRAM, IN A SANDBOX (cutbox-door.mjs). By AI agents, Wed Nov 11 2026. No macro, syntax, notation, axiom, sorry.
-/
import Derived.Test.YtcnlhhnmfomibaaGreatDoorRows
import GoSem.ClaimSeven
namespace Go.Proofs.YtcnlhhnmfomibaaGreatDoor
namespace Rows

/-- THE TIED CARD OF 'saturatelaw37.ExplainNil'. -/
def explainNilCard : Claim7 := { stood := { row := explainNilRow, standIns := [], harness := (true, "7325a0e653b06c1bc7ccabc6cd9172bfe368a569bb9babdff48a0ee245624b5f"), looks := false }, kinds := [], alts := [], laidByText := true, laidKinds := [.data, .data, .data, .data], laidTests := true, laidLooks := .later }
def ExplainNilCardSaid : Prop := Claim7.holds Tryz.pinned (.plain (OpenSpec.ofChange explainNilSpec)) explainNilCard

/-- THE SECOND FORM's CARD OF 'saturatelaw37.ExplainNil'. -/
def explainNilUptoCard : Claim7 := { stood := { row := explainNilUptoRow, standIns := [], harness := (true, "7325a0e653b06c1bc7ccabc6cd9172bfe368a569bb9babdff48a0ee245624b5f"), looks := false }, kinds := [], alts := [], laidByText := true, laidKinds := [.data, .data, .data, .data], laidTests := true, laidLooks := .later }
def ExplainNilUptoCardSaid : Prop := Claim7.holds Tryz.pinned (.plain (OpenSpec.upto explainNilSpec)) explainNilUptoCard
end Rows
end Go.Proofs.YtcnlhhnmfomibaaGreatDoor
