/-
  DERIVED. GIVEN WITH THE SEED: THE CARDS: each row of YtaiahmkpobdafaaGreatDoorRows.lean that lists a variable, with what it lists TIED to the program's text (the seventh form; the later family's looks); each row that meets fmt, with fmt's text TOLD by the authors' own Lean function (tested against real Go, not proved from fmt's source: count such statements apart). THE CARD IS WHAT COUNTS. Prove the row's statement (the work); the ties are given (YtaiahmkpobdafaaGreatDoorTie.lean); close each card by the builder's one call (the guide's Derived/Test/ToyasCard.lean, 'card_holds'). Laid BY PROGRAM, IN A SANDBOX (cutbox-door.mjs). By AI agents, Wed Nov 11 2026. No macro, syntax, notation, axiom, sorry.
-/
import Derived.Test.YtaiahmkpobdafaaGreatDoorRows
import GoSem.ClaimSeven
namespace Go.Proofs.YtaiahmkpobdafaaGreatDoor
namespace Rows

/-- THE TIED CARD OF 'saturatelaw27.GuardTerms'. -/
def guardTermsCard : Claim7 := { stood := { row := guardTermsRow, standIns := [], harness := (true, "31e421d0e207be44c915d0b28d44e1167b1162630d8aee0ff5bd6462ac6ec91d"), looks := false }, kinds := [], alts := [], laidByText := true, laidKinds := [.data, .data, .data], laidTests := true, laidLooks := .later }
def GuardTermsCardSaid : Prop := Claim7.holds Tryz.pinned (.plain (OpenSpec.ofChange guardTermsSpec)) guardTermsCard

/-- THE SECOND FORM's CARD OF 'saturatelaw27.GuardTerms'. -/
def guardTermsUptoCard : Claim7 := { stood := { row := guardTermsUptoRow, standIns := [], harness := (true, "31e421d0e207be44c915d0b28d44e1167b1162630d8aee0ff5bd6462ac6ec91d"), looks := false }, kinds := [], alts := [], laidByText := true, laidKinds := [.data, .data, .data], laidTests := true, laidLooks := .later }
def GuardTermsUptoCardSaid : Prop := Claim7.holds Tryz.pinned (.plain (OpenSpec.upto guardTermsSpec)) guardTermsUptoCard
end Rows
end Go.Proofs.YtaiahmkpobdafaaGreatDoor
