/-
  DERIVED. GIVEN WITH THE SEED: THE CARDS: each row of YtfbgcggkgelaaaaGreatDoorRows.lean that lists a variable, with what it lists TIED to the program's text (the seventh form; the later family's looks); each row that meets fmt, with fmt's text TOLD by the authors' own Lean function (tested against real Go, not proved from fmt's source: count such statements apart). THE CARD IS WHAT COUNTS. Prove the row's statement (the work); the ties are given (YtfbgcggkgelaaaaGreatDoorTie.lean); close each card by the builder's one call (the guide's Derived/Test/ToyasCard.lean, 'card_holds'). Laid BY PROGRAM, IN A SANDBOX (cutbox-door.mjs). By AI agents, Wed Nov 11 2026. No macro, syntax, notation, axiom, sorry.
-/
import Derived.Test.YtfbgcggkgelaaaaGreatDoorRows
import GoSem.ClaimSeven
namespace Go.Proofs.YtfbgcggkgelaaaaGreatDoor
namespace Rows

/-- THE TIED CARD OF 'saturatelaw26.MachineCompares'. -/
def machineComparesCard : Claim7 := { stood := { row := machineComparesRow, standIns := [], harness := (true, "51fd74b2af59c861be6743f65385bae8f06eb7410decda318923d7fabcaa38e0"), looks := false }, kinds := [], alts := [], laidByText := true, laidKinds := [.data, .data, .data], laidTests := true, laidLooks := .later }
def MachineComparesCardSaid : Prop := Claim7.holds Tryz.pinned (.plain (OpenSpec.ofChange machineComparesSpec)) machineComparesCard

/-- THE SECOND FORM's CARD OF 'saturatelaw26.MachineCompares'. -/
def machineComparesUptoCard : Claim7 := { stood := { row := machineComparesUptoRow, standIns := [], harness := (true, "51fd74b2af59c861be6743f65385bae8f06eb7410decda318923d7fabcaa38e0"), looks := false }, kinds := [], alts := [], laidByText := true, laidKinds := [.data, .data, .data], laidTests := true, laidLooks := .later }
def MachineComparesUptoCardSaid : Prop := Claim7.holds Tryz.pinned (.plain (OpenSpec.upto machineComparesSpec)) machineComparesUptoCard
end Rows
end Go.Proofs.YtfbgcggkgelaaaaGreatDoor
