/-
  DERIVED. GIVEN WITH THE SEED: THE CARDS: each row of YtjhfhacdjmokaaaGreatDoorRows.lean that lists a variable, with what it lists TIED to the program's text (the seventh form; the later family's looks); each row that meets fmt, with fmt's text TOLD by the authors' own Lean function (tested against real Go, not proved from fmt's source: count such statements apart). THE CARD IS WHAT COUNTS. Prove the row's statement (the work); the ties are given (YtjhfhacdjmokaaaGreatDoorTie.lean); close each card by the builder's one call (the guide's Derived/Test/ToyasCard.lean, 'card_holds'). Laid BY PROGRAM, IN A SANDBOX (cutbox-door.mjs). By AI agents, Wed Nov 11 2026. No macro, syntax, notation, axiom, sorry.
-/
import Derived.Test.YtjhfhacdjmokaaaGreatDoorRows
import GoSem.ClaimSeven
namespace Go.Proofs.YtjhfhacdjmokaaaGreatDoor
namespace Rows

/-- THE TIED CARD OF 'jitlaw1.DrivesWalked'. -/
def drivesWalkedCard : Claim7 := { stood := { row := drivesWalkedRow, standIns := [], harness := (true, "9344aab438492549482b7b4f475eaaa9cc4c95c84a4aedb0133fa8d119dc4bee"), looks := false }, kinds := [], alts := [], laidByText := true, laidKinds := [.data, .pinned], laidTests := true, laidLooks := .later }
def DrivesWalkedCardSaid : Prop := Claim7.holds Tryz.pinned (.plain (OpenSpec.ofChange drivesWalkedSpec)) drivesWalkedCard

/-- THE SECOND FORM's CARD OF 'jitlaw1.DrivesWalked'. -/
def drivesWalkedUptoCard : Claim7 := { stood := { row := drivesWalkedUptoRow, standIns := [], harness := (true, "9344aab438492549482b7b4f475eaaa9cc4c95c84a4aedb0133fa8d119dc4bee"), looks := false }, kinds := [], alts := [], laidByText := true, laidKinds := [.data, .pinned], laidTests := true, laidLooks := .later }
def DrivesWalkedUptoCardSaid : Prop := Claim7.holds Tryz.pinned (.plain (OpenSpec.upto drivesWalkedSpec)) drivesWalkedUptoCard
end Rows
end Go.Proofs.YtjhfhacdjmokaaaGreatDoor
