/-
  DERIVED. GIVEN WITH THE SEED: THE CARDS: each row of YtdepecjjahodjaaDoorRows.lean that lists a variable, with what it lists TIED to the program's text (the seventh form; the later family's looks); each row that meets fmt, with fmt's text TOLD by the authors' own Lean function (tested against real Go, not proved from fmt's source: count such statements apart). THE CARD IS WHAT COUNTS. Prove the row's statement (the work); the ties are given (YtdepecjjahodjaaDoorTie.lean); close each card by the builder's one call (the guide's Derived/Test/ToyasCard.lean, 'card_holds'). Laid BY PROGRAM, IN A SANDBOX (cutbox-door.mjs). By AI agents, Wed Nov 11 2026. No macro, syntax, notation, axiom, sorry.
-/
import Derived.Test.YtdepecjjahodjaaDoorRows
import GoSem.ClaimSeven
namespace Go.Proofs.YtdepecjjahodjaaDoor
namespace Rows

/-- THE TIED CARD OF 'jitlaw1.CostsFair'. -/
def costsFairCard : Claim7 := { stood := { row := costsFairRow, standIns := [], harness := (true, "532b82cb4e8690de47883cfc258afba8a6b1397b59794a9a1e38fe7afc4f6396"), looks := false }, kinds := [], alts := [], laidByText := true, laidKinds := [.data, .pinned], laidTests := true, laidLooks := .later }
def CostsFairCardSaid : Prop := Claim7.holds Tryd.pinned (.plain (OpenSpec.ofChange costsFairSpec)) costsFairCard

/-- THE TIED CARD OF 'jitlaw1.CostsDivided'. -/
def costsDividedCard : Claim7 := { stood := { row := costsDividedRow, standIns := [], harness := (true, "532b82cb4e8690de47883cfc258afba8a6b1397b59794a9a1e38fe7afc4f6396"), looks := false }, kinds := [], alts := [], laidByText := true, laidKinds := [.data, .pinned], laidTests := true, laidLooks := .later }
def CostsDividedCardSaid : Prop := Claim7.holds Tryd.pinned (.plain (OpenSpec.ofChange costsDividedSpec)) costsDividedCard

/-- THE SECOND FORM's CARD OF 'jitlaw1.CostsFair'. -/
def costsFairUptoCard : Claim7 := { stood := { row := costsFairUptoRow, standIns := [], harness := (true, "532b82cb4e8690de47883cfc258afba8a6b1397b59794a9a1e38fe7afc4f6396"), looks := false }, kinds := [], alts := [], laidByText := true, laidKinds := [.data, .pinned], laidTests := true, laidLooks := .later }
def CostsFairUptoCardSaid : Prop := Claim7.holds Tryd.pinned (.plain (OpenSpec.upto costsFairSpec)) costsFairUptoCard

/-- THE SECOND FORM's CARD OF 'jitlaw1.CostsDivided'. -/
def costsDividedUptoCard : Claim7 := { stood := { row := costsDividedUptoRow, standIns := [], harness := (true, "532b82cb4e8690de47883cfc258afba8a6b1397b59794a9a1e38fe7afc4f6396"), looks := false }, kinds := [], alts := [], laidByText := true, laidKinds := [.data, .pinned], laidTests := true, laidLooks := .later }
def CostsDividedUptoCardSaid : Prop := Claim7.holds Tryd.pinned (.plain (OpenSpec.upto costsDividedSpec)) costsDividedUptoCard
end Rows
end Go.Proofs.YtdepecjjahodjaaDoor
