/-
  DERIVED. GIVEN WITH THE SEED: THE CARDS: each row of YtnlbapfbdabjaaaDoorRows.lean that lists a variable, with what it lists TIED to the program's text (the seventh form; the later family's looks); each row that meets fmt, with fmt's text TOLD by the authors' own Lean function (tested against real Go, not proved from fmt's source: count such statements apart). THE CARD IS WHAT COUNTS. Prove the row's statement (the work); the ties are given (YtnlbapfbdabjaaaDoorTie.lean); close each card by the builder's one call (the guide's Derived/Test/ToyasCard.lean, 'card_holds'). Laid BY PROGRAM, IN A SANDBOX (cutbox-door.mjs). By AI agents, Wed Nov 11 2026. No macro, syntax, notation, axiom, sorry.
-/
import Derived.Test.YtnlbapfbdabjaaaDoorRows
import GoSem.ClaimSeven
namespace Go.Proofs.YtnlbapfbdabjaaaDoor
namespace Rows

/-- THE TIED CARD OF 'jitlaw1.CostsFair'. -/
def costsFairCard : Claim7 := { stood := { row := costsFairRow, standIns := [], harness := (true, "47e6f262717db5da3950835c01872bd32bf3e0b65117a1348bcf3f5788d485d0"), looks := false }, kinds := [], alts := [], laidByText := true, laidKinds := [.data, .pinned], laidTests := true, laidLooks := .later }
def CostsFairCardSaid : Prop := Claim7.holds Tryd.pinned (.plain (OpenSpec.ofChange costsFairSpec)) costsFairCard

/-- THE TIED CARD OF 'jitlaw1.ZonesCrossed'. -/
def zonesCrossedCard : Claim7 := { stood := { row := zonesCrossedRow, standIns := [], harness := (true, "47e6f262717db5da3950835c01872bd32bf3e0b65117a1348bcf3f5788d485d0"), looks := false }, kinds := [], alts := [], laidByText := true, laidKinds := [.data, .pinned], laidTests := true, laidLooks := .later }
def ZonesCrossedCardSaid : Prop := Claim7.holds Tryd.pinned (.plain (OpenSpec.ofChange zonesCrossedSpec)) zonesCrossedCard

/-- THE TIED CARD OF 'jitlaw1.RidesPriced'. -/
def ridesPricedCard : Claim7 := { stood := { row := ridesPricedRow, standIns := [], harness := (true, "47e6f262717db5da3950835c01872bd32bf3e0b65117a1348bcf3f5788d485d0"), looks := false }, kinds := [], alts := [], laidByText := true, laidKinds := [.data, .pinned], laidTests := true, laidLooks := .later }
def RidesPricedCardSaid : Prop := Claim7.holds Tryd.pinned (.plain (OpenSpec.ofChange ridesPricedSpec)) ridesPricedCard

/-- THE TIED CARD OF 'jitlaw1.RoadsChecked'. -/
def roadsCheckedCard : Claim7 := { stood := { row := roadsCheckedRow, standIns := [], harness := (true, "47e6f262717db5da3950835c01872bd32bf3e0b65117a1348bcf3f5788d485d0"), looks := false }, kinds := [], alts := [], laidByText := true, laidKinds := [.data, .pinned], laidTests := true, laidLooks := .later }
def RoadsCheckedCardSaid : Prop := Claim7.holds Tryd.pinned (.plain (OpenSpec.ofChange roadsCheckedSpec)) roadsCheckedCard

/-- THE TIED CARD OF 'jitlaw1.CostsDivided'. -/
def costsDividedCard : Claim7 := { stood := { row := costsDividedRow, standIns := [], harness := (true, "47e6f262717db5da3950835c01872bd32bf3e0b65117a1348bcf3f5788d485d0"), looks := false }, kinds := [], alts := [], laidByText := true, laidKinds := [.data, .pinned], laidTests := true, laidLooks := .later }
def CostsDividedCardSaid : Prop := Claim7.holds Tryd.pinned (.plain (OpenSpec.ofChange costsDividedSpec)) costsDividedCard

/-- THE SECOND FORM's CARD OF 'jitlaw1.CostsFair'. -/
def costsFairUptoCard : Claim7 := { stood := { row := costsFairUptoRow, standIns := [], harness := (true, "47e6f262717db5da3950835c01872bd32bf3e0b65117a1348bcf3f5788d485d0"), looks := false }, kinds := [], alts := [], laidByText := true, laidKinds := [.data, .pinned], laidTests := true, laidLooks := .later }
def CostsFairUptoCardSaid : Prop := Claim7.holds Tryd.pinned (.plain (OpenSpec.upto costsFairSpec)) costsFairUptoCard

/-- THE SECOND FORM's CARD OF 'jitlaw1.ZonesCrossed'. -/
def zonesCrossedUptoCard : Claim7 := { stood := { row := zonesCrossedUptoRow, standIns := [], harness := (true, "47e6f262717db5da3950835c01872bd32bf3e0b65117a1348bcf3f5788d485d0"), looks := false }, kinds := [], alts := [], laidByText := true, laidKinds := [.data, .pinned], laidTests := true, laidLooks := .later }
def ZonesCrossedUptoCardSaid : Prop := Claim7.holds Tryd.pinned (.plain (OpenSpec.upto zonesCrossedSpec)) zonesCrossedUptoCard

/-- THE SECOND FORM's CARD OF 'jitlaw1.RidesPriced'. -/
def ridesPricedUptoCard : Claim7 := { stood := { row := ridesPricedUptoRow, standIns := [], harness := (true, "47e6f262717db5da3950835c01872bd32bf3e0b65117a1348bcf3f5788d485d0"), looks := false }, kinds := [], alts := [], laidByText := true, laidKinds := [.data, .pinned], laidTests := true, laidLooks := .later }
def RidesPricedUptoCardSaid : Prop := Claim7.holds Tryd.pinned (.plain (OpenSpec.upto ridesPricedSpec)) ridesPricedUptoCard

/-- THE SECOND FORM's CARD OF 'jitlaw1.RoadsChecked'. -/
def roadsCheckedUptoCard : Claim7 := { stood := { row := roadsCheckedUptoRow, standIns := [], harness := (true, "47e6f262717db5da3950835c01872bd32bf3e0b65117a1348bcf3f5788d485d0"), looks := false }, kinds := [], alts := [], laidByText := true, laidKinds := [.data, .pinned], laidTests := true, laidLooks := .later }
def RoadsCheckedUptoCardSaid : Prop := Claim7.holds Tryd.pinned (.plain (OpenSpec.upto roadsCheckedSpec)) roadsCheckedUptoCard

/-- THE SECOND FORM's CARD OF 'jitlaw1.CostsDivided'. -/
def costsDividedUptoCard : Claim7 := { stood := { row := costsDividedUptoRow, standIns := [], harness := (true, "47e6f262717db5da3950835c01872bd32bf3e0b65117a1348bcf3f5788d485d0"), looks := false }, kinds := [], alts := [], laidByText := true, laidKinds := [.data, .pinned], laidTests := true, laidLooks := .later }
def CostsDividedUptoCardSaid : Prop := Claim7.holds Tryd.pinned (.plain (OpenSpec.upto costsDividedSpec)) costsDividedUptoCard
end Rows
end Go.Proofs.YtnlbapfbdabjaaaDoor
