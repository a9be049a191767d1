/-
  NARROWER THAN 'FOR EVERY INPUT', by the rows' own cells (each row's printed sentence says how): CostsFair: laid · ZonesCrossed: laid · RidesPriced: laid · RoadsChecked: laid · CostsDivided: laid.
  DERIVED. THE GIVEN ROWS OF THIS SEAT. 5 by the template 'for every input the law returns true; each argument reads behind the call as it read before'; 0 by the template 'total and deterministic' (their statements: YtnlbapfbdabjaaaDoorTotals.lean).
  GIVEN WITH THE SEED: the statements are not yours to turn. If you find one false, say at which input.
  Laid BY PROGRAM, IN A SANDBOX (cutbox-rows.mjs): the forced cells as the released guide's own fill.sh prints them over the translation 3145e8cc74401bed… (all of the seat's roots in one cut). By AI agents, Wed Nov 11 2026. No macro, syntax, notation, axiom, sorry.
-/
import Derived.Test.YtnlbapfbdabjaaaDoorChecked
import GoSem.PinnedTables
import GoSem.Claim
import GoSem.ClaimJoined
import GoSem.ClaimMapViews
import Derived.JoinedTies
import Derived.KernelRfl
namespace Go.Proofs.YtnlbapfbdabjaaaDoor
/- THE CELL 'sum', in the pinned program and in every row, IS THE sha256 OF THE DUMP (.gsa) THAT YtnlbapfbdabjaaaDoorProg.lean LOADS. Nothing in Lean hashes anything: it is a label: what it is worth is what the hold of that sum in a sandbox is worth. -/
noncomputable def Tryd.pinned : Pinned := { name := "ytnlbapfbdabjaaadoor", sum := "3145e8cc74401bedf55dc0e333158cc261ad47709f0fdda930a923ec1a22ca46", checked := Tryd.checked }
namespace Rows
def none {H : Type} : Left H := { results := [], args := [] }

/- WHAT THE LISTED PACKAGE-LEVEL VARIABLES READ AS WHEN THE CALL BEGINS. Each datum BY PROGRAM (the guide's laid-datum.mjs) off the statement by which the dump's own 'gosem.cut.vars' lays the variable. In a bare row this is a premise. The card (YtnlbapfbdabjaaaDoorCards.lean) ties it to the program's text. -/
def laid_unicode_utf8_acceptRanges {H : Type} : DataW H := .agg [.agg [.lit (.int .u8 128), .lit (.int .u8 191)], .agg [.lit (.int .u8 160), .lit (.int .u8 191)], .agg [.lit (.int .u8 128), .lit (.int .u8 159)], .agg [.lit (.int .u8 144), .lit (.int .u8 191)], .agg [.lit (.int .u8 128), .lit (.int .u8 143)], .agg [.lit (.int .u8 0), .lit (.int .u8 0)], .agg [.lit (.int .u8 0), .lit (.int .u8 0)], .agg [.lit (.int .u8 0), .lit (.int .u8 0)], .agg [.lit (.int .u8 0), .lit (.int .u8 0)], .agg [.lit (.int .u8 0), .lit (.int .u8 0)], .agg [.lit (.int .u8 0), .lit (.int .u8 0)], .agg [.lit (.int .u8 0), .lit (.int .u8 0)], .agg [.lit (.int .u8 0), .lit (.int .u8 0)], .agg [.lit (.int .u8 0), .lit (.int .u8 0)], .agg [.lit (.int .u8 0), .lit (.int .u8 0)], .agg [.lit (.int .u8 0), .lit (.int .u8 0)]]
/-- One of Go's own tables, pinned by name: the form's constant. -/
def laid_unicode_utf8_first : DataW Unit := Go.Pinned.utf8First

/-- 'jitlaw1.CostsFair': WHATEVER THE INPUT: true; the input reads as it did. -/
def costsFairSpec : ChangeSpec := { name := "costsFair", fn := fun _ => fun
  | [d1, d2, d3, d4, d5, d6] => { results := [.lit (.bool true)], args := [d1, d2, d3, d4, d5, d6] }
  | _ => none }
def costsFairRow : OpenClaim := { program := "ytnlbapfbdabjaaadoor", sum := "3145e8cc74401bedf55dc0e333158cc261ad47709f0fdda930a923ec1a22ca46", func := "jitney/jitlaw1.CostsFair", spec := "costsFair", inPlace := ["internal/bytealg.IndexByteString", "internal/bytealg.IndexString"], unfollowed := true, recurses := true, named := ["unicode/utf8.first", "unicode/utf8.acceptRanges", "math/bits.divideError", "math/bits.overflowError", "internal/bytealg.MaxLen"], apart := false, laid := [("unicode/utf8.acceptRanges", laid_unicode_utf8_acceptRanges), ("unicode/utf8.first", laid_unicode_utf8_first)] }
def CostsFairSaid : Prop := costsFairRow.holds Tryd.pinned (OpenSpec.ofChange costsFairSpec)

/-- ITS FALSE NEIGHBOUR: 'it returns false'. Refute it at one input. -/
def costsFairWrong : ChangeSpec := { name := "costsFair", fn := fun _ => fun
  | [d1, d2, d3, d4, d5, d6] => { results := [.lit (.bool false)], args := [d1, d2, d3, d4, d5, d6] }
  | _ => none }
def CostsFairWrongFalsely : Prop := costsFairRow.holds Tryd.pinned (OpenSpec.ofChange costsFairWrong)

/-- 'jitlaw1.ZonesCrossed': WHATEVER THE INPUT: true; the input reads as it did. -/
def zonesCrossedSpec : ChangeSpec := { name := "zonesCrossed", fn := fun _ => fun
  | [d1, d2, d3] => { results := [.lit (.bool true)], args := [d1, d2, d3] }
  | _ => none }
def zonesCrossedRow : OpenClaim := { program := "ytnlbapfbdabjaaadoor", sum := "3145e8cc74401bedf55dc0e333158cc261ad47709f0fdda930a923ec1a22ca46", func := "jitney/jitlaw1.ZonesCrossed", spec := "zonesCrossed", inPlace := ["internal/bytealg.IndexByteString", "internal/bytealg.IndexString"], unfollowed := true, recurses := true, named := ["unicode/utf8.first", "unicode/utf8.acceptRanges", "math/bits.divideError", "math/bits.overflowError", "internal/bytealg.MaxLen"], apart := false, laid := [("unicode/utf8.acceptRanges", laid_unicode_utf8_acceptRanges), ("unicode/utf8.first", laid_unicode_utf8_first)] }
def ZonesCrossedSaid : Prop := zonesCrossedRow.holds Tryd.pinned (OpenSpec.ofChange zonesCrossedSpec)

/-- ITS FALSE NEIGHBOUR: 'it returns false'. Refute it at one input. -/
def zonesCrossedWrong : ChangeSpec := { name := "zonesCrossed", fn := fun _ => fun
  | [d1, d2, d3] => { results := [.lit (.bool false)], args := [d1, d2, d3] }
  | _ => none }
def ZonesCrossedWrongFalsely : Prop := zonesCrossedRow.holds Tryd.pinned (OpenSpec.ofChange zonesCrossedWrong)

/-- 'jitlaw1.RidesPriced': WHATEVER THE INPUT: true; the input reads as it did. -/
def ridesPricedSpec : ChangeSpec := { name := "ridesPriced", fn := fun _ => fun
  | [d1, d2, d3, d4, d5] => { results := [.lit (.bool true)], args := [d1, d2, d3, d4, d5] }
  | _ => none }
def ridesPricedRow : OpenClaim := { program := "ytnlbapfbdabjaaadoor", sum := "3145e8cc74401bedf55dc0e333158cc261ad47709f0fdda930a923ec1a22ca46", func := "jitney/jitlaw1.RidesPriced", spec := "ridesPriced", inPlace := ["internal/bytealg.IndexByteString", "internal/bytealg.IndexString"], unfollowed := true, recurses := true, named := ["unicode/utf8.first", "unicode/utf8.acceptRanges", "math/bits.divideError", "math/bits.overflowError", "internal/bytealg.MaxLen"], apart := false, laid := [("unicode/utf8.acceptRanges", laid_unicode_utf8_acceptRanges), ("unicode/utf8.first", laid_unicode_utf8_first)] }
def RidesPricedSaid : Prop := ridesPricedRow.holds Tryd.pinned (OpenSpec.ofChange ridesPricedSpec)

/-- ITS FALSE NEIGHBOUR: 'it returns false'. Refute it at one input. -/
def ridesPricedWrong : ChangeSpec := { name := "ridesPriced", fn := fun _ => fun
  | [d1, d2, d3, d4, d5] => { results := [.lit (.bool false)], args := [d1, d2, d3, d4, d5] }
  | _ => none }
def RidesPricedWrongFalsely : Prop := ridesPricedRow.holds Tryd.pinned (OpenSpec.ofChange ridesPricedWrong)

/-- 'jitlaw1.RoadsChecked': WHATEVER THE INPUT: true; the input reads as it did. -/
def roadsCheckedSpec : ChangeSpec := { name := "roadsChecked", fn := fun _ => fun
  | [d1, d2, d3] => { results := [.lit (.bool true)], args := [d1, d2, d3] }
  | _ => none }
def roadsCheckedRow : OpenClaim := { program := "ytnlbapfbdabjaaadoor", sum := "3145e8cc74401bedf55dc0e333158cc261ad47709f0fdda930a923ec1a22ca46", func := "jitney/jitlaw1.RoadsChecked", spec := "roadsChecked", inPlace := ["internal/bytealg.abigen_runtime_cmpstring", "internal/bytealg.IndexByteString", "internal/bytealg.IndexString"], unfollowed := true, recurses := true, named := ["unicode/utf8.first", "unicode/utf8.acceptRanges", "internal/bytealg.MaxLen"], apart := false, laid := [("unicode/utf8.acceptRanges", laid_unicode_utf8_acceptRanges), ("unicode/utf8.first", laid_unicode_utf8_first)] }
def RoadsCheckedSaid : Prop := roadsCheckedRow.holds Tryd.pinned (OpenSpec.ofChange roadsCheckedSpec)

/-- ITS FALSE NEIGHBOUR: 'it returns false'. Refute it at one input. -/
def roadsCheckedWrong : ChangeSpec := { name := "roadsChecked", fn := fun _ => fun
  | [d1, d2, d3] => { results := [.lit (.bool false)], args := [d1, d2, d3] }
  | _ => none }
def RoadsCheckedWrongFalsely : Prop := roadsCheckedRow.holds Tryd.pinned (OpenSpec.ofChange roadsCheckedWrong)

/-- 'jitlaw1.CostsDivided': WHATEVER THE INPUT: true; the input reads as it did. -/
def costsDividedSpec : ChangeSpec := { name := "costsDivided", fn := fun _ => fun
  | [d1, d2, d3] => { results := [.lit (.bool true)], args := [d1, d2, d3] }
  | _ => none }
def costsDividedRow : OpenClaim := { program := "ytnlbapfbdabjaaadoor", sum := "3145e8cc74401bedf55dc0e333158cc261ad47709f0fdda930a923ec1a22ca46", func := "jitney/jitlaw1.CostsDivided", spec := "costsDivided", inPlace := ["internal/bytealg.IndexByteString", "internal/bytealg.IndexString", "internal/bytealg.abigen_runtime_cmpstring"], unfollowed := true, recurses := true, named := ["math/bits.divideError", "math/bits.overflowError", "unicode/utf8.first", "unicode/utf8.acceptRanges", "internal/bytealg.MaxLen"], apart := false, laid := [("unicode/utf8.acceptRanges", laid_unicode_utf8_acceptRanges), ("unicode/utf8.first", laid_unicode_utf8_first)] }
def CostsDividedSaid : Prop := costsDividedRow.holds Tryd.pinned (OpenSpec.ofChange costsDividedSpec)

/-- ITS FALSE NEIGHBOUR: 'it returns false'. Refute it at one input. -/
def costsDividedWrong : ChangeSpec := { name := "costsDivided", fn := fun _ => fun
  | [d1, d2, d3] => { results := [.lit (.bool false)], args := [d1, d2, d3] }
  | _ => none }
def CostsDividedWrongFalsely : Prop := costsDividedRow.holds Tryd.pinned (OpenSpec.ofChange costsDividedWrong)

/- THE SECOND FORM. 'bulk': how many values and letters a reading holds, each counted each time it is reached (what is shared counts as often as it is met; a slice's spare places count too). A statement '..UptoSaid' is the law's where the arguments, and the package variables that the reading takes, are together of bulk at most 1048576: NARROWER than '..Said'. Prove '..Said' where nothing that the law and all that it calls make is longer than what came in: it says more and counts as full. Else prove '..UptoSaid'. A law counts once. -/
mutual
def uptoBulk {H : Type} : DataW H → Nat
  | .lit (.string bytes) => bytes.length + 1
  | .lit _ => 1
  | .nil => 1
  | .ptr d => uptoBulk d + 1
  | .slice elems spare => uptoBulkAll elems + uptoBulkAll spare + 1
  | .agg parts => uptoBulkAll parts + 1
  | .iface _ d => uptoBulk d + 1
  | .map entries => uptoBulkEntries entries + 1
  | .held _ => 1
def uptoBulkAll {H : Type} : List (DataW H) → Nat
  | [] => 0
  | d :: r => uptoBulk d + uptoBulkAll r
def uptoBulkEntries {H : Type} : List (Lit × DataW H) → Nat
  | [] => 0
  | x :: r => uptoBulkEntry x + uptoBulkEntries r
def uptoBulkEntry {H : Type} : Lit × DataW H → Nat
  | (.string bytes, d) => bytes.length + uptoBulk d + 1
  | (_, d) => uptoBulk d + 1
 end
def uptoSmall : (H : Type) → List (DataW H) → Bool := fun _ ds => decide (uptoBulkAll ds ≤ 1048576)
def OpenSpec.upto (s : _root_.Go.ChangeSpec) : _root_.Go.OpenSpec := { _root_.Go.OpenSpec.ofChange s with cond := some uptoSmall }

/-- 'jitlaw1.CostsFair', WHERE WHAT IT READS IS OF BULK AT MOST 1048576: true; the input reads as it did. -/
def costsFairUptoRow : OpenClaim := { program := "ytnlbapfbdabjaaadoor", sum := "3145e8cc74401bedf55dc0e333158cc261ad47709f0fdda930a923ec1a22ca46", func := "jitney/jitlaw1.CostsFair", spec := "costsFair", inPlace := ["internal/bytealg.IndexByteString", "internal/bytealg.IndexString"], unfollowed := true, recurses := true, named := ["unicode/utf8.first", "unicode/utf8.acceptRanges", "math/bits.divideError", "math/bits.overflowError", "internal/bytealg.MaxLen"], apart := false, laid := [("unicode/utf8.acceptRanges", laid_unicode_utf8_acceptRanges), ("unicode/utf8.first", laid_unicode_utf8_first)], narrowed := true }
def CostsFairUptoSaid : Prop := costsFairUptoRow.holds Tryd.pinned (OpenSpec.upto costsFairSpec)

/-- 'jitlaw1.ZonesCrossed', WHERE WHAT IT READS IS OF BULK AT MOST 1048576: true; the input reads as it did. -/
def zonesCrossedUptoRow : OpenClaim := { program := "ytnlbapfbdabjaaadoor", sum := "3145e8cc74401bedf55dc0e333158cc261ad47709f0fdda930a923ec1a22ca46", func := "jitney/jitlaw1.ZonesCrossed", spec := "zonesCrossed", inPlace := ["internal/bytealg.IndexByteString", "internal/bytealg.IndexString"], unfollowed := true, recurses := true, named := ["unicode/utf8.first", "unicode/utf8.acceptRanges", "math/bits.divideError", "math/bits.overflowError", "internal/bytealg.MaxLen"], apart := false, laid := [("unicode/utf8.acceptRanges", laid_unicode_utf8_acceptRanges), ("unicode/utf8.first", laid_unicode_utf8_first)], narrowed := true }
def ZonesCrossedUptoSaid : Prop := zonesCrossedUptoRow.holds Tryd.pinned (OpenSpec.upto zonesCrossedSpec)

/-- 'jitlaw1.RidesPriced', WHERE WHAT IT READS IS OF BULK AT MOST 1048576: true; the input reads as it did. -/
def ridesPricedUptoRow : OpenClaim := { program := "ytnlbapfbdabjaaadoor", sum := "3145e8cc74401bedf55dc0e333158cc261ad47709f0fdda930a923ec1a22ca46", func := "jitney/jitlaw1.RidesPriced", spec := "ridesPriced", inPlace := ["internal/bytealg.IndexByteString", "internal/bytealg.IndexString"], unfollowed := true, recurses := true, named := ["unicode/utf8.first", "unicode/utf8.acceptRanges", "math/bits.divideError", "math/bits.overflowError", "internal/bytealg.MaxLen"], apart := false, laid := [("unicode/utf8.acceptRanges", laid_unicode_utf8_acceptRanges), ("unicode/utf8.first", laid_unicode_utf8_first)], narrowed := true }
def RidesPricedUptoSaid : Prop := ridesPricedUptoRow.holds Tryd.pinned (OpenSpec.upto ridesPricedSpec)

/-- 'jitlaw1.RoadsChecked', WHERE WHAT IT READS IS OF BULK AT MOST 1048576: true; the input reads as it did. -/
def roadsCheckedUptoRow : OpenClaim := { program := "ytnlbapfbdabjaaadoor", sum := "3145e8cc74401bedf55dc0e333158cc261ad47709f0fdda930a923ec1a22ca46", func := "jitney/jitlaw1.RoadsChecked", spec := "roadsChecked", inPlace := ["internal/bytealg.abigen_runtime_cmpstring", "internal/bytealg.IndexByteString", "internal/bytealg.IndexString"], unfollowed := true, recurses := true, named := ["unicode/utf8.first", "unicode/utf8.acceptRanges", "internal/bytealg.MaxLen"], apart := false, laid := [("unicode/utf8.acceptRanges", laid_unicode_utf8_acceptRanges), ("unicode/utf8.first", laid_unicode_utf8_first)], narrowed := true }
def RoadsCheckedUptoSaid : Prop := roadsCheckedUptoRow.holds Tryd.pinned (OpenSpec.upto roadsCheckedSpec)

/-- 'jitlaw1.CostsDivided', WHERE WHAT IT READS IS OF BULK AT MOST 1048576: true; the input reads as it did. -/
def costsDividedUptoRow : OpenClaim := { program := "ytnlbapfbdabjaaadoor", sum := "3145e8cc74401bedf55dc0e333158cc261ad47709f0fdda930a923ec1a22ca46", func := "jitney/jitlaw1.CostsDivided", spec := "costsDivided", inPlace := ["internal/bytealg.IndexByteString", "internal/bytealg.IndexString", "internal/bytealg.abigen_runtime_cmpstring"], unfollowed := true, recurses := true, named := ["math/bits.divideError", "math/bits.overflowError", "unicode/utf8.first", "unicode/utf8.acceptRanges", "internal/bytealg.MaxLen"], apart := false, laid := [("unicode/utf8.acceptRanges", laid_unicode_utf8_acceptRanges), ("unicode/utf8.first", laid_unicode_utf8_first)], narrowed := true }
def CostsDividedUptoSaid : Prop := costsDividedUptoRow.holds Tryd.pinned (OpenSpec.upto costsDividedSpec)

end Rows
end Go.Proofs.YtnlbapfbdabjaaaDoor
