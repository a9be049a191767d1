/-
  No cell of these rows narrows 'for every input' (looked for: loops, veiled, ifaces, maps, wideKeys, modest, calm, conditions, laid).
  DERIVED. THE GIVEN ROWS OF THIS SEAT. 3 by the template 'for every input the law returns true; each argument reads behind the call as it read before'; 0 by the template 'total and deterministic' (their statements: YtgkdbjnmlecimaaTotals.lean).
  GIVEN WITH THE SEED: the statements are not yours to turn. If you find one false, say at which input.
  Laid BY PROGRAM, IN A SANDBOX (cutbox-rows.mjs): the forced cells as the released guide's own fill.sh prints them over the translation 2f078eaf82513891… (all of the seat's roots in one cut). By AI agents, Wed Nov 11 2026. No macro, syntax, notation, axiom, sorry.
-/
import Derived.Test.YtgkdbjnmlecimaaChecked
import GoSem.Claim
import GoSem.ClaimJoined
import GoSem.ClaimMapViews
import Derived.JoinedTies
import Derived.KernelRfl
namespace Go.Proofs.Ytgkdbjnmlecimaa
/- THE CELL 'sum', in the pinned program and in every row, IS THE sha256 OF THE DUMP (.gsa) THAT YtgkdbjnmlecimaaProg.lean LOADS. Nothing in Lean hashes anything: it is a label: what it is worth is what the hold of that sum in a sandbox is worth. -/
noncomputable def Try.pinned : Pinned := { name := "ytgkdbjnmlecimaa", sum := "2f078eaf825138916c856c3eb497210096d87316cde28d13dab16a3e52e398f7", checked := Try.checked }
namespace Rows
def none {H : Type} : Left H := { results := [], args := [] }

/-- 'jitlaw1.CallsCounted': WHATEVER THE INPUT: true; the input reads as it did. -/
def callsCountedSpec : ChangeSpec := { name := "callsCounted", fn := fun _ => fun
  | [d1, d2, d3, d4, d5, d6] => { results := [.lit (.bool true)], args := [d1, d2, d3, d4, d5, d6] }
  | _ => none }
def callsCountedRow : OpenClaim := { program := "ytgkdbjnmlecimaa", sum := "2f078eaf825138916c856c3eb497210096d87316cde28d13dab16a3e52e398f7", func := "jitney/jitlaw1.CallsCounted", spec := "callsCounted", unfollowed := true, recurses := true, plainKeys := false, apart := false }
def CallsCountedSaid : Prop := callsCountedRow.holds Try.pinned (OpenSpec.ofChange callsCountedSpec)

/-- ITS FALSE NEIGHBOUR: 'it returns false'. Refute it at one input. -/
def callsCountedWrong : ChangeSpec := { name := "callsCounted", fn := fun _ => fun
  | [d1, d2, d3, d4, d5, d6] => { results := [.lit (.bool false)], args := [d1, d2, d3, d4, d5, d6] }
  | _ => none }
def CallsCountedWrongFalsely : Prop := callsCountedRow.holds Try.pinned (OpenSpec.ofChange callsCountedWrong)

/-- 'jitlaw1.CarsMove': WHATEVER THE INPUT: true; the input reads as it did. -/
def carsMoveSpec : ChangeSpec := { name := "carsMove", fn := fun _ => fun
  | [d1, d2, d3, d4, d5] => { results := [.lit (.bool true)], args := [d1, d2, d3, d4, d5] }
  | _ => none }
def carsMoveRow : OpenClaim := { program := "ytgkdbjnmlecimaa", sum := "2f078eaf825138916c856c3eb497210096d87316cde28d13dab16a3e52e398f7", func := "jitney/jitlaw1.CarsMove", spec := "carsMove", unfollowed := true, recurses := true, named := ["math/bits.divideError", "math/bits.overflowError"], plainKeys := false, apart := false }
def CarsMoveSaid : Prop := carsMoveRow.holds Try.pinned (OpenSpec.ofChange carsMoveSpec)

/-- ITS FALSE NEIGHBOUR: 'it returns false'. Refute it at one input. -/
def carsMoveWrong : ChangeSpec := { name := "carsMove", fn := fun _ => fun
  | [d1, d2, d3, d4, d5] => { results := [.lit (.bool false)], args := [d1, d2, d3, d4, d5] }
  | _ => none }
def CarsMoveWrongFalsely : Prop := carsMoveRow.holds Try.pinned (OpenSpec.ofChange carsMoveWrong)

/-- 'jitlaw1.TalliesSum': WHATEVER THE INPUT: true; the input reads as it did. -/
def talliesSumSpec : ChangeSpec := { name := "talliesSum", fn := fun _ => fun
  | [d1, d2, d3, d4, d5, d6, d7, d8] => { results := [.lit (.bool true)], args := [d1, d2, d3, d4, d5, d6, d7, d8] }
  | _ => none }
def talliesSumRow : OpenClaim := { program := "ytgkdbjnmlecimaa", sum := "2f078eaf825138916c856c3eb497210096d87316cde28d13dab16a3e52e398f7", func := "jitney/jitlaw1.TalliesSum", spec := "talliesSum", unfollowed := true, recurses := true, plainKeys := false, apart := false }
def TalliesSumSaid : Prop := talliesSumRow.holds Try.pinned (OpenSpec.ofChange talliesSumSpec)

/-- ITS FALSE NEIGHBOUR: 'it returns false'. Refute it at one input. -/
def talliesSumWrong : ChangeSpec := { name := "talliesSum", fn := fun _ => fun
  | [d1, d2, d3, d4, d5, d6, d7, d8] => { results := [.lit (.bool false)], args := [d1, d2, d3, d4, d5, d6, d7, d8] }
  | _ => none }
def TalliesSumWrongFalsely : Prop := talliesSumRow.holds Try.pinned (OpenSpec.ofChange talliesSumWrong)

/- THE SECOND FORM. 'bulk': how many values and letters a reading holds, each counted each time it is reached (what is shared counts as often as it is met; a slice's spare places count too). A statement '..UptoSaid' is the law's where the arguments, and the package variables that the reading takes, are together of bulk at most 1048576: NARROWER than '..Said'. Prove '..Said' where nothing that the law and all that it calls make is longer than what came in: it says more and counts as full. Else prove '..UptoSaid'. A law counts once. -/
mutual
def uptoBulk {H : Type} : DataW H → Nat
  | .lit (.string bytes) => bytes.length + 1
  | .lit _ => 1
  | .nil => 1
  | .ptr d => uptoBulk d + 1
  | .slice elems spare => uptoBulkAll elems + uptoBulkAll spare + 1
  | .agg parts => uptoBulkAll parts + 1
  | .iface _ d => uptoBulk d + 1
  | .map entries => uptoBulkEntries entries + 1
  | .held _ => 1
def uptoBulkAll {H : Type} : List (DataW H) → Nat
  | [] => 0
  | d :: r => uptoBulk d + uptoBulkAll r
def uptoBulkEntries {H : Type} : List (Lit × DataW H) → Nat
  | [] => 0
  | x :: r => uptoBulkEntry x + uptoBulkEntries r
def uptoBulkEntry {H : Type} : Lit × DataW H → Nat
  | (.string bytes, d) => bytes.length + uptoBulk d + 1
  | (_, d) => uptoBulk d + 1
 end
def uptoSmall : (H : Type) → List (DataW H) → Bool := fun _ ds => decide (uptoBulkAll ds ≤ 1048576)
def OpenSpec.upto (s : _root_.Go.ChangeSpec) : _root_.Go.OpenSpec := { _root_.Go.OpenSpec.ofChange s with cond := some uptoSmall }

/-- 'jitlaw1.CallsCounted', WHERE WHAT IT READS IS OF BULK AT MOST 1048576: true; the input reads as it did. -/
def callsCountedUptoRow : OpenClaim := { program := "ytgkdbjnmlecimaa", sum := "2f078eaf825138916c856c3eb497210096d87316cde28d13dab16a3e52e398f7", func := "jitney/jitlaw1.CallsCounted", spec := "callsCounted", unfollowed := true, recurses := true, plainKeys := false, apart := false, narrowed := true }
def CallsCountedUptoSaid : Prop := callsCountedUptoRow.holds Try.pinned (OpenSpec.upto callsCountedSpec)

/-- 'jitlaw1.CarsMove', WHERE WHAT IT READS IS OF BULK AT MOST 1048576: true; the input reads as it did. -/
def carsMoveUptoRow : OpenClaim := { program := "ytgkdbjnmlecimaa", sum := "2f078eaf825138916c856c3eb497210096d87316cde28d13dab16a3e52e398f7", func := "jitney/jitlaw1.CarsMove", spec := "carsMove", unfollowed := true, recurses := true, named := ["math/bits.divideError", "math/bits.overflowError"], plainKeys := false, apart := false, narrowed := true }
def CarsMoveUptoSaid : Prop := carsMoveUptoRow.holds Try.pinned (OpenSpec.upto carsMoveSpec)

/-- 'jitlaw1.TalliesSum', WHERE WHAT IT READS IS OF BULK AT MOST 1048576: true; the input reads as it did. -/
def talliesSumUptoRow : OpenClaim := { program := "ytgkdbjnmlecimaa", sum := "2f078eaf825138916c856c3eb497210096d87316cde28d13dab16a3e52e398f7", func := "jitney/jitlaw1.TalliesSum", spec := "talliesSum", unfollowed := true, recurses := true, plainKeys := false, apart := false, narrowed := true }
def TalliesSumUptoSaid : Prop := talliesSumUptoRow.holds Try.pinned (OpenSpec.upto talliesSumSpec)

end Rows
end Go.Proofs.Ytgkdbjnmlecimaa
