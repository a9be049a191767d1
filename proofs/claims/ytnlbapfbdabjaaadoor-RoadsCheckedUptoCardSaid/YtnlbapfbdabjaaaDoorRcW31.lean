/- Proved: RoadsChecked, where what it reads is of bulk at most 1048576: the law holds of the program. No conditions but the statement's own. -/
import Derived.Test.YtnlbapfbdabjaaaDoorCards
import Derived.Test.YtnlbapfbdabjaaaDoorTie
import Derived.Deep.DeepHandedRow
import Derived.Test.YtnlbapfbdabjaaaDoorRcSh
import Derived.Test.YtnlbapfbdabjaaaDoorRcW27
import Derived.Test.YtnlbapfbdabjaaaDoorRcW28
import Derived.Test.YtnlbapfbdabjaaaDoorRcW29
import Derived.Test.YtnlbapfbdabjaaaDoorRcW30
set_option linter.unusedSimpArgs false
set_option linter.unusedVariables false
set_option linter.unusedSectionVars false
namespace Go.Proofs.YtnlbapfbdabjaaaDoor
open Go Go.GL
set_option maxRecDepth 10000
set_option maxHeartbeats 0
structure SRoads where
  Nodes : List SNode
  Arcs : List SArc
  Bans : List SBan
deriving DecidableEq
def rRoads : Rp SRoads where
  sz := 3
  R G x cs := ∃ v0, ∃ v1, ∃ v2, cs = [v0, v1, v2] ∧ RSl rNode G v0 x.Nodes ∧ RSl rArc G v1 x.Arcs ∧ RSl rBan G v2 x.Bans
  len := by rintro G x cs ⟨v0, v1, v2, rfl, h0, h1, h2⟩; rfl
  ile := by rintro G G' x cs hl ⟨v0, v1, v2, rfl, h0, h1, h2⟩; exact ⟨v0, v1, v2, rfl, h0.ile hl, h1.ile hl, h2.ile hl⟩
  one := by rintro G x cs ⟨v0, v1, v2, rfl, h0, h1, h2⟩; obtain ⟨a0, c0, rfl⟩ := h0.val; obtain ⟨a1, c1, rfl⟩ := h1.val; obtain ⟨a2, c2, rfl⟩ := h2.val; rfl
def mNode (x : SNode) : Nat := (x.Key.size + 1) + 1 + 1 + 1
theorem otNode {W : World} : OT W rNode mNode 93 := by
  intro H enc sp held fuel cs x h
  obtain ⟨xs, n, _, hx, hlen, hxl, hf⟩ := DataW.trod_struct Tryd.underlying93 h
  rw [show Tryd.prog.cellsOf 93 = 3 from by kernel_rfl] at hlen
  obtain ⟨x0, x1, x2, rfl⟩ : ∃ x0 x1 x2, cs = [x0, x1, x2] := by
    match cs, hlen with
    | [x0, x1, x2], _ => exact ⟨x0, x1, x2, rfl⟩
  have hxl : xs.length = 3 := hxl
  obtain ⟨d_0, d_1, d_2, rfl⟩ : ∃ d_0 d_1 d_2, xs = [d_0, d_1, d_2] := by
    match xs, hxl with
    | [y0, y1, y2], _ => exact ⟨y0, y1, y2, rfl⟩
  have f_0 : DataW.trod enc Tryd.prog W 0 sp held n 9 [x0] = some d_0 := by have := hf 0 _ rfl; exact this
  have f_1 : DataW.trod enc Tryd.prog W 0 sp held n 3 [x1] = some d_1 := by have := hf 1 _ rfl; exact this
  have f_2 : DataW.trod enc Tryd.prog W 0 sp held n 3 [x2] = some d_2 := by have := hf 2 _ rfl; exact this
  clear hf
  obtain ⟨c_0, e_0, q_0, w_0⟩ := DataW.trod_string Tryd.underlying9 f_0
  simp only [List.cons.injEq, and_true] at e_0; subst e_0 q_0
  have z_0 := size_len c_0
  obtain ⟨c_1, e_1, q_1, w_1⟩ := DataW.trod_int Tryd.underlying3 f_1
  simp only [List.cons.injEq, and_true] at e_1; subst e_1 q_1
  obtain ⟨c_2, e_2, q_2, w_2⟩ := DataW.trod_int Tryd.underlying3 f_2
  simp only [List.cons.injEq, and_true] at e_2; subst e_2 q_2
  subst hx
  refine ⟨⟨c_0, c_1, c_2⟩, rfl, ?_⟩
  simp only [mNode, Rows.uptoBulk, Rows.uptoBulkAll, List.map_cons, List.map_nil, ← size_len]
  omega
def mKnot (x : SKnot) : Nat := 1 + 1 + 1
theorem otKnot {W : World} : OT W rKnot mKnot 141 := by
  intro H enc sp held fuel cs x h
  obtain ⟨xs, n, _, hx, hlen, hxl, hf⟩ := DataW.trod_struct Tryd.underlying141 h
  rw [show Tryd.prog.cellsOf 141 = 2 from by kernel_rfl] at hlen
  obtain ⟨x0, x1, rfl⟩ : ∃ x0 x1, cs = [x0, x1] := by
    match cs, hlen with
    | [x0, x1], _ => exact ⟨x0, x1, rfl⟩
  have hxl : xs.length = 2 := hxl
  obtain ⟨d_0, d_1, rfl⟩ : ∃ d_0 d_1, xs = [d_0, d_1] := by
    match xs, hxl with
    | [y0, y1], _ => exact ⟨y0, y1, rfl⟩
  have f_0 : DataW.trod enc Tryd.prog W 0 sp held n 3 [x0] = some d_0 := by have := hf 0 _ rfl; exact this
  have f_1 : DataW.trod enc Tryd.prog W 0 sp held n 3 [x1] = some d_1 := by have := hf 1 _ rfl; exact this
  clear hf
  obtain ⟨c_0, e_0, q_0, w_0⟩ := DataW.trod_int Tryd.underlying3 f_0
  simp only [List.cons.injEq, and_true] at e_0; subst e_0 q_0
  obtain ⟨c_1, e_1, q_1, w_1⟩ := DataW.trod_int Tryd.underlying3 f_1
  simp only [List.cons.injEq, and_true] at e_1; subst e_1 q_1
  subst hx
  refine ⟨⟨c_0, c_1⟩, rfl, ?_⟩
  simp only [mKnot, Rows.uptoBulk, Rows.uptoBulkAll, List.map_cons, List.map_nil, ← size_len]
  omega
def mArc (x : SArc) : Nat := (x.Key.size + 1) + (x.From.size + 1) + (x.To.size + 1) + 1 + mlist mKnot x.Knots + 1
theorem otArc {W : World} : OT W rArc mArc 87 := by
  intro H enc sp held fuel cs x h
  obtain ⟨xs, n, _, hx, hlen, hxl, hf⟩ := DataW.trod_struct Tryd.underlying87 h
  rw [show Tryd.prog.cellsOf 87 = 5 from by kernel_rfl] at hlen
  obtain ⟨x0, x1, x2, x3, x4, rfl⟩ : ∃ x0 x1 x2 x3 x4, cs = [x0, x1, x2, x3, x4] := by
    match cs, hlen with
    | [x0, x1, x2, x3, x4], _ => exact ⟨x0, x1, x2, x3, x4, rfl⟩
  have hxl : xs.length = 5 := hxl
  obtain ⟨d_0, d_1, d_2, d_3, d_4, rfl⟩ : ∃ d_0 d_1 d_2 d_3 d_4, xs = [d_0, d_1, d_2, d_3, d_4] := by
    match xs, hxl with
    | [y0, y1, y2, y3, y4], _ => exact ⟨y0, y1, y2, y3, y4, rfl⟩
  have f_0 : DataW.trod enc Tryd.prog W 0 sp held n 9 [x0] = some d_0 := by have := hf 0 _ rfl; exact this
  have f_1 : DataW.trod enc Tryd.prog W 0 sp held n 9 [x1] = some d_1 := by have := hf 1 _ rfl; exact this
  have f_2 : DataW.trod enc Tryd.prog W 0 sp held n 9 [x2] = some d_2 := by have := hf 2 _ rfl; exact this
  have f_3 : DataW.trod enc Tryd.prog W 0 sp held n 3 [x3] = some d_3 := by have := hf 3 _ rfl; exact this
  have f_4 : DataW.trod enc Tryd.prog W 0 sp held n 85 [x4] = some d_4 := by have := hf 4 _ rfl; exact this
  clear hf
  obtain ⟨c_0, e_0, q_0, w_0⟩ := DataW.trod_string Tryd.underlying9 f_0
  simp only [List.cons.injEq, and_true] at e_0; subst e_0 q_0
  have z_0 := size_len c_0
  obtain ⟨c_1, e_1, q_1, w_1⟩ := DataW.trod_string Tryd.underlying9 f_1
  simp only [List.cons.injEq, and_true] at e_1; subst e_1 q_1
  have z_1 := size_len c_1
  obtain ⟨c_2, e_2, q_2, w_2⟩ := DataW.trod_string Tryd.underlying9 f_2
  simp only [List.cons.injEq, and_true] at e_2; subst e_2 q_2
  have z_2 := size_len c_2
  obtain ⟨c_3, e_3, q_3, w_3⟩ := DataW.trod_int Tryd.underlying3 f_3
  simp only [List.cons.injEq, and_true] at e_3; subst e_3 q_3
  obtain ⟨c_4, ⟨v_4, e_4, r_4⟩, b_4⟩ := OT.slice Tryd.underlying85 (by kernel_rfl) (by decide) otKnot _ _ _ _ _ _ _ f_4
  simp only [List.cons.injEq, and_true] at e_4; subst e_4
  subst hx
  refine ⟨⟨c_0, c_1, c_2, c_3, c_4⟩, ⟨_, rfl, r_4⟩, ?_⟩
  simp only [mArc, Rows.uptoBulk, Rows.uptoBulkAll, List.map_cons, List.map_nil, ← size_len]
  omega
def mBan (x : SBan) : Nat := (x.From.size + 1) + (x.To.size + 1) + 1
theorem otBan {W : World} : OT W rBan mBan 131 := by
  intro H enc sp held fuel cs x h
  obtain ⟨xs, n, _, hx, hlen, hxl, hf⟩ := DataW.trod_struct Tryd.underlying131 h
  rw [show Tryd.prog.cellsOf 131 = 2 from by kernel_rfl] at hlen
  obtain ⟨x0, x1, rfl⟩ : ∃ x0 x1, cs = [x0, x1] := by
    match cs, hlen with
    | [x0, x1], _ => exact ⟨x0, x1, rfl⟩
  have hxl : xs.length = 2 := hxl
  obtain ⟨d_0, d_1, rfl⟩ : ∃ d_0 d_1, xs = [d_0, d_1] := by
    match xs, hxl with
    | [y0, y1], _ => exact ⟨y0, y1, rfl⟩
  have f_0 : DataW.trod enc Tryd.prog W 0 sp held n 9 [x0] = some d_0 := by have := hf 0 _ rfl; exact this
  have f_1 : DataW.trod enc Tryd.prog W 0 sp held n 9 [x1] = some d_1 := by have := hf 1 _ rfl; exact this
  clear hf
  obtain ⟨c_0, e_0, q_0, w_0⟩ := DataW.trod_string Tryd.underlying9 f_0
  simp only [List.cons.injEq, and_true] at e_0; subst e_0 q_0
  have z_0 := size_len c_0
  obtain ⟨c_1, e_1, q_1, w_1⟩ := DataW.trod_string Tryd.underlying9 f_1
  simp only [List.cons.injEq, and_true] at e_1; subst e_1 q_1
  have z_1 := size_len c_1
  subst hx
  refine ⟨⟨c_0, c_1⟩, rfl, ?_⟩
  simp only [mBan, Rows.uptoBulk, Rows.uptoBulkAll, List.map_cons, List.map_nil, ← size_len]
  omega
def mRoads (x : SRoads) : Nat := mlist mNode x.Nodes + mlist mArc x.Arcs + mlist mBan x.Bans + 1
theorem otRoads {W : World} : OT W rRoads mRoads 84 := by
  intro H enc sp held fuel cs x h
  obtain ⟨xs, n, _, hx, hlen, hxl, hf⟩ := DataW.trod_struct Tryd.underlying84 h
  rw [show Tryd.prog.cellsOf 84 = 3 from by kernel_rfl] at hlen
  obtain ⟨x0, x1, x2, rfl⟩ : ∃ x0 x1 x2, cs = [x0, x1, x2] := by
    match cs, hlen with
    | [x0, x1, x2], _ => exact ⟨x0, x1, x2, rfl⟩
  have hxl : xs.length = 3 := hxl
  obtain ⟨d_0, d_1, d_2, rfl⟩ : ∃ d_0 d_1 d_2, xs = [d_0, d_1, d_2] := by
    match xs, hxl with
    | [y0, y1, y2], _ => exact ⟨y0, y1, y2, rfl⟩
  have f_0 : DataW.trod enc Tryd.prog W 0 sp held n 80 [x0] = some d_0 := by have := hf 0 _ rfl; exact this
  have f_1 : DataW.trod enc Tryd.prog W 0 sp held n 81 [x1] = some d_1 := by have := hf 1 _ rfl; exact this
  have f_2 : DataW.trod enc Tryd.prog W 0 sp held n 82 [x2] = some d_2 := by have := hf 2 _ rfl; exact this
  clear hf
  obtain ⟨c_0, ⟨v_0, e_0, r_0⟩, b_0⟩ := OT.slice Tryd.underlying80 (by kernel_rfl) (by decide) otNode _ _ _ _ _ _ _ f_0
  simp only [List.cons.injEq, and_true] at e_0; subst e_0
  obtain ⟨c_1, ⟨v_1, e_1, r_1⟩, b_1⟩ := OT.slice Tryd.underlying81 (by kernel_rfl) (by decide) otArc _ _ _ _ _ _ _ f_1
  simp only [List.cons.injEq, and_true] at e_1; subst e_1
  obtain ⟨c_2, ⟨v_2, e_2, r_2⟩, b_2⟩ := OT.slice Tryd.underlying82 (by kernel_rfl) (by decide) otBan _ _ _ _ _ _ _ f_2
  simp only [List.cons.injEq, and_true] at e_2; subst e_2
  subst hx
  refine ⟨⟨c_0, c_1, c_2⟩, ⟨_, _, _, rfl, r_0, r_1, r_2⟩, ?_⟩
  simp only [mRoads, Rows.uptoBulk, Rows.uptoBulkAll, List.map_cons, List.map_nil, ← size_len]
  omega
theorem arc_len {x : SArc} {n : Nat} (h : mArc x ≤ n) (hn : n ≤ 1048576) : x.Knots.length ≤ 1000000000 := by
  have h3 := mlist_len (m := mKnot) (fun z => by unfold mKnot; omega) x.Knots
  unfold mArc at h
  omega
theorem roads_len {x : SRoads} {n : Nat} (h : mRoads x ≤ n) (hn : n ≤ 1048576) : x.Nodes.length ≤ 1000000000 ∧ x.Arcs.length ≤ 1000000000 ∧ (∀ y ∈ x.Arcs, y.Knots.length ≤ 1000000000) ∧ x.Bans.length ≤ 1000000000 := by
  have h1 := mlist_len (m := mNode) (fun z => by unfold mNode; omega) x.Nodes
  have h2 := mlist_len (m := mArc) (fun z => by unfold mArc; omega) x.Arcs
  have h3 := mlist_len (m := mBan) (fun z => by unfold mBan; omega) x.Bans
  unfold mRoads at h
  refine ⟨by omega, by omega, fun y hy => ?_, by omega⟩
  have h4 := mlist_mem (m := mArc) hy
  exact arc_len (x := y) (n := n) (by omega) hn
namespace roadsCheckedUpto
open Go.ChangeShapes Go.WideShapes Go.ChangeAt Go.RowKit
theorem own : ownKnob Tryd.prog.godebug = none := by kernel_rfl
theorem laidOut : laidOutB Tryd.prog = true := by kernel_rfl
set_option maxRecDepth 100000 in
theorem contract (H : Type) (enc : TypeId × Value → H) (W : World) (base : Nat) (args : Array Value) (ds gs : List (DataW H)) (before : List MemPlace)
    (hval : ∀ (j : Nat) t v, Tryd.f6.params[j]? = some t → args[j]? = some v → Value.okWide Tryd.prog W .any base t v)
    (hW : DataW.Whole enc Tryd.prog Tryd.f6.params.toList Rows.roadsCheckedSpec.vars false W args.toList ds gs before) (hk : Rows.uptoSmall H (ds ++ gs) = true) :
    Calls Tryd.prog 6 args W fun e W' => ∃ v, e = .returned v ∧ Rows.roadsCheckedSpec.post enc Tryd.prog Tryd.f6 false true false false W args v W' := by
  have hW' := hW
  obtain ⟨p, q, hA0, hV, rfl, hfz, hnd⟩ := hW
  have hA : DataW.TrodAll enc Tryd.prog W 0 (fun _ => true) true Tryd.f6.params.toList args.toList ds p := hA0
  rw [Tryd.params6] at hA hval
  obtain ⟨v0, vs0, d0, ds0, p0, q0, hargs, rfl, rfl, h0, r0⟩ := trodAll_cons hA
  obtain ⟨v1, vs1, d1, ds1, p1, q1, rfl, rfl, rfl, h1, r1⟩ := trodAll_cons r0
  obtain ⟨v2, vs2, d2, ds2, p2, q2, rfl, rfl, rfl, h2, r2⟩ := trodAll_cons r1
  obtain ⟨rfl, rfl, rfl⟩ := trodAll_nil r2
  obtain rfl : args = #[v0, v1, v2] := by cases args; simp_all
  obtain ⟨rfl, rfl⟩ := trodVars_none hV
  have k0 := h0
  have lt0 : ∀ x ∈ p0, x.block < W.heap.size := by obtain ⟨m, hm⟩ := k0; exact DataW.trod_lt m _ _ _ hm
  obtain ⟨x0, rfl, z0⟩ := okWide_struct Tryd.underlying84 (hval 0 84 v0 rfl rfl)
  obtain ⟨c0, q0, m0⟩ := OT.agg otRoads h0
  obtain ⟨x0⟩ := x0
  obtain ⟨v0_0, v0_1, v0_2, e0, r0_0, r0_1, r0_2⟩ := q0
  have e0 : x0 = _ := e0
  subst e0
  have k1 := h1
  have lt1 : ∀ x ∈ p1, x.block < W.heap.size := by obtain ⟨m, hm⟩ := k1; exact DataW.trod_lt m _ _ _ hm
  obtain ⟨x1, rfl, z1⟩ := okWide_struct Tryd.underlying87 (hval 1 87 v1 rfl rfl)
  obtain ⟨c1, q1, m1⟩ := OT.agg otArc h1
  obtain ⟨x1⟩ := x1
  obtain ⟨v1_4, e1, r1_4⟩ := q1
  have e1 : x1 = _ := e1
  subst e1
  obtain ⟨a2, rfl, rfl, rfl, w2⟩ := open_int Tryd.underlying3 (hval 2 3 v2 rfl rfl) h2
  simp only [List.append_nil] at hk
  have hb : Rows.uptoBulkAll [d0, d1, .lit (.int .i64 a2)] ≤ 1048576 := of_decide_eq_true hk
  simp only [Rows.uptoBulkAll] at hb
  refine Calls.mono ((p6 r0_0 r0_1 r0_2 r1_4 (roads_len m0 (by omega)).1 (roads_len m0 (by omega)).2.1 (roads_len m0 (by omega)).2.2.1 (roads_len m0 (by omega)).2.2.2 (arc_len m1 (by omega))) (G0of W) (le_refl _) W W (holdsG0 W)) fun e W' he => ?_
  obtain ⟨v, G', rfl, hh, _, rfl⟩ := he
  have bel := hh.below
  exact ⟨_, rfl, _, _, _, [], _, [], hW', trodAll_mk1 (shut_bool Tryd.underlying4 _), trodAll_cons_mk (Below.trod laidOut (by kernel_rfl) (of_decide_eq_true (by kernel_rfl)) k0 bel lt0) (trodAll_cons_mk (Below.trod laidOut (by kernel_rfl) (of_decide_eq_true (by kernel_rfl)) k1 bel lt1) (trodAll_cons_mk (shut_int Tryd.underlying3 w2) trodAll_mk0)), rfl, bel.frame _, fun h => by cases h⟩
noncomputable def laidWorld (os : Os) : World :=
  { World.holding Tryd.prog os ⟨#[], #[], []⟩ with heap := (((World.holding Tryd.prog os ⟨#[], #[], []⟩).heap.modify 4 fun o => match o with | .cells _ t fr => .cells #[.int .u8 128, .int .u8 191, .int .u8 160, .int .u8 191, .int .u8 128, .int .u8 159, .int .u8 144, .int .u8 191, .int .u8 128, .int .u8 143, .int .u8 0, .int .u8 0, .int .u8 0, .int .u8 0, .int .u8 0, .int .u8 0, .int .u8 0, .int .u8 0, .int .u8 0, .int .u8 0, .int .u8 0, .int .u8 0, .int .u8 0, .int .u8 0, .int .u8 0, .int .u8 0, .int .u8 0, .int .u8 0, .int .u8 0, .int .u8 0, .int .u8 0, .int .u8 0] t fr | o => o).modify 3 fun o => match o with | .cells _ t fr => .cells (Go.Pinned.utf8FirstZ.map fun n : Nat => Value.int .u8 (n : Int)).toArray t fr | o => o) }
set_option maxRecDepth 100000 in
theorem laid_met (os : Os) : laidMet Tryd.prog Rows.roadsCheckedUptoRow.laid ((laidWorld os).forCall (fun _ _ => 0) ⟨#[], #[.agg #[.slice none 0 0, .slice none 0 0, .slice none 0 0], .agg #[.string ByteArray.empty, .string ByteArray.empty, .string ByteArray.empty, .int .i64 0, .slice none 0 0], .int .i64 0], []⟩).memory := laidMet_of_run' 8 (by kernel_rfl) (by kernel_rfl)
theorem reads (os : Os) {H : Type} (enc : TypeId × Value → H) : ∃ places, DataW.whole enc Tryd.prog ((laidWorld os).forCall (fun _ _ => 0) ⟨#[], #[.agg #[.slice none 0 0, .slice none 0 0, .slice none 0 0], .agg #[.string ByteArray.empty, .string ByteArray.empty, .string ByteArray.empty, .int .i64 0, .slice none 0 0], .int .i64 0], []⟩).memory Tryd.f6.params.toList Rows.roadsCheckedSpec.vars false (#[.agg #[.slice none 0 0, .slice none 0 0, .slice none 0 0], .agg #[.string ByteArray.empty, .string ByteArray.empty, .string ByteArray.empty, .int .i64 0, .slice none 0 0], .int .i64 0] : Array Value).toList 8 = some ([.agg [.nil, .nil, .nil], .agg [.lit (.string []), .lit (.string []), .lit (.string []), .lit (.int .i64 0), .nil], .lit (.int .i64 0)], [], places) := ⟨[], by kernel_rfl⟩
set_option maxRecDepth 100000 in
theorem lifted (os : Os) (started : os.Started) (H : Type) (enc : TypeId × Value → H) (F : Stop.Interp) :
    ReturnsInHanded {} Tryd.checked os 6 .any ((Rows.OpenSpec.upto Rows.roadsCheckedSpec).preRow enc Tryd.prog Tryd.f6 Rows.roadsCheckedUptoRow.domain false Rows.roadsCheckedUptoRow.laid) (((Rows.OpenSpec.upto Rows.roadsCheckedSpec).at F).post enc Tryd.prog Tryd.f6 false true false false) := by
  obtain ⟨places, hx⟩ := reads os enc
  refine returnsInHanded_of_row (C := Tryd.checked) (s := Rows.OpenSpec.upto Rows.roadsCheckedSpec) own started (by kernel_rfl) Tryd.func6
    (witness_row_at (enc := enc) (C := Tryd.checked) false (laidWorld os) #[.agg #[.slice none 0 0, .slice none 0 0, .slice none 0 0], .agg #[.string ByteArray.empty, .string ByteArray.empty, .string ByteArray.empty, .int .i64 0, .slice none 0 0], .int .i64 0] rfl (by kernel_rfl) (by kernel_rfl) (by kernel_rfl)
      (OpenSpec.preRow_of_cond 8 hx (by kernel_rfl) (fun k hk => by cases hk; kernel_rfl) (by kernel_rfl) (laid_met os))) ?_
  intro W base args ds gs before hval hW _ hk _ _ _ _
  exact contract H enc W base args ds gs before hval hW (hk _ rfl)
theorem said : Rows.RoadsCheckedUptoSaid :=
  OpenClaim.holds_of_cond 6 Tryd.f6 rfl rfl rfl rfl rfl rfl rfl ⟨rfl, rfl, rfl, rfl, rfl⟩ rfl rfl rfl rfl rfl (by kernel_rfl) Tryd.func6 (by kernel_rfl)
    (of_decide_eq_true (by kernel_rfl)) (by unfold Func.isWrapper; first | (rw [if_pos (by decide +kernel)]; kernel_rfl) | (rw [if_neg (by decide +kernel)]; exact ⟨rfl, rfl⟩))
    (fun os started H enc _ F => by rw [OpenClaim.pre_eq_preRow]; exact lifted os started H enc F)
theorem plain (f : FuncId) (fn : Func) (hf : Tryd.pinned.checked.prog.funcNamed "jitney/jitlaw1.RoadsChecked" = some f) (hfn : Tryd.pinned.checked.prog.funcs[f]? = some fn) :
    false = Tryd.pinned.checked.prog.looks [] ∧ ∀ (j : Nat) t, fn.params[j]? = some t → Tryd.pinned.checked.prog.wantsStandIn t = false := by
  obtain rfl : f = 6 := Option.some.inj ((show Tryd.prog.funcNamed "jitney/jitlaw1.RoadsChecked" = some 6 by kernel_rfl).symm.trans hf) |>.symm
  obtain rfl : fn = Tryd.f6 := (Option.some.inj (Tryd.func6.symm.trans hfn)).symm
  refine ⟨by kernel_rfl, fun j t ht => ?_⟩
  rw [Tryd.params6] at ht
  have hm := Array.mem_of_getElem? ht
  simp only [List.mem_toArray, List.mem_cons, List.not_mem_nil, or_false] at hm
  rcases hm with rfl | rfl | rfl
  · exact (show Tryd.prog.wantsStandIn 84 = false by kernel_rfl)
  · exact (show Tryd.prog.wantsStandIn 87 = false by kernel_rfl)
  · exact (show Tryd.prog.wantsStandIn 3 = false by kernel_rfl)
theorem proved : Rows.RoadsCheckedUptoCardSaid :=
  Claim7.holds_tied_plain_at .later [] _ _ _ _ said (fun _ h => by cases h) (by kernel_rfl) (fun _ h => by cases h) roadsCheckedUpto_row_tie rfl ⟨rfl, rfl⟩ (by kernel_rfl) rfl plain (by kernel_rfl)
end roadsCheckedUpto
end Go.Proofs.YtnlbapfbdabjaaaDoor
