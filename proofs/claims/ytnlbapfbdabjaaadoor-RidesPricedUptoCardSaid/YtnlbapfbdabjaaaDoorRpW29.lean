/- Proved: RidesPriced, where what it reads is of bulk at most 1048576: the law holds of the program. No conditions but the statement's own. -/
import Derived.Test.YtnlbapfbdabjaaaDoorRows
import Derived.WalkKit
import Derived.ProofKit
import Derived.OpenShut
import Derived.ChangeOld
import Derived.Below
import Derived.Carry
import Derived.ChangeArms
import Derived.JoinedCond
import Derived.Test.YtnlbapfbdabjaaaDoorCards
import Derived.Test.YtnlbapfbdabjaaaDoorTie
import Derived.Deep.DeepHandedRow
import Derived.Test.YtnlbapfbdabjaaaDoorRpSh
import Derived.Test.YtnlbapfbdabjaaaDoorRpW26
import Derived.Test.YtnlbapfbdabjaaaDoorRpW27
import Derived.Test.YtnlbapfbdabjaaaDoorRpW28
set_option linter.unusedSimpArgs false
set_option linter.unusedVariables false
set_option linter.unusedSectionVars false
namespace Go.Proofs.YtnlbapfbdabjaaaDoor
open Go Go.GL
attribute [local irreducible] Ycall GCalls
set_option maxRecDepth 10000
set_option maxHeartbeats 0
theorem full_in {l : List SZone} {p : SPrice} {t : SJourney} (h1 : p.From ≤ hourF t) (h2 : hourF t < p.To) : fullF l p t = min (max ((full0 (crossF l t.Nodes).length p t * p.Peak + 99) / 100) p.Least) p.Most := by unfold fullF full1; rw [if_pos ⟨h1, h2⟩]
theorem full_out {l : List SZone} {p : SPrice} {t : SJourney} (h : ¬ (p.From ≤ hourF t ∧ hourF t < p.To)) : fullF l p t = min (max (full0 (crossF l t.Nodes).length p t) p.Least) p.Most := by unfold fullF full1; rw [if_neg h]
theorem mm (x a b : Int) : (if b < (if a > x then a else x) then b else (if a > x then a else x)) = min (max x a) b := by split <;> split <;> omega
theorem p89 {G0 : GH} {v w : Value} {l : List SZone} {p : SPrice} {t : SJourney} (hv : RSl rZone G0 v l) (hw : RSl Rp.str G0 w t.Nodes) (hn : (l.length : Int) ≤ 9223372036854775807) (hz : ∀ z ∈ l, z.Nodes.length ≤ 500 ∧ sorted z.Nodes) (hp : POk p) (ht : TOk t) : Pure Tryd.prog G0 89 [v, .agg #[.string p.Key, V p.Base, V p.Metre, V p.Minute, V p.Cross, V p.From, V p.To, V p.Peak, V p.Least, V p.Most], .agg #[.string t.Ride, .string t.Rider, w, V t.Metres, V t.Time_From, V t.Time_To]] (V (fullF l p t)) := by
  intro G hG; replace hv := hv.le hG; replace hw := hw.le hG
  clear hG G0
  refine enter Tryd.func89 72 #[.tmp 6] rfl Tryd.ntmps89 rfl (by decide +kernel) rfl ?_
  obtain ⟨a, c, rfl⟩ := hv.val
  obtain ⟨b, d, rfl⟩ := hw.val
  have hcl : (crossF l t.Nodes).length ≤ t.Nodes.length := by have := cross_len l t.Nodes t.Nodes.length; rwa [List.take_length] at this
  have hb := fb (L := (crossF l t.Nodes).length) hp ht (by omega) (by have := ht.d; omega)
  obtain ⟨ha1, ha2, ha3, ha4, ha5⟩ := hb
  have hp' := hp
  obtain ⟨_, hp1, hp2, hp3, hp4, hp5, hp6, hp7⟩ := hp'
  have ht' := ht
  obtain ⟨ht1, ht2, ht3, ht4⟩ := ht'
  have d3 : t.Time_From.tmod 86400000 = t.Time_From % 86400000 := Int.tmod_eq_emod_of_nonneg ht2.1
  have d4 : (t.Time_From % 86400000).tdiv 3600000 = hourF t := Int.tdiv_eq_ediv_of_nonneg (by omega)
  have hh : 0 ≤ hourF t ∧ hourF t ≤ 24 := by unfold hourF; omega
  have n0 : p.Base + p.Metre * ((t.Metres + 99) / 100) + p.Minute * ((t.Time_To - t.Time_From + 59999) / 60000) + p.Cross * max 0 (((crossF l t.Nodes).length : Int) - 1) = full0 (crossF l t.Nodes).length p t := rfl
  have d1 : (t.Metres + 99).tdiv 100 = (t.Metres + 99) / 100 := Int.tdiv_eq_ediv_of_nonneg (by omega)
  have d2 : (t.Time_To - t.Time_From + 60000 - 1).tdiv 60000 = (t.Time_To - t.Time_From + 59999) / 60000 := by
    rw [Int.tdiv_eq_ediv_of_nonneg (by omega)]; congr 1; omega
  have d5 : (full0 (crossF l t.Nodes).length p t * p.Peak + 99).tdiv 100 = (full0 (crossF l t.Nodes).length p t * p.Peak + 99) / 100 := Int.tdiv_eq_ediv_of_nonneg (by omega)
  have k1 : IntKind.i64.wrap (p.Cross * max 0 (((crossF l t.Nodes).length : Int) - 1)) = p.Cross * max 0 (((crossF l t.Nodes).length : Int) - 1) := wrap_id (by omega)
  have k2 : IntKind.i64.wrap (full0 (crossF l t.Nodes).length p t) = full0 (crossF l t.Nodes).length p t := wrap_id (by omega)
  have k3 : IntKind.i64.wrap (full0 (crossF l t.Nodes).length p t * p.Peak) = full0 (crossF l t.Nodes).length p t * p.Peak := wrap_id (by omega)
  have k4 : IntKind.i64.wrap (full0 (crossF l t.Nodes).length p t * p.Peak + 99) = full0 (crossF l t.Nodes).length p t * p.Peak + 99 := wrap_id (by omega)
  have k5 : IntKind.i64.wrap ((full0 (crossF l t.Nodes).length p t * p.Peak + 99) / 100) = (full0 (crossF l t.Nodes).length p t * p.Peak + 99) / 100 := wrap_id (by omega)
  have mx : (if ((crossF l t.Nodes).length : Int) - 1 > 0 then ((crossF l t.Nodes).length : Int) - 1 else 0) = max 0 (((crossF l t.Nodes).length : Int) - 1) := by split <;> omega
  focus
    simp (maxDischargeDepth := 9) only [↓gB, gV, gT, reduceIte, reduceCtorEq, Nat.reduceEqDiff, Nat.reduceAdd, Nat.reduceSub, Nat.reduceLeDiff, Nat.reduceLT, Int.reduceEq, Nat.reduceMul, d3, d4, d1, d2, d5, k1, k2, k3, k4, k5, mx, n0]
    refine Yn2 fun r1 h1 => ?_
    simp (maxDischargeDepth := 9) only [↓gB, gV, gT, reduceIte, reduceCtorEq, Nat.reduceEqDiff, Nat.reduceAdd, Nat.reduceSub, Nat.reduceLeDiff, Nat.reduceLT, Int.reduceEq, Nat.reduceMul, d3, d4, d1, d2, d5, k1, k2, k3, k4, k5, h1, mx, n0]
    refine Yn2 fun r2 h2 => ?_
    have n2 := h2
    simp only [put_none_eq, ne_eq] at n2
    simp (maxDischargeDepth := 9) only [↓gB, gV, gT, reduceIte, reduceCtorEq, Nat.reduceEqDiff, Nat.reduceAdd, Nat.reduceSub, Nat.reduceLeDiff, Nat.reduceLT, Int.reduceEq, Nat.reduceMul, d3, d4, d1, d2, d5, k1, k2, k3, k4, k5, h1, h2, n2, mx, n0]
    refine Xdraw_intro [0, 1, 2, 3, 4, 5, 6, 7, 8, 9, 10, 11, 12, 13, 14, 15, 16, 17, 18, 19, 20, 21, 22, 23, 24, 25, 26, 27, 28, 29, 30, 31, 32, 33, 34, 35] mixed (by kernel_rfl) (by decide +kernel) ?_
    simp (maxDischargeDepth := 9) only [↓gB, gV, gT, reduceIte, reduceCtorEq, Nat.reduceEqDiff, Nat.reduceAdd, Nat.reduceSub, Nat.reduceLeDiff, Nat.reduceLT, Int.reduceEq, Nat.reduceMul, d3, d4, d1, d2, d5, k1, k2, k3, k4, k5, h1, h2, n2, mx, n0]
    have l1 := le_put h1 ((Go.Obj.cells #[Go.Value.string p.Key, Go.GL.V p.Base, Go.GL.V p.Metre, Go.GL.V p.Minute, Go.GL.V p.Cross, Go.GL.V p.From, Go.GL.V p.To, Go.GL.V p.Peak, Go.GL.V p.Least, Go.GL.V p.Most] 66, Bool.true))
    have y1 := put_self G r1 ((Go.Obj.cells #[Go.Value.string p.Key, Go.GL.V p.Base, Go.GL.V p.Metre, Go.GL.V p.Minute, Go.GL.V p.Cross, Go.GL.V p.From, Go.GL.V p.To, Go.GL.V p.Peak, Go.GL.V p.Least, Go.GL.V p.Most] 66, Bool.true))
    generalize GH.put G r1 ((Go.Obj.cells #[Go.Value.string p.Key, Go.GL.V p.Base, Go.GL.V p.Metre, Go.GL.V p.Minute, Go.GL.V p.Cross, Go.GL.V p.From, Go.GL.V p.To, Go.GL.V p.Peak, Go.GL.V p.Least, Go.GL.V p.Most] 66, Bool.true)) = G1 at *
    replace hv := RSl.le hv l1
    replace hw := RSl.le hw l1
    have q2_0 := GH.le.none l1 h2
    have l2 := le_put h2 ((Go.Obj.cells #[Go.Value.string t.Ride, Go.Value.string t.Rider, Go.Value.slice b t.Nodes.length d, Go.GL.V t.Metres, Go.GL.V t.Time_From, Go.GL.V t.Time_To] 70, Bool.true))
    have y2 := put_self G1 r2 ((Go.Obj.cells #[Go.Value.string t.Ride, Go.Value.string t.Rider, Go.Value.slice b t.Nodes.length d, Go.GL.V t.Metres, Go.GL.V t.Time_From, Go.GL.V t.Time_To] 70, Bool.true))
    generalize GH.put G1 r2 ((Go.Obj.cells #[Go.Value.string t.Ride, Go.Value.string t.Rider, Go.Value.slice b t.Nodes.length d, Go.GL.V t.Metres, Go.GL.V t.Time_From, Go.GL.V t.Time_To] 70, Bool.true)) = G2 at *
    replace l1 := GH.le.trans l1 l2
    replace y1 := l2 _ _ y1
    replace hv := RSl.le hv l2
    replace hw := RSl.le hw l2
    refine Ycg (g83 (by assumption) (by assumption) (by assumption) (by omega) (by assumption)) ?_ ?_
    · exact upRSl _ _
    intro u3 G3 l3 w3
    replace l2 := GH.le.trans l2 l3
    replace y2 := l3 _ _ y2
    replace l1 := GH.le.trans l1 l3
    replace y1 := l3 _ _ y1
    replace hv := RSl.le hv l3
    replace hw := RSl.le hw l3
    obtain ⟨aw3, cw3, rfl⟩ := RSl.val w3
    simp (maxDischargeDepth := 9) only [↓gB, gV, gT, reduceIte, reduceCtorEq, Nat.reduceEqDiff, Nat.reduceAdd, Nat.reduceSub, Nat.reduceLeDiff, Nat.reduceLT, Int.reduceEq, Nat.reduceMul, d3, d4, d1, d2, d5, k1, k2, k3, k4, k5, h1, n2, h2, q2_0, y2, y1, mx, n0]
    have q1 : Go.IntKind.i64.wrap (Go.Proofs.YtnlbapfbdabjaaaDoor.hourF t) = Go.Proofs.YtnlbapfbdabjaaaDoor.hourF t := wrap_id (by omega)
    simp (maxDischargeDepth := 9) only [↓gB, gV, gT, reduceIte, reduceCtorEq, Nat.reduceEqDiff, Nat.reduceAdd, Nat.reduceSub, Nat.reduceLeDiff, Nat.reduceLT, Int.reduceEq, Nat.reduceMul, d3, d4, d1, d2, d5, k1, k2, k3, k4, k5, h1, n2, h2, q2_0, y2, y1, q1, mx, n0]
    by_cases c1 : (p.From : Int) ≤ Go.Proofs.YtnlbapfbdabjaaaDoor.hourF t
    rotate_left 1
    focus
      simp (maxDischargeDepth := 9) only [↓gB, gV, gT, reduceIte, reduceCtorEq, Nat.reduceEqDiff, Nat.reduceAdd, Nat.reduceSub, Nat.reduceLeDiff, Nat.reduceLT, Int.reduceEq, Nat.reduceMul, d3, d4, d1, d2, d5, k1, k2, k3, k4, k5, h1, n2, h2, q2_0, y2, y1, q1, c1, mx, n0]
      refine Kup_val (by simp (maxDischargeDepth := 9) only [le_self, le_puts, le_put0, h1, n2, h2, q2_0, l3, l2, l1]) ?_
      have q2 : Go.IntKind.i64.wrap (t.Metres + 99) = t.Metres + 99 := wrap_id (by omega)
      simp (maxDischargeDepth := 9) only [↓gB, gV, gT, reduceIte, reduceCtorEq, Nat.reduceEqDiff, Nat.reduceAdd, Nat.reduceSub, Nat.reduceLeDiff, Nat.reduceLT, Int.reduceEq, Nat.reduceMul, d3, d4, d1, d2, d5, k1, k2, k3, k4, k5, h1, n2, h2, q2_0, y2, y1, q1, c1, q2, mx, n0]
      have q3 : Go.IntKind.i64.wrap ((t.Metres + 99) / 100) = (t.Metres + 99) / 100 := wrap_id (by omega)
      simp (maxDischargeDepth := 9) only [↓gB, gV, gT, reduceIte, reduceCtorEq, Nat.reduceEqDiff, Nat.reduceAdd, Nat.reduceSub, Nat.reduceLeDiff, Nat.reduceLT, Int.reduceEq, Nat.reduceMul, d3, d4, d1, d2, d5, k1, k2, k3, k4, k5, h1, n2, h2, q2_0, y2, y1, q1, c1, q2, q3, mx, n0]
      have q4 : Go.IntKind.i64.wrap (p.Metre * ((t.Metres + 99) / 100)) = p.Metre * ((t.Metres + 99) / 100) := wrap_id (by omega)
      simp (maxDischargeDepth := 9) only [↓gB, gV, gT, reduceIte, reduceCtorEq, Nat.reduceEqDiff, Nat.reduceAdd, Nat.reduceSub, Nat.reduceLeDiff, Nat.reduceLT, Int.reduceEq, Nat.reduceMul, d3, d4, d1, d2, d5, k1, k2, k3, k4, k5, h1, n2, h2, q2_0, y2, y1, q1, c1, q2, q3, q4, mx, n0]
      have q5 : Go.IntKind.i64.wrap (p.Base + p.Metre * ((t.Metres + 99) / 100)) = p.Base + p.Metre * ((t.Metres + 99) / 100) := wrap_id (by omega)
      simp (maxDischargeDepth := 9) only [↓gB, gV, gT, reduceIte, reduceCtorEq, Nat.reduceEqDiff, Nat.reduceAdd, Nat.reduceSub, Nat.reduceLeDiff, Nat.reduceLT, Int.reduceEq, Nat.reduceMul, d3, d4, d1, d2, d5, k1, k2, k3, k4, k5, h1, n2, h2, q2_0, y2, y1, q1, c1, q2, q3, q4, q5, mx, n0]
      have q6 : Go.IntKind.i64.wrap (t.Time_To - t.Time_From) = t.Time_To - t.Time_From := wrap_id (by omega)
      simp (maxDischargeDepth := 9) only [↓gB, gV, gT, reduceIte, reduceCtorEq, Nat.reduceEqDiff, Nat.reduceAdd, Nat.reduceSub, Nat.reduceLeDiff, Nat.reduceLT, Int.reduceEq, Nat.reduceMul, d3, d4, d1, d2, d5, k1, k2, k3, k4, k5, h1, n2, h2, q2_0, y2, y1, q1, c1, q2, q3, q4, q5, q6, mx, n0]
      have q7 : Go.IntKind.i64.wrap (t.Time_To - t.Time_From + 60000) = t.Time_To - t.Time_From + 60000 := wrap_id (by omega)
      simp (maxDischargeDepth := 9) only [↓gB, gV, gT, reduceIte, reduceCtorEq, Nat.reduceEqDiff, Nat.reduceAdd, Nat.reduceSub, Nat.reduceLeDiff, Nat.reduceLT, Int.reduceEq, Nat.reduceMul, d3, d4, d1, d2, d5, k1, k2, k3, k4, k5, h1, n2, h2, q2_0, y2, y1, q1, c1, q2, q3, q4, q5, q6, q7, mx, n0]
      have q8 : Go.IntKind.i64.wrap (t.Time_To - t.Time_From + 60000 - 1) = t.Time_To - t.Time_From + 60000 - 1 := wrap_id (by omega)
      simp (maxDischargeDepth := 9) only [↓gB, gV, gT, reduceIte, reduceCtorEq, Nat.reduceEqDiff, Nat.reduceAdd, Nat.reduceSub, Nat.reduceLeDiff, Nat.reduceLT, Int.reduceEq, Nat.reduceMul, d3, d4, d1, d2, d5, k1, k2, k3, k4, k5, h1, n2, h2, q2_0, y2, y1, q1, c1, q2, q3, q4, q5, q6, q7, q8, mx, n0]
      have q9 : Go.IntKind.i64.wrap ((t.Time_To - t.Time_From + 59999) / 60000) = (t.Time_To - t.Time_From + 59999) / 60000 := wrap_id (by omega)
      simp (maxDischargeDepth := 9) only [↓gB, gV, gT, reduceIte, reduceCtorEq, Nat.reduceEqDiff, Nat.reduceAdd, Nat.reduceSub, Nat.reduceLeDiff, Nat.reduceLT, Int.reduceEq, Nat.reduceMul, d3, d4, d1, d2, d5, k1, k2, k3, k4, k5, h1, n2, h2, q2_0, y2, y1, q1, c1, q2, q3, q4, q5, q6, q7, q8, q9, mx, n0]
      have q10 : Go.IntKind.i64.wrap (p.Minute * ((t.Time_To - t.Time_From + 59999) / 60000)) = p.Minute * ((t.Time_To - t.Time_From + 59999) / 60000) := wrap_id (by omega)
      simp (maxDischargeDepth := 9) only [↓gB, gV, gT, reduceIte, reduceCtorEq, Nat.reduceEqDiff, Nat.reduceAdd, Nat.reduceSub, Nat.reduceLeDiff, Nat.reduceLT, Int.reduceEq, Nat.reduceMul, d3, d4, d1, d2, d5, k1, k2, k3, k4, k5, h1, n2, h2, q2_0, y2, y1, q1, c1, q2, q3, q4, q5, q6, q7, q8, q9, q10, mx, n0]
      have q11 : Go.IntKind.i64.wrap (p.Base + p.Metre * ((t.Metres + 99) / 100) + p.Minute * ((t.Time_To - t.Time_From + 59999) / 60000)) = p.Base + p.Metre * ((t.Metres + 99) / 100) + p.Minute * ((t.Time_To - t.Time_From + 59999) / 60000) := wrap_id (by omega)
      simp (maxDischargeDepth := 9) only [↓gB, gV, gT, reduceIte, reduceCtorEq, Nat.reduceEqDiff, Nat.reduceAdd, Nat.reduceSub, Nat.reduceLeDiff, Nat.reduceLT, Int.reduceEq, Nat.reduceMul, d3, d4, d1, d2, d5, k1, k2, k3, k4, k5, h1, n2, h2, q2_0, y2, y1, q1, c1, q2, q3, q4, q5, q6, q7, q8, q9, q10, q11, mx, n0]
      have q12 : Go.IntKind.i64.wrap (↑(Go.Proofs.YtnlbapfbdabjaaaDoor.crossF l t.Nodes).length - 1) = ↑(Go.Proofs.YtnlbapfbdabjaaaDoor.crossF l t.Nodes).length - 1 := wrap_id (by omega)
      simp (maxDischargeDepth := 9) only [↓gB, gV, gT, reduceIte, reduceCtorEq, Nat.reduceEqDiff, Nat.reduceAdd, Nat.reduceSub, Nat.reduceLeDiff, Nat.reduceLT, Int.reduceEq, Nat.reduceMul, d3, d4, d1, d2, d5, k1, k2, k3, k4, k5, h1, n2, h2, q2_0, y2, y1, q1, c1, q2, q3, q4, q5, q6, q7, q8, q9, q10, q11, q12, mx, n0]
      focus (rw [full_out (fun q => absurd q.1 (by assumption)), mm]; done)
    rotate_right 1
    simp (maxDischargeDepth := 9) only [↓gB, gV, gT, reduceIte, reduceCtorEq, Nat.reduceEqDiff, Nat.reduceAdd, Nat.reduceSub, Nat.reduceLeDiff, Nat.reduceLT, Int.reduceEq, Nat.reduceMul, d3, d4, d1, d2, d5, k1, k2, k3, k4, k5, h1, n2, h2, q2_0, y2, y1, q1, c1, mx, n0]
    refine Xc_split _ _ _ _ _ (fun c2 => ?_) (fun c2 => ?_)
    rotate_left 1
    focus
      simp (maxDischargeDepth := 9) only [↓gB, gV, gT, reduceIte, reduceCtorEq, Nat.reduceEqDiff, Nat.reduceAdd, Nat.reduceSub, Nat.reduceLeDiff, Nat.reduceLT, Int.reduceEq, Nat.reduceMul, d3, d4, d1, d2, d5, k1, k2, k3, k4, k5, h1, n2, h2, q2_0, y2, y1, q1, c1, c2, mx, n0]
      refine Kup_val (by simp (maxDischargeDepth := 9) only [le_self, le_puts, le_put0, h1, n2, h2, q2_0, l3, l2, l1]) ?_
      have q2 : Go.IntKind.i64.wrap (t.Metres + 99) = t.Metres + 99 := wrap_id (by omega)
      simp (maxDischargeDepth := 9) only [↓gB, gV, gT, reduceIte, reduceCtorEq, Nat.reduceEqDiff, Nat.reduceAdd, Nat.reduceSub, Nat.reduceLeDiff, Nat.reduceLT, Int.reduceEq, Nat.reduceMul, d3, d4, d1, d2, d5, k1, k2, k3, k4, k5, h1, n2, h2, q2_0, y2, y1, q1, c1, c2, q2, mx, n0]
      have q3 : Go.IntKind.i64.wrap ((t.Metres + 99) / 100) = (t.Metres + 99) / 100 := wrap_id (by omega)
      simp (maxDischargeDepth := 9) only [↓gB, gV, gT, reduceIte, reduceCtorEq, Nat.reduceEqDiff, Nat.reduceAdd, Nat.reduceSub, Nat.reduceLeDiff, Nat.reduceLT, Int.reduceEq, Nat.reduceMul, d3, d4, d1, d2, d5, k1, k2, k3, k4, k5, h1, n2, h2, q2_0, y2, y1, q1, c1, c2, q2, q3, mx, n0]
      have q4 : Go.IntKind.i64.wrap (p.Metre * ((t.Metres + 99) / 100)) = p.Metre * ((t.Metres + 99) / 100) := wrap_id (by omega)
      simp (maxDischargeDepth := 9) only [↓gB, gV, gT, reduceIte, reduceCtorEq, Nat.reduceEqDiff, Nat.reduceAdd, Nat.reduceSub, Nat.reduceLeDiff, Nat.reduceLT, Int.reduceEq, Nat.reduceMul, d3, d4, d1, d2, d5, k1, k2, k3, k4, k5, h1, n2, h2, q2_0, y2, y1, q1, c1, c2, q2, q3, q4, mx, n0]
      have q5 : Go.IntKind.i64.wrap (p.Base + p.Metre * ((t.Metres + 99) / 100)) = p.Base + p.Metre * ((t.Metres + 99) / 100) := wrap_id (by omega)
      simp (maxDischargeDepth := 9) only [↓gB, gV, gT, reduceIte, reduceCtorEq, Nat.reduceEqDiff, Nat.reduceAdd, Nat.reduceSub, Nat.reduceLeDiff, Nat.reduceLT, Int.reduceEq, Nat.reduceMul, d3, d4, d1, d2, d5, k1, k2, k3, k4, k5, h1, n2, h2, q2_0, y2, y1, q1, c1, c2, q2, q3, q4, q5, mx, n0]
      have q6 : Go.IntKind.i64.wrap (t.Time_To - t.Time_From) = t.Time_To - t.Time_From := wrap_id (by omega)
      simp (maxDischargeDepth := 9) only [↓gB, gV, gT, reduceIte, reduceCtorEq, Nat.reduceEqDiff, Nat.reduceAdd, Nat.reduceSub, Nat.reduceLeDiff, Nat.reduceLT, Int.reduceEq, Nat.reduceMul, d3, d4, d1, d2, d5, k1, k2, k3, k4, k5, h1, n2, h2, q2_0, y2, y1, q1, c1, c2, q2, q3, q4, q5, q6, mx, n0]
      have q7 : Go.IntKind.i64.wrap (t.Time_To - t.Time_From + 60000) = t.Time_To - t.Time_From + 60000 := wrap_id (by omega)
      simp (maxDischargeDepth := 9) only [↓gB, gV, gT, reduceIte, reduceCtorEq, Nat.reduceEqDiff, Nat.reduceAdd, Nat.reduceSub, Nat.reduceLeDiff, Nat.reduceLT, Int.reduceEq, Nat.reduceMul, d3, d4, d1, d2, d5, k1, k2, k3, k4, k5, h1, n2, h2, q2_0, y2, y1, q1, c1, c2, q2, q3, q4, q5, q6, q7, mx, n0]
      have q8 : Go.IntKind.i64.wrap (t.Time_To - t.Time_From + 60000 - 1) = t.Time_To - t.Time_From + 60000 - 1 := wrap_id (by omega)
      simp (maxDischargeDepth := 9) only [↓gB, gV, gT, reduceIte, reduceCtorEq, Nat.reduceEqDiff, Nat.reduceAdd, Nat.reduceSub, Nat.reduceLeDiff, Nat.reduceLT, Int.reduceEq, Nat.reduceMul, d3, d4, d1, d2, d5, k1, k2, k3, k4, k5, h1, n2, h2, q2_0, y2, y1, q1, c1, c2, q2, q3, q4, q5, q6, q7, q8, mx, n0]
      have q9 : Go.IntKind.i64.wrap ((t.Time_To - t.Time_From + 59999) / 60000) = (t.Time_To - t.Time_From + 59999) / 60000 := wrap_id (by omega)
      simp (maxDischargeDepth := 9) only [↓gB, gV, gT, reduceIte, reduceCtorEq, Nat.reduceEqDiff, Nat.reduceAdd, Nat.reduceSub, Nat.reduceLeDiff, Nat.reduceLT, Int.reduceEq, Nat.reduceMul, d3, d4, d1, d2, d5, k1, k2, k3, k4, k5, h1, n2, h2, q2_0, y2, y1, q1, c1, c2, q2, q3, q4, q5, q6, q7, q8, q9, mx, n0]
      have q10 : Go.IntKind.i64.wrap (p.Minute * ((t.Time_To - t.Time_From + 59999) / 60000)) = p.Minute * ((t.Time_To - t.Time_From + 59999) / 60000) := wrap_id (by omega)
      simp (maxDischargeDepth := 9) only [↓gB, gV, gT, reduceIte, reduceCtorEq, Nat.reduceEqDiff, Nat.reduceAdd, Nat.reduceSub, Nat.reduceLeDiff, Nat.reduceLT, Int.reduceEq, Nat.reduceMul, d3, d4, d1, d2, d5, k1, k2, k3, k4, k5, h1, n2, h2, q2_0, y2, y1, q1, c1, c2, q2, q3, q4, q5, q6, q7, q8, q9, q10, mx, n0]
      have q11 : Go.IntKind.i64.wrap (p.Base + p.Metre * ((t.Metres + 99) / 100) + p.Minute * ((t.Time_To - t.Time_From + 59999) / 60000)) = p.Base + p.Metre * ((t.Metres + 99) / 100) + p.Minute * ((t.Time_To - t.Time_From + 59999) / 60000) := wrap_id (by omega)
      simp (maxDischargeDepth := 9) only [↓gB, gV, gT, reduceIte, reduceCtorEq, Nat.reduceEqDiff, Nat.reduceAdd, Nat.reduceSub, Nat.reduceLeDiff, Nat.reduceLT, Int.reduceEq, Nat.reduceMul, d3, d4, d1, d2, d5, k1, k2, k3, k4, k5, h1, n2, h2, q2_0, y2, y1, q1, c1, c2, q2, q3, q4, q5, q6, q7, q8, q9, q10, q11, mx, n0]
      have q12 : Go.IntKind.i64.wrap (↑(Go.Proofs.YtnlbapfbdabjaaaDoor.crossF l t.Nodes).length - 1) = ↑(Go.Proofs.YtnlbapfbdabjaaaDoor.crossF l t.Nodes).length - 1 := wrap_id (by omega)
      simp (maxDischargeDepth := 9) only [↓gB, gV, gT, reduceIte, reduceCtorEq, Nat.reduceEqDiff, Nat.reduceAdd, Nat.reduceSub, Nat.reduceLeDiff, Nat.reduceLT, Int.reduceEq, Nat.reduceMul, d3, d4, d1, d2, d5, k1, k2, k3, k4, k5, h1, n2, h2, q2_0, y2, y1, q1, c1, c2, q2, q3, q4, q5, q6, q7, q8, q9, q10, q11, q12, mx, n0]
      focus (rw [full_out (fun q => absurd q.2 (by assumption)), mm]; done)
    rotate_right 1
    simp (maxDischargeDepth := 9) only [↓gB, gV, gT, reduceIte, reduceCtorEq, Nat.reduceEqDiff, Nat.reduceAdd, Nat.reduceSub, Nat.reduceLeDiff, Nat.reduceLT, Int.reduceEq, Nat.reduceMul, d3, d4, d1, d2, d5, k1, k2, k3, k4, k5, h1, n2, h2, q2_0, y2, y1, q1, c1, c2, mx, n0]
    refine Kup_val (by simp (maxDischargeDepth := 9) only [le_self, le_puts, le_put0, h1, n2, h2, q2_0, l3, l2, l1]) ?_
    have q2 : Go.IntKind.i64.wrap (t.Metres + 99) = t.Metres + 99 := wrap_id (by omega)
    simp (maxDischargeDepth := 9) only [↓gB, gV, gT, reduceIte, reduceCtorEq, Nat.reduceEqDiff, Nat.reduceAdd, Nat.reduceSub, Nat.reduceLeDiff, Nat.reduceLT, Int.reduceEq, Nat.reduceMul, d3, d4, d1, d2, d5, k1, k2, k3, k4, k5, h1, n2, h2, q2_0, y2, y1, q1, c1, c2, q2, mx, n0]
    have q3 : Go.IntKind.i64.wrap ((t.Metres + 99) / 100) = (t.Metres + 99) / 100 := wrap_id (by omega)
    simp (maxDischargeDepth := 9) only [↓gB, gV, gT, reduceIte, reduceCtorEq, Nat.reduceEqDiff, Nat.reduceAdd, Nat.reduceSub, Nat.reduceLeDiff, Nat.reduceLT, Int.reduceEq, Nat.reduceMul, d3, d4, d1, d2, d5, k1, k2, k3, k4, k5, h1, n2, h2, q2_0, y2, y1, q1, c1, c2, q2, q3, mx, n0]
    have q4 : Go.IntKind.i64.wrap (p.Metre * ((t.Metres + 99) / 100)) = p.Metre * ((t.Metres + 99) / 100) := wrap_id (by omega)
    simp (maxDischargeDepth := 9) only [↓gB, gV, gT, reduceIte, reduceCtorEq, Nat.reduceEqDiff, Nat.reduceAdd, Nat.reduceSub, Nat.reduceLeDiff, Nat.reduceLT, Int.reduceEq, Nat.reduceMul, d3, d4, d1, d2, d5, k1, k2, k3, k4, k5, h1, n2, h2, q2_0, y2, y1, q1, c1, c2, q2, q3, q4, mx, n0]
    have q5 : Go.IntKind.i64.wrap (p.Base + p.Metre * ((t.Metres + 99) / 100)) = p.Base + p.Metre * ((t.Metres + 99) / 100) := wrap_id (by omega)
    simp (maxDischargeDepth := 9) only [↓gB, gV, gT, reduceIte, reduceCtorEq, Nat.reduceEqDiff, Nat.reduceAdd, Nat.reduceSub, Nat.reduceLeDiff, Nat.reduceLT, Int.reduceEq, Nat.reduceMul, d3, d4, d1, d2, d5, k1, k2, k3, k4, k5, h1, n2, h2, q2_0, y2, y1, q1, c1, c2, q2, q3, q4, q5, mx, n0]
    have q6 : Go.IntKind.i64.wrap (t.Time_To - t.Time_From) = t.Time_To - t.Time_From := wrap_id (by omega)
    simp (maxDischargeDepth := 9) only [↓gB, gV, gT, reduceIte, reduceCtorEq, Nat.reduceEqDiff, Nat.reduceAdd, Nat.reduceSub, Nat.reduceLeDiff, Nat.reduceLT, Int.reduceEq, Nat.reduceMul, d3, d4, d1, d2, d5, k1, k2, k3, k4, k5, h1, n2, h2, q2_0, y2, y1, q1, c1, c2, q2, q3, q4, q5, q6, mx, n0]
    have q7 : Go.IntKind.i64.wrap (t.Time_To - t.Time_From + 60000) = t.Time_To - t.Time_From + 60000 := wrap_id (by omega)
    simp (maxDischargeDepth := 9) only [↓gB, gV, gT, reduceIte, reduceCtorEq, Nat.reduceEqDiff, Nat.reduceAdd, Nat.reduceSub, Nat.reduceLeDiff, Nat.reduceLT, Int.reduceEq, Nat.reduceMul, d3, d4, d1, d2, d5, k1, k2, k3, k4, k5, h1, n2, h2, q2_0, y2, y1, q1, c1, c2, q2, q3, q4, q5, q6, q7, mx, n0]
    have q8 : Go.IntKind.i64.wrap (t.Time_To - t.Time_From + 60000 - 1) = t.Time_To - t.Time_From + 60000 - 1 := wrap_id (by omega)
    simp (maxDischargeDepth := 9) only [↓gB, gV, gT, reduceIte, reduceCtorEq, Nat.reduceEqDiff, Nat.reduceAdd, Nat.reduceSub, Nat.reduceLeDiff, Nat.reduceLT, Int.reduceEq, Nat.reduceMul, d3, d4, d1, d2, d5, k1, k2, k3, k4, k5, h1, n2, h2, q2_0, y2, y1, q1, c1, c2, q2, q3, q4, q5, q6, q7, q8, mx, n0]
    have q9 : Go.IntKind.i64.wrap ((t.Time_To - t.Time_From + 59999) / 60000) = (t.Time_To - t.Time_From + 59999) / 60000 := wrap_id (by omega)
    simp (maxDischargeDepth := 9) only [↓gB, gV, gT, reduceIte, reduceCtorEq, Nat.reduceEqDiff, Nat.reduceAdd, Nat.reduceSub, Nat.reduceLeDiff, Nat.reduceLT, Int.reduceEq, Nat.reduceMul, d3, d4, d1, d2, d5, k1, k2, k3, k4, k5, h1, n2, h2, q2_0, y2, y1, q1, c1, c2, q2, q3, q4, q5, q6, q7, q8, q9, mx, n0]
    have q10 : Go.IntKind.i64.wrap (p.Minute * ((t.Time_To - t.Time_From + 59999) / 60000)) = p.Minute * ((t.Time_To - t.Time_From + 59999) / 60000) := wrap_id (by omega)
    simp (maxDischargeDepth := 9) only [↓gB, gV, gT, reduceIte, reduceCtorEq, Nat.reduceEqDiff, Nat.reduceAdd, Nat.reduceSub, Nat.reduceLeDiff, Nat.reduceLT, Int.reduceEq, Nat.reduceMul, d3, d4, d1, d2, d5, k1, k2, k3, k4, k5, h1, n2, h2, q2_0, y2, y1, q1, c1, c2, q2, q3, q4, q5, q6, q7, q8, q9, q10, mx, n0]
    have q11 : Go.IntKind.i64.wrap (p.Base + p.Metre * ((t.Metres + 99) / 100) + p.Minute * ((t.Time_To - t.Time_From + 59999) / 60000)) = p.Base + p.Metre * ((t.Metres + 99) / 100) + p.Minute * ((t.Time_To - t.Time_From + 59999) / 60000) := wrap_id (by omega)
    simp (maxDischargeDepth := 9) only [↓gB, gV, gT, reduceIte, reduceCtorEq, Nat.reduceEqDiff, Nat.reduceAdd, Nat.reduceSub, Nat.reduceLeDiff, Nat.reduceLT, Int.reduceEq, Nat.reduceMul, d3, d4, d1, d2, d5, k1, k2, k3, k4, k5, h1, n2, h2, q2_0, y2, y1, q1, c1, c2, q2, q3, q4, q5, q6, q7, q8, q9, q10, q11, mx, n0]
    have q12 : Go.IntKind.i64.wrap (↑(Go.Proofs.YtnlbapfbdabjaaaDoor.crossF l t.Nodes).length - 1) = ↑(Go.Proofs.YtnlbapfbdabjaaaDoor.crossF l t.Nodes).length - 1 := wrap_id (by omega)
    simp (maxDischargeDepth := 9) only [↓gB, gV, gT, reduceIte, reduceCtorEq, Nat.reduceEqDiff, Nat.reduceAdd, Nat.reduceSub, Nat.reduceLeDiff, Nat.reduceLT, Int.reduceEq, Nat.reduceMul, d3, d4, d1, d2, d5, k1, k2, k3, k4, k5, h1, n2, h2, q2_0, y2, y1, q1, c1, c2, q2, q3, q4, q5, q6, q7, q8, q9, q10, q11, q12, mx, n0]
    focus (rw [full_in (by assumption) (by assumption), mm]; done)
theorem p41 {G0 : GH} {v w : Value} {l : List SZone} {p : SPrice} {t : SJourney} (hv : RSl rZone G0 v l) (hw : RSl Rp.str G0 w t.Nodes) (hn : (l.length : Int) ≤ 9223372036854775807) (hz : ∀ z ∈ l, z.Nodes.length ≤ 500 ∧ sorted z.Nodes) (hp : POk p) (ht : TOk t) : Pure Tryd.prog G0 41 [v, .agg #[.string p.Key, V p.Base, V p.Metre, V p.Minute, V p.Cross, V p.From, V p.To, V p.Peak, V p.Least, V p.Most], .agg #[.string t.Ride, .string t.Rider, w, V t.Metres, V t.Time_From, V t.Time_To]] (V (fullF l p t)) := by
  intro G hG; replace hv := hv.le hG; replace hw := hw.le hG
  clear hG G0
  refine enter Tryd.func41 68 #[.tmp 6] rfl Tryd.ntmps41 rfl (by decide +kernel) rfl ?_
  obtain ⟨a, c, rfl⟩ := hv.val
  obtain ⟨b, d, rfl⟩ := hw.val
  have hcl : (crossF l t.Nodes).length ≤ t.Nodes.length := by have := cross_len l t.Nodes t.Nodes.length; rwa [List.take_length] at this
  have hb := fb (L := (crossF l t.Nodes).length) hp ht (by omega) (by have := ht.d; omega)
  obtain ⟨ha1, ha2, ha3, ha4, ha5⟩ := hb
  have hp' := hp
  obtain ⟨_, hp1, hp2, hp3, hp4, hp5, hp6, hp7⟩ := hp'
  have ht' := ht
  obtain ⟨ht1, ht2, ht3, ht4⟩ := ht'
  have d3 : t.Time_From.tmod 86400000 = t.Time_From % 86400000 := Int.tmod_eq_emod_of_nonneg ht2.1
  have d4 : (t.Time_From % 86400000).tdiv 3600000 = hourF t := Int.tdiv_eq_ediv_of_nonneg (by omega)
  have hh : 0 ≤ hourF t ∧ hourF t ≤ 24 := by unfold hourF; omega
  have n0 : p.Base + p.Metre * ((t.Metres + 99) / 100) + p.Minute * ((t.Time_To - t.Time_From + 59999) / 60000) + p.Cross * max 0 (((crossF l t.Nodes).length : Int) - 1) = full0 (crossF l t.Nodes).length p t := rfl
  have k1 : IntKind.i64.wrap (p.Cross * max 0 (((crossF l t.Nodes).length : Int) - 1)) = p.Cross * max 0 (((crossF l t.Nodes).length : Int) - 1) := wrap_id (by omega)
  have k2 : IntKind.i64.wrap (full0 (crossF l t.Nodes).length p t) = full0 (crossF l t.Nodes).length p t := wrap_id (by omega)
  have k3 : IntKind.i64.wrap (full0 (crossF l t.Nodes).length p t * p.Peak) = full0 (crossF l t.Nodes).length p t * p.Peak := wrap_id (by omega)
  have k4 : IntKind.i64.wrap (full0 (crossF l t.Nodes).length p t * p.Peak + 99) = full0 (crossF l t.Nodes).length p t * p.Peak + 99 := wrap_id (by omega)
  have k5 : IntKind.i64.wrap ((full0 (crossF l t.Nodes).length p t * p.Peak + 99) / 100) = (full0 (crossF l t.Nodes).length p t * p.Peak + 99) / 100 := wrap_id (by omega)
  have mx : (if ((crossF l t.Nodes).length : Int) - 1 > 0 then ((crossF l t.Nodes).length : Int) - 1 else 0) = max 0 (((crossF l t.Nodes).length : Int) - 1) := by split <;> omega
  focus
    simp (maxDischargeDepth := 9) only [↓gB, gV, gT, reduceIte, reduceCtorEq, Nat.reduceEqDiff, Nat.reduceAdd, Nat.reduceSub, Nat.reduceLeDiff, Nat.reduceLT, Int.reduceEq, Nat.reduceMul, d3, d4, k1, k2, k3, k4, k5, mx, n0, begun1, begun6]
    refine Yn2 fun r1 h1 => ?_
    simp (maxDischargeDepth := 9) only [↓gB, gV, gT, reduceIte, reduceCtorEq, Nat.reduceEqDiff, Nat.reduceAdd, Nat.reduceSub, Nat.reduceLeDiff, Nat.reduceLT, Int.reduceEq, Nat.reduceMul, d3, d4, k1, k2, k3, k4, k5, h1, mx, n0, begun1, begun6]
    refine Yn2 fun r2 h2 => ?_
    have n2 := h2
    simp only [put_none_eq, ne_eq] at n2
    simp (maxDischargeDepth := 9) only [↓gB, gV, gT, reduceIte, reduceCtorEq, Nat.reduceEqDiff, Nat.reduceAdd, Nat.reduceSub, Nat.reduceLeDiff, Nat.reduceLT, Int.reduceEq, Nat.reduceMul, d3, d4, k1, k2, k3, k4, k5, h1, h2, n2, mx, n0, begun1, begun6]
    refine Xdraw_intro [0, 1, 2, 3, 4, 5, 9, 10, 11, 12, 13, 14, 15, 16, 17, 21, 22, 23, 24, 25, 6, 7, 8, 18, 19, 20, 26, 27, 28, 29, 30, 31, 32] mixed (by kernel_rfl) (by decide +kernel) ?_
    simp (maxDischargeDepth := 9) only [↓gB, gV, gT, reduceIte, reduceCtorEq, Nat.reduceEqDiff, Nat.reduceAdd, Nat.reduceSub, Nat.reduceLeDiff, Nat.reduceLT, Int.reduceEq, Nat.reduceMul, d3, d4, k1, k2, k3, k4, k5, h1, h2, n2, mx, n0, begun1, begun6]
    refine Ycp (p90 (by omega) (by omega) (by omega)) ?_
    simp (maxDischargeDepth := 9) only [↓gB, gV, gT, reduceIte, reduceCtorEq, Nat.reduceEqDiff, Nat.reduceAdd, Nat.reduceSub, Nat.reduceLeDiff, Nat.reduceLT, Int.reduceEq, Nat.reduceMul, d3, d4, k1, k2, k3, k4, k5, h1, h2, n2, mx, n0, begun1, begun6]
    have q1 : Go.IntKind.i64.wrap (t.Time_To - t.Time_From) = t.Time_To - t.Time_From := wrap_id (by omega)
    simp (maxDischargeDepth := 9) only [↓gB, gV, gT, reduceIte, reduceCtorEq, Nat.reduceEqDiff, Nat.reduceAdd, Nat.reduceSub, Nat.reduceLeDiff, Nat.reduceLT, Int.reduceEq, Nat.reduceMul, d3, d4, k1, k2, k3, k4, k5, h1, h2, n2, q1, mx, n0, begun1, begun6]
    refine Ycp (p90 (by omega) (by omega) (by omega)) ?_
    simp (maxDischargeDepth := 9) only [↓gB, gV, gT, reduceIte, reduceCtorEq, Nat.reduceEqDiff, Nat.reduceAdd, Nat.reduceSub, Nat.reduceLeDiff, Nat.reduceLT, Int.reduceEq, Nat.reduceMul, d3, d4, k1, k2, k3, k4, k5, h1, h2, n2, q1, mx, n0, begun1, begun6]
    have l1 := le_put h1 ((Go.Obj.cells #[Go.Value.string p.Key, Go.GL.V p.Base, Go.GL.V p.Metre, Go.GL.V p.Minute, Go.GL.V p.Cross, Go.GL.V p.From, Go.GL.V p.To, Go.GL.V p.Peak, Go.GL.V p.Least, Go.GL.V p.Most] 66, Bool.true))
    have y1 := put_self G r1 ((Go.Obj.cells #[Go.Value.string p.Key, Go.GL.V p.Base, Go.GL.V p.Metre, Go.GL.V p.Minute, Go.GL.V p.Cross, Go.GL.V p.From, Go.GL.V p.To, Go.GL.V p.Peak, Go.GL.V p.Least, Go.GL.V p.Most] 66, Bool.true))
    generalize GH.put G r1 ((Go.Obj.cells #[Go.Value.string p.Key, Go.GL.V p.Base, Go.GL.V p.Metre, Go.GL.V p.Minute, Go.GL.V p.Cross, Go.GL.V p.From, Go.GL.V p.To, Go.GL.V p.Peak, Go.GL.V p.Least, Go.GL.V p.Most] 66, Bool.true)) = G1 at *
    replace hv := RSl.le hv l1
    replace hw := RSl.le hw l1
    have q2_0 := GH.le.none l1 h2
    have l2 := le_put h2 ((Go.Obj.cells #[Go.Value.string t.Ride, Go.Value.string t.Rider, Go.Value.slice b t.Nodes.length d, Go.GL.V t.Metres, Go.GL.V t.Time_From, Go.GL.V t.Time_To] 70, Bool.true))
    have y2 := put_self G1 r2 ((Go.Obj.cells #[Go.Value.string t.Ride, Go.Value.string t.Rider, Go.Value.slice b t.Nodes.length d, Go.GL.V t.Metres, Go.GL.V t.Time_From, Go.GL.V t.Time_To] 70, Bool.true))
    generalize GH.put G1 r2 ((Go.Obj.cells #[Go.Value.string t.Ride, Go.Value.string t.Rider, Go.Value.slice b t.Nodes.length d, Go.GL.V t.Metres, Go.GL.V t.Time_From, Go.GL.V t.Time_To] 70, Bool.true)) = G2 at *
    replace l1 := GH.le.trans l1 l2
    replace y1 := l2 _ _ y1
    replace hv := RSl.le hv l2
    replace hw := RSl.le hw l2
    refine Ycg (g33 (by assumption) (by assumption) (by assumption) (by omega) (by assumption)) ?_ ?_
    · exact upRSl _ _
    intro u3 G3 l3 w3
    replace l2 := GH.le.trans l2 l3
    replace y2 := l3 _ _ y2
    replace l1 := GH.le.trans l1 l3
    replace y1 := l3 _ _ y1
    replace hv := RSl.le hv l3
    replace hw := RSl.le hw l3
    obtain ⟨aw3, cw3, rfl⟩ := RSl.val w3
    simp (maxDischargeDepth := 9) only [↓gB, gV, gT, reduceIte, reduceCtorEq, Nat.reduceEqDiff, Nat.reduceAdd, Nat.reduceSub, Nat.reduceLeDiff, Nat.reduceLT, Int.reduceEq, Nat.reduceMul, d3, d4, k1, k2, k3, k4, k5, h1, n2, q1, h2, q2_0, y2, y1, mx, n0, begun1, begun6]
    have q2 : Go.IntKind.i64.wrap (Go.Proofs.YtnlbapfbdabjaaaDoor.hourF t) = Go.Proofs.YtnlbapfbdabjaaaDoor.hourF t := wrap_id (by omega)
    simp (maxDischargeDepth := 9) only [↓gB, gV, gT, reduceIte, reduceCtorEq, Nat.reduceEqDiff, Nat.reduceAdd, Nat.reduceSub, Nat.reduceLeDiff, Nat.reduceLT, Int.reduceEq, Nat.reduceMul, d3, d4, k1, k2, k3, k4, k5, h1, n2, q1, h2, q2_0, y2, y1, q2, mx, n0, begun1, begun6]
    by_cases c1 : (p.From : Int) ≤ Go.Proofs.YtnlbapfbdabjaaaDoor.hourF t
    rotate_left 1
    focus
      simp (maxDischargeDepth := 9) only [↓gB, gV, gT, reduceIte, reduceCtorEq, Nat.reduceEqDiff, Nat.reduceAdd, Nat.reduceSub, Nat.reduceLeDiff, Nat.reduceLT, Int.reduceEq, Nat.reduceMul, d3, d4, k1, k2, k3, k4, k5, h1, n2, q1, h2, q2_0, y2, y1, q2, c1, mx, n0, begun1, begun6]
      refine Kup_val (by simp (maxDischargeDepth := 9) only [le_self, le_puts, le_put0, h1, n2, h2, q2_0, l3, l2, l1]) ?_
      have q3 : Go.IntKind.i64.wrap (p.Metre * ((t.Metres + 99) / 100)) = p.Metre * ((t.Metres + 99) / 100) := wrap_id (by omega)
      simp (maxDischargeDepth := 9) only [↓gB, gV, gT, reduceIte, reduceCtorEq, Nat.reduceEqDiff, Nat.reduceAdd, Nat.reduceSub, Nat.reduceLeDiff, Nat.reduceLT, Int.reduceEq, Nat.reduceMul, d3, d4, k1, k2, k3, k4, k5, h1, n2, q1, h2, q2_0, y2, y1, q2, c1, q3, mx, n0, begun1, begun6]
      have q4 : Go.IntKind.i64.wrap (p.Base + p.Metre * ((t.Metres + 99) / 100)) = p.Base + p.Metre * ((t.Metres + 99) / 100) := wrap_id (by omega)
      simp (maxDischargeDepth := 9) only [↓gB, gV, gT, reduceIte, reduceCtorEq, Nat.reduceEqDiff, Nat.reduceAdd, Nat.reduceSub, Nat.reduceLeDiff, Nat.reduceLT, Int.reduceEq, Nat.reduceMul, d3, d4, k1, k2, k3, k4, k5, h1, n2, q1, h2, q2_0, y2, y1, q2, c1, q3, q4, mx, n0, begun1, begun6]
      have q5 : Go.IntKind.i64.wrap (p.Minute * ((t.Time_To - t.Time_From + 59999) / 60000)) = p.Minute * ((t.Time_To - t.Time_From + 59999) / 60000) := wrap_id (by omega)
      simp (maxDischargeDepth := 9) only [↓gB, gV, gT, reduceIte, reduceCtorEq, Nat.reduceEqDiff, Nat.reduceAdd, Nat.reduceSub, Nat.reduceLeDiff, Nat.reduceLT, Int.reduceEq, Nat.reduceMul, d3, d4, k1, k2, k3, k4, k5, h1, n2, q1, h2, q2_0, y2, y1, q2, c1, q3, q4, q5, mx, n0, begun1, begun6]
      have q6 : Go.IntKind.i64.wrap (p.Base + p.Metre * ((t.Metres + 99) / 100) + p.Minute * ((t.Time_To - t.Time_From + 59999) / 60000)) = p.Base + p.Metre * ((t.Metres + 99) / 100) + p.Minute * ((t.Time_To - t.Time_From + 59999) / 60000) := wrap_id (by omega)
      simp (maxDischargeDepth := 9) only [↓gB, gV, gT, reduceIte, reduceCtorEq, Nat.reduceEqDiff, Nat.reduceAdd, Nat.reduceSub, Nat.reduceLeDiff, Nat.reduceLT, Int.reduceEq, Nat.reduceMul, d3, d4, k1, k2, k3, k4, k5, h1, n2, q1, h2, q2_0, y2, y1, q2, c1, q3, q4, q5, q6, mx, n0, begun1, begun6]
      have q7 : Go.IntKind.i64.wrap (↑(Go.Proofs.YtnlbapfbdabjaaaDoor.crossF l t.Nodes).length - 1) = ↑(Go.Proofs.YtnlbapfbdabjaaaDoor.crossF l t.Nodes).length - 1 := wrap_id (by omega)
      simp (maxDischargeDepth := 9) only [↓gB, gV, gT, reduceIte, reduceCtorEq, Nat.reduceEqDiff, Nat.reduceAdd, Nat.reduceSub, Nat.reduceLeDiff, Nat.reduceLT, Int.reduceEq, Nat.reduceMul, d3, d4, k1, k2, k3, k4, k5, h1, n2, q1, h2, q2_0, y2, y1, q2, c1, q3, q4, q5, q6, q7, mx, n0, begun1, begun6]
      focus (rw [full_out (fun q => absurd q.1 (by assumption)), mm]; done)
    rotate_right 1
    simp (maxDischargeDepth := 9) only [↓gB, gV, gT, reduceIte, reduceCtorEq, Nat.reduceEqDiff, Nat.reduceAdd, Nat.reduceSub, Nat.reduceLeDiff, Nat.reduceLT, Int.reduceEq, Nat.reduceMul, d3, d4, k1, k2, k3, k4, k5, h1, n2, q1, h2, q2_0, y2, y1, q2, c1, mx, n0, begun1, begun6]
    refine Xc_split _ _ _ _ _ (fun c2 => ?_) (fun c2 => ?_)
    rotate_left 1
    focus
      simp (maxDischargeDepth := 9) only [↓gB, gV, gT, reduceIte, reduceCtorEq, Nat.reduceEqDiff, Nat.reduceAdd, Nat.reduceSub, Nat.reduceLeDiff, Nat.reduceLT, Int.reduceEq, Nat.reduceMul, d3, d4, k1, k2, k3, k4, k5, h1, n2, q1, h2, q2_0, y2, y1, q2, c1, c2, mx, n0, begun1, begun6]
      refine Kup_val (by simp (maxDischargeDepth := 9) only [le_self, le_puts, le_put0, h1, n2, h2, q2_0, l3, l2, l1]) ?_
      have q3 : Go.IntKind.i64.wrap (p.Metre * ((t.Metres + 99) / 100)) = p.Metre * ((t.Metres + 99) / 100) := wrap_id (by omega)
      simp (maxDischargeDepth := 9) only [↓gB, gV, gT, reduceIte, reduceCtorEq, Nat.reduceEqDiff, Nat.reduceAdd, Nat.reduceSub, Nat.reduceLeDiff, Nat.reduceLT, Int.reduceEq, Nat.reduceMul, d3, d4, k1, k2, k3, k4, k5, h1, n2, q1, h2, q2_0, y2, y1, q2, c1, c2, q3, mx, n0, begun1, begun6]
      have q4 : Go.IntKind.i64.wrap (p.Base + p.Metre * ((t.Metres + 99) / 100)) = p.Base + p.Metre * ((t.Metres + 99) / 100) := wrap_id (by omega)
      simp (maxDischargeDepth := 9) only [↓gB, gV, gT, reduceIte, reduceCtorEq, Nat.reduceEqDiff, Nat.reduceAdd, Nat.reduceSub, Nat.reduceLeDiff, Nat.reduceLT, Int.reduceEq, Nat.reduceMul, d3, d4, k1, k2, k3, k4, k5, h1, n2, q1, h2, q2_0, y2, y1, q2, c1, c2, q3, q4, mx, n0, begun1, begun6]
      have q5 : Go.IntKind.i64.wrap (p.Minute * ((t.Time_To - t.Time_From + 59999) / 60000)) = p.Minute * ((t.Time_To - t.Time_From + 59999) / 60000) := wrap_id (by omega)
      simp (maxDischargeDepth := 9) only [↓gB, gV, gT, reduceIte, reduceCtorEq, Nat.reduceEqDiff, Nat.reduceAdd, Nat.reduceSub, Nat.reduceLeDiff, Nat.reduceLT, Int.reduceEq, Nat.reduceMul, d3, d4, k1, k2, k3, k4, k5, h1, n2, q1, h2, q2_0, y2, y1, q2, c1, c2, q3, q4, q5, mx, n0, begun1, begun6]
      have q6 : Go.IntKind.i64.wrap (p.Base + p.Metre * ((t.Metres + 99) / 100) + p.Minute * ((t.Time_To - t.Time_From + 59999) / 60000)) = p.Base + p.Metre * ((t.Metres + 99) / 100) + p.Minute * ((t.Time_To - t.Time_From + 59999) / 60000) := wrap_id (by omega)
      simp (maxDischargeDepth := 9) only [↓gB, gV, gT, reduceIte, reduceCtorEq, Nat.reduceEqDiff, Nat.reduceAdd, Nat.reduceSub, Nat.reduceLeDiff, Nat.reduceLT, Int.reduceEq, Nat.reduceMul, d3, d4, k1, k2, k3, k4, k5, h1, n2, q1, h2, q2_0, y2, y1, q2, c1, c2, q3, q4, q5, q6, mx, n0, begun1, begun6]
      have q7 : Go.IntKind.i64.wrap (↑(Go.Proofs.YtnlbapfbdabjaaaDoor.crossF l t.Nodes).length - 1) = ↑(Go.Proofs.YtnlbapfbdabjaaaDoor.crossF l t.Nodes).length - 1 := wrap_id (by omega)
      simp (maxDischargeDepth := 9) only [↓gB, gV, gT, reduceIte, reduceCtorEq, Nat.reduceEqDiff, Nat.reduceAdd, Nat.reduceSub, Nat.reduceLeDiff, Nat.reduceLT, Int.reduceEq, Nat.reduceMul, d3, d4, k1, k2, k3, k4, k5, h1, n2, q1, h2, q2_0, y2, y1, q2, c1, c2, q3, q4, q5, q6, q7, mx, n0, begun1, begun6]
      focus (rw [full_out (fun q => absurd q.2 (by assumption)), mm]; done)
    rotate_right 1
    simp (maxDischargeDepth := 9) only [↓gB, gV, gT, reduceIte, reduceCtorEq, Nat.reduceEqDiff, Nat.reduceAdd, Nat.reduceSub, Nat.reduceLeDiff, Nat.reduceLT, Int.reduceEq, Nat.reduceMul, d3, d4, k1, k2, k3, k4, k5, h1, n2, q1, h2, q2_0, y2, y1, q2, c1, c2, mx, n0, begun1, begun6]
    have q3 : Go.IntKind.i64.wrap (p.Metre * ((t.Metres + 99) / 100)) = p.Metre * ((t.Metres + 99) / 100) := wrap_id (by omega)
    simp (maxDischargeDepth := 9) only [↓gB, gV, gT, reduceIte, reduceCtorEq, Nat.reduceEqDiff, Nat.reduceAdd, Nat.reduceSub, Nat.reduceLeDiff, Nat.reduceLT, Int.reduceEq, Nat.reduceMul, d3, d4, k1, k2, k3, k4, k5, h1, n2, q1, h2, q2_0, y2, y1, q2, c1, c2, q3, mx, n0, begun1, begun6]
    have q4 : Go.IntKind.i64.wrap (p.Base + p.Metre * ((t.Metres + 99) / 100)) = p.Base + p.Metre * ((t.Metres + 99) / 100) := wrap_id (by omega)
    simp (maxDischargeDepth := 9) only [↓gB, gV, gT, reduceIte, reduceCtorEq, Nat.reduceEqDiff, Nat.reduceAdd, Nat.reduceSub, Nat.reduceLeDiff, Nat.reduceLT, Int.reduceEq, Nat.reduceMul, d3, d4, k1, k2, k3, k4, k5, h1, n2, q1, h2, q2_0, y2, y1, q2, c1, c2, q3, q4, mx, n0, begun1, begun6]
    have q5 : Go.IntKind.i64.wrap (p.Minute * ((t.Time_To - t.Time_From + 59999) / 60000)) = p.Minute * ((t.Time_To - t.Time_From + 59999) / 60000) := wrap_id (by omega)
    simp (maxDischargeDepth := 9) only [↓gB, gV, gT, reduceIte, reduceCtorEq, Nat.reduceEqDiff, Nat.reduceAdd, Nat.reduceSub, Nat.reduceLeDiff, Nat.reduceLT, Int.reduceEq, Nat.reduceMul, d3, d4, k1, k2, k3, k4, k5, h1, n2, q1, h2, q2_0, y2, y1, q2, c1, c2, q3, q4, q5, mx, n0, begun1, begun6]
    have q6 : Go.IntKind.i64.wrap (p.Base + p.Metre * ((t.Metres + 99) / 100) + p.Minute * ((t.Time_To - t.Time_From + 59999) / 60000)) = p.Base + p.Metre * ((t.Metres + 99) / 100) + p.Minute * ((t.Time_To - t.Time_From + 59999) / 60000) := wrap_id (by omega)
    simp (maxDischargeDepth := 9) only [↓gB, gV, gT, reduceIte, reduceCtorEq, Nat.reduceEqDiff, Nat.reduceAdd, Nat.reduceSub, Nat.reduceLeDiff, Nat.reduceLT, Int.reduceEq, Nat.reduceMul, d3, d4, k1, k2, k3, k4, k5, h1, n2, q1, h2, q2_0, y2, y1, q2, c1, c2, q3, q4, q5, q6, mx, n0, begun1, begun6]
    have q7 : Go.IntKind.i64.wrap (↑(Go.Proofs.YtnlbapfbdabjaaaDoor.crossF l t.Nodes).length - 1) = ↑(Go.Proofs.YtnlbapfbdabjaaaDoor.crossF l t.Nodes).length - 1 := wrap_id (by omega)
    simp (maxDischargeDepth := 9) only [↓gB, gV, gT, reduceIte, reduceCtorEq, Nat.reduceEqDiff, Nat.reduceAdd, Nat.reduceSub, Nat.reduceLeDiff, Nat.reduceLT, Int.reduceEq, Nat.reduceMul, d3, d4, k1, k2, k3, k4, k5, h1, n2, q1, h2, q2_0, y2, y1, q2, c1, c2, q3, q4, q5, q6, q7, mx, n0, begun1, begun6]
    refine Ycp (p90 (by omega) (by omega) (by omega)) ?_
    simp (maxDischargeDepth := 9) only [↓gB, gV, gT, reduceIte, reduceCtorEq, Nat.reduceEqDiff, Nat.reduceAdd, Nat.reduceSub, Nat.reduceLeDiff, Nat.reduceLT, Int.reduceEq, Nat.reduceMul, d3, d4, k1, k2, k3, k4, k5, h1, n2, q1, h2, q2_0, y2, y1, q2, c1, c2, q3, q4, q5, q6, q7, mx, n0, begun1, begun6]
    refine Kup_val (by simp (maxDischargeDepth := 9) only [le_self, le_puts, le_put0, h1, n2, h2, q2_0, l3, l2, l1]) ?_
    focus (rw [full_in (by assumption) (by assumption), mm]; done)
end Go.Proofs.YtnlbapfbdabjaaaDoor
namespace Go.Proofs.YtnlbapfbdabjaaaDoor
open Go Go.GL
attribute [local irreducible] Ycall GCalls
set_option maxRecDepth 10000
set_option maxHeartbeats 0
theorem cellS {α : Type} {ρ : Rp α} {G : GH} {x : α} {cs : List Value} (h : ρ.R G x cs) : Cellsof ρ G [x] cs := ⟨[cs], by simp, rfl, by
  intro i y c h1 h2
  cases i with
  | zero => simp only [List.getElem?_cons_zero, Option.some.injEq] at h1 h2; subst h1 h2; exact h
  | succ i => simp at h1⟩
theorem p34b {G0 : GH} {p : SPrice} {r : Nat} {e : TypeId} (hr : G0 r = some (.cells [.string p.Key, V p.Base, V p.Metre, V p.Minute, V p.Cross, V p.From, V p.To, V p.Peak, V p.Least, V p.Most].toArray e (0, 0), true)) : Pure Tryd.prog G0 34 [.slice (some ⟨r, 0, none⟩) 1 1] (V (checkPrices [p])) :=
  Pure.own hr (p34 (l := [p]) (frz_at G0 r (cellS (ρ := rPrice) rfl)) (by simp))
theorem p36b {G0 : GH} {p : SPrice} {r : Nat} {e : TypeId} (hr : G0 r = some (.cells [.string p.Key, V p.Base, V p.Metre, V p.Minute, V p.Cross, V p.From, V p.To, V p.Peak, V p.Least, V p.Most].toArray e (0, 0), true)) : Pure Tryd.prog G0 36 [.slice (some ⟨r, 0, none⟩) 1 1] (V (checkPrices [p])) :=
  Pure.own hr (p36 (l := [p]) (frz_at G0 r (cellS (ρ := rPrice) rfl)) (by simp))
theorem p37b {G0 : GH} {t : SJourney} {w : Value} {r : Nat} {e : TypeId} (hl : t.Nodes.length ≤ 1000000000) (hr : G0 r = some (.cells [.string t.Ride, .string t.Rider, w, V t.Metres, V t.Time_From, V t.Time_To].toArray e (0, 0), true)) (hw : RSl Rp.str G0 w t.Nodes) : Pure Tryd.prog G0 37 [.slice (some ⟨r, 0, none⟩) 1 1] (V (checkTrips [t])) :=
  Pure.own hr (p37 (l := [t]) (frz_at G0 r (cellS (ρ := rJourney) ⟨w, rfl, hw.ile (ile_put hr _)⟩)) (by simp) (by simpa using hl))
theorem p39b {G0 : GH} {t : SJourney} {w : Value} {r : Nat} {e : TypeId} (hl : t.Nodes.length ≤ 1000000000) (hr : G0 r = some (.cells [.string t.Ride, .string t.Rider, w, V t.Metres, V t.Time_From, V t.Time_To].toArray e (0, 0), true)) (hw : RSl Rp.str G0 w t.Nodes) : Pure Tryd.prog G0 39 [.slice (some ⟨r, 0, none⟩) 1 1] (V (checkTrips [t])) :=
  Pure.own hr (p39 (l := [t]) (frz_at G0 r (cellS (ρ := rJourney) ⟨w, rfl, hw.ile (ile_put hr _)⟩)) (by simp) (by simpa using hl))
def fullE (l : List SZone) (ps : List SPrice) (ts : List SJourney) : Int := orOf [checkZones l, checkPrices ps, checkTrips ts]
theorem fullE_ok {l : List SZone} {ps : List SPrice} {ts : List SJourney} (h : fullE l ps ts = 0) : checkZones l = 0 ∧ checkPrices ps = 0 ∧ checkTrips ts = 0 := by
  unfold fullE at h
  simp only [orOf] at h
  by_cases h1 : checkZones l = 0
  · by_cases h2 : checkPrices ps = 0
    · by_cases h3 : checkTrips ts = 0
      · exact ⟨h1, h2, h3⟩
      · simp [h1, h2, h3] at h
    · simp [h1, h2] at h
  · simp [h1] at h
theorem p40 {G0 : GH} {v w : Value} {l : List SZone} {p : SPrice} {t : SJourney} (hv : RSl rZone G0 v l) (hw : RSl Rp.str G0 w t.Nodes) (hn : (l.length : Int) ≤ 9223372036854775807) (hl : t.Nodes.length ≤ 1000000000) : Pure Tryd.prog G0 40 [v, .agg #[.string p.Key, V p.Base, V p.Metre, V p.Minute, V p.Cross, V p.From, V p.To, V p.Peak, V p.Least, V p.Most], .agg #[.string t.Ride, .string t.Rider, w, V t.Metres, V t.Time_From, V t.Time_To]] (.tuple #[V (if fullE l [p] [t] = 0 then fullF l p t else 0), V (fullE l [p] [t])]) := by
  intro G hG; replace hv := hv.le hG; replace hw := hw.le hG
  clear hG G0
  refine enter Tryd.func40 26 #[.tmp 6, .tmp 7] rfl Tryd.ntmps40 rfl (by decide +kernel) rfl ?_
  obtain ⟨a, c, rfl⟩ := hv.val
  obtain ⟨b, d, rfl⟩ := hw.val
  have hE : orOf [checkZones l, checkPrices [p], checkTrips [t]] = fullE l [p] [t] := rfl
  by_cases he : fullE l [p] [t] = 0
  · obtain ⟨e1, e2, e3⟩ := fullE_ok he
    have hzz := cz_z e1
    have hp := cp_ok e2 p (by simp)
    have ht := ct_ok e3 t (by simp)
    simp (maxDischargeDepth := 9) only [↓gB, gV, gT, reduceIte, reduceCtorEq, Nat.reduceEqDiff, Nat.reduceAdd, Nat.reduceSub, Nat.reduceLeDiff, Nat.reduceLT, Int.reduceEq, Nat.reduceMul, hE, he]
    refine Yn2 fun r1 h1 => ?_
    simp (maxDischargeDepth := 9) only [↓gB, gV, gT, reduceIte, reduceCtorEq, Nat.reduceEqDiff, Nat.reduceAdd, Nat.reduceSub, Nat.reduceLeDiff, Nat.reduceLT, Int.reduceEq, Nat.reduceMul, h1, hE, he]
    refine Yn2 fun r2 h2 => ?_
    have n2 := h2
    simp only [put_none_eq, ne_eq] at n2
    simp (maxDischargeDepth := 9) only [↓gB, gV, gT, reduceIte, reduceCtorEq, Nat.reduceEqDiff, Nat.reduceAdd, Nat.reduceSub, Nat.reduceLeDiff, Nat.reduceLT, Int.reduceEq, Nat.reduceMul, h1, h2, n2, hE, he]
    refine Xdraw_intro [0, 2, 5, 1, 3, 4, 6, 7, 8, 9, 10] mixed (by kernel_rfl) (by decide +kernel) ?_
    simp (maxDischargeDepth := 9) only [↓gB, gV, gT, reduceIte, reduceCtorEq, Nat.reduceEqDiff, Nat.reduceAdd, Nat.reduceSub, Nat.reduceLeDiff, Nat.reduceLT, Int.reduceEq, Nat.reduceMul, h1, h2, n2, hE, he]
    refine Ycp (p26 (by exact RSl.le (by assumption) ((le_put (by assumption) _).trans (le_put (by assumption) _))) (by assumption)) ?_
    simp (maxDischargeDepth := 9) only [↓gB, gV, gT, reduceIte, reduceCtorEq, Nat.reduceEqDiff, Nat.reduceAdd, Nat.reduceSub, Nat.reduceLeDiff, Nat.reduceLT, Int.reduceEq, Nat.reduceMul, h1, h2, n2, hE, he]
    refine Yn3 fun r3 h3 k3 => ?_
    have n3 := h3
    simp only [put_none_eq, ne_eq] at n3
    have n30 := h3
    simp only [put_none_eq, ne_eq, @eq_comm Nat r3] at n30
    simp (maxDischargeDepth := 9) only [↓gB, gV, gT, reduceIte, reduceCtorEq, Nat.reduceEqDiff, Nat.reduceAdd, Nat.reduceSub, Nat.reduceLeDiff, Nat.reduceLT, Int.reduceEq, Nat.reduceMul, h1, h2, n2, h3, n3, n30, hE, he]
    refine Ycp (p34b (by exact put_self _ _ _)) ?_
    simp (maxDischargeDepth := 9) only [↓gB, gV, gT, reduceIte, reduceCtorEq, Nat.reduceEqDiff, Nat.reduceAdd, Nat.reduceSub, Nat.reduceLeDiff, Nat.reduceLT, Int.reduceEq, Nat.reduceMul, h1, h2, n2, h3, n3, n30, hE, he]
    refine Yn3 fun r4 h4 k4 => ?_
    have n4 := h4
    simp only [put_none_eq, ne_eq] at n4
    have n40 := h4
    simp only [put_none_eq, ne_eq, @eq_comm Nat r4] at n40
    simp (maxDischargeDepth := 9) only [↓gB, gV, gT, reduceIte, reduceCtorEq, Nat.reduceEqDiff, Nat.reduceAdd, Nat.reduceSub, Nat.reduceLeDiff, Nat.reduceLT, Int.reduceEq, Nat.reduceMul, h1, h2, n2, h3, n3, n30, h4, n4, n40, hE, he]
    refine Ycp (p37b (by assumption) (by exact put_self _ _ _) (by exact RSl.le (by assumption) (by simp (maxDischargeDepth := 9) only [le_self, le_puts, le_put0, sub_self, sub_puts, sub_put0, h1, h2, n2, h3, n3, n30, h4, n4, n40]))) ?_
    simp (maxDischargeDepth := 9) only [↓gB, gV, gT, reduceIte, reduceCtorEq, Nat.reduceEqDiff, Nat.reduceAdd, Nat.reduceSub, Nat.reduceLeDiff, Nat.reduceLT, Int.reduceEq, Nat.reduceMul, h1, h2, n2, h3, n3, n30, h4, n4, n40, hE, he]
    refine Yn1 fun r5 h5 => ?_
    have n5 := h5
    simp only [put_none_eq, ne_eq] at n5
    have n50 := h5
    simp only [put_none_eq, ne_eq, @eq_comm Nat r5] at n50
    simp (maxDischargeDepth := 9) only [↓gB, gV, gT, reduceIte, reduceCtorEq, Nat.reduceEqDiff, Nat.reduceAdd, Nat.reduceSub, Nat.reduceLeDiff, Nat.reduceLT, Int.reduceEq, Nat.reduceMul, h1, h2, n2, h3, n3, n30, h4, n4, n40, h5, n5, n50, hE, he]
    refine Ycp (p81b (by exact put_self _ _ _)) ?_
    simp (maxDischargeDepth := 9) only [↓gB, gV, gT, reduceIte, reduceCtorEq, Nat.reduceEqDiff, Nat.reduceAdd, Nat.reduceSub, Nat.reduceLeDiff, Nat.reduceLT, Int.reduceEq, Nat.reduceMul, h1, h2, n2, h3, n3, n30, h4, n4, n40, h5, n5, n50, hE, he]
    refine Ycp (p89 (by exact RSl.le (by assumption) (by simp (maxDischargeDepth := 9) only [le_self, le_puts, le_put0, sub_self, sub_puts, sub_put0, h1, h2, n2, h3, n3, n30, h4, n4, n40, h5, n5, n50])) (by exact RSl.le (by assumption) (by simp (maxDischargeDepth := 9) only [le_self, le_puts, le_put0, sub_self, sub_puts, sub_put0, h1, h2, n2, h3, n3, n30, h4, n4, n40, h5, n5, n50])) (by assumption) (by assumption) (by assumption) (by assumption)) ?_
    simp (maxDischargeDepth := 9) only [↓gB, gV, gT, reduceIte, reduceCtorEq, Nat.reduceEqDiff, Nat.reduceAdd, Nat.reduceSub, Nat.reduceLeDiff, Nat.reduceLT, Int.reduceEq, Nat.reduceMul, h1, h2, n2, h3, n3, n30, h4, n4, n40, h5, n5, n50, hE, he]
    exact Kup_val (by simp (maxDischargeDepth := 9) only [le_self, le_puts, le_put0, h1, h2, n2, h3, n3, n30, h4, n4, n40, h5, n5, n50]) rfl
  · simp (maxDischargeDepth := 9) only [↓gB, gV, gT, reduceIte, reduceCtorEq, Nat.reduceEqDiff, Nat.reduceAdd, Nat.reduceSub, Nat.reduceLeDiff, Nat.reduceLT, Int.reduceEq, Nat.reduceMul, hE, he]
    refine Yn2 fun r1 h1 => ?_
    simp (maxDischargeDepth := 9) only [↓gB, gV, gT, reduceIte, reduceCtorEq, Nat.reduceEqDiff, Nat.reduceAdd, Nat.reduceSub, Nat.reduceLeDiff, Nat.reduceLT, Int.reduceEq, Nat.reduceMul, h1, hE, he]
    refine Yn2 fun r2 h2 => ?_
    have n2 := h2
    simp only [put_none_eq, ne_eq] at n2
    simp (maxDischargeDepth := 9) only [↓gB, gV, gT, reduceIte, reduceCtorEq, Nat.reduceEqDiff, Nat.reduceAdd, Nat.reduceSub, Nat.reduceLeDiff, Nat.reduceLT, Int.reduceEq, Nat.reduceMul, h1, h2, n2, hE, he]
    refine Xdraw_intro [0, 2, 5, 1, 3, 4, 6, 7, 8, 9, 10] mixed (by kernel_rfl) (by decide +kernel) ?_
    simp (maxDischargeDepth := 9) only [↓gB, gV, gT, reduceIte, reduceCtorEq, Nat.reduceEqDiff, Nat.reduceAdd, Nat.reduceSub, Nat.reduceLeDiff, Nat.reduceLT, Int.reduceEq, Nat.reduceMul, h1, h2, n2, hE, he]
    refine Ycp (p26 (by exact RSl.le (by assumption) ((le_put (by assumption) _).trans (le_put (by assumption) _))) (by assumption)) ?_
    simp (maxDischargeDepth := 9) only [↓gB, gV, gT, reduceIte, reduceCtorEq, Nat.reduceEqDiff, Nat.reduceAdd, Nat.reduceSub, Nat.reduceLeDiff, Nat.reduceLT, Int.reduceEq, Nat.reduceMul, h1, h2, n2, hE, he]
    refine Yn3 fun r3 h3 k3 => ?_
    have n3 := h3
    simp only [put_none_eq, ne_eq] at n3
    have n30 := h3
    simp only [put_none_eq, ne_eq, @eq_comm Nat r3] at n30
    simp (maxDischargeDepth := 9) only [↓gB, gV, gT, reduceIte, reduceCtorEq, Nat.reduceEqDiff, Nat.reduceAdd, Nat.reduceSub, Nat.reduceLeDiff, Nat.reduceLT, Int.reduceEq, Nat.reduceMul, h1, h2, n2, h3, n3, n30, hE, he]
    refine Ycp (p34b (by exact put_self _ _ _)) ?_
    simp (maxDischargeDepth := 9) only [↓gB, gV, gT, reduceIte, reduceCtorEq, Nat.reduceEqDiff, Nat.reduceAdd, Nat.reduceSub, Nat.reduceLeDiff, Nat.reduceLT, Int.reduceEq, Nat.reduceMul, h1, h2, n2, h3, n3, n30, hE, he]
    refine Yn3 fun r4 h4 k4 => ?_
    have n4 := h4
    simp only [put_none_eq, ne_eq] at n4
    have n40 := h4
    simp only [put_none_eq, ne_eq, @eq_comm Nat r4] at n40
    simp (maxDischargeDepth := 9) only [↓gB, gV, gT, reduceIte, reduceCtorEq, Nat.reduceEqDiff, Nat.reduceAdd, Nat.reduceSub, Nat.reduceLeDiff, Nat.reduceLT, Int.reduceEq, Nat.reduceMul, h1, h2, n2, h3, n3, n30, h4, n4, n40, hE, he]
    refine Ycp (p37b (by assumption) (by exact put_self _ _ _) (by exact RSl.le (by assumption) (by simp (maxDischargeDepth := 9) only [le_self, le_puts, le_put0, sub_self, sub_puts, sub_put0, h1, h2, n2, h3, n3, n30, h4, n4, n40]))) ?_
    simp (maxDischargeDepth := 9) only [↓gB, gV, gT, reduceIte, reduceCtorEq, Nat.reduceEqDiff, Nat.reduceAdd, Nat.reduceSub, Nat.reduceLeDiff, Nat.reduceLT, Int.reduceEq, Nat.reduceMul, h1, h2, n2, h3, n3, n30, h4, n4, n40, hE, he]
    refine Yn1 fun r5 h5 => ?_
    have n5 := h5
    simp only [put_none_eq, ne_eq] at n5
    have n50 := h5
    simp only [put_none_eq, ne_eq, @eq_comm Nat r5] at n50
    simp (maxDischargeDepth := 9) only [↓gB, gV, gT, reduceIte, reduceCtorEq, Nat.reduceEqDiff, Nat.reduceAdd, Nat.reduceSub, Nat.reduceLeDiff, Nat.reduceLT, Int.reduceEq, Nat.reduceMul, h1, h2, n2, h3, n3, n30, h4, n4, n40, h5, n5, n50, hE, he]
    refine Ycp (p81b (by exact put_self _ _ _)) ?_
    simp (maxDischargeDepth := 9) only [↓gB, gV, gT, reduceIte, reduceCtorEq, Nat.reduceEqDiff, Nat.reduceAdd, Nat.reduceSub, Nat.reduceLeDiff, Nat.reduceLT, Int.reduceEq, Nat.reduceMul, h1, h2, n2, h3, n3, n30, h4, n4, n40, h5, n5, n50, hE, he]
    exact Kup_val (by simp (maxDischargeDepth := 9) only [le_self, le_puts, le_put0, h1, h2, n2, h3, n3, n30, h4, n4, n40, h5, n5, n50]) rfl
end Go.Proofs.YtnlbapfbdabjaaaDoor
namespace Go.Proofs.YtnlbapfbdabjaaaDoor
open Go Go.GL
attribute [local irreducible] Ycall GCalls
set_option maxRecDepth 10000
set_option maxHeartbeats 0
def cheapS (l : List SZone) (t : SJourney) : List SPrice → ByteArray → Int → ByteArray × Int
  | [], k, n => (k, n)
  | p :: ps, k, n => if k = ⟨#[]⟩ ∨ fullF l p t < n then cheapS l t ps p.Key (fullF l p t) else cheapS l t ps k n
def cheapF (l : List SZone) (t : SJourney) (ps : List SPrice) : ByteArray × Int := cheapS l t ps ⟨#[]⟩ 0
theorem cheap_y {l : List SZone} {t : SJourney} {ps : List SPrice} {i : Nat} {p : SPrice} {ky : ByteArray} {n : Int} (h : cheapF l t ps = cheapS l t (ps.drop i) ky n) (m : ps[i]? = some p) (c : ky = ⟨#[]⟩ ∨ fullF l p t < n) : cheapF l t ps = cheapS l t (ps.drop (i + 1)) p.Key (fullF l p t) := by
  rw [h, drop_at m]; simp only [cheapS, if_pos c]
theorem cheap_n {l : List SZone} {t : SJourney} {ps : List SPrice} {i : Nat} {p : SPrice} {ky : ByteArray} {n : Int} (h : cheapF l t ps = cheapS l t (ps.drop i) ky n) (m : ps[i]? = some p) (c : ¬ ky = ⟨#[]⟩) (c' : ¬ fullF l p t < n) : cheapF l t ps = cheapS l t (ps.drop (i + 1)) ky n := by
  rw [h, drop_at m]; simp only [cheapS, if_neg (show ¬ (ky = ⟨#[]⟩ ∨ fullF l p t < n) from fun q => q.elim c c')]
theorem cheap_e {l : List SZone} {t : SJourney} {ps : List SPrice} {i : Nat} {ky : ByteArray} {n : Int} (h : cheapF l t ps = cheapS l t (ps.drop i) ky n) (c : ¬ (i : Int) < ps.length) : cheapF l t ps = (ky, n) := by
  rw [h, List.drop_eq_nil_of_le (by omega)]; rfl
def cheapV (l : List SZone) (t : SJourney) (ps : List SPrice) : Value := if fullE l ps [t] = 0 then .tuple #[.string (cheapF l t ps).1, V (cheapF l t ps).2, .bool (!decide ((cheapF l t ps).1 = ⟨#[]⟩)), V 0] else .tuple #[.string ⟨#[]⟩, V 0, .bool false, V (fullE l ps [t])]
theorem p42 {G0 : GH} {v u w : Value} {l : List SZone} {ps : List SPrice} {t : SJourney} (hv : RSl rZone G0 v l) (hu : RSl rPrice G0 u ps) (hw : RSl Rp.str G0 w t.Nodes) (hn : (l.length : Int) ≤ 9223372036854775807) (hm : (ps.length : Int) ≤ 9223372036854775807) (hl : t.Nodes.length ≤ 1000000000) : Pure Tryd.prog G0 42 [v, u, .agg #[.string t.Ride, .string t.Rider, w, V t.Metres, V t.Time_From, V t.Time_To]] (cheapV l t ps) := by
  intro G hG; replace hv := hv.le hG; replace hu := hu.le hG; replace hw := hw.le hG
  clear hG G0
  refine enter Tryd.func42 53 #[.tmp 6, .tmp 7, .tmp 8, .tmp 9] rfl Tryd.ntmps42 rfl (by decide +kernel) rfl ?_
  obtain ⟨a, c, rfl⟩ := hv.val
  obtain ⟨b, d, rfl⟩ := hw.val
  obtain ⟨g, q, rfl⟩ := hu.val
  have hE : orOf [checkZones l, checkPrices ps, checkTrips [t]] = fullE l ps [t] := rfl
  by_cases he : fullE l ps [t] = 0
  · obtain ⟨e1, e2, e3⟩ := fullE_ok he
    have hzz := cz_z e1
    have hp := cp_ok e2
    have ht := ct_ok e3 t (by simp)
    have hV : cheapV l t ps = .tuple #[.string (cheapF l t ps).1, V (cheapF l t ps).2, .bool (!decide ((cheapF l t ps).1 = ⟨#[]⟩)), V 0] := if_pos he
    rw [hV]
    simp (maxDischargeDepth := 9) only [↓gB, gV, gT, reduceIte, reduceCtorEq, Nat.reduceEqDiff, Nat.reduceAdd, Nat.reduceSub, Nat.reduceLeDiff, Nat.reduceLT, Int.reduceEq, Nat.reduceMul, hE, he]
    refine Yn2 fun r1 h1 => ?_
    simp (maxDischargeDepth := 9) only [↓gB, gV, gT, reduceIte, reduceCtorEq, Nat.reduceEqDiff, Nat.reduceAdd, Nat.reduceSub, Nat.reduceLeDiff, Nat.reduceLT, Int.reduceEq, Nat.reduceMul, h1, hE, he]
    refine Xdraw_intro [0, 2, 4, 1, 3, 5, 6, 7, 8, 9] mixed (by kernel_rfl) (by decide +kernel) ?_
    simp (maxDischargeDepth := 9) only [↓gB, gV, gT, reduceIte, reduceCtorEq, Nat.reduceEqDiff, Nat.reduceAdd, Nat.reduceSub, Nat.reduceLeDiff, Nat.reduceLT, Int.reduceEq, Nat.reduceMul, h1, hE, he]
    refine Ycp (p26 (by exact RSl.put _ (by assumption) (by assumption)) (by assumption)) ?_
    simp (maxDischargeDepth := 9) only [↓gB, gV, gT, reduceIte, reduceCtorEq, Nat.reduceEqDiff, Nat.reduceAdd, Nat.reduceSub, Nat.reduceLeDiff, Nat.reduceLT, Int.reduceEq, Nat.reduceMul, h1, hE, he]
    refine Ycp (p34 (by exact RSl.put _ (by assumption) (by assumption)) (by assumption)) ?_
    simp (maxDischargeDepth := 9) only [↓gB, gV, gT, reduceIte, reduceCtorEq, Nat.reduceEqDiff, Nat.reduceAdd, Nat.reduceSub, Nat.reduceLeDiff, Nat.reduceLT, Int.reduceEq, Nat.reduceMul, h1, hE, he]
    refine Yn3 fun r2 h2 k2 => ?_
    have n2 := h2
    simp only [put_none_eq, ne_eq] at n2
    have n20 := h2
    simp only [put_none_eq, ne_eq, @eq_comm Nat r2] at n20
    simp (maxDischargeDepth := 9) only [↓gB, gV, gT, reduceIte, reduceCtorEq, Nat.reduceEqDiff, Nat.reduceAdd, Nat.reduceSub, Nat.reduceLeDiff, Nat.reduceLT, Int.reduceEq, Nat.reduceMul, h1, h2, n2, n20, hE, he]
    refine Ycp (p37b (by assumption) (by exact put_self _ _ _) (by exact RSl.le (by assumption) ((le_put (by assumption) _).trans (le_put (by assumption) _)))) ?_
    simp (maxDischargeDepth := 9) only [↓gB, gV, gT, reduceIte, reduceCtorEq, Nat.reduceEqDiff, Nat.reduceAdd, Nat.reduceSub, Nat.reduceLeDiff, Nat.reduceLT, Int.reduceEq, Nat.reduceMul, h1, h2, n2, n20, hE, he]
    refine Yn1 fun r3 h3 => ?_
    have n3 := h3
    simp only [put_none_eq, ne_eq] at n3
    have n30 := h3
    simp only [put_none_eq, ne_eq, @eq_comm Nat r3] at n30
    simp (maxDischargeDepth := 9) only [↓gB, gV, gT, reduceIte, reduceCtorEq, Nat.reduceEqDiff, Nat.reduceAdd, Nat.reduceSub, Nat.reduceLeDiff, Nat.reduceLT, Int.reduceEq, Nat.reduceMul, h1, h2, n2, n20, h3, n3, n30, hE, he]
    refine Ycp (p81b (by exact put_self _ _ _)) ?_
    simp (maxDischargeDepth := 9) only [↓gB, gV, gT, reduceIte, reduceCtorEq, Nat.reduceEqDiff, Nat.reduceAdd, Nat.reduceSub, Nat.reduceLeDiff, Nat.reduceLT, Int.reduceEq, Nat.reduceMul, h1, h2, n2, n20, h3, n3, n30, hE, he]
    focus
      refine Xloop_intro _ _ _ _ _ (fun k f G' => ∃ (i : Nat) (ky : ByteArray) (nn : Int), k = ps.length - i ∧ (i ≤ ps.length) ∧ (cheapF l t ps = cheapS l t (ps.drop i) ky nn) ∧ (G' r1 = some (.cells [.string t.Ride, .string t.Rider, .slice b t.Nodes.length d, V t.Metres, V t.Time_From, V t.Time_To].toArray 70 (0, 0), true)) ∧ (RSl rZone G' (.slice a l.length c) l) ∧ (RSl rPrice G' (.slice g ps.length q) ps) ∧ (RSl Rp.str G' (.slice b t.Nodes.length d) t.Nodes) ∧ (G.le G') ∧ f 30 = V i ∧ f 11 = .string ky ∧ f 12 = V nn ∧ f 0 = Go.Value.slice a l.length c ∧ f 5 = Go.Value.pointer (Option.some { block := r1, off := 0 }) ∧ f 28 = Go.Value.slice g ps.length q ∧ f 29 = Go.Value.int Go.IntKind.i64 ↑ps.length) _ ⟨0, ⟨#[]⟩, 0, rfl, ?_, ?_, ?_, ?_, ?_, ?_, ?_, by simp (maxDischargeDepth := 9) only [↓gB, gV, gT, reduceIte, reduceCtorEq, Nat.reduceEqDiff, Nat.reduceAdd, Nat.reduceSub, Nat.reduceLeDiff, Nat.reduceLT, Int.reduceEq, Nat.reduceMul, h1, h2, n2, n20, h3, n3, n30, and_self]⟩ ?_
      · omega
      · rfl
      · (simp (maxDischargeDepth := 9) only [↓gB, gV, n2, n20, n3, h1]; done)
      · (refine RSl.put _ (by assumption) ?_; (repeat (first | assumption | refine RSl.put _ (by assumption) ?_ | refine RSl.le ?_ (le_put3 (by assumption)))); done)
      · (refine RSl.put _ (by assumption) ?_; (repeat (first | assumption | refine RSl.put _ (by assumption) ?_ | refine RSl.le ?_ (le_put3 (by assumption)))); done)
      · (refine RSl.put _ (by assumption) ?_; (repeat (first | assumption | refine RSl.put _ (by assumption) ?_ | refine RSl.le ?_ (le_put3 (by assumption)))); done)
      · (simp (maxDischargeDepth := 9) only [le_self, le_puts, le_put0, sub_self, sub_puts, sub_put0, h1, h2, n2, n20, h3, n3, n30]; done)
      rintro k f G' ⟨i, ky, nn, rfl, hi, h, hb, hv, hu, hw, hle, f30, f11, f12, f0, f5, f28, f29⟩
    simp (maxDischargeDepth := 9) only [↓gB, gV, gT, reduceIte, reduceCtorEq, Nat.reduceEqDiff, Nat.reduceAdd, Nat.reduceSub, Nat.reduceLeDiff, Nat.reduceLT, Int.reduceEq, Nat.reduceMul, h1, h2, n2, n20, h3, n3, n30, hb, f30, f11, f12, f0, f5, f28, f29]
    refine Xc_split _ _ _ _ _ (fun c1 => ?_) (fun c1 => ?_)
    · obtain ⟨p, hpi⟩ : ∃ p, ps[i]? = some p := ⟨_, List.getElem?_eq_getElem (by omega)⟩
      have hp1 := hp p (List.mem_of_getElem? hpi)
      simp (maxDischargeDepth := 9) only [↓gB, gV, gT, reduceIte, reduceCtorEq, Nat.reduceEqDiff, Nat.reduceAdd, Nat.reduceSub, Nat.reduceLeDiff, Nat.reduceLT, Int.reduceEq, Nat.reduceMul, h1, h2, n2, n20, h3, n3, n30, hb, f30, f11, f12, f0, f5, f28, f29, c1]
      obtain ⟨x4, a4, s4, m4, rfl, rfl, e4⟩ := hu.at (i) (by omega) 10 rfl
      simp (maxDischargeDepth := 9) only [↓gB, gV, gT, reduceIte, reduceCtorEq, Nat.reduceEqDiff, Nat.reduceAdd, Nat.reduceSub, Nat.reduceLeDiff, Nat.reduceLT, Int.reduceEq, Nat.reduceMul, h1, h2, n2, n20, h3, n3, n30, hb, f30, f11, f12, f0, f5, f29, c1, f28, e4]
      refine vguard_intro (by simp) ?_
      refine Yn2 fun r4 h4 => ?_
      simp (maxDischargeDepth := 9) only [↓gB, gV, gT, reduceIte, reduceCtorEq, Nat.reduceEqDiff, Nat.reduceAdd, Nat.reduceSub, Nat.reduceLeDiff, Nat.reduceLT, Int.reduceEq, Nat.reduceMul, h1, h2, n2, n20, h3, n3, n30, hb, f30, f11, f12, f0, f5, f29, c1, f28, e4, h4]
      obtain rfl : p = x4 := by rw [hpi] at m4; cases m4; rfl
      have n4 : r1 ≠ r4 := by first | exact ne_of_none hb h4 | exact ne_of_none' hb h4 | exact (ne_of_none h4 hb) | exact (ne_of_none' h4 hb)
      focus
        simp (maxDischargeDepth := 9) only [↓gB, gV, gT, reduceIte, reduceCtorEq, Nat.reduceEqDiff, Nat.reduceAdd, Nat.reduceSub, Nat.reduceLeDiff, Nat.reduceLT, Int.reduceEq, Nat.reduceMul, h1, h2, n2, n20, h3, n3, n30, hb, f30, f11, f12, f0, f5, f29, c1, f28, h4, e4, n4]
        refine Ycp (p89 (by exact RSl.put _ (by assumption) (by assumption)) (by exact RSl.put _ (by assumption) (by assumption)) (by assumption) (by assumption) (by assumption) (by assumption)) ?_
        simp (maxDischargeDepth := 9) only [↓gB, gV, gT, reduceIte, reduceCtorEq, Nat.reduceEqDiff, Nat.reduceAdd, Nat.reduceSub, Nat.reduceLeDiff, Nat.reduceLT, Int.reduceEq, Nat.reduceMul, h1, h2, n2, n20, h3, n3, n30, hb, f30, f11, f12, f0, f5, f29, c1, f28, h4, e4, n4]
        by_cases c2 : (ky : ByteArray) = { data := #[] }
        rotate_left 1
        focus
          simp (maxDischargeDepth := 9) only [↓gB, gV, gT, reduceIte, reduceCtorEq, Nat.reduceEqDiff, Nat.reduceAdd, Nat.reduceSub, Nat.reduceLeDiff, Nat.reduceLT, Int.reduceEq, Nat.reduceMul, h1, h2, n2, n20, h3, n3, n30, hb, f30, f11, f12, f0, f5, f29, c1, f28, h4, e4, n4, c2]
          refine Xc_split _ _ _ _ _ (fun c3 => ?_) (fun c3 => ?_)
          rotate_left 1
          focus
            simp (maxDischargeDepth := 9) only [↓gB, gV, gT, reduceIte, reduceCtorEq, Nat.reduceEqDiff, Nat.reduceAdd, Nat.reduceSub, Nat.reduceLeDiff, Nat.reduceLT, Int.reduceEq, Nat.reduceMul, h1, h2, n2, n20, h3, n3, n30, hb, f30, f11, f12, f0, f5, f29, c1, f28, h4, e4, n4, c2, c3]
            have q1 : Go.IntKind.i64.wrap (↑i + 1) = ↑i + 1 := wrap_id (by omega)
            simp (maxDischargeDepth := 9) only [↓gB, gV, gT, reduceIte, reduceCtorEq, Nat.reduceEqDiff, Nat.reduceAdd, Nat.reduceSub, Nat.reduceLeDiff, Nat.reduceLT, Int.reduceEq, Nat.reduceMul, h1, h2, n2, n20, h3, n3, n30, hb, f30, f11, f12, f0, f5, f29, c1, f28, h4, e4, n4, c2, c3, q1]
            rw [N_lp]
            refine ⟨_, ?_, _, sub_refl _, i + 1, ky, nn, rfl, ?_, ?_, ?_, ?_, ?_, ?_, ?_, by simp (maxDischargeDepth := 9) only [↓gB, gV, gT, reduceIte, reduceCtorEq, Nat.reduceEqDiff, Nat.reduceAdd, Nat.reduceSub, Nat.reduceLeDiff, Nat.reduceLT, Int.reduceEq, Nat.reduceMul, h1, h2, n2, n20, h3, n3, n30, hb, f30, f11, f12, f0, f5, f29, c1, f28, h4, e4, n4, c2, c3, q1, nat_succ, and_self]⟩
            · omega
            · omega
            · (exact cheap_n h m4 (by assumption) (by assumption); done)
            · exact (le_put (by assumption) _) _ _ (by assumption)
            · exact RSl.put _ (by assumption) (by assumption)
            · exact RSl.put _ (by assumption) (by assumption)
            · exact RSl.put _ (by assumption) (by assumption)
            · (simp (maxDischargeDepth := 9) only [le_self, le_puts, le_put0, sub_self, sub_puts, sub_put0, h1, h2, n2, n20, h3, n3, n30, hle, h4]; done)
          rotate_right 1
          simp (maxDischargeDepth := 9) only [↓gB, gV, gT, reduceIte, reduceCtorEq, Nat.reduceEqDiff, Nat.reduceAdd, Nat.reduceSub, Nat.reduceLeDiff, Nat.reduceLT, Int.reduceEq, Nat.reduceMul, h1, h2, n2, n20, h3, n3, n30, hb, f30, f11, f12, f0, f5, f29, c1, f28, h4, e4, n4, c2, c3]
          have q1 : Go.IntKind.i64.wrap (↑i + 1) = ↑i + 1 := wrap_id (by omega)
          simp (maxDischargeDepth := 9) only [↓gB, gV, gT, reduceIte, reduceCtorEq, Nat.reduceEqDiff, Nat.reduceAdd, Nat.reduceSub, Nat.reduceLeDiff, Nat.reduceLT, Int.reduceEq, Nat.reduceMul, h1, h2, n2, n20, h3, n3, n30, hb, f30, f11, f12, f0, f5, f29, c1, f28, h4, e4, n4, c2, c3, q1]
          rw [N_lp]
          refine ⟨_, ?_, _, sub_refl _, i + 1, p.Key, fullF l p t, rfl, ?_, ?_, ?_, ?_, ?_, ?_, ?_, by simp (maxDischargeDepth := 9) only [↓gB, gV, gT, reduceIte, reduceCtorEq, Nat.reduceEqDiff, Nat.reduceAdd, Nat.reduceSub, Nat.reduceLeDiff, Nat.reduceLT, Int.reduceEq, Nat.reduceMul, h1, h2, n2, n20, h3, n3, n30, hb, f30, f11, f12, f0, f5, f29, c1, f28, h4, e4, n4, c2, c3, q1, nat_succ, and_self]⟩
          · omega
          · omega
          · (exact cheap_y h m4 (.inr (by assumption)); done)
          · exact (le_put (by assumption) _) _ _ (by assumption)
          · exact RSl.put _ (by assumption) (by assumption)
          · exact RSl.put _ (by assumption) (by assumption)
          · exact RSl.put _ (by assumption) (by assumption)
          · (simp (maxDischargeDepth := 9) only [le_self, le_puts, le_put0, sub_self, sub_puts, sub_put0, h1, h2, n2, n20, h3, n3, n30, hle, h4]; done)
        rotate_right 1
        simp (maxDischargeDepth := 9) only [↓gB, gV, gT, reduceIte, reduceCtorEq, Nat.reduceEqDiff, Nat.reduceAdd, Nat.reduceSub, Nat.reduceLeDiff, Nat.reduceLT, Int.reduceEq, Nat.reduceMul, h1, h2, n2, n20, h3, n3, n30, hb, f30, f11, f12, f0, f5, f29, c1, f28, h4, e4, n4, c2]
        have q1 : Go.IntKind.i64.wrap (↑i + 1) = ↑i + 1 := wrap_id (by omega)
        simp (maxDischargeDepth := 9) only [↓gB, gV, gT, reduceIte, reduceCtorEq, Nat.reduceEqDiff, Nat.reduceAdd, Nat.reduceSub, Nat.reduceLeDiff, Nat.reduceLT, Int.reduceEq, Nat.reduceMul, h1, h2, n2, n20, h3, n3, n30, hb, f30, f11, f12, f0, f5, f29, c1, f28, h4, e4, n4, c2, q1]
        rw [N_lp]
        refine ⟨_, ?_, _, sub_refl _, i + 1, p.Key, fullF l p t, rfl, ?_, ?_, ?_, ?_, ?_, ?_, ?_, by simp (maxDischargeDepth := 9) only [↓gB, gV, gT, reduceIte, reduceCtorEq, Nat.reduceEqDiff, Nat.reduceAdd, Nat.reduceSub, Nat.reduceLeDiff, Nat.reduceLT, Int.reduceEq, Nat.reduceMul, h1, h2, n2, n20, h3, n3, n30, hb, f30, f11, f12, f0, f5, f29, c1, f28, h4, e4, n4, c2, q1, nat_succ, and_self]⟩
        · omega
        · omega
        · (exact cheap_y h m4 (.inl (by assumption)); done)
        · exact (le_put (by assumption) _) _ _ (by assumption)
        · exact RSl.put _ (by assumption) (by assumption)
        · exact RSl.put _ (by assumption) (by assumption)
        · exact RSl.put _ (by assumption) (by assumption)
        · (simp (maxDischargeDepth := 9) only [le_self, le_puts, le_put0, sub_self, sub_puts, sub_put0, h1, h2, n2, n20, h3, n3, n30, hle, h4]; done)
    · simp (maxDischargeDepth := 9) only [↓gB, gV, gT, reduceIte, reduceCtorEq, Nat.reduceEqDiff, Nat.reduceAdd, Nat.reduceSub, Nat.reduceLeDiff, Nat.reduceLT, Int.reduceEq, Nat.reduceMul, h1, h2, n2, n20, h3, n3, n30, hb, f30, f11, f12, f0, f5, f28, f29, c1]
      refine Kup_val (by simp (maxDischargeDepth := 9) only [le_self, le_puts, le_put0, h1, h2, n2, n20, h3, n3, n30, hle]) ?_
      focus (rw [cheap_e h c1]; done)
  · have hV : cheapV l t ps = .tuple #[.string ⟨#[]⟩, V 0, .bool false, V (fullE l ps [t])] := if_neg he
    rw [hV]
    simp (maxDischargeDepth := 9) only [↓gB, gV, gT, reduceIte, reduceCtorEq, Nat.reduceEqDiff, Nat.reduceAdd, Nat.reduceSub, Nat.reduceLeDiff, Nat.reduceLT, Int.reduceEq, Nat.reduceMul, hE, he]
    refine Yn2 fun r1 h1 => ?_
    simp (maxDischargeDepth := 9) only [↓gB, gV, gT, reduceIte, reduceCtorEq, Nat.reduceEqDiff, Nat.reduceAdd, Nat.reduceSub, Nat.reduceLeDiff, Nat.reduceLT, Int.reduceEq, Nat.reduceMul, h1, hE, he]
    refine Xdraw_intro [0, 2, 4, 1, 3, 5, 6, 7, 8, 9] mixed (by kernel_rfl) (by decide +kernel) ?_
    simp (maxDischargeDepth := 9) only [↓gB, gV, gT, reduceIte, reduceCtorEq, Nat.reduceEqDiff, Nat.reduceAdd, Nat.reduceSub, Nat.reduceLeDiff, Nat.reduceLT, Int.reduceEq, Nat.reduceMul, h1, hE, he]
    refine Ycp (p26 (by exact RSl.put _ (by assumption) (by assumption)) (by assumption)) ?_
    simp (maxDischargeDepth := 9) only [↓gB, gV, gT, reduceIte, reduceCtorEq, Nat.reduceEqDiff, Nat.reduceAdd, Nat.reduceSub, Nat.reduceLeDiff, Nat.reduceLT, Int.reduceEq, Nat.reduceMul, h1, hE, he]
    refine Ycp (p34 (by exact RSl.put _ (by assumption) (by assumption)) (by assumption)) ?_
    simp (maxDischargeDepth := 9) only [↓gB, gV, gT, reduceIte, reduceCtorEq, Nat.reduceEqDiff, Nat.reduceAdd, Nat.reduceSub, Nat.reduceLeDiff, Nat.reduceLT, Int.reduceEq, Nat.reduceMul, h1, hE, he]
    refine Yn3 fun r2 h2 k2 => ?_
    have n2 := h2
    simp only [put_none_eq, ne_eq] at n2
    have n20 := h2
    simp only [put_none_eq, ne_eq, @eq_comm Nat r2] at n20
    simp (maxDischargeDepth := 9) only [↓gB, gV, gT, reduceIte, reduceCtorEq, Nat.reduceEqDiff, Nat.reduceAdd, Nat.reduceSub, Nat.reduceLeDiff, Nat.reduceLT, Int.reduceEq, Nat.reduceMul, h1, h2, n2, n20, hE, he]
    refine Ycp (p37b (by assumption) (by exact put_self _ _ _) (by exact RSl.le (by assumption) ((le_put (by assumption) _).trans (le_put (by assumption) _)))) ?_
    simp (maxDischargeDepth := 9) only [↓gB, gV, gT, reduceIte, reduceCtorEq, Nat.reduceEqDiff, Nat.reduceAdd, Nat.reduceSub, Nat.reduceLeDiff, Nat.reduceLT, Int.reduceEq, Nat.reduceMul, h1, h2, n2, n20, hE, he]
    refine Yn1 fun r3 h3 => ?_
    have n3 := h3
    simp only [put_none_eq, ne_eq] at n3
    have n30 := h3
    simp only [put_none_eq, ne_eq, @eq_comm Nat r3] at n30
    simp (maxDischargeDepth := 9) only [↓gB, gV, gT, reduceIte, reduceCtorEq, Nat.reduceEqDiff, Nat.reduceAdd, Nat.reduceSub, Nat.reduceLeDiff, Nat.reduceLT, Int.reduceEq, Nat.reduceMul, h1, h2, n2, n20, h3, n3, n30, hE, he]
    refine Ycp (p81b (by exact put_self _ _ _)) ?_
    simp (maxDischargeDepth := 9) only [↓gB, gV, gT, reduceIte, reduceCtorEq, Nat.reduceEqDiff, Nat.reduceAdd, Nat.reduceSub, Nat.reduceLeDiff, Nat.reduceLT, Int.reduceEq, Nat.reduceMul, h1, h2, n2, n20, h3, n3, n30, hE, he]
    exact Kup_val (by simp (maxDischargeDepth := 9) only [le_self, le_puts, le_put0, h1, h2, n2, n20, h3, n3, n30]) rfl
end Go.Proofs.YtnlbapfbdabjaaaDoor
namespace Go.Proofs.YtnlbapfbdabjaaaDoor
open Go Go.GL
attribute [local irreducible] Ycall GCalls
set_option maxRecDepth 10000
set_option maxHeartbeats 0
theorem g35 {G0 : GH} {v : Value} {l : List SPrice} (hv : RSl rPrice G0 v l) (hn : l.length ≤ 1000000000) : Gives Tryd.prog G0 35 [v] (fun u G' => RSl rPrice G' u l) := by
  intro G hG; replace hv := hv.le hG
  clear hG G0
  refine enter Tryd.func35 8 #[.tmp 2] rfl Tryd.ntmps35 rfl (by decide +kernel) rfl ?_
  obtain ⟨a, c, rfl⟩ := hv.val
  simp (maxDischargeDepth := 9) only [↓gB, gV, gT, reduceIte, reduceCtorEq, Nat.reduceEqDiff, Nat.reduceAdd, Nat.reduceSub, Nat.reduceLeDiff, Nat.reduceLT, Int.reduceEq, Nat.reduceMul]
  cases a with
  | none =>
    simp (maxDischargeDepth := 9) only [↓gB, gV, gT, reduceIte, reduceCtorEq, Nat.reduceEqDiff, Nat.reduceAdd, Nat.reduceSub, Nat.reduceLeDiff, Nat.reduceLT, Int.reduceEq, Nat.reduceMul, Option.isNone_none]
    have : l = [] := by
      cases l with
      | nil => rfl
      | cons x l => obtain ⟨ad, _, e, _⟩ := hv.get (i := 0) (x := x) rfl; cases e
    subst this
    exact Kup_gives (sub_refl _) (le_refl _) (RSl.nil _ _)
  | some ad =>
    simp (maxDischargeDepth := 9) only [↓gB, gV, gT, reduceIte, reduceCtorEq, Nat.reduceEqDiff, Nat.reduceAdd, Nat.reduceSub, Nat.reduceLeDiff, Nat.reduceLT, Int.reduceEq, Nat.reduceMul, Option.isNone_some]
    refine Yn1 fun r1 h1 => ?_
    simp (maxDischargeDepth := 9) only [↓gB, gV, gT, reduceIte, reduceCtorEq, Nat.reduceEqDiff, Nat.reduceAdd, Nat.reduceSub, Nat.reduceLeDiff, Nat.reduceLT, Int.reduceEq, Nat.reduceMul, h1, Option.isNone_some]
    obtain ⟨ds, h1, h2⟩ := (hv.le (le_put h1 (.cells #[] 66 (0, 0), true))).read
    refine Row.append sl63 (ρ := rPrice) (G0 := G) (xs := []) (ys := l) ⟨[], ⟨rfl, .inr ⟨r1, 0, #[], rfl, by assumption, put_self _ _ _, rfl, Nat.le_refl _, rfl⟩⟩, Cellsof.nil _ _⟩ h1 h2 (by simp; omega) (le_put (by assumption) _) ?_
    intro v' G' hrow hk hle
    simp (maxDischargeDepth := 9) only [↓gB, gV, gT, reduceIte, reduceCtorEq, Nat.reduceEqDiff, Nat.reduceAdd, Nat.reduceSub, Nat.reduceLeDiff, Nat.reduceLT, Int.reduceEq, Nat.reduceMul, h1, hk]
    obtain ⟨G2, hs, hl, hr⟩ := hrow.fin hle
    exact Kup_gives hs hl (by simpa using hr)
theorem g38 {G0 : GH} {v : Value} {l : List SJourney} (hv : RSl rJourney G0 v l) (hn : l.length ≤ 1000000000) (hz : ∀ z ∈ l, z.Nodes.length ≤ 1000000000) : Gives Tryd.prog G0 38 [v] (fun u G' => RSl rJourney G' u l) := by
  intro G hG; replace hv := hv.le hG
  clear hG G0
  refine enter Tryd.func38 22 #[.tmp 2] rfl Tryd.ntmps38 rfl (by decide +kernel) rfl ?_
  obtain ⟨a, c, rfl⟩ := hv.val
  simp (maxDischargeDepth := 9) only [↓gB, gV, gT, reduceIte, reduceCtorEq, Nat.reduceEqDiff, Nat.reduceAdd, Nat.reduceSub, Nat.reduceLeDiff, Nat.reduceLT, Int.reduceEq, Nat.reduceMul]
  focus
    refine Xloop_intro _ _ _ _ _ (fun k f G' => ∃ (i : Nat) (o : Value), k = l.length - i ∧ (i ≤ l.length) ∧ (Row rJourney 70 G G' o (l.take i)) ∧ (RSl rJourney G' (.slice a l.length c) l) ∧ (G.le G') ∧ f 8 = V i ∧ f 3 = o ∧ f 6 = Go.Value.slice a l.length c ∧ f 7 = Go.Value.int Go.IntKind.i64 ↑l.length) _ ⟨0, .slice none 0 0, rfl, ?_, ?_, ?_, ?_, by simp (maxDischargeDepth := 9) only [↓gB, gV, gT, reduceIte, reduceCtorEq, Nat.reduceEqDiff, Nat.reduceAdd, Nat.reduceSub, Nat.reduceLeDiff, Nat.reduceLT, Int.reduceEq, Nat.reduceMul, and_self]⟩ ?_
    · omega
    · (exact Row.nil; done)
    · assumption
    · exact le_refl _
    rintro k f G' ⟨i, o, rfl, hi, hrow, hv, hle, f8, f3, f6, f7⟩
  simp (maxDischargeDepth := 9) only [↓gB, gV, gT, reduceIte, reduceCtorEq, Nat.reduceEqDiff, Nat.reduceAdd, Nat.reduceSub, Nat.reduceLeDiff, Nat.reduceLT, Int.reduceEq, Nat.reduceMul, f8, f3, f6, f7]
  refine Xc_split _ _ _ _ _ (fun c1 => ?_) (fun c1 => ?_)
  · obtain ⟨z, hzi⟩ : ∃ z, l[i]? = some z := ⟨_, List.getElem?_eq_getElem (by omega)⟩
    have hz1 := hz z (List.mem_of_getElem? hzi)
    simp (maxDischargeDepth := 9) only [↓gB, gV, gT, reduceIte, reduceCtorEq, Nat.reduceEqDiff, Nat.reduceAdd, Nat.reduceSub, Nat.reduceLeDiff, Nat.reduceLT, Int.reduceEq, Nat.reduceMul, f8, f3, f6, f7, c1]
    obtain ⟨x1, a1, s1, m1, rfl, ⟨v1, rfl, w1⟩, e1⟩ := hv.at (i) (by omega) 6 rfl
    obtain ⟨aw1, cw1, rfl⟩ := RSl.val w1
    simp (maxDischargeDepth := 9) only [↓gB, gV, gT, reduceIte, reduceCtorEq, Nat.reduceEqDiff, Nat.reduceAdd, Nat.reduceSub, Nat.reduceLeDiff, Nat.reduceLT, Int.reduceEq, Nat.reduceMul, f8, f3, f7, c1, f6, e1]
    refine vguard_intro (by simp) ?_
    refine Yn2 fun r1 h1 => ?_
    simp (maxDischargeDepth := 9) only [↓gB, gV, gT, reduceIte, reduceCtorEq, Nat.reduceEqDiff, Nat.reduceAdd, Nat.reduceSub, Nat.reduceLeDiff, Nat.reduceLT, Int.reduceEq, Nat.reduceMul, f8, f3, f7, c1, f6, e1, h1]
    obtain rfl : z = x1 := by rw [hzi] at m1; cases m1; rfl
    focus
      have q1_0 := Row.fresh hrow h1
      have q1_1 := GH.le.none hle h1
      have l1 := le_put h1 ((Go.Obj.cells #[Go.Value.string z.Ride, Go.Value.string z.Rider, Go.Value.slice aw1 z.Nodes.length cw1, Go.Value.int Go.IntKind.i64 z.Metres, Go.Value.int Go.IntKind.i64 z.Time_From, Go.Value.int Go.IntKind.i64 z.Time_To] 70, Bool.true))
      have y1 := put_self G' r1 ((Go.Obj.cells #[Go.Value.string z.Ride, Go.Value.string z.Rider, Go.Value.slice aw1 z.Nodes.length cw1, Go.Value.int Go.IntKind.i64 z.Metres, Go.Value.int Go.IntKind.i64 z.Time_From, Go.Value.int Go.IntKind.i64 z.Time_To] 70, Bool.true))
      generalize GH.put G' r1 ((Go.Obj.cells #[Go.Value.string z.Ride, Go.Value.string z.Rider, Go.Value.slice aw1 z.Nodes.length cw1, Go.Value.int Go.IntKind.i64 z.Metres, Go.Value.int Go.IntKind.i64 z.Time_From, Go.Value.int Go.IntKind.i64 z.Time_To] 70, Bool.true)) = G1 at *
      replace hrow := Row.le hrow l1
      replace hle := GH.le.trans hle l1
      replace hv := RSl.le hv l1
      replace w1 := RSl.le w1 l1
      refine Ycg (g9 (by assumption) (by assumption)) ?_ ?_
      · exact upRSl _ _
      intro u2 G2 l2 w2
      replace l1 := GH.le.trans l1 l2
      replace y1 := l2 _ _ y1
      replace hrow := Row.le hrow l2
      replace hle := GH.le.trans hle l2
      replace hv := RSl.le hv l2
      replace w1 := RSl.le w1 l2
      obtain ⟨aw2, cw2, rfl⟩ := RSl.val w2
      simp (maxDischargeDepth := 9) only [↓gB, gV, gT, reduceIte, reduceCtorEq, Nat.reduceEqDiff, Nat.reduceAdd, Nat.reduceSub, Nat.reduceLeDiff, Nat.reduceLT, Int.reduceEq, Nat.reduceMul, f8, f3, f7, c1, f6, h1, e1, q1_1, y1]
      refine Yn2 fun r2 h2 => ?_
      have n2 := h2
      simp only [put_none_eq, ne_eq] at n2
      simp (maxDischargeDepth := 9) only [↓gB, gV, gT, reduceIte, reduceCtorEq, Nat.reduceEqDiff, Nat.reduceAdd, Nat.reduceSub, Nat.reduceLeDiff, Nat.reduceLT, Int.reduceEq, Nat.reduceMul, f8, f3, f7, c1, f6, h1, e1, q1_1, y1, h2, n2]
      refine Row.app1 sl64 (Row.put _ h2 (Row.over _ hrow y1 (by assumption))) (by exact put_self _ _ _) (y := ⟨_, _, _, _, _, _⟩) ⟨_, rfl, (by first | exact (RSl.put _ h2 (RSl.over _ hv y1)) | exact (RSl.put _ h2 (RSl.over _ w1 y1)) | exact (RSl.put _ h2 (RSl.over _ w2 y1)) | omega | decide | assumption | (unfold i64; omega) | (unfold i64 at *; omega) | (constructor <;> omega))⟩ (by (simp; omega)) (GH.le.trans (le_put_new hle (by assumption) _) (le_put h2 _)) fun v3 G3 w3 k3 l3 => ?_
      replace hv := RSl.appd (RSl.put _ h2 (RSl.over _ hv y1)) (Row.put _ h2 (Row.over _ hrow y1 (by assumption))) k3
      replace w1 := RSl.appd (RSl.put _ h2 (RSl.over _ w1 y1)) (Row.put _ h2 (Row.over _ hrow y1 (by assumption))) k3
      replace w2 := RSl.appd (RSl.put _ h2 (RSl.over _ w2 y1)) (Row.put _ h2 (Row.over _ hrow y1 (by assumption))) k3
      simp (maxDischargeDepth := 9) only [↓gB, gV, gT, reduceIte, reduceCtorEq, Nat.reduceEqDiff, Nat.reduceAdd, Nat.reduceSub, Nat.reduceLeDiff, Nat.reduceLT, Int.reduceEq, Nat.reduceMul, f8, f3, f7, c1, f6, h1, e1, q1_1, y1, h2, n2]
      have q1 : Go.IntKind.i64.wrap (↑i + 1) = ↑i + 1 := wrap_id (by omega)
      simp (maxDischargeDepth := 9) only [↓gB, gV, gT, reduceIte, reduceCtorEq, Nat.reduceEqDiff, Nat.reduceAdd, Nat.reduceSub, Nat.reduceLeDiff, Nat.reduceLT, Int.reduceEq, Nat.reduceMul, f8, f3, f7, c1, f6, h1, e1, q1_1, y1, h2, n2, q1]
      rw [N_lp]
      refine ⟨_, ?_, _, sub_refl _, i + 1, v3, rfl, ?_, ?_, ?_, ?_, by simp (maxDischargeDepth := 9) only [↓gB, gV, gT, reduceIte, reduceCtorEq, Nat.reduceEqDiff, Nat.reduceAdd, Nat.reduceSub, Nat.reduceLeDiff, Nat.reduceLT, Int.reduceEq, Nat.reduceMul, f8, f3, f7, c1, f6, h1, e1, q1_1, y1, h2, n2, q1, nat_succ, and_self]⟩
      · omega
      · omega
      · (rw [take_at m1]; exact w3; done)
      · assumption
      · assumption
  · simp (maxDischargeDepth := 9) only [↓gB, gV, gT, reduceIte, reduceCtorEq, Nat.reduceEqDiff, Nat.reduceAdd, Nat.reduceSub, Nat.reduceLeDiff, Nat.reduceLT, Int.reduceEq, Nat.reduceMul, f8, f3, f6, f7, c1]
    obtain ⟨G2, hs, hl, hr⟩ := hrow.fin hle
    rw [List.take_of_length_le (by omega)] at hr
    exact Kup_gives hs hl hr
theorem g38b {G0 : GH} {w : Value} {t : SJourney} {r : Nat} (hr : G0 r = some (.cells [.string t.Ride, .string t.Rider, w, V t.Metres, V t.Time_From, V t.Time_To].toArray 70 (0, 0), true)) (hw : RSl Rp.str G0 w t.Nodes) (hl : t.Nodes.length ≤ 1000000000) : Gives Tryd.prog G0 38 [.slice (some ⟨r, 0, none⟩) 1 1] (fun u G' => RSl rJourney G' u [t]) := by
  intro G hG; replace hr := hG _ _ hr; replace hw := hw.le hG
  clear hG G0
  refine enter Tryd.func38 22 #[.tmp 2] rfl Tryd.ntmps38 rfl (by decide +kernel) rfl ?_
  obtain ⟨b, d, rfl⟩ := hw.val
  simp (maxDischargeDepth := 9) only [↓gB, gV, gT, reduceIte, reduceCtorEq, Nat.reduceEqDiff, Nat.reduceAdd, Nat.reduceSub, Nat.reduceLeDiff, Nat.reduceLT, Int.reduceEq, Nat.reduceMul, hr]
  focus
    refine Xloop_intro _ _ _ _ _ (fun k f G' => ∃ (i : Nat) (o : Value), k = 1 - i ∧ (i ≤ 1) ∧ (Row rJourney 70 G G' o ([t].take i)) ∧ (i = 0 → G' r = some (.cells [.string t.Ride, .string t.Rider, .slice b t.Nodes.length d, V t.Metres, V t.Time_From, V t.Time_To].toArray 70 (0, 0), true)) ∧ (RSl Rp.str G' (.slice b t.Nodes.length d) t.Nodes) ∧ (G.le G') ∧ f 8 = V i ∧ f 3 = o ∧ f 6 = Go.Value.slice (Option.some { block := r, off := 0 }) 1 1 ∧ f 7 = Go.Value.int Go.IntKind.i64 1) _ ⟨0, .slice none 0 0, rfl, ?_, ?_, ?_, ?_, ?_, by simp (maxDischargeDepth := 9) only [↓gB, gV, gT, reduceIte, reduceCtorEq, Nat.reduceEqDiff, Nat.reduceAdd, Nat.reduceSub, Nat.reduceLeDiff, Nat.reduceLT, Int.reduceEq, Nat.reduceMul, hr, Int.natCast_one, and_self]⟩ ?_
    · omega
    · (exact Row.nil; done)
    · (exact fun _ => hr; done)
    · assumption
    · exact le_refl _
    rintro k f G' ⟨i, o, rfl, hi, hrow, hr, hw, hle, f8, f3, f6, f7⟩
  simp (maxDischargeDepth := 9) only [↓gB, gV, gT, reduceIte, reduceCtorEq, Nat.reduceEqDiff, Nat.reduceAdd, Nat.reduceSub, Nat.reduceLeDiff, Nat.reduceLT, Int.reduceEq, Nat.reduceMul, hr, hr, f8, f3, f6, f7]
  refine Xc_split _ _ _ _ _ (fun c1 => ?_) (fun c1 => ?_)
  · obtain rfl : i = 0 := by omega
    obtain ⟨xs, hxs⟩ : ∃ xs : List SJourney, xs = [t].take 0 := ⟨_, rfl⟩
    rw [← hxs] at hrow
    have hxl : xs.length = 0 := by rw [hxs]; rfl
    replace hr := hr rfl
    focus
      simp (maxDischargeDepth := 9) only [↓gB, gV, gT, reduceIte, reduceCtorEq, Nat.reduceEqDiff, Nat.reduceAdd, Nat.reduceSub, Nat.reduceLeDiff, Nat.reduceLT, Int.reduceEq, Nat.reduceMul, hr, f3, f6, f7, f8, c1, hr, Int.toNat_zero, Nat.zero_mul, Nat.le_refl]
      refine vguard_intro (by omega) ?_
      refine Yn2 fun r1 h1 => ?_
      simp (maxDischargeDepth := 9) only [↓gB, gV, gT, reduceIte, reduceCtorEq, Nat.reduceEqDiff, Nat.reduceAdd, Nat.reduceSub, Nat.reduceLeDiff, Nat.reduceLT, Int.reduceEq, Nat.reduceMul, hr, f3, f6, f7, f8, c1, hr, h1, Int.toNat_zero, Nat.zero_mul, Nat.le_refl]
      have q1_0 := GH.le.none hle h1
      have q1_1 := Row.fresh hrow h1
      have l1 := le_put h1 ((Go.Obj.cells #[Go.Value.string t.Ride, Go.Value.string t.Rider, Go.Value.slice b t.Nodes.length d, Go.GL.V t.Metres, Go.GL.V t.Time_From, Go.GL.V t.Time_To] 70, Bool.true))
      have y1 := put_self G' r1 ((Go.Obj.cells #[Go.Value.string t.Ride, Go.Value.string t.Rider, Go.Value.slice b t.Nodes.length d, Go.GL.V t.Metres, Go.GL.V t.Time_From, Go.GL.V t.Time_To] 70, Bool.true))
      generalize GH.put G' r1 ((Go.Obj.cells #[Go.Value.string t.Ride, Go.Value.string t.Rider, Go.Value.slice b t.Nodes.length d, Go.GL.V t.Metres, Go.GL.V t.Time_From, Go.GL.V t.Time_To] 70, Bool.true)) = G1 at *
      replace hw := RSl.le hw l1
      replace hle := GH.le.trans hle l1
      replace hrow := Row.le hrow l1
      replace hr := l1 _ _ hr
      refine Ycg (g9 (by assumption) (by assumption)) ?_ ?_
      · exact upRSl _ _
      intro u2 G2 l2 w2
      replace l1 := GH.le.trans l1 l2
      replace y1 := l2 _ _ y1
      replace hw := RSl.le hw l2
      replace hle := GH.le.trans hle l2
      replace hrow := Row.le hrow l2
      replace hr := l2 _ _ hr
      obtain ⟨aw2, cw2, rfl⟩ := RSl.val w2
      simp (maxDischargeDepth := 9) only [↓gB, gV, gT, reduceIte, reduceCtorEq, Nat.reduceEqDiff, Nat.reduceAdd, Nat.reduceSub, Nat.reduceLeDiff, Nat.reduceLT, Int.reduceEq, Nat.reduceMul, hr, f3, f6, f7, f8, c1, h1, q1_0, y1, hr, Int.toNat_zero, Nat.zero_mul, Nat.le_refl]
      refine Yn2 fun r2 h2 => ?_
      have n2 := h2
      simp only [put_none_eq, ne_eq] at n2
      simp (maxDischargeDepth := 9) only [↓gB, gV, gT, reduceIte, reduceCtorEq, Nat.reduceEqDiff, Nat.reduceAdd, Nat.reduceSub, Nat.reduceLeDiff, Nat.reduceLT, Int.reduceEq, Nat.reduceMul, hr, f3, f6, f7, f8, c1, h1, q1_0, y1, hr, h2, n2, Int.toNat_zero, Nat.zero_mul, Nat.le_refl]
      refine Row.app1 sl64 (Row.put _ h2 (Row.over _ hrow y1 (by assumption))) (by exact put_self _ _ _) (y := ⟨_, _, _, _, _, _⟩) ⟨_, rfl, (by first | exact (RSl.put _ h2 (RSl.over _ hw y1)) | exact (RSl.put _ h2 (RSl.over _ w2 y1)) | omega | decide | assumption | (unfold i64; omega) | (unfold i64 at *; omega) | (constructor <;> omega))⟩ (by omega) (GH.le.trans (le_put_new hle (by assumption) _) (le_put h2 _)) fun v3 G3 w3 k3 l3 => ?_
      replace hw := RSl.appd (RSl.put _ h2 (RSl.over _ hw y1)) (Row.put _ h2 (Row.over _ hrow y1 (by assumption))) k3
      replace w2 := RSl.appd (RSl.put _ h2 (RSl.over _ w2 y1)) (Row.put _ h2 (Row.over _ hrow y1 (by assumption))) k3
      simp (maxDischargeDepth := 9) only [↓gB, gV, gT, reduceIte, reduceCtorEq, Nat.reduceEqDiff, Nat.reduceAdd, Nat.reduceSub, Nat.reduceLeDiff, Nat.reduceLT, Int.reduceEq, Nat.reduceMul, hr, f3, f6, f7, f8, c1, h1, q1_0, y1, hr, h2, n2, Int.toNat_zero, Nat.zero_mul, Nat.le_refl]
      have q1 : Go.IntKind.i64.wrap (0 + 1) = 0 + 1 := wrap_id (by omega)
      simp (maxDischargeDepth := 9) only [↓gB, gV, gT, reduceIte, reduceCtorEq, Nat.reduceEqDiff, Nat.reduceAdd, Nat.reduceSub, Nat.reduceLeDiff, Nat.reduceLT, Int.reduceEq, Nat.reduceMul, hr, f3, f6, f7, f8, c1, h1, q1_0, y1, hr, h2, n2, q1, Int.toNat_zero, Nat.zero_mul, Nat.le_refl]
      rw [N_lp]
      refine ⟨_, ?_, _, sub_refl _, 1, v3, rfl, ?_, ?_, ?_, ?_, ?_, by simp (maxDischargeDepth := 9) only [↓gB, gV, gT, reduceIte, reduceCtorEq, Nat.reduceEqDiff, Nat.reduceAdd, Nat.reduceSub, Nat.reduceLeDiff, Nat.reduceLT, Int.reduceEq, Nat.reduceMul, hr, f3, f6, f7, f8, c1, h1, q1_0, y1, hr, h2, n2, q1, Int.toNat_zero, Nat.zero_mul, Nat.le_refl, nat_succ, and_self]⟩
      · omega
      · omega
      · (rw [hxs] at w3; exact w3; done)
      · omega
      · assumption
      · assumption
  · simp (maxDischargeDepth := 9) only [↓gB, gV, gT, reduceIte, reduceCtorEq, Nat.reduceEqDiff, Nat.reduceAdd, Nat.reduceSub, Nat.reduceLeDiff, Nat.reduceLT, Int.reduceEq, Nat.reduceMul, hr, hr, f8, f3, f6, f7, c1]
    obtain ⟨G2, hs, hl, hr⟩ := hrow.fin hle
    rw [List.take_of_length_le (by simp; omega)] at hr
    exact Kup_gives hs hl hr
end Go.Proofs.YtnlbapfbdabjaaaDoor
namespace Go.Proofs.YtnlbapfbdabjaaaDoor
open Go Go.GL
attribute [local irreducible] Ycall GCalls
set_option maxRecDepth 10000
set_option maxHeartbeats 0
theorem key_ne {s : ByteArray} (h : isKey s = true) : ¬ s = ⟨#[]⟩ := by
  rintro rfl
  exact absurd h (by decide)
def bestF (l : List SZone) (t : SJourney) : List SPrice → SPrice → SPrice
  | [], b => b
  | o :: os, b => bestF l t os (if fullF l o t < fullF l b t then o else b)
theorem cheap_best {l : List SZone} {t : SJourney} : ∀ {ps : List SPrice} {b : SPrice}, ¬ b.Key = ⟨#[]⟩ → (∀ p ∈ ps, POk p) → cheapS l t ps b.Key (fullF l b t) = ((bestF l t ps b).Key, fullF l (bestF l t ps b) t)
  | [], b, _, _ => rfl
  | o :: os, b, hb, ho => by
    by_cases h : fullF l o t < fullF l b t
    · simp only [cheapS, bestF, if_pos h, if_pos (show b.Key = ⟨#[]⟩ ∨ fullF l o t < fullF l b t from .inr h)]
      exact cheap_best (key_ne (ho o (by simp)).k) fun p hp => ho p (by simp [hp])
    · simp only [cheapS, bestF, if_neg h, if_neg (show ¬ (b.Key = ⟨#[]⟩ ∨ fullF l o t < fullF l b t) from fun q => q.elim hb h)]
      exact cheap_best hb fun p hp => ho p (by simp [hp])
theorem cheapF_best {l : List SZone} {t : SJourney} {p : SPrice} {ps : List SPrice} (ho : ∀ q ∈ p :: ps, POk q) : cheapF l t (p :: ps) = ((bestF l t (p :: ps) p).Key, fullF l (bestF l t (p :: ps) p) t) := by
  have h1 : cheapF l t (p :: ps) = cheapS l t ps p.Key (fullF l p t) := by unfold cheapF; simp only [cheapS, true_or, if_true]
  have h2 : bestF l t (p :: ps) p = bestF l t ps p := by simp only [bestF, ite_self]
  rw [h1, h2]
  exact cheap_best (key_ne (ho p (by simp)).k) fun q hq => ho q (by simp [hq])
theorem best_ok {l : List SZone} {t : SJourney} : ∀ {ps : List SPrice} {b : SPrice}, POk b → (∀ p ∈ ps, POk p) → POk (bestF l t ps b)
  | [], b, hb, _ => hb
  | o :: os, b, hb, ho => by
    unfold bestF
    refine best_ok ?_ fun p hp => ho p (by simp [hp])
    split
    · exact ho o (by simp)
    · exact hb
end Go.Proofs.YtnlbapfbdabjaaaDoor
namespace Go.Proofs.YtnlbapfbdabjaaaDoor
open Go Go.GL
attribute [local irreducible] Ycall GCalls
set_option maxRecDepth 10000
set_option maxHeartbeats 0
theorem p5 {G0 : GH} {vz vp vt w : Value} {l : List SZone} {ps : List SPrice} {ts : List SJourney} {p : SPrice} {t : SJourney} (hv : RSl rZone G0 vz l) (hu : RSl rPrice G0 vp ps) (hx : RSl rJourney G0 vt ts) (hw : RSl Rp.str G0 w t.Nodes) (hn : l.length ≤ 1048576) (hz : ∀ z ∈ l, z.Nodes.length ≤ 1000000000) (hm : ps.length ≤ 1048576) (hk : ts.length ≤ 1048576) (hkz : ∀ z ∈ ts, z.Nodes.length ≤ 1000000000) (ht : t.Nodes.length ≤ 1000000000) : Pure Tryd.prog G0 5 [vz, vp, vt, .agg #[.string p.Key, V p.Base, V p.Metre, V p.Minute, V p.Cross, V p.From, V p.To, V p.Peak, V p.Least, V p.Most], .agg #[.string t.Ride, .string t.Rider, w, V t.Metres, V t.Time_From, V t.Time_To]] (.bool true) := by
  intro G hG; replace hv := hv.le hG; replace hu := hu.le hG; replace hx := hx.le hG; replace hw := hw.le hG
  clear hG G0
  refine enter Tryd.func5 170 #[.tmp 10] rfl Tryd.ntmps5 rfl (by decide +kernel) rfl ?_
  obtain ⟨a, c, rfl⟩ := hv.val
  obtain ⟨b, d, rfl⟩ := hw.val
  obtain ⟨g, q, rfl⟩ := hu.val
  obtain ⟨e, j, rfl⟩ := hx.val
  have hE : orOf [checkZones l, checkPrices [p], checkTrips [t]] = fullE l [p] [t] := rfl
  have hE2 : orOf [checkZones l, checkPrices ps, checkTrips [t]] = fullE l ps [t] := rfl
  rw [X_assoc, X_assoc, X_assoc, X_assoc, X_assoc, X_seq]
  focus
    refine Xcut _ _ _ _ _ (J := fun f G' => ∃ (r2 r3 : Nat), (r2 ≠ r3) ∧ (G' r2 = some (.cells [.string t.Ride, .string t.Rider, .slice b t.Nodes.length d, V t.Metres, V t.Time_From, V t.Time_To].toArray 70 (0, 0), true)) ∧ (G' r3 = some (.cells [.string t.Ride, .string t.Rider, .slice b t.Nodes.length d, V t.Metres, V t.Time_From, V t.Time_To].toArray 70 (0, 0), true)) ∧ (RSl rZone G' (.slice a l.length c) l) ∧ (RSl rPrice G' (.slice g ps.length q) ps) ∧ (RSl Rp.str G' (.slice b t.Nodes.length d) t.Nodes) ∧ (G.le G') ∧ f 9 = .pointer (some ⟨r2, 0, none⟩) ∧ f 11 = .slice (some ⟨r3, 0, none⟩) 1 1 ∧ f 0 = Go.Value.slice a l.length c ∧ f 1 = Go.Value.slice g ps.length q) ?_ ?_
    rotate_left 1
    rintro f G' ⟨r2, r3, n, hr2, hr3, hv, hu, hw, hle, f9, f11, f0, f1⟩
    rotate_right 1
  · by_cases he : fullE l [p] [t] = 0
    · obtain ⟨e1, e2, e3⟩ := fullE_ok he
      have hzz := cz_z e1
      have hpo := cp_ok e2 p (by simp)
      have hto := ct_ok e3 t (by simp)
      simp (maxDischargeDepth := 9) only [↓gB, gV, gT, reduceIte, reduceCtorEq, Nat.reduceEqDiff, Nat.reduceAdd, Nat.reduceSub, Nat.reduceLeDiff, Nat.reduceLT, Int.reduceEq, Nat.reduceMul, hE, hE2, he]
      refine Yn2 fun r1 h1 => ?_
      simp (maxDischargeDepth := 9) only [↓gB, gV, gT, reduceIte, reduceCtorEq, Nat.reduceEqDiff, Nat.reduceAdd, Nat.reduceSub, Nat.reduceLeDiff, Nat.reduceLT, Int.reduceEq, Nat.reduceMul, h1, hE, hE2, he]
      refine Yn2 fun r2 h2 => ?_
      have n2 := h2
      simp only [put_none_eq, ne_eq] at n2
      simp (maxDischargeDepth := 9) only [↓gB, gV, gT, reduceIte, reduceCtorEq, Nat.reduceEqDiff, Nat.reduceAdd, Nat.reduceSub, Nat.reduceLeDiff, Nat.reduceLT, Int.reduceEq, Nat.reduceMul, h1, h2, n2, hE, hE2, he]
      have l1 := le_put h1 ((Go.Obj.cells #[Go.Value.string p.Key, Go.GL.V p.Base, Go.GL.V p.Metre, Go.GL.V p.Minute, Go.GL.V p.Cross, Go.GL.V p.From, Go.GL.V p.To, Go.GL.V p.Peak, Go.GL.V p.Least, Go.GL.V p.Most] 66, Bool.true))
      have y1 := put_self G r1 ((Go.Obj.cells #[Go.Value.string p.Key, Go.GL.V p.Base, Go.GL.V p.Metre, Go.GL.V p.Minute, Go.GL.V p.Cross, Go.GL.V p.From, Go.GL.V p.To, Go.GL.V p.Peak, Go.GL.V p.Least, Go.GL.V p.Most] 66, Bool.true))
      generalize GH.put G r1 ((Go.Obj.cells #[Go.Value.string p.Key, Go.GL.V p.Base, Go.GL.V p.Metre, Go.GL.V p.Minute, Go.GL.V p.Cross, Go.GL.V p.From, Go.GL.V p.To, Go.GL.V p.Peak, Go.GL.V p.Least, Go.GL.V p.Most] 66, Bool.true)) = G1 at *
      replace hv := RSl.le hv l1
      replace hw := RSl.le hw l1
      replace hu := RSl.le hu l1
      replace hx := RSl.le hx l1
      have q2_0 := GH.le.none l1 h2
      have l2 := le_put h2 ((Go.Obj.cells #[Go.Value.string t.Ride, Go.Value.string t.Rider, Go.Value.slice b t.Nodes.length d, Go.GL.V t.Metres, Go.GL.V t.Time_From, Go.GL.V t.Time_To] 70, Bool.true))
      have y2 := put_self G1 r2 ((Go.Obj.cells #[Go.Value.string t.Ride, Go.Value.string t.Rider, Go.Value.slice b t.Nodes.length d, Go.GL.V t.Metres, Go.GL.V t.Time_From, Go.GL.V t.Time_To] 70, Bool.true))
      generalize GH.put G1 r2 ((Go.Obj.cells #[Go.Value.string t.Ride, Go.Value.string t.Rider, Go.Value.slice b t.Nodes.length d, Go.GL.V t.Metres, Go.GL.V t.Time_From, Go.GL.V t.Time_To] 70, Bool.true)) = G2 at *
      replace l1 := GH.le.trans l1 l2
      replace y1 := l2 _ _ y1
      replace hv := RSl.le hv l2
      replace hw := RSl.le hw l2
      replace hu := RSl.le hu l2
      replace hx := RSl.le hx l2
      refine Ycg (g35 (by assumption) (by omega)) ?_ ?_
      · exact upRSl _ _
      intro u3 G3 l3 w3
      replace l2 := GH.le.trans l2 l3
      replace y2 := l3 _ _ y2
      replace l1 := GH.le.trans l1 l3
      replace y1 := l3 _ _ y1
      replace hv := RSl.le hv l3
      replace hw := RSl.le hw l3
      replace hu := RSl.le hu l3
      replace hx := RSl.le hx l3
      obtain ⟨aw3, cw3, rfl⟩ := RSl.val w3
      simp (maxDischargeDepth := 9) only [↓gB, gV, gT, reduceIte, reduceCtorEq, Nat.reduceEqDiff, Nat.reduceAdd, Nat.reduceSub, Nat.reduceLeDiff, Nat.reduceLT, Int.reduceEq, Nat.reduceMul, h1, n2, h2, q2_0, y2, y1, hE, hE2, he]
      refine Ycp (p34 (by assumption) (by omega)) ?_
      simp (maxDischargeDepth := 9) only [↓gB, gV, gT, reduceIte, reduceCtorEq, Nat.reduceEqDiff, Nat.reduceAdd, Nat.reduceSub, Nat.reduceLeDiff, Nat.reduceLT, Int.reduceEq, Nat.reduceMul, h1, n2, h2, q2_0, y2, y1, hE, hE2, he]
      refine Ycp (p36 (by assumption) (by omega)) ?_
      simp (maxDischargeDepth := 9) only [↓gB, gV, gT, reduceIte, reduceCtorEq, Nat.reduceEqDiff, Nat.reduceAdd, Nat.reduceSub, Nat.reduceLeDiff, Nat.reduceLT, Int.reduceEq, Nat.reduceMul, h1, n2, h2, q2_0, y2, y1, hE, hE2, he]
      refine Ycg (g38 (by assumption) (by omega) (by assumption)) ?_ ?_
      · exact upRSl _ _
      intro u4 G4 l4 w4
      replace l3 := GH.le.trans l3 l4
      replace l2 := GH.le.trans l2 l4
      replace y2 := l4 _ _ y2
      replace l1 := GH.le.trans l1 l4
      replace y1 := l4 _ _ y1
      replace hv := RSl.le hv l4
      replace hw := RSl.le hw l4
      replace hu := RSl.le hu l4
      replace hx := RSl.le hx l4
      replace w3 := RSl.le w3 l4
      obtain ⟨aw4, cw4, rfl⟩ := RSl.val w4
      simp (maxDischargeDepth := 9) only [↓gB, gV, gT, reduceIte, reduceCtorEq, Nat.reduceEqDiff, Nat.reduceAdd, Nat.reduceSub, Nat.reduceLeDiff, Nat.reduceLT, Int.reduceEq, Nat.reduceMul, h1, n2, h2, q2_0, y2, y1, hE, hE2, he]
      refine Ycp (p37 (by assumption) (by omega) (by assumption)) ?_
      simp (maxDischargeDepth := 9) only [↓gB, gV, gT, reduceIte, reduceCtorEq, Nat.reduceEqDiff, Nat.reduceAdd, Nat.reduceSub, Nat.reduceLeDiff, Nat.reduceLT, Int.reduceEq, Nat.reduceMul, h1, n2, h2, q2_0, y2, y1, hE, hE2, he]
      refine Ycp (p39 (by assumption) (by omega) (by assumption)) ?_
      simp (maxDischargeDepth := 9) only [↓gB, gV, gT, reduceIte, reduceCtorEq, Nat.reduceEqDiff, Nat.reduceAdd, Nat.reduceSub, Nat.reduceLeDiff, Nat.reduceLT, Int.reduceEq, Nat.reduceMul, h1, n2, h2, q2_0, y2, y1, hE, hE2, he]
      refine Yn2 fun r3 h3 => ?_
      simp (maxDischargeDepth := 9) only [↓gB, gV, gT, reduceIte, reduceCtorEq, Nat.reduceEqDiff, Nat.reduceAdd, Nat.reduceSub, Nat.reduceLeDiff, Nat.reduceLT, Int.reduceEq, Nat.reduceMul, h1, n2, h2, q2_0, y2, y1, h3, hE, hE2, he]
      refine Xdraw_intro [0, 2, 3, 1, 4, 5, 6, 7, 8, 9, 10, 11, 12, 13] mixed (by kernel_rfl) (by decide +kernel) ?_
      simp (maxDischargeDepth := 9) only [↓gB, gV, gT, reduceIte, reduceCtorEq, Nat.reduceEqDiff, Nat.reduceAdd, Nat.reduceSub, Nat.reduceLeDiff, Nat.reduceLT, Int.reduceEq, Nat.reduceMul, h1, n2, h2, q2_0, y2, y1, h3, hE, hE2, he]
      have n3 : r1 ≠ r3 := ne_of_none (by assumption) (by assumption)
      have n31 : r2 ≠ r3 := ne_of_none (by assumption) (by assumption)
      simp (maxDischargeDepth := 9) only [↓gB, gV, gT, reduceIte, reduceCtorEq, Nat.reduceEqDiff, Nat.reduceAdd, Nat.reduceSub, Nat.reduceLeDiff, Nat.reduceLT, Int.reduceEq, Nat.reduceMul, h1, n2, h2, q2_0, y2, y1, h3, n3, n31, hE, hE2, he]
      have q5_0 := GH.le.none l4 h3
      have q5_1 := GH.le.none l3 h3
      have q5_2 := GH.le.none l2 h3
      have q5_3 := GH.le.none l1 h3
      have l5 := le_put h3 ((Go.Obj.cells #[Go.Value.string t.Ride, Go.Value.string t.Rider, Go.Value.slice b t.Nodes.length d, Go.GL.V t.Metres, Go.GL.V t.Time_From, Go.GL.V t.Time_To] 70, Bool.true))
      have y5 := put_self G4 r3 ((Go.Obj.cells #[Go.Value.string t.Ride, Go.Value.string t.Rider, Go.Value.slice b t.Nodes.length d, Go.GL.V t.Metres, Go.GL.V t.Time_From, Go.GL.V t.Time_To] 70, Bool.true))
      generalize GH.put G4 r3 ((Go.Obj.cells #[Go.Value.string t.Ride, Go.Value.string t.Rider, Go.Value.slice b t.Nodes.length d, Go.GL.V t.Metres, Go.GL.V t.Time_From, Go.GL.V t.Time_To] 70, Bool.true)) = G5 at *
      replace l4 := GH.le.trans l4 l5
      replace l3 := GH.le.trans l3 l5
      replace l2 := GH.le.trans l2 l5
      replace y2 := l5 _ _ y2
      replace l1 := GH.le.trans l1 l5
      replace y1 := l5 _ _ y1
      replace hv := RSl.le hv l5
      replace hw := RSl.le hw l5
      replace hu := RSl.le hu l5
      replace hx := RSl.le hx l5
      replace w3 := RSl.le w3 l5
      replace w4 := RSl.le w4 l5
      refine Ycg (g27 (by assumption) (by omega) (by assumption)) ?_ ?_
      · exact upRSl _ _
      intro u6 G6 l6 w6
      replace l5 := GH.le.trans l5 l6
      replace y5 := l6 _ _ y5
      replace l4 := GH.le.trans l4 l6
      replace l3 := GH.le.trans l3 l6
      replace l2 := GH.le.trans l2 l6
      replace y2 := l6 _ _ y2
      replace l1 := GH.le.trans l1 l6
      replace y1 := l6 _ _ y1
      replace hv := RSl.le hv l6
      replace hw := RSl.le hw l6
      replace hu := RSl.le hu l6
      replace hx := RSl.le hx l6
      replace w3 := RSl.le w3 l6
      replace w4 := RSl.le w4 l6
      obtain ⟨aw6, cw6, rfl⟩ := RSl.val w6
      simp (maxDischargeDepth := 9) only [↓gB, gV, gT, reduceIte, reduceCtorEq, Nat.reduceEqDiff, Nat.reduceAdd, Nat.reduceSub, Nat.reduceLeDiff, Nat.reduceLT, Int.reduceEq, Nat.reduceMul, h1, n2, h2, q2_0, h3, n3, n31, q5_0, q5_1, q5_2, q5_3, y5, y2, y1, hE, hE2, he]
      refine Yn3 fun r4 h4 k4 => ?_
      simp (maxDischargeDepth := 9) only [↓gB, gV, gT, reduceIte, reduceCtorEq, Nat.reduceEqDiff, Nat.reduceAdd, Nat.reduceSub, Nat.reduceLeDiff, Nat.reduceLT, Int.reduceEq, Nat.reduceMul, h1, n2, h2, q2_0, h3, n3, n31, q5_0, q5_1, q5_2, q5_3, y5, y2, y1, h4, hE, hE2, he]
      have l7 := le_put3 k4
      have y7 := put_self G6 r4 ((Go.Obj.cells #[Go.Value.string t.Ride, Go.Value.string t.Rider, Go.Value.slice b t.Nodes.length d, Go.GL.V t.Metres, Go.GL.V t.Time_From, Go.GL.V t.Time_To] 70, Bool.true))
      generalize GH.put G6 r4 ((Go.Obj.cells #[Go.Value.string t.Ride, Go.Value.string t.Rider, Go.Value.slice b t.Nodes.length d, Go.GL.V t.Metres, Go.GL.V t.Time_From, Go.GL.V t.Time_To] 70, Bool.true)) = G7 at *
      replace l6 := GH.le.trans l6 l7
      replace l5 := GH.le.trans l5 l7
      replace y5 := l7 _ _ y5
      replace l4 := GH.le.trans l4 l7
      replace l3 := GH.le.trans l3 l7
      replace l2 := GH.le.trans l2 l7
      replace y2 := l7 _ _ y2
      replace l1 := GH.le.trans l1 l7
      replace y1 := l7 _ _ y1
      replace hv := RSl.le hv l7
      replace hw := RSl.le hw l7
      replace hu := RSl.le hu l7
      replace hx := RSl.le hx l7
      replace w3 := RSl.le w3 l7
      replace w4 := RSl.le w4 l7
      replace w6 := RSl.le w6 l7
      refine Ycg (g38b (by assumption) (by assumption) (by assumption)) ?_ ?_
      · exact upRSl _ _
      intro u8 G8 l8 w8
      replace l7 := GH.le.trans l7 l8
      replace y7 := l8 _ _ y7
      replace l6 := GH.le.trans l6 l8
      replace l5 := GH.le.trans l5 l8
      replace y5 := l8 _ _ y5
      replace l4 := GH.le.trans l4 l8
      replace l3 := GH.le.trans l3 l8
      replace l2 := GH.le.trans l2 l8
      replace y2 := l8 _ _ y2
      replace l1 := GH.le.trans l1 l8
      replace y1 := l8 _ _ y1
      replace hv := RSl.le hv l8
      replace hw := RSl.le hw l8
      replace hu := RSl.le hu l8
      replace hx := RSl.le hx l8
      replace w3 := RSl.le w3 l8
      replace w4 := RSl.le w4 l8
      replace w6 := RSl.le w6 l8
      obtain ⟨aw8, cw8, rfl⟩ := RSl.val w8
      simp (maxDischargeDepth := 9) only [↓gB, gV, gT, reduceIte, reduceCtorEq, Nat.reduceEqDiff, Nat.reduceAdd, Nat.reduceSub, Nat.reduceLeDiff, Nat.reduceLT, Int.reduceEq, Nat.reduceMul, h1, n2, h2, q2_0, h3, n3, n31, q5_0, q5_1, q5_2, q5_3, h4, y7, y5, y2, y1, hE, hE2, he]
      replace w8 : RSl rJourney G8 (.slice aw8 1 cw8) [t] := w8
      obtain ⟨y0, a9, s9, m9, rfl, ⟨v9, rfl, w9⟩, e9⟩ := w8.at 0 (by simp) 6 rfl
      obtain rfl : t = y0 := by simpa using m9
      obtain ⟨b9, d9, rfl⟩ := w9.val
      rw [Nat.zero_mul] at e9
      simp (maxDischargeDepth := 9) only [↓gB, gV, gT, reduceIte, reduceCtorEq, Nat.reduceEqDiff, Nat.reduceAdd, Nat.reduceSub, Nat.reduceLeDiff, Nat.reduceLT, Int.reduceEq, Nat.reduceMul, h1, n2, h2, q2_0, h3, n3, n31, q5_0, q5_1, q5_2, q5_3, h4, y7, y5, y2, y1, e9, hE, hE2, he, Int.toNat_zero, Nat.zero_mul]
      refine vguard_intro (by omega) ?_
      refine Ycp (p40 (by assumption) (by assumption) (by omega) (by assumption)) ?_
      simp (maxDischargeDepth := 9) only [↓gB, gV, gT, reduceIte, reduceCtorEq, Nat.reduceEqDiff, Nat.reduceAdd, Nat.reduceSub, Nat.reduceLeDiff, Nat.reduceLT, Int.reduceEq, Nat.reduceMul, h1, n2, h2, q2_0, h3, n3, n31, q5_0, q5_1, q5_2, q5_3, h4, y7, y5, y2, y1, e9, hE, hE2, he, Int.toNat_zero, Nat.zero_mul]
      refine Xdraw_intro [0, 2, 5, 1, 3, 4, 6, 7, 8, 9] mixed (by kernel_rfl) (by decide +kernel) ?_
      simp (maxDischargeDepth := 9) only [↓gB, gV, gT, reduceIte, reduceCtorEq, Nat.reduceEqDiff, Nat.reduceAdd, Nat.reduceSub, Nat.reduceLeDiff, Nat.reduceLT, Int.reduceEq, Nat.reduceMul, h1, n2, h2, q2_0, h3, n3, n31, q5_0, q5_1, q5_2, q5_3, h4, y7, y5, y2, y1, e9, hE, hE2, he, Int.toNat_zero, Nat.zero_mul]
      refine Ycp (p25 (by assumption) (by omega)) ?_
      simp (maxDischargeDepth := 9) only [↓gB, gV, gT, reduceIte, reduceCtorEq, Nat.reduceEqDiff, Nat.reduceAdd, Nat.reduceSub, Nat.reduceLeDiff, Nat.reduceLT, Int.reduceEq, Nat.reduceMul, h1, n2, h2, q2_0, h3, n3, n31, q5_0, q5_1, q5_2, q5_3, h4, y7, y5, y2, y1, e9, hE, hE2, he, Int.toNat_zero, Nat.zero_mul]
      refine Yn3 fun r5 h5 k5 => ?_
      simp (maxDischargeDepth := 9) only [↓gB, gV, gT, reduceIte, reduceCtorEq, Nat.reduceEqDiff, Nat.reduceAdd, Nat.reduceSub, Nat.reduceLeDiff, Nat.reduceLT, Int.reduceEq, Nat.reduceMul, h1, n2, h2, q2_0, h3, n3, n31, q5_0, q5_1, q5_2, q5_3, h4, y7, y5, y2, y1, e9, h5, hE, hE2, he, Int.toNat_zero, Nat.zero_mul]
      refine Ycp (p36b (by exact put_self _ _ _)) ?_
      simp (maxDischargeDepth := 9) only [↓gB, gV, gT, reduceIte, reduceCtorEq, Nat.reduceEqDiff, Nat.reduceAdd, Nat.reduceSub, Nat.reduceLeDiff, Nat.reduceLT, Int.reduceEq, Nat.reduceMul, h1, n2, h2, q2_0, h3, n3, n31, q5_0, q5_1, q5_2, q5_3, h4, y7, y5, y2, y1, e9, h5, hE, hE2, he, Int.toNat_zero, Nat.zero_mul]
      have n5 : r3 ≠ r5 := ne_of_none (by assumption) (by assumption)
      have n51 : r1 ≠ r5 := ne_of_none (by assumption) (by assumption)
      have n52 : r2 ≠ r5 := ne_of_none (by assumption) (by assumption)
      refine Ycp (p39b ht ((put_not _ _ n5).trans (by assumption)) (RSl.put _ h5 hw)) ?_
      simp (maxDischargeDepth := 9) only [↓gB, gV, gT, reduceIte, reduceCtorEq, Nat.reduceEqDiff, Nat.reduceAdd, Nat.reduceSub, Nat.reduceLeDiff, Nat.reduceLT, Int.reduceEq, Nat.reduceMul, h1, n2, h2, q2_0, h3, n3, n31, q5_0, q5_1, q5_2, q5_3, h4, y7, y5, y2, y1, e9, h5, n5, n51, n52, hE, hE2, he]
      refine Yn1 fun r6 h6 => ?_
      simp (maxDischargeDepth := 9) only [↓gB, gV, gT, reduceIte, reduceCtorEq, Nat.reduceEqDiff, Nat.reduceAdd, Nat.reduceSub, Nat.reduceLeDiff, Nat.reduceLT, Int.reduceEq, Nat.reduceMul, h1, n2, h2, q2_0, h3, n3, n31, q5_0, q5_1, q5_2, q5_3, h4, y7, y5, y2, y1, e9, h5, n5, n51, n52, h6, hE, hE2, he]
      refine Ycp (p16b (by exact put_self _ _ _)) ?_
      simp (maxDischargeDepth := 9) only [↓gB, gV, gT, reduceIte, reduceCtorEq, Nat.reduceEqDiff, Nat.reduceAdd, Nat.reduceSub, Nat.reduceLeDiff, Nat.reduceLT, Int.reduceEq, Nat.reduceMul, h1, n2, h2, q2_0, h3, n3, n31, q5_0, q5_1, q5_2, q5_3, h4, y7, y5, y2, y1, e9, h5, n5, n51, n52, h6, hE, hE2, he]
      have q9_0 := GH.le.none l8 h5
      have q9_1 := GH.le.none l7 h5
      have q9_2 := GH.le.none l6 h5
      have q9_3 := GH.le.none l5 h5
      have q9_4 := GH.le.none l4 h5
      have q9_5 := GH.le.none l3 h5
      have q9_6 := GH.le.none l2 h5
      have q9_7 := GH.le.none l1 h5
      have l9 := le_put h5 ((Go.Obj.cells #[Go.Value.string p.Key, Go.GL.V p.Base, Go.GL.V p.Metre, Go.GL.V p.Minute, Go.GL.V p.Cross, Go.GL.V p.From, Go.GL.V p.To, Go.GL.V p.Peak, Go.GL.V p.Least, Go.GL.V p.Most] 66, Bool.true))
      have y9 := put_self G8 r5 ((Go.Obj.cells #[Go.Value.string p.Key, Go.GL.V p.Base, Go.GL.V p.Metre, Go.GL.V p.Minute, Go.GL.V p.Cross, Go.GL.V p.From, Go.GL.V p.To, Go.GL.V p.Peak, Go.GL.V p.Least, Go.GL.V p.Most] 66, Bool.true))
      generalize GH.put G8 r5 ((Go.Obj.cells #[Go.Value.string p.Key, Go.GL.V p.Base, Go.GL.V p.Metre, Go.GL.V p.Minute, Go.GL.V p.Cross, Go.GL.V p.From, Go.GL.V p.To, Go.GL.V p.Peak, Go.GL.V p.Least, Go.GL.V p.Most] 66, Bool.true)) = G9 at *
      replace l8 := GH.le.trans l8 l9
      replace l7 := GH.le.trans l7 l9
      replace y7 := l9 _ _ y7
      replace l6 := GH.le.trans l6 l9
      replace l5 := GH.le.trans l5 l9
      replace y5 := l9 _ _ y5
      replace l4 := GH.le.trans l4 l9
      replace l3 := GH.le.trans l3 l9
      replace l2 := GH.le.trans l2 l9
      replace y2 := l9 _ _ y2
      replace l1 := GH.le.trans l1 l9
      replace y1 := l9 _ _ y1
      replace hv := RSl.le hv l9
      replace hw := RSl.le hw l9
      replace hu := RSl.le hu l9
      replace hx := RSl.le hx l9
      replace w3 := RSl.le w3 l9
      replace w4 := RSl.le w4 l9
      replace w6 := RSl.le w6 l9
      replace w8 := RSl.le w8 l9
      replace w9 := RSl.le w9 l9
      have q10_0 := GH.le.none l9 h6
      have q10_1 := GH.le.none l8 h6
      have q10_2 := GH.le.none l7 h6
      have q10_3 := GH.le.none l6 h6
      have q10_4 := GH.le.none l5 h6
      have q10_5 := GH.le.none l4 h6
      have q10_6 := GH.le.none l3 h6
      have q10_7 := GH.le.none l2 h6
      have q10_8 := GH.le.none l1 h6
      have l10 := le_put h6 ((Go.Obj.cells #[Go.GL.V (Go.Proofs.YtnlbapfbdabjaaaDoor.checkZones l), Go.GL.V (Go.Proofs.YtnlbapfbdabjaaaDoor.checkPrices [p]), Go.GL.V (Go.Proofs.YtnlbapfbdabjaaaDoor.checkTrips [t])] 26, Bool.true))
      have y10 := put_self G9 r6 ((Go.Obj.cells #[Go.GL.V (Go.Proofs.YtnlbapfbdabjaaaDoor.checkZones l), Go.GL.V (Go.Proofs.YtnlbapfbdabjaaaDoor.checkPrices [p]), Go.GL.V (Go.Proofs.YtnlbapfbdabjaaaDoor.checkTrips [t])] 26, Bool.true))
      generalize GH.put G9 r6 ((Go.Obj.cells #[Go.GL.V (Go.Proofs.YtnlbapfbdabjaaaDoor.checkZones l), Go.GL.V (Go.Proofs.YtnlbapfbdabjaaaDoor.checkPrices [p]), Go.GL.V (Go.Proofs.YtnlbapfbdabjaaaDoor.checkTrips [t])] 26, Bool.true)) = G10 at *
      replace l9 := GH.le.trans l9 l10
      replace y9 := l10 _ _ y9
      replace l8 := GH.le.trans l8 l10
      replace l7 := GH.le.trans l7 l10
      replace y7 := l10 _ _ y7
      replace l6 := GH.le.trans l6 l10
      replace l5 := GH.le.trans l5 l10
      replace y5 := l10 _ _ y5
      replace l4 := GH.le.trans l4 l10
      replace l3 := GH.le.trans l3 l10
      replace l2 := GH.le.trans l2 l10
      replace y2 := l10 _ _ y2
      replace l1 := GH.le.trans l1 l10
      replace y1 := l10 _ _ y1
      replace hv := RSl.le hv l10
      replace hw := RSl.le hw l10
      replace hu := RSl.le hu l10
      replace hx := RSl.le hx l10
      replace w3 := RSl.le w3 l10
      replace w4 := RSl.le w4 l10
      replace w6 := RSl.le w6 l10
      replace w8 := RSl.le w8 l10
      replace w9 := RSl.le w9 l10
      simp (maxDischargeDepth := 9) only [↓gB, gV, gT, reduceIte, reduceCtorEq, Nat.reduceEqDiff, Nat.reduceAdd, Nat.reduceSub, Nat.reduceLeDiff, Nat.reduceLT, Int.reduceEq, Nat.reduceMul, h1, n2, h2, q2_0, h3, n3, n31, q5_0, q5_1, q5_2, q5_3, h4, e9, h5, n5, n51, n52, q9_0, q9_1, q9_2, q9_3, q9_4, q9_5, q9_6, q9_7, h6, q10_0, q10_1, q10_2, q10_3, q10_4, q10_5, q10_6, q10_7, q10_8, y10, y9, y7, y5, y2, y1, hE, hE2, he]
      refine Ycp (p41 (by assumption) (by assumption) (by omega) (by assumption) (by assumption) (by assumption)) ?_
      simp (maxDischargeDepth := 9) only [↓gB, gV, gT, reduceIte, reduceCtorEq, Nat.reduceEqDiff, Nat.reduceAdd, Nat.reduceSub, Nat.reduceLeDiff, Nat.reduceLT, Int.reduceEq, Nat.reduceMul, h1, n2, h2, q2_0, h3, n3, n31, q5_0, q5_1, q5_2, q5_3, h4, e9, h5, n5, n51, n52, q9_0, q9_1, q9_2, q9_3, q9_4, q9_5, q9_6, q9_7, h6, q10_0, q10_1, q10_2, q10_3, q10_4, q10_5, q10_6, q10_7, q10_8, y10, y9, y7, y5, y2, y1, hE, hE2, he]
      focus
        rw [N_cut]
        refine ⟨_, sub_refl _, r2, r3, ?_, ?_, ?_, ?_, ?_, ?_, ?_, by simp (maxDischargeDepth := 9) only [↓gB, gV, gT, reduceIte, reduceCtorEq, Nat.reduceEqDiff, Nat.reduceAdd, Nat.reduceSub, Nat.reduceLeDiff, Nat.reduceLT, Int.reduceEq, Nat.reduceMul, h1, n2, h2, q2_0, h3, n3, n31, q5_0, q5_1, q5_2, q5_3, h4, e9, h5, n5, n51, n52, q9_0, q9_1, q9_2, q9_3, q9_4, q9_5, q9_6, q9_7, h6, q10_0, q10_1, q10_2, q10_3, q10_4, q10_5, q10_6, q10_7, q10_8, y10, y9, y7, y5, y2, y1, nat_succ, and_self]⟩
        · assumption
        · assumption
        · assumption
        · assumption
        · assumption
        · assumption
        · assumption
    · simp (maxDischargeDepth := 9) only [↓gB, gV, gT, reduceIte, reduceCtorEq, Nat.reduceEqDiff, Nat.reduceAdd, Nat.reduceSub, Nat.reduceLeDiff, Nat.reduceLT, Int.reduceEq, Nat.reduceMul, hE, hE2, he]
      refine Yn2 fun r1 h1 => ?_
      simp (maxDischargeDepth := 9) only [↓gB, gV, gT, reduceIte, reduceCtorEq, Nat.reduceEqDiff, Nat.reduceAdd, Nat.reduceSub, Nat.reduceLeDiff, Nat.reduceLT, Int.reduceEq, Nat.reduceMul, h1, hE, hE2, he]
      refine Yn2 fun r2 h2 => ?_
      have n2 := h2
      simp only [put_none_eq, ne_eq] at n2
      simp (maxDischargeDepth := 9) only [↓gB, gV, gT, reduceIte, reduceCtorEq, Nat.reduceEqDiff, Nat.reduceAdd, Nat.reduceSub, Nat.reduceLeDiff, Nat.reduceLT, Int.reduceEq, Nat.reduceMul, h1, h2, n2, hE, hE2, he]
      have l1 := le_put h1 ((Go.Obj.cells #[Go.Value.string p.Key, Go.GL.V p.Base, Go.GL.V p.Metre, Go.GL.V p.Minute, Go.GL.V p.Cross, Go.GL.V p.From, Go.GL.V p.To, Go.GL.V p.Peak, Go.GL.V p.Least, Go.GL.V p.Most] 66, Bool.true))
      have y1 := put_self G r1 ((Go.Obj.cells #[Go.Value.string p.Key, Go.GL.V p.Base, Go.GL.V p.Metre, Go.GL.V p.Minute, Go.GL.V p.Cross, Go.GL.V p.From, Go.GL.V p.To, Go.GL.V p.Peak, Go.GL.V p.Least, Go.GL.V p.Most] 66, Bool.true))
      generalize GH.put G r1 ((Go.Obj.cells #[Go.Value.string p.Key, Go.GL.V p.Base, Go.GL.V p.Metre, Go.GL.V p.Minute, Go.GL.V p.Cross, Go.GL.V p.From, Go.GL.V p.To, Go.GL.V p.Peak, Go.GL.V p.Least, Go.GL.V p.Most] 66, Bool.true)) = G1 at *
      replace hv := RSl.le hv l1
      replace hw := RSl.le hw l1
      replace hu := RSl.le hu l1
      replace hx := RSl.le hx l1
      have q2_0 := GH.le.none l1 h2
      have l2 := le_put h2 ((Go.Obj.cells #[Go.Value.string t.Ride, Go.Value.string t.Rider, Go.Value.slice b t.Nodes.length d, Go.GL.V t.Metres, Go.GL.V t.Time_From, Go.GL.V t.Time_To] 70, Bool.true))
      have y2 := put_self G1 r2 ((Go.Obj.cells #[Go.Value.string t.Ride, Go.Value.string t.Rider, Go.Value.slice b t.Nodes.length d, Go.GL.V t.Metres, Go.GL.V t.Time_From, Go.GL.V t.Time_To] 70, Bool.true))
      generalize GH.put G1 r2 ((Go.Obj.cells #[Go.Value.string t.Ride, Go.Value.string t.Rider, Go.Value.slice b t.Nodes.length d, Go.GL.V t.Metres, Go.GL.V t.Time_From, Go.GL.V t.Time_To] 70, Bool.true)) = G2 at *
      replace l1 := GH.le.trans l1 l2
      replace y1 := l2 _ _ y1
      replace hv := RSl.le hv l2
      replace hw := RSl.le hw l2
      replace hu := RSl.le hu l2
      replace hx := RSl.le hx l2
      refine Ycg (g35 (by assumption) (by omega)) ?_ ?_
      · exact upRSl _ _
      intro u3 G3 l3 w3
      replace l2 := GH.le.trans l2 l3
      replace y2 := l3 _ _ y2
      replace l1 := GH.le.trans l1 l3
      replace y1 := l3 _ _ y1
      replace hv := RSl.le hv l3
      replace hw := RSl.le hw l3
      replace hu := RSl.le hu l3
      replace hx := RSl.le hx l3
      obtain ⟨aw3, cw3, rfl⟩ := RSl.val w3
      simp (maxDischargeDepth := 9) only [↓gB, gV, gT, reduceIte, reduceCtorEq, Nat.reduceEqDiff, Nat.reduceAdd, Nat.reduceSub, Nat.reduceLeDiff, Nat.reduceLT, Int.reduceEq, Nat.reduceMul, h1, n2, h2, q2_0, y2, y1, hE, hE2, he]
      refine Ycp (p34 (by assumption) (by omega)) ?_
      simp (maxDischargeDepth := 9) only [↓gB, gV, gT, reduceIte, reduceCtorEq, Nat.reduceEqDiff, Nat.reduceAdd, Nat.reduceSub, Nat.reduceLeDiff, Nat.reduceLT, Int.reduceEq, Nat.reduceMul, h1, n2, h2, q2_0, y2, y1, hE, hE2, he]
      refine Ycp (p36 (by assumption) (by omega)) ?_
      simp (maxDischargeDepth := 9) only [↓gB, gV, gT, reduceIte, reduceCtorEq, Nat.reduceEqDiff, Nat.reduceAdd, Nat.reduceSub, Nat.reduceLeDiff, Nat.reduceLT, Int.reduceEq, Nat.reduceMul, h1, n2, h2, q2_0, y2, y1, hE, hE2, he]
      refine Ycg (g38 (by assumption) (by omega) (by assumption)) ?_ ?_
      · exact upRSl _ _
      intro u4 G4 l4 w4
      replace l3 := GH.le.trans l3 l4
      replace l2 := GH.le.trans l2 l4
      replace y2 := l4 _ _ y2
      replace l1 := GH.le.trans l1 l4
      replace y1 := l4 _ _ y1
      replace hv := RSl.le hv l4
      replace hw := RSl.le hw l4
      replace hu := RSl.le hu l4
      replace hx := RSl.le hx l4
      replace w3 := RSl.le w3 l4
      obtain ⟨aw4, cw4, rfl⟩ := RSl.val w4
      simp (maxDischargeDepth := 9) only [↓gB, gV, gT, reduceIte, reduceCtorEq, Nat.reduceEqDiff, Nat.reduceAdd, Nat.reduceSub, Nat.reduceLeDiff, Nat.reduceLT, Int.reduceEq, Nat.reduceMul, h1, n2, h2, q2_0, y2, y1, hE, hE2, he]
      refine Ycp (p37 (by assumption) (by omega) (by assumption)) ?_
      simp (maxDischargeDepth := 9) only [↓gB, gV, gT, reduceIte, reduceCtorEq, Nat.reduceEqDiff, Nat.reduceAdd, Nat.reduceSub, Nat.reduceLeDiff, Nat.reduceLT, Int.reduceEq, Nat.reduceMul, h1, n2, h2, q2_0, y2, y1, hE, hE2, he]
      refine Ycp (p39 (by assumption) (by omega) (by assumption)) ?_
      simp (maxDischargeDepth := 9) only [↓gB, gV, gT, reduceIte, reduceCtorEq, Nat.reduceEqDiff, Nat.reduceAdd, Nat.reduceSub, Nat.reduceLeDiff, Nat.reduceLT, Int.reduceEq, Nat.reduceMul, h1, n2, h2, q2_0, y2, y1, hE, hE2, he]
      refine Yn2 fun r3 h3 => ?_
      simp (maxDischargeDepth := 9) only [↓gB, gV, gT, reduceIte, reduceCtorEq, Nat.reduceEqDiff, Nat.reduceAdd, Nat.reduceSub, Nat.reduceLeDiff, Nat.reduceLT, Int.reduceEq, Nat.reduceMul, h1, n2, h2, q2_0, y2, y1, h3, hE, hE2, he]
      refine Xdraw_intro [0, 2, 3, 1, 4, 5, 6, 7, 8, 9, 10, 11, 12, 13] mixed (by kernel_rfl) (by decide +kernel) ?_
      simp (maxDischargeDepth := 9) only [↓gB, gV, gT, reduceIte, reduceCtorEq, Nat.reduceEqDiff, Nat.reduceAdd, Nat.reduceSub, Nat.reduceLeDiff, Nat.reduceLT, Int.reduceEq, Nat.reduceMul, h1, n2, h2, q2_0, y2, y1, h3, hE, hE2, he]
      have n3 : r1 ≠ r3 := ne_of_none (by assumption) (by assumption)
      have n31 : r2 ≠ r3 := ne_of_none (by assumption) (by assumption)
      simp (maxDischargeDepth := 9) only [↓gB, gV, gT, reduceIte, reduceCtorEq, Nat.reduceEqDiff, Nat.reduceAdd, Nat.reduceSub, Nat.reduceLeDiff, Nat.reduceLT, Int.reduceEq, Nat.reduceMul, h1, n2, h2, q2_0, y2, y1, h3, n3, n31, hE, hE2, he]
      have q5_0 := GH.le.none l4 h3
      have q5_1 := GH.le.none l3 h3
      have q5_2 := GH.le.none l2 h3
      have q5_3 := GH.le.none l1 h3
      have l5 := le_put h3 ((Go.Obj.cells #[Go.Value.string t.Ride, Go.Value.string t.Rider, Go.Value.slice b t.Nodes.length d, Go.GL.V t.Metres, Go.GL.V t.Time_From, Go.GL.V t.Time_To] 70, Bool.true))
      have y5 := put_self G4 r3 ((Go.Obj.cells #[Go.Value.string t.Ride, Go.Value.string t.Rider, Go.Value.slice b t.Nodes.length d, Go.GL.V t.Metres, Go.GL.V t.Time_From, Go.GL.V t.Time_To] 70, Bool.true))
      generalize GH.put G4 r3 ((Go.Obj.cells #[Go.Value.string t.Ride, Go.Value.string t.Rider, Go.Value.slice b t.Nodes.length d, Go.GL.V t.Metres, Go.GL.V t.Time_From, Go.GL.V t.Time_To] 70, Bool.true)) = G5 at *
      replace l4 := GH.le.trans l4 l5
      replace l3 := GH.le.trans l3 l5
      replace l2 := GH.le.trans l2 l5
      replace y2 := l5 _ _ y2
      replace l1 := GH.le.trans l1 l5
      replace y1 := l5 _ _ y1
      replace hv := RSl.le hv l5
      replace hw := RSl.le hw l5
      replace hu := RSl.le hu l5
      replace hx := RSl.le hx l5
      replace w3 := RSl.le w3 l5
      replace w4 := RSl.le w4 l5
      refine Ycg (g27 (by assumption) (by omega) (by assumption)) ?_ ?_
      · exact upRSl _ _
      intro u6 G6 l6 w6
      replace l5 := GH.le.trans l5 l6
      replace y5 := l6 _ _ y5
      replace l4 := GH.le.trans l4 l6
      replace l3 := GH.le.trans l3 l6
      replace l2 := GH.le.trans l2 l6
      replace y2 := l6 _ _ y2
      replace l1 := GH.le.trans l1 l6
      replace y1 := l6 _ _ y1
      replace hv := RSl.le hv l6
      replace hw := RSl.le hw l6
      replace hu := RSl.le hu l6
      replace hx := RSl.le hx l6
      replace w3 := RSl.le w3 l6
      replace w4 := RSl.le w4 l6
      obtain ⟨aw6, cw6, rfl⟩ := RSl.val w6
      simp (maxDischargeDepth := 9) only [↓gB, gV, gT, reduceIte, reduceCtorEq, Nat.reduceEqDiff, Nat.reduceAdd, Nat.reduceSub, Nat.reduceLeDiff, Nat.reduceLT, Int.reduceEq, Nat.reduceMul, h1, n2, h2, q2_0, h3, n3, n31, q5_0, q5_1, q5_2, q5_3, y5, y2, y1, hE, hE2, he]
      refine Yn3 fun r4 h4 k4 => ?_
      simp (maxDischargeDepth := 9) only [↓gB, gV, gT, reduceIte, reduceCtorEq, Nat.reduceEqDiff, Nat.reduceAdd, Nat.reduceSub, Nat.reduceLeDiff, Nat.reduceLT, Int.reduceEq, Nat.reduceMul, h1, n2, h2, q2_0, h3, n3, n31, q5_0, q5_1, q5_2, q5_3, y5, y2, y1, h4, hE, hE2, he]
      have l7 := le_put3 k4
      have y7 := put_self G6 r4 ((Go.Obj.cells #[Go.Value.string t.Ride, Go.Value.string t.Rider, Go.Value.slice b t.Nodes.length d, Go.GL.V t.Metres, Go.GL.V t.Time_From, Go.GL.V t.Time_To] 70, Bool.true))
      generalize GH.put G6 r4 ((Go.Obj.cells #[Go.Value.string t.Ride, Go.Value.string t.Rider, Go.Value.slice b t.Nodes.length d, Go.GL.V t.Metres, Go.GL.V t.Time_From, Go.GL.V t.Time_To] 70, Bool.true)) = G7 at *
      replace l6 := GH.le.trans l6 l7
      replace l5 := GH.le.trans l5 l7
      replace y5 := l7 _ _ y5
      replace l4 := GH.le.trans l4 l7
      replace l3 := GH.le.trans l3 l7
      replace l2 := GH.le.trans l2 l7
      replace y2 := l7 _ _ y2
      replace l1 := GH.le.trans l1 l7
      replace y1 := l7 _ _ y1
      replace hv := RSl.le hv l7
      replace hw := RSl.le hw l7
      replace hu := RSl.le hu l7
      replace hx := RSl.le hx l7
      replace w3 := RSl.le w3 l7
      replace w4 := RSl.le w4 l7
      replace w6 := RSl.le w6 l7
      refine Ycg (g38b (by assumption) (by assumption) (by assumption)) ?_ ?_
      · exact upRSl _ _
      intro u8 G8 l8 w8
      replace l7 := GH.le.trans l7 l8
      replace y7 := l8 _ _ y7
      replace l6 := GH.le.trans l6 l8
      replace l5 := GH.le.trans l5 l8
      replace y5 := l8 _ _ y5
      replace l4 := GH.le.trans l4 l8
      replace l3 := GH.le.trans l3 l8
      replace l2 := GH.le.trans l2 l8
      replace y2 := l8 _ _ y2
      replace l1 := GH.le.trans l1 l8
      replace y1 := l8 _ _ y1
      replace hv := RSl.le hv l8
      replace hw := RSl.le hw l8
      replace hu := RSl.le hu l8
      replace hx := RSl.le hx l8
      replace w3 := RSl.le w3 l8
      replace w4 := RSl.le w4 l8
      replace w6 := RSl.le w6 l8
      obtain ⟨aw8, cw8, rfl⟩ := RSl.val w8
      simp (maxDischargeDepth := 9) only [↓gB, gV, gT, reduceIte, reduceCtorEq, Nat.reduceEqDiff, Nat.reduceAdd, Nat.reduceSub, Nat.reduceLeDiff, Nat.reduceLT, Int.reduceEq, Nat.reduceMul, h1, n2, h2, q2_0, h3, n3, n31, q5_0, q5_1, q5_2, q5_3, h4, y7, y5, y2, y1, hE, hE2, he]
      replace w8 : RSl rJourney G8 (.slice aw8 1 cw8) [t] := w8
      obtain ⟨y0, a9, s9, m9, rfl, ⟨v9, rfl, w9⟩, e9⟩ := w8.at 0 (by simp) 6 rfl
      obtain rfl : t = y0 := by simpa using m9
      obtain ⟨b9, d9, rfl⟩ := w9.val
      rw [Nat.zero_mul] at e9
      simp (maxDischargeDepth := 9) only [↓gB, gV, gT, reduceIte, reduceCtorEq, Nat.reduceEqDiff, Nat.reduceAdd, Nat.reduceSub, Nat.reduceLeDiff, Nat.reduceLT, Int.reduceEq, Nat.reduceMul, h1, n2, h2, q2_0, h3, n3, n31, q5_0, q5_1, q5_2, q5_3, h4, y7, y5, y2, y1, e9, hE, hE2, he, Int.toNat_zero, Nat.zero_mul]
      refine vguard_intro (by omega) ?_
      refine Ycp (p40 (by assumption) (by assumption) (by omega) (by assumption)) ?_
      simp (maxDischargeDepth := 9) only [↓gB, gV, gT, reduceIte, reduceCtorEq, Nat.reduceEqDiff, Nat.reduceAdd, Nat.reduceSub, Nat.reduceLeDiff, Nat.reduceLT, Int.reduceEq, Nat.reduceMul, h1, n2, h2, q2_0, h3, n3, n31, q5_0, q5_1, q5_2, q5_3, h4, y7, y5, y2, y1, e9, hE, hE2, he, Int.toNat_zero, Nat.zero_mul]
      refine Xdraw_intro [0, 2, 5, 1, 3, 4, 6, 7, 8, 9] mixed (by kernel_rfl) (by decide +kernel) ?_
      simp (maxDischargeDepth := 9) only [↓gB, gV, gT, reduceIte, reduceCtorEq, Nat.reduceEqDiff, Nat.reduceAdd, Nat.reduceSub, Nat.reduceLeDiff, Nat.reduceLT, Int.reduceEq, Nat.reduceMul, h1, n2, h2, q2_0, h3, n3, n31, q5_0, q5_1, q5_2, q5_3, h4, y7, y5, y2, y1, e9, hE, hE2, he, Int.toNat_zero, Nat.zero_mul]
      refine Ycp (p25 (by assumption) (by omega)) ?_
      simp (maxDischargeDepth := 9) only [↓gB, gV, gT, reduceIte, reduceCtorEq, Nat.reduceEqDiff, Nat.reduceAdd, Nat.reduceSub, Nat.reduceLeDiff, Nat.reduceLT, Int.reduceEq, Nat.reduceMul, h1, n2, h2, q2_0, h3, n3, n31, q5_0, q5_1, q5_2, q5_3, h4, y7, y5, y2, y1, e9, hE, hE2, he, Int.toNat_zero, Nat.zero_mul]
      refine Yn3 fun r5 h5 k5 => ?_
      simp (maxDischargeDepth := 9) only [↓gB, gV, gT, reduceIte, reduceCtorEq, Nat.reduceEqDiff, Nat.reduceAdd, Nat.reduceSub, Nat.reduceLeDiff, Nat.reduceLT, Int.reduceEq, Nat.reduceMul, h1, n2, h2, q2_0, h3, n3, n31, q5_0, q5_1, q5_2, q5_3, h4, y7, y5, y2, y1, e9, h5, hE, hE2, he, Int.toNat_zero, Nat.zero_mul]
      refine Ycp (p36b (by exact put_self _ _ _)) ?_
      simp (maxDischargeDepth := 9) only [↓gB, gV, gT, reduceIte, reduceCtorEq, Nat.reduceEqDiff, Nat.reduceAdd, Nat.reduceSub, Nat.reduceLeDiff, Nat.reduceLT, Int.reduceEq, Nat.reduceMul, h1, n2, h2, q2_0, h3, n3, n31, q5_0, q5_1, q5_2, q5_3, h4, y7, y5, y2, y1, e9, h5, hE, hE2, he, Int.toNat_zero, Nat.zero_mul]
      have n5 : r3 ≠ r5 := ne_of_none (by assumption) (by assumption)
      have n51 : r1 ≠ r5 := ne_of_none (by assumption) (by assumption)
      have n52 : r2 ≠ r5 := ne_of_none (by assumption) (by assumption)
      refine Ycp (p39b ht ((put_not _ _ n5).trans (by assumption)) (RSl.put _ h5 hw)) ?_
      simp (maxDischargeDepth := 9) only [↓gB, gV, gT, reduceIte, reduceCtorEq, Nat.reduceEqDiff, Nat.reduceAdd, Nat.reduceSub, Nat.reduceLeDiff, Nat.reduceLT, Int.reduceEq, Nat.reduceMul, h1, n2, h2, q2_0, h3, n3, n31, q5_0, q5_1, q5_2, q5_3, h4, y7, y5, y2, y1, e9, h5, n5, n51, n52, hE, hE2, he]
      refine Yn1 fun r6 h6 => ?_
      simp (maxDischargeDepth := 9) only [↓gB, gV, gT, reduceIte, reduceCtorEq, Nat.reduceEqDiff, Nat.reduceAdd, Nat.reduceSub, Nat.reduceLeDiff, Nat.reduceLT, Int.reduceEq, Nat.reduceMul, h1, n2, h2, q2_0, h3, n3, n31, q5_0, q5_1, q5_2, q5_3, h4, y7, y5, y2, y1, e9, h5, n5, n51, n52, h6, hE, hE2, he]
      refine Ycp (p16b (by exact put_self _ _ _)) ?_
      simp (maxDischargeDepth := 9) only [↓gB, gV, gT, reduceIte, reduceCtorEq, Nat.reduceEqDiff, Nat.reduceAdd, Nat.reduceSub, Nat.reduceLeDiff, Nat.reduceLT, Int.reduceEq, Nat.reduceMul, h1, n2, h2, q2_0, h3, n3, n31, q5_0, q5_1, q5_2, q5_3, h4, y7, y5, y2, y1, e9, h5, n5, n51, n52, h6, hE, hE2, he]
      have q9_0 := GH.le.none l8 h5
      have q9_1 := GH.le.none l7 h5
      have q9_2 := GH.le.none l6 h5
      have q9_3 := GH.le.none l5 h5
      have q9_4 := GH.le.none l4 h5
      have q9_5 := GH.le.none l3 h5
      have q9_6 := GH.le.none l2 h5
      have q9_7 := GH.le.none l1 h5
      have l9 := le_put h5 ((Go.Obj.cells #[Go.Value.string p.Key, Go.GL.V p.Base, Go.GL.V p.Metre, Go.GL.V p.Minute, Go.GL.V p.Cross, Go.GL.V p.From, Go.GL.V p.To, Go.GL.V p.Peak, Go.GL.V p.Least, Go.GL.V p.Most] 66, Bool.true))
      have y9 := put_self G8 r5 ((Go.Obj.cells #[Go.Value.string p.Key, Go.GL.V p.Base, Go.GL.V p.Metre, Go.GL.V p.Minute, Go.GL.V p.Cross, Go.GL.V p.From, Go.GL.V p.To, Go.GL.V p.Peak, Go.GL.V p.Least, Go.GL.V p.Most] 66, Bool.true))
      generalize GH.put G8 r5 ((Go.Obj.cells #[Go.Value.string p.Key, Go.GL.V p.Base, Go.GL.V p.Metre, Go.GL.V p.Minute, Go.GL.V p.Cross, Go.GL.V p.From, Go.GL.V p.To, Go.GL.V p.Peak, Go.GL.V p.Least, Go.GL.V p.Most] 66, Bool.true)) = G9 at *
      replace l8 := GH.le.trans l8 l9
      replace l7 := GH.le.trans l7 l9
      replace y7 := l9 _ _ y7
      replace l6 := GH.le.trans l6 l9
      replace l5 := GH.le.trans l5 l9
      replace y5 := l9 _ _ y5
      replace l4 := GH.le.trans l4 l9
      replace l3 := GH.le.trans l3 l9
      replace l2 := GH.le.trans l2 l9
      replace y2 := l9 _ _ y2
      replace l1 := GH.le.trans l1 l9
      replace y1 := l9 _ _ y1
      replace hv := RSl.le hv l9
      replace hw := RSl.le hw l9
      replace hu := RSl.le hu l9
      replace hx := RSl.le hx l9
      replace w3 := RSl.le w3 l9
      replace w4 := RSl.le w4 l9
      replace w6 := RSl.le w6 l9
      replace w8 := RSl.le w8 l9
      replace w9 := RSl.le w9 l9
      have q10_0 := GH.le.none l9 h6
      have q10_1 := GH.le.none l8 h6
      have q10_2 := GH.le.none l7 h6
      have q10_3 := GH.le.none l6 h6
      have q10_4 := GH.le.none l5 h6
      have q10_5 := GH.le.none l4 h6
      have q10_6 := GH.le.none l3 h6
      have q10_7 := GH.le.none l2 h6
      have q10_8 := GH.le.none l1 h6
      have l10 := le_put h6 ((Go.Obj.cells #[Go.GL.V (Go.Proofs.YtnlbapfbdabjaaaDoor.checkZones l), Go.GL.V (Go.Proofs.YtnlbapfbdabjaaaDoor.checkPrices [p]), Go.GL.V (Go.Proofs.YtnlbapfbdabjaaaDoor.checkTrips [t])] 26, Bool.true))
      have y10 := put_self G9 r6 ((Go.Obj.cells #[Go.GL.V (Go.Proofs.YtnlbapfbdabjaaaDoor.checkZones l), Go.GL.V (Go.Proofs.YtnlbapfbdabjaaaDoor.checkPrices [p]), Go.GL.V (Go.Proofs.YtnlbapfbdabjaaaDoor.checkTrips [t])] 26, Bool.true))
      generalize GH.put G9 r6 ((Go.Obj.cells #[Go.GL.V (Go.Proofs.YtnlbapfbdabjaaaDoor.checkZones l), Go.GL.V (Go.Proofs.YtnlbapfbdabjaaaDoor.checkPrices [p]), Go.GL.V (Go.Proofs.YtnlbapfbdabjaaaDoor.checkTrips [t])] 26, Bool.true)) = G10 at *
      replace l9 := GH.le.trans l9 l10
      replace y9 := l10 _ _ y9
      replace l8 := GH.le.trans l8 l10
      replace l7 := GH.le.trans l7 l10
      replace y7 := l10 _ _ y7
      replace l6 := GH.le.trans l6 l10
      replace l5 := GH.le.trans l5 l10
      replace y5 := l10 _ _ y5
      replace l4 := GH.le.trans l4 l10
      replace l3 := GH.le.trans l3 l10
      replace l2 := GH.le.trans l2 l10
      replace y2 := l10 _ _ y2
      replace l1 := GH.le.trans l1 l10
      replace y1 := l10 _ _ y1
      replace hv := RSl.le hv l10
      replace hw := RSl.le hw l10
      replace hu := RSl.le hu l10
      replace hx := RSl.le hx l10
      replace w3 := RSl.le w3 l10
      replace w4 := RSl.le w4 l10
      replace w6 := RSl.le w6 l10
      replace w8 := RSl.le w8 l10
      replace w9 := RSl.le w9 l10
      skip
      focus
        rw [N_cut]
        refine ⟨_, sub_refl _, r2, r3, ?_, ?_, ?_, ?_, ?_, ?_, ?_, by simp (maxDischargeDepth := 9) only [↓gB, gV, gT, reduceIte, reduceCtorEq, Nat.reduceEqDiff, Nat.reduceAdd, Nat.reduceSub, Nat.reduceLeDiff, Nat.reduceLT, Int.reduceEq, Nat.reduceMul, h1, n2, h2, q2_0, h3, n3, n31, q5_0, q5_1, q5_2, q5_3, h4, e9, h5, n5, n51, n52, q9_0, q9_1, q9_2, q9_3, q9_4, q9_5, q9_6, q9_7, h6, q10_0, q10_1, q10_2, q10_3, q10_4, q10_5, q10_6, q10_7, q10_8, y10, y9, y7, y5, y2, y1, nat_succ, and_self]⟩
        · assumption
        · assumption
        · assumption
        · assumption
        · assumption
        · assumption
        · assumption
  · by_cases hf : fullE l ps [t] = 0
    · have hV : cheapV l t ps = .tuple #[.string (cheapF l t ps).1, V (cheapF l t ps).2, .bool (!decide ((cheapF l t ps).1 = ⟨#[]⟩)), V 0] := if_pos hf
      obtain ⟨e1', e2', e3'⟩ := fullE_ok hf
      have hzz' := cz_z e1'
      have hpo' := cp_ok e2'
      have hto' := ct_ok e3' t (by simp)
      simp (maxDischargeDepth := 9) only [↓gB, gV, gT, reduceIte, reduceCtorEq, Nat.reduceEqDiff, Nat.reduceAdd, Nat.reduceSub, Nat.reduceLeDiff, Nat.reduceLT, Int.reduceEq, Nat.reduceMul, n, hr2, hr3, f9, f11, f0, f1, hE2, hf, hV, Int.toNat_zero, Nat.zero_mul]
      refine Xdraw_intro [0, 2, 4, 1, 3, 5, 6, 7, 8, 9, 10, 11, 12, 13, 14, 15, 16, 17, 18] mixed (by kernel_rfl) (by decide +kernel) ?_
      simp (maxDischargeDepth := 9) only [↓gB, gV, gT, reduceIte, reduceCtorEq, Nat.reduceEqDiff, Nat.reduceAdd, Nat.reduceSub, Nat.reduceLeDiff, Nat.reduceLT, Int.reduceEq, Nat.reduceMul, n, hr2, hr3, f9, f11, f0, f1, hE2, hf, hV, Int.toNat_zero, Nat.zero_mul]
      refine Ycg (g27 (by assumption) (by omega) (by assumption)) ?_ ?_
      · exact upRSl _ _
      intro u1 G1 l1 w1
      replace hr2 := l1 _ _ hr2
      replace hr3 := l1 _ _ hr3
      replace hv := RSl.le hv l1
      replace hu := RSl.le hu l1
      replace hw := RSl.le hw l1
      replace hle := GH.le.trans hle l1
      obtain ⟨aw1, cw1, rfl⟩ := RSl.val w1
      simp (maxDischargeDepth := 9) only [↓gB, gV, gT, reduceIte, reduceCtorEq, Nat.reduceEqDiff, Nat.reduceAdd, Nat.reduceSub, Nat.reduceLeDiff, Nat.reduceLT, Int.reduceEq, Nat.reduceMul, n, f9, f11, f0, f1, hr2, hr3, hE2, hf, hV, Int.toNat_zero, Nat.zero_mul]
      refine Ycg (g35 (by assumption) (by omega)) ?_ ?_
      · exact upRSl _ _
      intro u2 G2 l2 w2
      replace l1 := GH.le.trans l1 l2
      replace hr2 := l2 _ _ hr2
      replace hr3 := l2 _ _ hr3
      replace hv := RSl.le hv l2
      replace hu := RSl.le hu l2
      replace hw := RSl.le hw l2
      replace hle := GH.le.trans hle l2
      replace w1 := RSl.le w1 l2
      obtain ⟨aw2, cw2, rfl⟩ := RSl.val w2
      simp (maxDischargeDepth := 9) only [↓gB, gV, gT, reduceIte, reduceCtorEq, Nat.reduceEqDiff, Nat.reduceAdd, Nat.reduceSub, Nat.reduceLeDiff, Nat.reduceLT, Int.reduceEq, Nat.reduceMul, n, f9, f11, f0, f1, hr2, hr3, hE2, hf, hV, Int.toNat_zero, Nat.zero_mul]
      refine Yn3 fun r1 h1 k1 => ?_
      simp (maxDischargeDepth := 9) only [↓gB, gV, gT, reduceIte, reduceCtorEq, Nat.reduceEqDiff, Nat.reduceAdd, Nat.reduceSub, Nat.reduceLeDiff, Nat.reduceLT, Int.reduceEq, Nat.reduceMul, n, f9, f11, f0, f1, hr2, hr3, h1, hE2, hf, hV, Int.toNat_zero, Nat.zero_mul]
      have l3 := le_put3 k1
      have y3 := put_self G2 r1 ((Go.Obj.cells #[Go.Value.string t.Ride, Go.Value.string t.Rider, Go.Value.slice b t.Nodes.length d, Go.GL.V t.Metres, Go.GL.V t.Time_From, Go.GL.V t.Time_To] 70, Bool.true))
      generalize GH.put G2 r1 ((Go.Obj.cells #[Go.Value.string t.Ride, Go.Value.string t.Rider, Go.Value.slice b t.Nodes.length d, Go.GL.V t.Metres, Go.GL.V t.Time_From, Go.GL.V t.Time_To] 70, Bool.true)) = G3 at *
      replace l2 := GH.le.trans l2 l3
      replace l1 := GH.le.trans l1 l3
      replace hr2 := l3 _ _ hr2
      replace hr3 := l3 _ _ hr3
      replace hv := RSl.le hv l3
      replace hu := RSl.le hu l3
      replace hw := RSl.le hw l3
      replace hle := GH.le.trans hle l3
      replace w1 := RSl.le w1 l3
      replace w2 := RSl.le w2 l3
      refine Ycg (g38b (by assumption) (by assumption) (by assumption)) ?_ ?_
      · exact upRSl _ _
      intro u4 G4 l4 w4
      replace l3 := GH.le.trans l3 l4
      replace y3 := l4 _ _ y3
      replace l2 := GH.le.trans l2 l4
      replace l1 := GH.le.trans l1 l4
      replace hr2 := l4 _ _ hr2
      replace hr3 := l4 _ _ hr3
      replace hv := RSl.le hv l4
      replace hu := RSl.le hu l4
      replace hw := RSl.le hw l4
      replace hle := GH.le.trans hle l4
      replace w1 := RSl.le w1 l4
      replace w2 := RSl.le w2 l4
      obtain ⟨aw4, cw4, rfl⟩ := RSl.val w4
      simp (maxDischargeDepth := 9) only [↓gB, gV, gT, reduceIte, reduceCtorEq, Nat.reduceEqDiff, Nat.reduceAdd, Nat.reduceSub, Nat.reduceLeDiff, Nat.reduceLT, Int.reduceEq, Nat.reduceMul, n, f9, f11, f0, f1, h1, y3, hr2, hr3, hE2, hf, hV, Int.toNat_zero, Nat.zero_mul]
      replace w4 : RSl rJourney G4 (.slice aw4 1 cw4) [t] := w4
      obtain ⟨y0, a9, s9, m9, rfl, ⟨v9, rfl, w9⟩, e9⟩ := w4.at 0 (by simp) 6 rfl
      obtain rfl : t = y0 := by simpa using m9
      obtain ⟨b9, d9, rfl⟩ := w9.val
      rw [Nat.zero_mul] at e9
      simp (maxDischargeDepth := 9) only [↓gB, gV, gT, reduceIte, reduceCtorEq, Nat.reduceEqDiff, Nat.reduceAdd, Nat.reduceSub, Nat.reduceLeDiff, Nat.reduceLT, Int.reduceEq, Nat.reduceMul, n, f9, f11, f0, f1, h1, y3, hr2, hr3, e9, hE2, hf, hV, Int.toNat_zero, Nat.zero_mul]
      refine vguard_intro (by omega) ?_
      refine Ycp (p42 (by assumption) (by assumption) (by assumption) (by omega) (by omega) (by assumption)) ?_
      simp (maxDischargeDepth := 9) only [↓gB, gV, gT, reduceIte, reduceCtorEq, Nat.reduceEqDiff, Nat.reduceAdd, Nat.reduceSub, Nat.reduceLeDiff, Nat.reduceLT, Int.reduceEq, Nat.reduceMul, n, f9, f11, f0, f1, h1, y3, hr2, hr3, e9, hE2, hf, hV, Int.toNat_zero, Nat.zero_mul]
      refine Ycp (p25 (by assumption) (by omega)) ?_
      simp (maxDischargeDepth := 9) only [↓gB, gV, gT, reduceIte, reduceCtorEq, Nat.reduceEqDiff, Nat.reduceAdd, Nat.reduceSub, Nat.reduceLeDiff, Nat.reduceLT, Int.reduceEq, Nat.reduceMul, n, f9, f11, f0, f1, h1, y3, hr2, hr3, e9, hE2, hf, hV, Int.toNat_zero, Nat.zero_mul]
      refine Ycp (p36 (by assumption) (by omega)) ?_
      simp (maxDischargeDepth := 9) only [↓gB, gV, gT, reduceIte, reduceCtorEq, Nat.reduceEqDiff, Nat.reduceAdd, Nat.reduceSub, Nat.reduceLeDiff, Nat.reduceLT, Int.reduceEq, Nat.reduceMul, n, f9, f11, f0, f1, h1, y3, hr2, hr3, e9, hE2, hf, hV, Int.toNat_zero, Nat.zero_mul]
      refine Ycp (p39b (by assumption) (by assumption) (by assumption)) ?_
      simp (maxDischargeDepth := 9) only [↓gB, gV, gT, reduceIte, reduceCtorEq, Nat.reduceEqDiff, Nat.reduceAdd, Nat.reduceSub, Nat.reduceLeDiff, Nat.reduceLT, Int.reduceEq, Nat.reduceMul, n, f9, f11, f0, f1, h1, y3, hr2, hr3, e9, hE2, hf, hV, Int.toNat_zero, Nat.zero_mul]
      refine Yn1 fun r4 h4 => ?_
      simp (maxDischargeDepth := 9) only [↓gB, gV, gT, reduceIte, reduceCtorEq, Nat.reduceEqDiff, Nat.reduceAdd, Nat.reduceSub, Nat.reduceLeDiff, Nat.reduceLT, Int.reduceEq, Nat.reduceMul, n, f9, f11, f0, f1, h1, y3, hr2, hr3, e9, h4, hE2, hf, hV, Int.toNat_zero, Nat.zero_mul]
      refine Ycp (p16b (by exact put_self _ _ _)) ?_
      simp (maxDischargeDepth := 9) only [↓gB, gV, gT, reduceIte, reduceCtorEq, Nat.reduceEqDiff, Nat.reduceAdd, Nat.reduceSub, Nat.reduceLeDiff, Nat.reduceLT, Int.reduceEq, Nat.reduceMul, n, f9, f11, f0, f1, h1, y3, hr2, hr3, e9, h4, hE2, hf, hV, Int.toNat_zero, Nat.zero_mul]
      refine Xc_split _ _ _ _ _ (fun c1 => ?_) (fun c1 => ?_)
      · have hps : ps = [] := List.eq_nil_of_length_eq_zero (by omega)
        have hc : cheapF l t ps = (⟨#[]⟩, 0) := by rw [hps]; rfl
        simp (maxDischargeDepth := 9) only [↓gB, gV, gT, reduceIte, reduceCtorEq, Nat.reduceEqDiff, Nat.reduceAdd, Nat.reduceSub, Nat.reduceLeDiff, Nat.reduceLT, Int.reduceEq, Nat.reduceMul, n, f9, f11, f0, f1, h1, y3, hr2, hr3, e9, h4, c1, hE2, hf, hc, beq_self_eq_true]
        refine Ycp (p23) ?_
        simp (maxDischargeDepth := 9) only [↓gB, gV, gT, reduceIte, reduceCtorEq, Nat.reduceEqDiff, Nat.reduceAdd, Nat.reduceSub, Nat.reduceLeDiff, Nat.reduceLT, Int.reduceEq, Nat.reduceMul, n, f9, f11, f0, f1, h1, y3, hr2, hr3, e9, h4, c1, hE2, hf, hc, beq_self_eq_true]
        exact Kup_val (by simp (maxDischargeDepth := 9) only [le_self, le_puts, le_put0, h1, l4, l3, l2, l1, hle, h4]) rfl
      · simp (maxDischargeDepth := 9) only [↓gB, gV, gT, reduceIte, reduceCtorEq, Nat.reduceEqDiff, Nat.reduceAdd, Nat.reduceSub, Nat.reduceLeDiff, Nat.reduceLT, Int.reduceEq, Nat.reduceMul, n, f9, f11, f0, f1, h1, y3, hr2, hr3, e9, h4, c1, hE2, hf]
        obtain ⟨x1, a1, s1, m1, rfl, rfl, e1⟩ := hu.at (0) (by omega) 10 rfl
        simp (maxDischargeDepth := 9) only [↓gB, gV, gT, reduceIte, reduceCtorEq, Nat.reduceEqDiff, Nat.reduceAdd, Nat.reduceSub, Nat.reduceLeDiff, Nat.reduceLT, Int.reduceEq, Nat.reduceMul, n, f9, f11, f0, h1, y3, hr2, hr3, e9, h4, c1, f1, e1, hE2, hf]
        refine vguard_intro (by omega) ?_
        obtain ⟨x2, s2, m2, rfl, e2⟩ := hu.at' (Int.toNat 0) (by omega) 10 rfl
        simp (maxDischargeDepth := 9) only [↓gB, gV, gT, reduceIte, reduceCtorEq, Nat.reduceEqDiff, Nat.reduceAdd, Nat.reduceSub, Nat.reduceLeDiff, Nat.reduceLT, Int.reduceEq, Nat.reduceMul, n, f9, f11, f0, h1, y3, hr2, hr3, e9, h4, c1, f1, e1, e2, hE2, hf]
        refine Yn2 fun r5 h5 => ?_
        have n5 := h5
        simp only [put_none_eq, ne_eq] at n5
        simp (maxDischargeDepth := 9) only [↓gB, gV, gT, reduceIte, reduceCtorEq, Nat.reduceEqDiff, Nat.reduceAdd, Nat.reduceSub, Nat.reduceLeDiff, Nat.reduceLT, Int.reduceEq, Nat.reduceMul, n, f9, f11, f0, h1, y3, hr2, hr3, e9, h4, c1, f1, e1, e2, h5, n5, hE2, hf]
        have n52 : r2 ≠ r5 := ne_of_none hr2 n5.2
        have n53 : r3 ≠ r5 := ne_of_none hr3 n5.2
        have g5 : G r5 = none := GH.le.none hle n5.2
        have q5_0 := GH.le.none l4 h4
        have q5_1 := GH.le.none l3 h4
        have q5_2 := GH.le.none l2 h4
        have q5_3 := GH.le.none l1 h4
        have q5_4 := GH.le.none hle h4
        have l5 := le_put h4 ((Go.Obj.cells #[Go.GL.V (Go.Proofs.YtnlbapfbdabjaaaDoor.checkZones l), Go.GL.V (Go.Proofs.YtnlbapfbdabjaaaDoor.checkPrices ps), Go.GL.V (Go.Proofs.YtnlbapfbdabjaaaDoor.checkTrips [t])] 26, Bool.true))
        have y5 := put_self G4 r4 ((Go.Obj.cells #[Go.GL.V (Go.Proofs.YtnlbapfbdabjaaaDoor.checkZones l), Go.GL.V (Go.Proofs.YtnlbapfbdabjaaaDoor.checkPrices ps), Go.GL.V (Go.Proofs.YtnlbapfbdabjaaaDoor.checkTrips [t])] 26, Bool.true))
        generalize GH.put G4 r4 ((Go.Obj.cells #[Go.GL.V (Go.Proofs.YtnlbapfbdabjaaaDoor.checkZones l), Go.GL.V (Go.Proofs.YtnlbapfbdabjaaaDoor.checkPrices ps), Go.GL.V (Go.Proofs.YtnlbapfbdabjaaaDoor.checkTrips [t])] 26, Bool.true)) = G5 at *
        replace l4 := GH.le.trans l4 l5
        replace l3 := GH.le.trans l3 l5
        replace y3 := l5 _ _ y3
        replace l2 := GH.le.trans l2 l5
        replace l1 := GH.le.trans l1 l5
        replace hr2 := l5 _ _ hr2
        replace hr3 := l5 _ _ hr3
        replace hv := RSl.le hv l5
        replace hw := RSl.le hw l5
        replace hle := GH.le.trans hle l5
        replace w1 := RSl.le w1 l5
        replace w2 := RSl.le w2 l5
        replace w4 := RSl.le w4 l5
        replace w9 := RSl.le w9 l5
        replace hu := RSl.le hu l5
        have q6_0 := GH.le.none l5 h5
        have q6_1 := GH.le.none l4 h5
        have q6_2 := GH.le.none l3 h5
        have q6_3 := GH.le.none l2 h5
        have q6_4 := GH.le.none l1 h5
        have q6_5 := GH.le.none hle h5
        have l6 := le_put h5 ((Go.Obj.cells #[Go.Value.string x2.Key, Go.Value.int Go.IntKind.i64 x2.Base, Go.Value.int Go.IntKind.i64 x2.Metre, Go.Value.int Go.IntKind.i64 x2.Minute, Go.Value.int Go.IntKind.i64 x2.Cross, Go.Value.int Go.IntKind.i64 x2.From, Go.Value.int Go.IntKind.i64 x2.To, Go.Value.int Go.IntKind.i64 x2.Peak, Go.Value.int Go.IntKind.i64 x2.Least, Go.Value.int Go.IntKind.i64 x2.Most] 66, Bool.true))
        have y6 := put_self G5 r5 ((Go.Obj.cells #[Go.Value.string x2.Key, Go.Value.int Go.IntKind.i64 x2.Base, Go.Value.int Go.IntKind.i64 x2.Metre, Go.Value.int Go.IntKind.i64 x2.Minute, Go.Value.int Go.IntKind.i64 x2.Cross, Go.Value.int Go.IntKind.i64 x2.From, Go.Value.int Go.IntKind.i64 x2.To, Go.Value.int Go.IntKind.i64 x2.Peak, Go.Value.int Go.IntKind.i64 x2.Least, Go.Value.int Go.IntKind.i64 x2.Most] 66, Bool.true))
        generalize GH.put G5 r5 ((Go.Obj.cells #[Go.Value.string x2.Key, Go.Value.int Go.IntKind.i64 x2.Base, Go.Value.int Go.IntKind.i64 x2.Metre, Go.Value.int Go.IntKind.i64 x2.Minute, Go.Value.int Go.IntKind.i64 x2.Cross, Go.Value.int Go.IntKind.i64 x2.From, Go.Value.int Go.IntKind.i64 x2.To, Go.Value.int Go.IntKind.i64 x2.Peak, Go.Value.int Go.IntKind.i64 x2.Least, Go.Value.int Go.IntKind.i64 x2.Most] 66, Bool.true)) = G6 at *
        replace l5 := GH.le.trans l5 l6
        replace y5 := l6 _ _ y5
        replace l4 := GH.le.trans l4 l6
        replace l3 := GH.le.trans l3 l6
        replace y3 := l6 _ _ y3
        replace l2 := GH.le.trans l2 l6
        replace l1 := GH.le.trans l1 l6
        replace hr2 := l6 _ _ hr2
        replace hr3 := l6 _ _ hr3
        replace hv := RSl.le hv l6
        replace hw := RSl.le hw l6
        replace hle := GH.le.trans hle l6
        replace w1 := RSl.le w1 l6
        replace w2 := RSl.le w2 l6
        replace w4 := RSl.le w4 l6
        replace w9 := RSl.le w9 l6
        replace hu := RSl.le hu l6
        skip
        have hps : ps = x1 :: ps.drop 1 := by
          cases ps with
          | nil => simp at m1
          | cons z zs => simp only [List.getElem?_cons_zero, Option.some.injEq] at m1; subst m1; rfl
        obtain rfl : x1 = x2 := by have m2' : ps[0]? = some x2 := m2; rw [m1] at m2'; cases m2'; rfl
        have ho1 := hpo' x1 (List.mem_of_getElem? m1)
        focus
          refine Xloop_intro _ _ _ _ _ (fun k f G' => ∃ (i : Nat) (o : SPrice), k = ps.length - i ∧ (i ≤ ps.length) ∧ (bestF l t ps x1 = bestF l t (ps.drop i) o) ∧ (POk o) ∧ (G' r2 = some (.cells [.string t.Ride, .string t.Rider, .slice b t.Nodes.length d, V t.Metres, V t.Time_From, V t.Time_To].toArray 70 (0, 0), true)) ∧ (G' r5 = some (.cells [.string o.Key, V o.Base, V o.Metre, V o.Minute, V o.Cross, V o.From, V o.To, V o.Peak, V o.Least, V o.Most].toArray 66 (0, 0), true)) ∧ (RSl rZone G' (.slice a l.length c) l) ∧ (RSl rPrice G' (.slice (some a1) ps.length q) ps) ∧ (RSl Rp.str G' (.slice b t.Nodes.length d) t.Nodes) ∧ (G.le G') ∧ f 133 = V i ∧ f 0 = Go.Value.slice a l.length c ∧ f 9 = Go.Value.pointer (Option.some { block := r2, off := 0 }) ∧ f 12 = Go.GL.V (Go.Proofs.YtnlbapfbdabjaaaDoor.cheapF l t ps).snd ∧ f 13 = Go.GL.V 0 ∧ f 15 = Go.Value.string (Go.Proofs.YtnlbapfbdabjaaaDoor.cheapF l t ps).fst ∧ f 16 = Go.Value.bool !Decidable.decide ((Go.Proofs.YtnlbapfbdabjaaaDoor.cheapF l t ps).fst = { data := #[] }) ∧ f 17 = Go.Value.pointer (Option.some { block := r5, off := 0 }) ∧ f 131 = Go.Value.slice (Option.some a1) ps.length q ∧ f 132 = Go.Value.int Go.IntKind.i64 ↑ps.length) _ ⟨0, x1, rfl, ?_, ?_, ?_, ?_, ?_, ?_, ?_, ?_, ?_, by simp (maxDischargeDepth := 9) only [↓gB, gV, gT, reduceIte, reduceCtorEq, Nat.reduceEqDiff, Nat.reduceAdd, Nat.reduceSub, Nat.reduceLeDiff, Nat.reduceLT, Int.reduceEq, Nat.reduceMul, n, f9, f11, f0, h1, e9, h4, c1, f1, e1, n5, n52, n53, g5, q5_0, q5_1, q5_2, q5_3, q5_4, h5, q6_0, q6_1, q6_2, q6_3, q6_4, q6_5, y5, y3, hr2, hr3, e2, y6, and_self]⟩ ?_
          · omega
          · rfl
          · assumption
          · assumption
          · assumption
          · assumption
          · assumption
          · assumption
          · assumption
          rintro k f G' ⟨i, o, rfl, hi, hb, hbo, hr2, hr5, hv, hu, hw, hle, f133, f0, f9, f12, f13, f15, f16, f17, f131, f132⟩
        simp (maxDischargeDepth := 9) only [↓gB, gV, gT, reduceIte, reduceCtorEq, Nat.reduceEqDiff, Nat.reduceAdd, Nat.reduceSub, Nat.reduceLeDiff, Nat.reduceLT, Int.reduceEq, Nat.reduceMul, n, f9, f11, f0, h1, e9, h4, c1, f1, e1, n5, n52, n53, g5, q5_0, q5_1, q5_2, q5_3, q5_4, h5, q6_0, q6_1, q6_2, q6_3, q6_4, q6_5, y5, y3, hr2, hr3, e2, y6, hr2, hr5, f133, f0, f9, f12, f13, f15, f16, f17, f131, f132]
        refine Xc_split _ _ _ _ _ (fun c2 => ?_) (fun c2 => ?_)
        · obtain ⟨p1, hpi⟩ : ∃ p, ps[i]? = some p := ⟨_, List.getElem?_eq_getElem (by omega)⟩
          have hp1 := hpo' p1 (List.mem_of_getElem? hpi)
          simp (maxDischargeDepth := 9) only [↓gB, gV, gT, reduceIte, reduceCtorEq, Nat.reduceEqDiff, Nat.reduceAdd, Nat.reduceSub, Nat.reduceLeDiff, Nat.reduceLT, Int.reduceEq, Nat.reduceMul, n, f9, f11, f0, h1, e9, h4, c1, f1, e1, n5, n52, n53, g5, q5_0, q5_1, q5_2, q5_3, q5_4, h5, q6_0, q6_1, q6_2, q6_3, q6_4, q6_5, y5, y3, hr2, hr3, e2, y6, hr2, hr5, f133, f0, f9, f12, f13, f15, f16, f17, f131, f132, c2]
          refine vguard_intro (by simp) ?_
          obtain ⟨x3, s3, m3, rfl, e3⟩ := hu.at' (i) (by omega) 10 rfl
          simp (maxDischargeDepth := 9) only [↓gB, gV, gT, reduceIte, reduceCtorEq, Nat.reduceEqDiff, Nat.reduceAdd, Nat.reduceSub, Nat.reduceLeDiff, Nat.reduceLT, Int.reduceEq, Nat.reduceMul, n, f9, f11, f0, h1, e9, h4, c1, f1, e1, n5, n52, n53, g5, q5_0, q5_1, q5_2, q5_3, q5_4, h5, q6_0, q6_1, q6_2, q6_3, q6_4, q6_5, y5, y3, hr2, hr3, e2, y6, hr2, hr5, f133, f0, f9, f12, f13, f15, f16, f17, f131, f132, c2, e3]
          refine Yn2 fun r6 h6 => ?_
          simp (maxDischargeDepth := 9) only [↓gB, gV, gT, reduceIte, reduceCtorEq, Nat.reduceEqDiff, Nat.reduceAdd, Nat.reduceSub, Nat.reduceLeDiff, Nat.reduceLT, Int.reduceEq, Nat.reduceMul, n, f9, f11, f0, h1, e9, h4, c1, f1, e1, n5, n52, n53, g5, q5_0, q5_1, q5_2, q5_3, q5_4, h5, q6_0, q6_1, q6_2, q6_3, q6_4, q6_5, y5, y3, hr2, hr3, e2, y6, hr2, hr5, f133, f0, f9, f12, f13, f15, f16, f17, f131, f132, c2, e3, h6]
          refine Xdraw_intro [0, 1, 2, 4, 5, 6, 3, 7, 8] mixed (by kernel_rfl) (by decide +kernel) ?_
          simp (maxDischargeDepth := 9) only [↓gB, gV, gT, reduceIte, reduceCtorEq, Nat.reduceEqDiff, Nat.reduceAdd, Nat.reduceSub, Nat.reduceLeDiff, Nat.reduceLT, Int.reduceEq, Nat.reduceMul, n, f9, f11, f0, h1, e9, h4, c1, f1, e1, n5, n52, n53, g5, q5_0, q5_1, q5_2, q5_3, q5_4, h5, q6_0, q6_1, q6_2, q6_3, q6_4, q6_5, y5, y3, hr2, hr3, e2, y6, hr2, hr5, f133, f0, f9, f12, f13, f15, f16, f17, f131, f132, c2, e3, h6]
          obtain rfl : p1 = x3 := by rw [hpi] at m3; cases m3; rfl
          have n6 : r2 ≠ r6 := ne_of_none hr2 h6
          have n65 : r5 ≠ r6 := ne_of_none hr5 h6
          have hb1 : bestF l t ps x1 = bestF l t (ps.drop (i + 1)) (if fullF l p1 t < fullF l o t then p1 else o) := by rw [hb, drop_at m3]; rfl
          have k5 : (G'.put r6 (.cells [.string p1.Key, V p1.Base, V p1.Metre, V p1.Minute, V p1.Cross, V p1.From, V p1.To, V p1.Peak, V p1.Least, V p1.Most].toArray 66 (0, 0), true)) r5 = some (.cells [.string o.Key, V o.Base, V o.Metre, V o.Minute, V o.Cross, V o.From, V o.To, V o.Peak, V o.Least, V o.Most].toArray 66 (0, 0), true) := (put_not _ _ n65).trans hr5
          simp (maxDischargeDepth := 9) only [↓gB, gV, gT, reduceIte, reduceCtorEq, Nat.reduceEqDiff, Nat.reduceAdd, Nat.reduceSub, Nat.reduceLeDiff, Nat.reduceLT, Int.reduceEq, Nat.reduceMul, n, f9, f11, f0, h1, e9, h4, c1, f1, e1, n5, n52, n53, g5, q5_0, q5_1, q5_2, q5_3, q5_4, h5, q6_0, q6_1, q6_2, q6_3, q6_4, q6_5, y5, y3, hr2, hr3, e2, y6, hr2, hr5, f133, f0, f9, f12, f13, f15, f16, f17, f131, f132, c2, h6, e3, n6, n65, k5]
          refine Ycp (p41 (by exact RSl.put _ (by assumption) (by assumption)) (by exact RSl.put _ (by assumption) (by assumption)) (by omega) (by assumption) (by assumption) (by assumption)) ?_
          simp (maxDischargeDepth := 9) only [↓gB, gV, gT, reduceIte, reduceCtorEq, Nat.reduceEqDiff, Nat.reduceAdd, Nat.reduceSub, Nat.reduceLeDiff, Nat.reduceLT, Int.reduceEq, Nat.reduceMul, n, f9, f11, f0, h1, e9, h4, c1, f1, e1, n5, n52, n53, g5, q5_0, q5_1, q5_2, q5_3, q5_4, h5, q6_0, q6_1, q6_2, q6_3, q6_4, q6_5, y5, y3, hr2, hr3, e2, y6, hr2, hr5, f133, f0, f9, f12, f13, f15, f16, f17, f131, f132, c2, h6, e3, n6, n65, k5]
          refine Ycp (p41 (by exact RSl.put _ (by assumption) (by assumption)) (by exact RSl.put _ (by assumption) (by assumption)) (by omega) (by assumption) (by assumption) (by assumption)) ?_
          simp (maxDischargeDepth := 9) only [↓gB, gV, gT, reduceIte, reduceCtorEq, Nat.reduceEqDiff, Nat.reduceAdd, Nat.reduceSub, Nat.reduceLeDiff, Nat.reduceLT, Int.reduceEq, Nat.reduceMul, n, f9, f11, f0, h1, e9, h4, c1, f1, e1, n5, n52, n53, g5, q5_0, q5_1, q5_2, q5_3, q5_4, h5, q6_0, q6_1, q6_2, q6_3, q6_4, q6_5, y5, y3, hr2, hr3, e2, y6, hr2, hr5, f133, f0, f9, f12, f13, f15, f16, f17, f131, f132, c2, h6, e3, n6, n65, k5]
          refine Xc_split _ _ _ _ _ (fun c3 => ?_) (fun c3 => ?_)
          · focus
              simp (maxDischargeDepth := 9) only [↓gB, gV, gT, reduceIte, reduceCtorEq, Nat.reduceEqDiff, Nat.reduceAdd, Nat.reduceSub, Nat.reduceLeDiff, Nat.reduceLT, Int.reduceEq, Nat.reduceMul, n, f9, f11, f0, h1, e9, h4, c1, f1, e1, n5, n52, n53, g5, q5_0, q5_1, q5_2, q5_3, q5_4, h5, q6_0, q6_1, q6_2, q6_3, q6_4, q6_5, y5, y3, hr2, hr3, e2, y6, hr2, hr5, f133, f0, f9, f12, f13, f15, f16, f17, f131, f132, c2, h6, e3, n6, n65, k5, c3]
              have q1 : Go.IntKind.i64.wrap (↑i + 1) = ↑i + 1 := wrap_id (by omega)
              simp (maxDischargeDepth := 9) only [↓gB, gV, gT, reduceIte, reduceCtorEq, Nat.reduceEqDiff, Nat.reduceAdd, Nat.reduceSub, Nat.reduceLeDiff, Nat.reduceLT, Int.reduceEq, Nat.reduceMul, n, f9, f11, f0, h1, e9, h4, c1, f1, e1, n5, n52, n53, g5, q5_0, q5_1, q5_2, q5_3, q5_4, h5, q6_0, q6_1, q6_2, q6_3, q6_4, q6_5, y5, y3, hr2, hr3, e2, y6, hr2, hr5, f133, f0, f9, f12, f13, f15, f16, f17, f131, f132, c2, h6, e3, n6, n65, k5, c3, q1]
              rw [N_lp]
              refine ⟨_, ?_, _, sub_refl _, i + 1, p1, rfl, ?_, ?_, ?_, ?_, ?_, ?_, ?_, ?_, ?_, by simp (maxDischargeDepth := 9) only [↓gB, gV, gT, reduceIte, reduceCtorEq, Nat.reduceEqDiff, Nat.reduceAdd, Nat.reduceSub, Nat.reduceLeDiff, Nat.reduceLT, Int.reduceEq, Nat.reduceMul, n, f9, f11, f0, h1, e9, h4, c1, f1, e1, n5, n52, n53, g5, q5_0, q5_1, q5_2, q5_3, q5_4, h5, q6_0, q6_1, q6_2, q6_3, q6_4, q6_5, y5, y3, hr2, hr3, e2, y6, hr2, hr5, f133, f0, f9, f12, f13, f15, f16, f17, f131, f132, c2, h6, e3, n6, n65, k5, c3, q1, nat_succ, and_self]⟩
              · omega
              · omega
              · (rw [hb1, if_pos c3]; done)
              · assumption
              · (exact (put_not _ _ n52).trans ((put_not _ _ n6).trans hr2); done)
              · exact put_self _ _ _
              · (exact RSl.over _ (RSl.put _ h6 hv) k5; done)
              · (exact RSl.over _ (RSl.put _ h6 hu) k5; done)
              · (exact RSl.over _ (RSl.put _ h6 hw) k5; done)
              · (simp (maxDischargeDepth := 9) only [le_self, le_puts, le_put0, sub_self, sub_puts, sub_put0, h1, h4, n5, g5, q5_0, q5_1, q5_2, q5_3, q5_4, h5, q6_0, q6_1, q6_2, q6_3, q6_4, q6_5, l6, l5, l4, l3, l2, l1, hle, hle, h6]; done)
          · focus
              simp (maxDischargeDepth := 9) only [↓gB, gV, gT, reduceIte, reduceCtorEq, Nat.reduceEqDiff, Nat.reduceAdd, Nat.reduceSub, Nat.reduceLeDiff, Nat.reduceLT, Int.reduceEq, Nat.reduceMul, n, f9, f11, f0, h1, e9, h4, c1, f1, e1, n5, n52, n53, g5, q5_0, q5_1, q5_2, q5_3, q5_4, h5, q6_0, q6_1, q6_2, q6_3, q6_4, q6_5, y5, y3, hr2, hr3, e2, y6, hr2, hr5, f133, f0, f9, f12, f13, f15, f16, f17, f131, f132, c2, h6, e3, n6, n65, k5, c3]
              have q1 : Go.IntKind.i64.wrap (↑i + 1) = ↑i + 1 := wrap_id (by omega)
              simp (maxDischargeDepth := 9) only [↓gB, gV, gT, reduceIte, reduceCtorEq, Nat.reduceEqDiff, Nat.reduceAdd, Nat.reduceSub, Nat.reduceLeDiff, Nat.reduceLT, Int.reduceEq, Nat.reduceMul, n, f9, f11, f0, h1, e9, h4, c1, f1, e1, n5, n52, n53, g5, q5_0, q5_1, q5_2, q5_3, q5_4, h5, q6_0, q6_1, q6_2, q6_3, q6_4, q6_5, y5, y3, hr2, hr3, e2, y6, hr2, hr5, f133, f0, f9, f12, f13, f15, f16, f17, f131, f132, c2, h6, e3, n6, n65, k5, c3, q1]
              rw [N_lp]
              refine ⟨_, ?_, _, sub_refl _, i + 1, o, rfl, ?_, ?_, ?_, ?_, ?_, ?_, ?_, ?_, ?_, by simp (maxDischargeDepth := 9) only [↓gB, gV, gT, reduceIte, reduceCtorEq, Nat.reduceEqDiff, Nat.reduceAdd, Nat.reduceSub, Nat.reduceLeDiff, Nat.reduceLT, Int.reduceEq, Nat.reduceMul, n, f9, f11, f0, h1, e9, h4, c1, f1, e1, n5, n52, n53, g5, q5_0, q5_1, q5_2, q5_3, q5_4, h5, q6_0, q6_1, q6_2, q6_3, q6_4, q6_5, y5, y3, hr2, hr3, e2, y6, hr2, hr5, f133, f0, f9, f12, f13, f15, f16, f17, f131, f132, c2, h6, e3, n6, n65, k5, c3, q1, nat_succ, and_self]⟩
              · omega
              · omega
              · (rw [hb1, if_neg c3]; done)
              · assumption
              · exact (le_put (by assumption) _) _ _ (by assumption)
              · assumption
              · exact RSl.put _ (by assumption) (by assumption)
              · exact RSl.put _ (by assumption) (by assumption)
              · exact RSl.put _ (by assumption) (by assumption)
              · (simp (maxDischargeDepth := 9) only [le_self, le_puts, le_put0, sub_self, sub_puts, sub_put0, h1, h4, n5, g5, q5_0, q5_1, q5_2, q5_3, q5_4, h5, q6_0, q6_1, q6_2, q6_3, q6_4, q6_5, l6, l5, l4, l3, l2, l1, hle, hle, h6]; done)
        · have hc : cheapF l t ps = (o.Key, fullF l o t) := by
            have h1 := cheapF_best (l := l) (t := t) (p := x1) (ps := ps.drop 1) (by rw [← hps]; exact hpo')
            rw [← hps, hb, List.drop_eq_nil_of_le (by omega)] at h1
            exact h1
          have c9 := key_ne hbo.k
          simp (maxDischargeDepth := 9) only [↓gB, gV, gT, reduceIte, reduceCtorEq, Nat.reduceEqDiff, Nat.reduceAdd, Nat.reduceSub, Nat.reduceLeDiff, Nat.reduceLT, Int.reduceEq, Nat.reduceMul, n, f9, f11, f0, h1, e9, h4, c1, f1, e1, n5, n52, n53, g5, q5_0, q5_1, q5_2, q5_3, q5_4, h5, q6_0, q6_1, q6_2, q6_3, q6_4, q6_5, y5, y3, hr2, hr3, e2, y6, hr2, hr5, f133, f0, f9, f12, f13, f15, f16, f17, f131, f132, c2, c9, hE2, hf, hc]
          refine Ycp (p41 (by assumption) (by assumption) (by omega) (by assumption) (by assumption) (by assumption)) ?_
          simp (maxDischargeDepth := 9) only [↓gB, gV, gT, reduceIte, reduceCtorEq, Nat.reduceEqDiff, Nat.reduceAdd, Nat.reduceSub, Nat.reduceLeDiff, Nat.reduceLT, Int.reduceEq, Nat.reduceMul, n, f9, f11, f0, h1, e9, h4, c1, f1, e1, n5, n52, n53, g5, q5_0, q5_1, q5_2, q5_3, q5_4, h5, q6_0, q6_1, q6_2, q6_3, q6_4, q6_5, y5, y3, hr2, hr3, e2, y6, hr2, hr5, f133, f0, f9, f12, f13, f15, f16, f17, f131, f132, c2, c9, hE2, hf, hc]
          refine Ycp (p23) ?_
          simp (maxDischargeDepth := 9) only [↓gB, gV, gT, reduceIte, reduceCtorEq, Nat.reduceEqDiff, Nat.reduceAdd, Nat.reduceSub, Nat.reduceLeDiff, Nat.reduceLT, Int.reduceEq, Nat.reduceMul, n, f9, f11, f0, h1, e9, h4, c1, f1, e1, n5, n52, n53, g5, q5_0, q5_1, q5_2, q5_3, q5_4, h5, q6_0, q6_1, q6_2, q6_3, q6_4, q6_5, y5, y3, hr2, hr3, e2, y6, hr2, hr5, f133, f0, f9, f12, f13, f15, f16, f17, f131, f132, c2, c9, hE2, hf, hc]
          exact Kup_val (by simp (maxDischargeDepth := 9) only [le_self, le_puts, le_put0, h1, h4, n5, g5, q5_0, q5_1, q5_2, q5_3, q5_4, h5, q6_0, q6_1, q6_2, q6_3, q6_4, q6_5, l6, l5, l4, l3, l2, l1, hle, hle]) rfl
    · have hV : cheapV l t ps = .tuple #[.string ⟨#[]⟩, V 0, .bool false, V (fullE l ps [t])] := if_neg hf
      simp (maxDischargeDepth := 9) only [↓gB, gV, gT, reduceIte, reduceCtorEq, Nat.reduceEqDiff, Nat.reduceAdd, Nat.reduceSub, Nat.reduceLeDiff, Nat.reduceLT, Int.reduceEq, Nat.reduceMul, n, hr2, hr3, f9, f11, f0, f1, hE2, hf, hV, Int.toNat_zero, Nat.zero_mul, beq_self_eq_true]
      refine Xdraw_intro [0, 2, 4, 1, 3, 5, 6, 7, 8, 9, 10, 11, 12, 13, 14, 15, 16, 17, 18] mixed (by kernel_rfl) (by decide +kernel) ?_
      simp (maxDischargeDepth := 9) only [↓gB, gV, gT, reduceIte, reduceCtorEq, Nat.reduceEqDiff, Nat.reduceAdd, Nat.reduceSub, Nat.reduceLeDiff, Nat.reduceLT, Int.reduceEq, Nat.reduceMul, n, hr2, hr3, f9, f11, f0, f1, hE2, hf, hV, Int.toNat_zero, Nat.zero_mul, beq_self_eq_true]
      refine Ycg (g27 (by assumption) (by omega) (by assumption)) ?_ ?_
      · exact upRSl _ _
      intro u1 G1 l1 w1
      replace hr2 := l1 _ _ hr2
      replace hr3 := l1 _ _ hr3
      replace hv := RSl.le hv l1
      replace hu := RSl.le hu l1
      replace hw := RSl.le hw l1
      replace hle := GH.le.trans hle l1
      obtain ⟨aw1, cw1, rfl⟩ := RSl.val w1
      simp (maxDischargeDepth := 9) only [↓gB, gV, gT, reduceIte, reduceCtorEq, Nat.reduceEqDiff, Nat.reduceAdd, Nat.reduceSub, Nat.reduceLeDiff, Nat.reduceLT, Int.reduceEq, Nat.reduceMul, n, f9, f11, f0, f1, hr2, hr3, hE2, hf, hV, Int.toNat_zero, Nat.zero_mul, beq_self_eq_true]
      refine Ycg (g35 (by assumption) (by omega)) ?_ ?_
      · exact upRSl _ _
      intro u2 G2 l2 w2
      replace l1 := GH.le.trans l1 l2
      replace hr2 := l2 _ _ hr2
      replace hr3 := l2 _ _ hr3
      replace hv := RSl.le hv l2
      replace hu := RSl.le hu l2
      replace hw := RSl.le hw l2
      replace hle := GH.le.trans hle l2
      replace w1 := RSl.le w1 l2
      obtain ⟨aw2, cw2, rfl⟩ := RSl.val w2
      simp (maxDischargeDepth := 9) only [↓gB, gV, gT, reduceIte, reduceCtorEq, Nat.reduceEqDiff, Nat.reduceAdd, Nat.reduceSub, Nat.reduceLeDiff, Nat.reduceLT, Int.reduceEq, Nat.reduceMul, n, f9, f11, f0, f1, hr2, hr3, hE2, hf, hV, Int.toNat_zero, Nat.zero_mul, beq_self_eq_true]
      refine Yn3 fun r1 h1 k1 => ?_
      simp (maxDischargeDepth := 9) only [↓gB, gV, gT, reduceIte, reduceCtorEq, Nat.reduceEqDiff, Nat.reduceAdd, Nat.reduceSub, Nat.reduceLeDiff, Nat.reduceLT, Int.reduceEq, Nat.reduceMul, n, f9, f11, f0, f1, hr2, hr3, h1, hE2, hf, hV, Int.toNat_zero, Nat.zero_mul, beq_self_eq_true]
      have l3 := le_put3 k1
      have y3 := put_self G2 r1 ((Go.Obj.cells #[Go.Value.string t.Ride, Go.Value.string t.Rider, Go.Value.slice b t.Nodes.length d, Go.GL.V t.Metres, Go.GL.V t.Time_From, Go.GL.V t.Time_To] 70, Bool.true))
      generalize GH.put G2 r1 ((Go.Obj.cells #[Go.Value.string t.Ride, Go.Value.string t.Rider, Go.Value.slice b t.Nodes.length d, Go.GL.V t.Metres, Go.GL.V t.Time_From, Go.GL.V t.Time_To] 70, Bool.true)) = G3 at *
      replace l2 := GH.le.trans l2 l3
      replace l1 := GH.le.trans l1 l3
      replace hr2 := l3 _ _ hr2
      replace hr3 := l3 _ _ hr3
      replace hv := RSl.le hv l3
      replace hu := RSl.le hu l3
      replace hw := RSl.le hw l3
      replace hle := GH.le.trans hle l3
      replace w1 := RSl.le w1 l3
      replace w2 := RSl.le w2 l3
      refine Ycg (g38b (by assumption) (by assumption) (by assumption)) ?_ ?_
      · exact upRSl _ _
      intro u4 G4 l4 w4
      replace l3 := GH.le.trans l3 l4
      replace y3 := l4 _ _ y3
      replace l2 := GH.le.trans l2 l4
      replace l1 := GH.le.trans l1 l4
      replace hr2 := l4 _ _ hr2
      replace hr3 := l4 _ _ hr3
      replace hv := RSl.le hv l4
      replace hu := RSl.le hu l4
      replace hw := RSl.le hw l4
      replace hle := GH.le.trans hle l4
      replace w1 := RSl.le w1 l4
      replace w2 := RSl.le w2 l4
      obtain ⟨aw4, cw4, rfl⟩ := RSl.val w4
      simp (maxDischargeDepth := 9) only [↓gB, gV, gT, reduceIte, reduceCtorEq, Nat.reduceEqDiff, Nat.reduceAdd, Nat.reduceSub, Nat.reduceLeDiff, Nat.reduceLT, Int.reduceEq, Nat.reduceMul, n, f9, f11, f0, f1, h1, y3, hr2, hr3, hE2, hf, hV, Int.toNat_zero, Nat.zero_mul, beq_self_eq_true]
      replace w4 : RSl rJourney G4 (.slice aw4 1 cw4) [t] := w4
      obtain ⟨y0, a9, s9, m9, rfl, ⟨v9, rfl, w9⟩, e9⟩ := w4.at 0 (by simp) 6 rfl
      obtain rfl : t = y0 := by simpa using m9
      obtain ⟨b9, d9, rfl⟩ := w9.val
      rw [Nat.zero_mul] at e9
      simp (maxDischargeDepth := 9) only [↓gB, gV, gT, reduceIte, reduceCtorEq, Nat.reduceEqDiff, Nat.reduceAdd, Nat.reduceSub, Nat.reduceLeDiff, Nat.reduceLT, Int.reduceEq, Nat.reduceMul, n, f9, f11, f0, f1, h1, y3, hr2, hr3, e9, hE2, hf, hV, Int.toNat_zero, Nat.zero_mul, beq_self_eq_true]
      refine vguard_intro (by omega) ?_
      refine Ycp (p42 (by assumption) (by assumption) (by assumption) (by omega) (by omega) (by assumption)) ?_
      simp (maxDischargeDepth := 9) only [↓gB, gV, gT, reduceIte, reduceCtorEq, Nat.reduceEqDiff, Nat.reduceAdd, Nat.reduceSub, Nat.reduceLeDiff, Nat.reduceLT, Int.reduceEq, Nat.reduceMul, n, f9, f11, f0, f1, h1, y3, hr2, hr3, e9, hE2, hf, hV, Int.toNat_zero, Nat.zero_mul, beq_self_eq_true]
      refine Ycp (p25 (by assumption) (by omega)) ?_
      simp (maxDischargeDepth := 9) only [↓gB, gV, gT, reduceIte, reduceCtorEq, Nat.reduceEqDiff, Nat.reduceAdd, Nat.reduceSub, Nat.reduceLeDiff, Nat.reduceLT, Int.reduceEq, Nat.reduceMul, n, f9, f11, f0, f1, h1, y3, hr2, hr3, e9, hE2, hf, hV, Int.toNat_zero, Nat.zero_mul, beq_self_eq_true]
      refine Ycp (p36 (by assumption) (by omega)) ?_
      simp (maxDischargeDepth := 9) only [↓gB, gV, gT, reduceIte, reduceCtorEq, Nat.reduceEqDiff, Nat.reduceAdd, Nat.reduceSub, Nat.reduceLeDiff, Nat.reduceLT, Int.reduceEq, Nat.reduceMul, n, f9, f11, f0, f1, h1, y3, hr2, hr3, e9, hE2, hf, hV, Int.toNat_zero, Nat.zero_mul, beq_self_eq_true]
      refine Ycp (p39b (by assumption) (by assumption) (by assumption)) ?_
      simp (maxDischargeDepth := 9) only [↓gB, gV, gT, reduceIte, reduceCtorEq, Nat.reduceEqDiff, Nat.reduceAdd, Nat.reduceSub, Nat.reduceLeDiff, Nat.reduceLT, Int.reduceEq, Nat.reduceMul, n, f9, f11, f0, f1, h1, y3, hr2, hr3, e9, hE2, hf, hV, Int.toNat_zero, Nat.zero_mul, beq_self_eq_true]
      refine Yn1 fun r4 h4 => ?_
      simp (maxDischargeDepth := 9) only [↓gB, gV, gT, reduceIte, reduceCtorEq, Nat.reduceEqDiff, Nat.reduceAdd, Nat.reduceSub, Nat.reduceLeDiff, Nat.reduceLT, Int.reduceEq, Nat.reduceMul, n, f9, f11, f0, f1, h1, y3, hr2, hr3, e9, h4, hE2, hf, hV, Int.toNat_zero, Nat.zero_mul, beq_self_eq_true]
      refine Ycp (p16b (by exact put_self _ _ _)) ?_
      simp (maxDischargeDepth := 9) only [↓gB, gV, gT, reduceIte, reduceCtorEq, Nat.reduceEqDiff, Nat.reduceAdd, Nat.reduceSub, Nat.reduceLeDiff, Nat.reduceLT, Int.reduceEq, Nat.reduceMul, n, f9, f11, f0, f1, h1, y3, hr2, hr3, e9, h4, hE2, hf, hV, Int.toNat_zero, Nat.zero_mul, beq_self_eq_true]
      refine Ycp (p23) ?_
      simp (maxDischargeDepth := 9) only [↓gB, gV, gT, reduceIte, reduceCtorEq, Nat.reduceEqDiff, Nat.reduceAdd, Nat.reduceSub, Nat.reduceLeDiff, Nat.reduceLT, Int.reduceEq, Nat.reduceMul, n, f9, f11, f0, f1, h1, y3, hr2, hr3, e9, h4, hE2, hf, hV, Int.toNat_zero, Nat.zero_mul, beq_self_eq_true]
      exact Kup_val (by simp (maxDischargeDepth := 9) only [le_self, le_puts, le_put0, h1, l4, l3, l2, l1, hle, h4]) rfl
end Go.Proofs.YtnlbapfbdabjaaaDoor
namespace Go.Proofs.YtnlbapfbdabjaaaDoor
open Go Go.GL
attribute [local irreducible] Ycall GCalls
set_option maxRecDepth 10000
set_option maxHeartbeats 0
open Go.RowKit
set_option maxRecDepth 10000
def G0of (W : World) : GH := fun b => (W.heap[b]?).map fun o => (o, false)
theorem holdsG0 (W : World) : GL.Holds W (G0of W) W := by
  refine ⟨Go.RowKit.Below.refl _ _, ?_, ?_, Nat.le_refl _⟩
  · intro b o t h
    unfold G0of at h
    rw [Option.map_eq_some_iff] at h
    obtain ⟨o', h1, h2⟩ := h
    cases h2; exact h1
  · intro b o h
    unfold G0of at h
    rw [Option.map_eq_some_iff] at h
    obtain ⟨o', h1, h2⟩ := h
    cases h2
theorem mapM_some {α β : Type} {f : α → Option β} : ∀ (l : List α) (r : List β), l.mapM f = some r → r.length = l.length ∧ ∀ (i : Nat) x, l[i]? = some x → f x = r[i]?
  | [], r, h => by
    rw [List.mapM_nil] at h; cases h; exact ⟨rfl, by simp⟩
  | y :: l, r, h => by
    rw [List.mapM_cons] at h
    simp only [bind, Option.bind_eq_some_iff, pure, Option.some.injEq] at h
    obtain ⟨b, hb, r', hr, rfl⟩ := h
    obtain ⟨h1, h2⟩ := mapM_some l r' hr
    refine ⟨by simp [h1], ?_⟩
    intro i x hx
    cases i with
    | zero => simp at hx; subst hx; simpa using hb
    | succ i => simp at hx; simpa using h2 i x hx
theorem cellsI_of {W : World} {a : Addr} {n : Nat} {cs : List Value} (hn : 0 < n) (h : W.cells? 0 a n = some cs) : gcellsI (G0of W) a n = some cs := by
  unfold World.cells? at h
  rw [if_pos (Nat.zero_le _)] at h
  obtain ⟨h1, h2⟩ := mapM_some _ _ h
  rw [List.length_range] at h1
  have hc : ∀ i, i < n → W.cell? (a.add i) = cs[i]? := fun i hi => h2 i i (by simp [hi])
  have h0 := hc 0 hn
  have ha0 : a.add 0 = a := by cases a; rfl
  rw [ha0, List.getElem?_eq_getElem (by omega)] at h0
  unfold World.cell? at h0
  split at h0
  case h_2 => cases h0
  rename_i c e fr hb
  split at h0
  · cases h0
  rename_i hsp
  have hspn : a.spot = none := by cases hs : a.spot <;> simp_all
  have hall : ∀ i, i < n → c[a.off + i]? = cs[i]? := by
    intro i hi
    have := hc i hi
    unfold World.cell? at this
    rw [add_block, hb] at this
    simp only [add_spot _ _ hspn, add_off, Option.isSome_none, Bool.false_eq_true, if_false] at this
    exact this
  have hlast := hall (n - 1) (by omega)
  rw [List.getElem?_eq_getElem (by omega)] at hlast
  have hsz : a.off + n ≤ c.size := by
    have := (Array.getElem?_eq_some_iff.1 hlast).1
    omega
  unfold gcellsI G0of
  simp only [hb, Option.map_some]
  rw [if_pos ⟨by rw [hspn]; rfl, hsz⟩]
  congr 1
  apply List.ext_getElem?
  intro i
  rw [List.getElem?_take]
  split
  · rename_i hi
    rw [List.getElem?_drop, Array.getElem?_toList, hall i hi]
  · rw [List.getElem?_eq_none (by omega)]
theorem exists_list {α : Type} {Q : Nat → α → Prop} : ∀ n, (∀ i, i < n → ∃ x, Q i x) → ∃ l : List α, l.length = n ∧ ∀ (i : Nat) x, l[i]? = some x → Q i x
  | 0, _ => ⟨[], rfl, by simp⟩
  | n + 1, h => by
    obtain ⟨l, h1, h2⟩ := exists_list n fun i hi => h i (by omega)
    obtain ⟨x, hx⟩ := h n (by omega)
    refine ⟨l ++ [x], by simp [h1], ?_⟩
    intro i y hy
    rw [List.getElem?_append] at hy
    split at hy
    · exact h2 i y hy
    · rename_i hi
      have : i = n := by
        by_cases e : i = n
        · exact e
        · rw [List.getElem?_eq_none (by simp; omega)] at hy; cases hy
      subst this
      simp [h1] at hy
      subst hy; exact hx
theorem wf_i64 {n : Int} (h : (Lit.int .i64 n).wf = true) : i64 n := by
  simp [Lit.wf, IntKind.min, IntKind.max, IntKind.signed, IntKind.bits] at h
  unfold i64; omega
def OT (W : World) {α : Type} (ρ : Rp α) (m : α → Nat) (T : TypeId) : Prop := ∀ (H : Type) (enc : TypeId × Value → H) (sp : Nat → Bool) (held : Bool) (fuel : Nat) (cs : List Value) (x : DataW H × List MemPlace), DataW.trod enc Tryd.prog W 0 sp held fuel T cs = some x → ∃ c : α, ρ.R (G0of W) c cs ∧ m c ≤ Rows.uptoBulk x.1
def mlist {α : Type} (m : α → Nat) (l : List α) : Nat := (l.map m).sum + 1
theorem OT.int {W : World} {T : TypeId} (hT : Tryd.prog.underlying T = some (.int .i64)) : OT W Rp.int (fun _ => 1) T := by
  intro H enc sp held fuel cs x h
  obtain ⟨n, e, hx, w⟩ := DataW.trod_int hT h
  subst e hx
  exact ⟨n, ⟨rfl, wf_i64 w⟩, by simp [Rows.uptoBulk]⟩
theorem OT.str {W : World} {T : TypeId} (hT : Tryd.prog.underlying T = some .string) : OT W Rp.str (fun s => s.size + 1) T := by
  intro H enc sp held fuel cs x h
  obtain ⟨s, e, hx, w⟩ := DataW.trod_string hT h
  subst e hx
  refine ⟨s, rfl, ?_⟩
  simp [Rows.uptoBulk]
theorem OT.bool {W : World} {T : TypeId} (hT : Tryd.prog.underlying T = some .bool) : OT W Rp.bool (fun _ => 1) T := by
  intro H enc sp held fuel cs x h
  obtain ⟨n, e, hx⟩ := DataW.trod_bool hT h
  subst e hx
  exact ⟨n, rfl, by simp [Rows.uptoBulk]⟩
theorem exists_list2 {α β : Type} {Q : Nat → α → Prop} {m : α → Nat} {m2 : β → Nat} : ∀ (els : List β), (∀ (i : Nat) e, els[i]? = some e → ∃ x, Q i x ∧ m x ≤ m2 e) → ∃ l : List α, l.length = els.length ∧ (∀ (i : Nat) x, l[i]? = some x → Q i x) ∧ (l.map m).sum ≤ (els.map m2).sum
  | [], _ => ⟨[], rfl, by simp, by simp⟩
  | e :: els, h => by
    obtain ⟨x, hx, hm⟩ := h 0 e rfl
    obtain ⟨l, h1, h2, h3⟩ := exists_list2 (Q := fun i x => Q (i + 1) x) (m := m) (m2 := m2) els (fun i e he => h (i + 1) e (by simpa using he))
    refine ⟨x :: l, by simp [h1], ?_, by simp; omega⟩
    intro i y hy
    cases i with
    | zero => simp at hy; subst hy; exact hx
    | succ i => exact h2 i y (by simpa using hy)
theorem bulkAll_sum {H : Type} : ∀ (l : List (DataW H)), Rows.uptoBulkAll l = (l.map Rows.uptoBulk).sum
  | [] => rfl
  | x :: l => by simp [Rows.uptoBulkAll, bulkAll_sum l]
theorem OT.slice {W : World} {α : Type} {ρ : Rp α} {m : α → Nat} {T e : TypeId} (hT : Tryd.prog.underlying T = some (.slice e)) (hc : Tryd.prog.cellsOf e = ρ.sz) (hpos : 0 < ρ.sz) (hel : OT W ρ m e) : OT W ρ.slice (mlist m) T := by
  intro H enc sp held fuel cs x h
  rcases DataW.trod_slice hT h with ⟨hcs, hx⟩ | ⟨a, len, cap, elems, rest, n, _, hcs, hx, _, hlc, _, hel', he, _⟩
  · subst hcs hx
    exact ⟨[], ⟨_, rfl, RSl.nil _ _⟩, by simp [mlist, Rows.uptoBulk]⟩
  · subst hcs hx
    rw [hc] at he
    have key : ∀ (i : Nat) el, elems[i]? = some el → ∃ c : α, (∃ cs, gcellsI (G0of W) (a.add (i * ρ.sz)) ρ.sz = some cs ∧ ρ.R (G0of W) c cs) ∧ m c ≤ Rows.uptoBulk el.1 := by
      intro i el hi
      have hil : i < elems.length := by
        by_cases q : i < elems.length
        · exact q
        · rw [List.getElem?_eq_none (by omega)] at hi; cases hi
      have h1 := he i (by omega)
      rw [hi, Option.bind_eq_some_iff] at h1
      obtain ⟨cs, h2, h3⟩ := h1
      obtain ⟨c, hc, hb⟩ := hel _ _ _ _ _ _ _ h3
      exact ⟨c, ⟨cs, cellsI_of hpos h2, hc⟩, hb⟩
    obtain ⟨l, h1, h2, h3⟩ := exists_list2 elems key
    refine ⟨l, ⟨_, rfl, ⟨some a, len, cap, rfl, by omega, hlc, fun hpos' => ⟨a, rfl, ?_, fun i x hx => h2 i x hx⟩⟩⟩, ?_⟩
    · obtain ⟨c, ⟨cs, hg, _⟩, _⟩ := key 0 (elems[0]'(by omega)) (List.getElem?_eq_getElem (by omega))
      have e : a.add (0 * ρ.sz) = a := by cases a; simp [Addr.add]
      rw [e] at hg
      unfold gcellsI at hg
      split at hg
      · split at hg
        · rename_i hc; have := hc.1; cases hs : a.spot <;> simp_all
        · cases hg
      · cases hg
    · simp only [mlist, Rows.uptoBulk, bulkAll_sum, List.map_map]
      have : (elems.map (Rows.uptoBulk ∘ fun x => x.1)).sum = (elems.map fun x => Rows.uptoBulk x.1).sum := rfl
      omega
theorem mlist_len {α : Type} {m : α → Nat} (h1 : ∀ x, 1 ≤ m x) (l : List α) : l.length + 1 ≤ mlist m l := by
  unfold mlist
  induction l with
  | nil => simp
  | cons x l ih => have := h1 x; simp; omega
theorem mlist_mem {α : Type} {m : α → Nat} {l : List α} {x : α} (h : x ∈ l) : m x + 1 ≤ mlist m l := by
  unfold mlist
  induction l with
  | nil => cases h
  | cons y l ih =>
    rcases List.mem_cons.1 h with rfl | h
    · simp
    · have := ih h; simp; omega
theorem OT.row {W : World} {α : Type} {ρ : Rp α} {m : List α → Nat} {T : TypeId} (h : OT W ρ.slice m T) {H : Type} {enc : TypeId × Value → H} {sp : Nat → Bool} {held : Bool} {a : Option Addr} {n c : Nat} {d : DataW H} {ps : List MemPlace} (ht : DataW.Trod enc Tryd.prog W 0 sp held T (.slice a n c) d ps) : ∃ l : List α, RSl ρ (G0of W) (.slice a n c) l ∧ m l ≤ Rows.uptoBulk d := by
  obtain ⟨fuel, hf⟩ := ht
  obtain ⟨l, ⟨v, hv, hr⟩, hm⟩ := h _ _ _ _ _ _ _ hf
  simp [Value.cells] at hv
  subst hv
  exact ⟨l, hr, hm⟩
theorem OT.agg {W : World} {α : Type} {ρ : Rp α} {m : α → Nat} {T : TypeId} (h : OT W ρ m T) {H : Type} {enc : TypeId × Value → H} {sp : Nat → Bool} {held : Bool} {xs : Array Value} {d : DataW H} {ps : List MemPlace} (ht : DataW.Trod enc Tryd.prog W 0 sp held T (.agg xs) d ps) : ∃ c : α, ρ.R (G0of W) c xs.toList ∧ m c ≤ Rows.uptoBulk d := by
  obtain ⟨fuel, hf⟩ := ht
  obtain ⟨l, hr, hm⟩ := h _ _ _ _ _ _ _ hf
  exact ⟨l, by simpa [Value.cells] using hr, hm⟩
end Go.Proofs.YtnlbapfbdabjaaaDoor
namespace Go.Proofs.YtnlbapfbdabjaaaDoor
open Go Go.GL
set_option maxRecDepth 10000
set_option maxHeartbeats 0
def mZone (x : SZone) : Nat := (x.Key.size + 1) + mlist (fun s => s.size + 1) x.Nodes + 1
theorem otZone {W : World} : OT W rZone mZone 122 := by
  intro H enc sp held fuel cs x h
  obtain ⟨xs, n, _, hx, hlen, hxl, hf⟩ := DataW.trod_struct Tryd.underlying122 h
  rw [show Tryd.prog.cellsOf 122 = 2 from by kernel_rfl] at hlen
  obtain ⟨x0, x1, rfl⟩ : ∃ x0 x1, cs = [x0, x1] := by
    match cs, hlen with
    | [x0, x1], _ => exact ⟨x0, x1, rfl⟩
  have hxl : xs.length = 2 := hxl
  obtain ⟨d_0, d_1, rfl⟩ : ∃ d_0 d_1, xs = [d_0, d_1] := by
    match xs, hxl with
    | [y0, y1], _ => exact ⟨y0, y1, rfl⟩
  have f_0 : DataW.trod enc Tryd.prog W 0 sp held n 9 [x0] = some d_0 := by have := hf 0 _ rfl; exact this
  have f_1 : DataW.trod enc Tryd.prog W 0 sp held n 22 [x1] = some d_1 := by have := hf 1 _ rfl; exact this
  clear hf
  obtain ⟨c_0, e_0, q_0, w_0⟩ := DataW.trod_string Tryd.underlying9 f_0
  simp only [List.cons.injEq, and_true] at e_0; subst e_0 q_0
  have z_0 := size_len c_0
  obtain ⟨c_1, ⟨v_1, e_1, r_1⟩, b_1⟩ := OT.slice Tryd.underlying22 (by kernel_rfl) (by decide) (OT.str Tryd.underlying9) _ _ _ _ _ _ _ f_1
  simp only [List.cons.injEq, and_true] at e_1; subst e_1
  subst hx
  refine ⟨⟨c_0, c_1⟩, ⟨_, rfl, r_1⟩, ?_⟩
  simp only [mZone, Rows.uptoBulk, Rows.uptoBulkAll, List.map_cons, List.map_nil, ← size_len]
  omega
def mPrice (x : SPrice) : Nat := (x.Key.size + 1) + 1 + 1 + 1 + 1 + 1 + 1 + 1 + 1 + 1 + 1
theorem otPrice {W : World} : OT W rPrice mPrice 66 := by
  intro H enc sp held fuel cs x h
  obtain ⟨xs, n, _, hx, hlen, hxl, hf⟩ := DataW.trod_struct Tryd.underlying66 h
  rw [show Tryd.prog.cellsOf 66 = 10 from by kernel_rfl] at hlen
  obtain ⟨x0, x1, x2, x3, x4, x5, x6, x7, x8, x9, rfl⟩ : ∃ x0 x1 x2 x3 x4 x5 x6 x7 x8 x9, cs = [x0, x1, x2, x3, x4, x5, x6, x7, x8, x9] := by
    match cs, hlen with
    | [x0, x1, x2, x3, x4, x5, x6, x7, x8, x9], _ => exact ⟨x0, x1, x2, x3, x4, x5, x6, x7, x8, x9, rfl⟩
  have hxl : xs.length = 10 := hxl
  obtain ⟨d_0, d_1, d_2, d_3, d_4, d_5, d_6, d_7, d_8, d_9, rfl⟩ : ∃ d_0 d_1 d_2 d_3 d_4 d_5 d_6 d_7 d_8 d_9, xs = [d_0, d_1, d_2, d_3, d_4, d_5, d_6, d_7, d_8, d_9] := by
    match xs, hxl with
    | [y0, y1, y2, y3, y4, y5, y6, y7, y8, y9], _ => exact ⟨y0, y1, y2, y3, y4, y5, y6, y7, y8, y9, rfl⟩
  have f_0 : DataW.trod enc Tryd.prog W 0 sp held n 9 [x0] = some d_0 := by have := hf 0 _ rfl; exact this
  have f_1 : DataW.trod enc Tryd.prog W 0 sp held n 3 [x1] = some d_1 := by have := hf 1 _ rfl; exact this
  have f_2 : DataW.trod enc Tryd.prog W 0 sp held n 3 [x2] = some d_2 := by have := hf 2 _ rfl; exact this
  have f_3 : DataW.trod enc Tryd.prog W 0 sp held n 3 [x3] = some d_3 := by have := hf 3 _ rfl; exact this
  have f_4 : DataW.trod enc Tryd.prog W 0 sp held n 3 [x4] = some d_4 := by have := hf 4 _ rfl; exact this
  have f_5 : DataW.trod enc Tryd.prog W 0 sp held n 3 [x5] = some d_5 := by have := hf 5 _ rfl; exact this
  have f_6 : DataW.trod enc Tryd.prog W 0 sp held n 3 [x6] = some d_6 := by have := hf 6 _ rfl; exact this
  have f_7 : DataW.trod enc Tryd.prog W 0 sp held n 3 [x7] = some d_7 := by have := hf 7 _ rfl; exact this
  have f_8 : DataW.trod enc Tryd.prog W 0 sp held n 3 [x8] = some d_8 := by have := hf 8 _ rfl; exact this
  have f_9 : DataW.trod enc Tryd.prog W 0 sp held n 3 [x9] = some d_9 := by have := hf 9 _ rfl; exact this
  clear hf
  obtain ⟨c_0, e_0, q_0, w_0⟩ := DataW.trod_string Tryd.underlying9 f_0
  simp only [List.cons.injEq, and_true] at e_0; subst e_0 q_0
  have z_0 := size_len c_0
  obtain ⟨c_1, e_1, q_1, w_1⟩ := DataW.trod_int Tryd.underlying3 f_1
  simp only [List.cons.injEq, and_true] at e_1; subst e_1 q_1
  obtain ⟨c_2, e_2, q_2, w_2⟩ := DataW.trod_int Tryd.underlying3 f_2
  simp only [List.cons.injEq, and_true] at e_2; subst e_2 q_2
  obtain ⟨c_3, e_3, q_3, w_3⟩ := DataW.trod_int Tryd.underlying3 f_3
  simp only [List.cons.injEq, and_true] at e_3; subst e_3 q_3
  obtain ⟨c_4, e_4, q_4, w_4⟩ := DataW.trod_int Tryd.underlying3 f_4
  simp only [List.cons.injEq, and_true] at e_4; subst e_4 q_4
  obtain ⟨c_5, e_5, q_5, w_5⟩ := DataW.trod_int Tryd.underlying3 f_5
  simp only [List.cons.injEq, and_true] at e_5; subst e_5 q_5
  obtain ⟨c_6, e_6, q_6, w_6⟩ := DataW.trod_int Tryd.underlying3 f_6
  simp only [List.cons.injEq, and_true] at e_6; subst e_6 q_6
  obtain ⟨c_7, e_7, q_7, w_7⟩ := DataW.trod_int Tryd.underlying3 f_7
  simp only [List.cons.injEq, and_true] at e_7; subst e_7 q_7
  obtain ⟨c_8, e_8, q_8, w_8⟩ := DataW.trod_int Tryd.underlying3 f_8
  simp only [List.cons.injEq, and_true] at e_8; subst e_8 q_8
  obtain ⟨c_9, e_9, q_9, w_9⟩ := DataW.trod_int Tryd.underlying3 f_9
  simp only [List.cons.injEq, and_true] at e_9; subst e_9 q_9
  subst hx
  refine ⟨⟨c_0, c_1, c_2, c_3, c_4, c_5, c_6, c_7, c_8, c_9⟩, rfl, ?_⟩
  simp only [mPrice, Rows.uptoBulk, Rows.uptoBulkAll, List.map_cons, List.map_nil, ← size_len]
  omega
def mJourney (x : SJourney) : Nat := (x.Ride.size + 1) + (x.Rider.size + 1) + mlist (fun s => s.size + 1) x.Nodes + 1 + (1 + 1 + 1) + 1
theorem otJourney {W : World} : OT W rJourney mJourney 70 := by
  intro H enc sp held fuel cs x h
  obtain ⟨xs, n, _, hx, hlen, hxl, hf⟩ := DataW.trod_struct Tryd.underlying70 h
  rw [show Tryd.prog.cellsOf 70 = 6 from by kernel_rfl] at hlen
  obtain ⟨x0, x1, x2, x3, x4, x5, rfl⟩ : ∃ x0 x1 x2 x3 x4 x5, cs = [x0, x1, x2, x3, x4, x5] := by
    match cs, hlen with
    | [x0, x1, x2, x3, x4, x5], _ => exact ⟨x0, x1, x2, x3, x4, x5, rfl⟩
  have hxl : xs.length = 5 := hxl
  obtain ⟨d_0, d_1, d_2, d_3, d_4, rfl⟩ : ∃ d_0 d_1 d_2 d_3 d_4, xs = [d_0, d_1, d_2, d_3, d_4] := by
    match xs, hxl with
    | [y0, y1, y2, y3, y4], _ => exact ⟨y0, y1, y2, y3, y4, rfl⟩
  have f_0 : DataW.trod enc Tryd.prog W 0 sp held n 9 [x0] = some d_0 := by have := hf 0 _ rfl; exact this
  have f_1 : DataW.trod enc Tryd.prog W 0 sp held n 9 [x1] = some d_1 := by have := hf 1 _ rfl; exact this
  have f_2 : DataW.trod enc Tryd.prog W 0 sp held n 22 [x2] = some d_2 := by have := hf 2 _ rfl; exact this
  have f_3 : DataW.trod enc Tryd.prog W 0 sp held n 3 [x3] = some d_3 := by have := hf 3 _ rfl; exact this
  have f_4 : DataW.trod enc Tryd.prog W 0 sp held n 68 [x4, x5] = some d_4 := by have := hf 4 _ rfl; exact this
  clear hf
  obtain ⟨c_0, e_0, q_0, w_0⟩ := DataW.trod_string Tryd.underlying9 f_0
  simp only [List.cons.injEq, and_true] at e_0; subst e_0 q_0
  have z_0 := size_len c_0
  obtain ⟨c_1, e_1, q_1, w_1⟩ := DataW.trod_string Tryd.underlying9 f_1
  simp only [List.cons.injEq, and_true] at e_1; subst e_1 q_1
  have z_1 := size_len c_1
  obtain ⟨c_2, ⟨v_2, e_2, r_2⟩, b_2⟩ := OT.slice Tryd.underlying22 (by kernel_rfl) (by decide) (OT.str Tryd.underlying9) _ _ _ _ _ _ _ f_2
  simp only [List.cons.injEq, and_true] at e_2; subst e_2
  obtain ⟨c_3, e_3, q_3, w_3⟩ := DataW.trod_int Tryd.underlying3 f_3
  simp only [List.cons.injEq, and_true] at e_3; subst e_3 q_3
  obtain ⟨xs_4, n_4, _, hx_4, hlen_4, hxl_4, hf_4⟩ := DataW.trod_struct Tryd.underlying68 f_4
  rw [show Tryd.prog.cellsOf 68 = 2 from by kernel_rfl] at hlen_4
  have hxl_4 : xs_4.length = 2 := hxl_4
  obtain ⟨d_4_0, d_4_1, rfl⟩ : ∃ d_4_0 d_4_1, xs_4 = [d_4_0, d_4_1] := by
    match xs_4, hxl_4 with
    | [y0, y1], _ => exact ⟨y0, y1, rfl⟩
  have f_4_0 : DataW.trod enc Tryd.prog W 0 sp held n_4 3 [x4] = some d_4_0 := by have := hf_4 0 _ rfl; exact this
  have f_4_1 : DataW.trod enc Tryd.prog W 0 sp held n_4 3 [x5] = some d_4_1 := by have := hf_4 1 _ rfl; exact this
  clear hf_4
  obtain ⟨c_4_0, e_4_0, q_4_0, w_4_0⟩ := DataW.trod_int Tryd.underlying3 f_4_0
  simp only [List.cons.injEq, and_true] at e_4_0; subst e_4_0 q_4_0
  obtain ⟨c_4_1, e_4_1, q_4_1, w_4_1⟩ := DataW.trod_int Tryd.underlying3 f_4_1
  simp only [List.cons.injEq, and_true] at e_4_1; subst e_4_1 q_4_1
  subst hx hx_4
  refine ⟨⟨c_0, c_1, c_2, c_3, c_4_0, c_4_1⟩, ⟨_, rfl, r_2⟩, ?_⟩
  simp only [mJourney, Rows.uptoBulk, Rows.uptoBulkAll, List.map_cons, List.map_nil, ← size_len]
  omega
theorem mstr_pos (s : ByteArray) : 1 ≤ s.size + 1 := by omega
theorem zones_len {l : List SZone} {n : Nat} (h : mlist mZone l ≤ n) (hn : n ≤ 1048576) : l.length ≤ 1048576 ∧ ∀ z ∈ l, z.Nodes.length ≤ 1000000000 := by
  have h1 := mlist_len (m := mZone) (fun z => by unfold mZone; omega) l
  refine ⟨by omega, fun z hz => ?_⟩
  have h2 := mlist_mem (m := mZone) hz
  have h3 := mlist_len (m := fun s : ByteArray => s.size + 1) mstr_pos z.Nodes
  have h4 : mZone z = z.Key.size + 1 + mlist (fun s : ByteArray => s.size + 1) z.Nodes + 1 := rfl
  omega
theorem journey_len {z : SJourney} {n : Nat} (h : mJourney z ≤ n) (hn : n ≤ 1048576) : z.Nodes.length ≤ 1000000000 := by
  have h3 := mlist_len (m := fun s : ByteArray => s.size + 1) mstr_pos z.Nodes
  unfold mJourney at h
  omega
theorem journeys_len {l : List SJourney} {n : Nat} (h : mlist mJourney l ≤ n) (hn : n ≤ 1048576) : l.length ≤ 1048576 ∧ ∀ z ∈ l, z.Nodes.length ≤ 1000000000 := by
  have h1 := mlist_len (m := mJourney) (fun z => by unfold mJourney; omega) l
  refine ⟨by omega, fun z hz => ?_⟩
  have h2 := mlist_mem (m := mJourney) hz
  exact journey_len (z := z) (n := n) (by omega) hn
theorem prices_len {l : List SPrice} {n : Nat} (h : mlist mPrice l ≤ n) (hn : n ≤ 1048576) : l.length ≤ 1048576 := by
  have h1 := mlist_len (m := mPrice) (fun z => by unfold mPrice; omega) l
  omega
namespace ridesPricedUpto
open Go.ChangeShapes Go.WideShapes Go.ChangeAt Go.RowKit
theorem own : ownKnob Tryd.prog.godebug = none := by kernel_rfl
theorem laidOut : laidOutB Tryd.prog = true := by kernel_rfl
set_option maxRecDepth 100000 in
theorem contract (H : Type) (enc : TypeId × Value → H) (W : World) (base : Nat) (args : Array Value) (ds gs : List (DataW H)) (before : List MemPlace)
    (hval : ∀ (j : Nat) t v, Tryd.f5.params[j]? = some t → args[j]? = some v → Value.okWide Tryd.prog W .any base t v)
    (hW : DataW.Whole enc Tryd.prog Tryd.f5.params.toList Rows.ridesPricedSpec.vars false W args.toList ds gs before) (hk : Rows.uptoSmall H (ds ++ gs) = true) :
    Calls Tryd.prog 5 args W fun e W' => ∃ v, e = .returned v ∧ Rows.ridesPricedSpec.post enc Tryd.prog Tryd.f5 false true false false W args v W' := by
  have hW' := hW
  obtain ⟨p, q, hA0, hV, rfl, hfz, hnd⟩ := hW
  have hA : DataW.TrodAll enc Tryd.prog W 0 (fun _ => true) true Tryd.f5.params.toList args.toList ds p := hA0
  rw [Tryd.params5] at hA hval
  obtain ⟨v0, vs0, d0, ds0, p0, q0, hargs, rfl, rfl, h0, r0⟩ := trodAll_cons hA
  obtain ⟨v1, vs1, d1, ds1, p1, q1, rfl, rfl, rfl, h1, r1⟩ := trodAll_cons r0
  obtain ⟨v2, vs2, d2, ds2, p2, q2, rfl, rfl, rfl, h2, r2⟩ := trodAll_cons r1
  obtain ⟨v3, vs3, d3, ds3, p3, q3, rfl, rfl, rfl, h3, r3⟩ := trodAll_cons r2
  obtain ⟨v4, vs4, d4, ds4, p4, q4, rfl, rfl, rfl, h4, r4⟩ := trodAll_cons r3
  obtain ⟨rfl, rfl, rfl⟩ := trodAll_nil r4
  obtain rfl : args = #[v0, v1, v2, v3, v4] := by cases args; simp_all
  obtain ⟨rfl, rfl⟩ := trodVars_none hV
  have k0 := h0
  have lt0 : ∀ x ∈ p0, x.block < W.heap.size := by obtain ⟨m, hm⟩ := k0; exact DataW.trod_lt m _ _ _ hm
  obtain ⟨e0, n0, c0, rfl⟩ := okWide_slice Tryd.underlying52 (hval 0 52 v0 rfl rfl)
  obtain ⟨l0, R0, m0⟩ := OT.row (OT.slice Tryd.underlying52 (by kernel_rfl) (by decide) otZone) h0
  have k1 := h1
  have lt1 : ∀ x ∈ p1, x.block < W.heap.size := by obtain ⟨m, hm⟩ := k1; exact DataW.trod_lt m _ _ _ hm
  obtain ⟨e1, n1, c1, rfl⟩ := okWide_slice Tryd.underlying63 (hval 1 63 v1 rfl rfl)
  obtain ⟨l1, R1, m1⟩ := OT.row (OT.slice Tryd.underlying63 (by kernel_rfl) (by decide) otPrice) h1
  have k2 := h2
  have lt2 : ∀ x ∈ p2, x.block < W.heap.size := by obtain ⟨m, hm⟩ := k2; exact DataW.trod_lt m _ _ _ hm
  obtain ⟨e2, n2, c2, rfl⟩ := okWide_slice Tryd.underlying64 (hval 2 64 v2 rfl rfl)
  obtain ⟨l2, R2, m2⟩ := OT.row (OT.slice Tryd.underlying64 (by kernel_rfl) (by decide) otJourney) h2
  have k3 := h3
  have lt3 : ∀ x ∈ p3, x.block < W.heap.size := by obtain ⟨m, hm⟩ := k3; exact DataW.trod_lt m _ _ _ hm
  obtain ⟨x3, rfl, z3⟩ := okWide_struct Tryd.underlying66 (hval 3 66 v3 rfl rfl)
  obtain ⟨c3, q3, m3⟩ := OT.agg otPrice h3
  obtain ⟨x3⟩ := x3
  have e3 := q3
  have e3 : x3 = _ := e3
  subst e3
  have k4 := h4
  have lt4 : ∀ x ∈ p4, x.block < W.heap.size := by obtain ⟨m, hm⟩ := k4; exact DataW.trod_lt m _ _ _ hm
  obtain ⟨x4, rfl, z4⟩ := okWide_struct Tryd.underlying70 (hval 4 70 v4 rfl rfl)
  obtain ⟨c4, q4, m4⟩ := OT.agg otJourney h4
  obtain ⟨x4⟩ := x4
  obtain ⟨v4_2, e4, r4_2⟩ := q4
  have e4 : x4 = _ := e4
  subst e4
  simp only [List.append_nil] at hk
  have hb : Rows.uptoBulkAll [d0, d1, d2, d3, d4] ≤ 1048576 := of_decide_eq_true hk
  simp only [Rows.uptoBulkAll] at hb
  refine Calls.mono ((p5 R0 R1 R2 r4_2 (zones_len m0 (by omega)).1 (zones_len m0 (by omega)).2 (prices_len m1 (by omega)) (journeys_len m2 (by omega)).1 (journeys_len m2 (by omega)).2 (journey_len m4 (by omega))) (G0of W) (le_refl _) W W (holdsG0 W)) fun e W' he => ?_
  obtain ⟨v, G', rfl, hh, _, rfl⟩ := he
  have bel := hh.below
  exact ⟨_, rfl, _, _, _, [], _, [], hW', trodAll_mk1 (shut_bool Tryd.underlying4 _), trodAll_cons_mk (Below.trod laidOut (by kernel_rfl) (of_decide_eq_true (by kernel_rfl)) k0 bel lt0) (trodAll_cons_mk (Below.trod laidOut (by kernel_rfl) (of_decide_eq_true (by kernel_rfl)) k1 bel lt1) (trodAll_cons_mk (Below.trod laidOut (by kernel_rfl) (of_decide_eq_true (by kernel_rfl)) k2 bel lt2) (trodAll_cons_mk (Below.trod laidOut (by kernel_rfl) (of_decide_eq_true (by kernel_rfl)) k3 bel lt3) (trodAll_cons_mk (Below.trod laidOut (by kernel_rfl) (of_decide_eq_true (by kernel_rfl)) k4 bel lt4) trodAll_mk0)))), rfl, bel.frame _, fun h => by cases h⟩
noncomputable def laidWorld (os : Os) : World :=
  { World.holding Tryd.prog os ⟨#[], #[], []⟩ with heap := (((World.holding Tryd.prog os ⟨#[], #[], []⟩).heap.modify 4 fun o => match o with | .cells _ t fr => .cells #[.int .u8 128, .int .u8 191, .int .u8 160, .int .u8 191, .int .u8 128, .int .u8 159, .int .u8 144, .int .u8 191, .int .u8 128, .int .u8 143, .int .u8 0, .int .u8 0, .int .u8 0, .int .u8 0, .int .u8 0, .int .u8 0, .int .u8 0, .int .u8 0, .int .u8 0, .int .u8 0, .int .u8 0, .int .u8 0, .int .u8 0, .int .u8 0, .int .u8 0, .int .u8 0, .int .u8 0, .int .u8 0, .int .u8 0, .int .u8 0, .int .u8 0, .int .u8 0] t fr | o => o).modify 3 fun o => match o with | .cells _ t fr => .cells (Go.Pinned.utf8FirstZ.map fun n : Nat => Value.int .u8 (n : Int)).toArray t fr | o => o) }
set_option maxRecDepth 100000 in
theorem laid_met (os : Os) : laidMet Tryd.prog Rows.ridesPricedUptoRow.laid ((laidWorld os).forCall (fun _ _ => 0) ⟨#[], #[.slice none 0 0, .slice none 0 0, .slice none 0 0, .agg #[.string ByteArray.empty, .int .i64 0, .int .i64 0, .int .i64 0, .int .i64 0, .int .i64 0, .int .i64 0, .int .i64 0, .int .i64 0, .int .i64 0], .agg #[.string ByteArray.empty, .string ByteArray.empty, .slice none 0 0, .int .i64 0, .int .i64 0, .int .i64 0]], []⟩).memory := laidMet_of_run' 8 (by kernel_rfl) (by kernel_rfl)
theorem reads (os : Os) {H : Type} (enc : TypeId × Value → H) : ∃ places, DataW.whole enc Tryd.prog ((laidWorld os).forCall (fun _ _ => 0) ⟨#[], #[.slice none 0 0, .slice none 0 0, .slice none 0 0, .agg #[.string ByteArray.empty, .int .i64 0, .int .i64 0, .int .i64 0, .int .i64 0, .int .i64 0, .int .i64 0, .int .i64 0, .int .i64 0, .int .i64 0], .agg #[.string ByteArray.empty, .string ByteArray.empty, .slice none 0 0, .int .i64 0, .int .i64 0, .int .i64 0]], []⟩).memory Tryd.f5.params.toList Rows.ridesPricedSpec.vars false (#[.slice none 0 0, .slice none 0 0, .slice none 0 0, .agg #[.string ByteArray.empty, .int .i64 0, .int .i64 0, .int .i64 0, .int .i64 0, .int .i64 0, .int .i64 0, .int .i64 0, .int .i64 0, .int .i64 0], .agg #[.string ByteArray.empty, .string ByteArray.empty, .slice none 0 0, .int .i64 0, .int .i64 0, .int .i64 0]] : Array Value).toList 8 = some ([.nil, .nil, .nil, .agg [.lit (.string []), .lit (.int .i64 0), .lit (.int .i64 0), .lit (.int .i64 0), .lit (.int .i64 0), .lit (.int .i64 0), .lit (.int .i64 0), .lit (.int .i64 0), .lit (.int .i64 0), .lit (.int .i64 0)], .agg [.lit (.string []), .lit (.string []), .nil, .lit (.int .i64 0), .agg [.lit (.int .i64 0), .lit (.int .i64 0)]]], [], places) := ⟨[], by kernel_rfl⟩
set_option maxRecDepth 100000 in
theorem lifted (os : Os) (started : os.Started) (H : Type) (enc : TypeId × Value → H) (F : Stop.Interp) :
    ReturnsInHanded {} Tryd.checked os 5 .any ((Rows.OpenSpec.upto Rows.ridesPricedSpec).preRow enc Tryd.prog Tryd.f5 Rows.ridesPricedUptoRow.domain false Rows.ridesPricedUptoRow.laid) (((Rows.OpenSpec.upto Rows.ridesPricedSpec).at F).post enc Tryd.prog Tryd.f5 false true false false) := by
  obtain ⟨places, hx⟩ := reads os enc
  refine returnsInHanded_of_row (C := Tryd.checked) (s := Rows.OpenSpec.upto Rows.ridesPricedSpec) own started (by kernel_rfl) Tryd.func5
    (witness_row_at (enc := enc) (C := Tryd.checked) false (laidWorld os) #[.slice none 0 0, .slice none 0 0, .slice none 0 0, .agg #[.string ByteArray.empty, .int .i64 0, .int .i64 0, .int .i64 0, .int .i64 0, .int .i64 0, .int .i64 0, .int .i64 0, .int .i64 0, .int .i64 0], .agg #[.string ByteArray.empty, .string ByteArray.empty, .slice none 0 0, .int .i64 0, .int .i64 0, .int .i64 0]] rfl (by kernel_rfl) (by kernel_rfl) (by kernel_rfl)
      (OpenSpec.preRow_of_cond 8 hx (by kernel_rfl) (fun k hk => by cases hk; kernel_rfl) (by kernel_rfl) (laid_met os))) ?_
  intro W base args ds gs before hval hW _ hk _ _ _ _
  exact contract H enc W base args ds gs before hval hW (hk _ rfl)
theorem said : Rows.RidesPricedUptoSaid :=
  OpenClaim.holds_of_cond 5 Tryd.f5 rfl rfl rfl rfl rfl rfl rfl ⟨rfl, rfl, rfl, rfl, rfl⟩ rfl rfl rfl rfl rfl (by kernel_rfl) Tryd.func5 (by kernel_rfl)
    (of_decide_eq_true (by kernel_rfl)) (by unfold Func.isWrapper; first | (rw [if_pos (by decide +kernel)]; kernel_rfl) | (rw [if_neg (by decide +kernel)]; exact ⟨rfl, rfl⟩))
    (fun os started H enc _ F => by rw [OpenClaim.pre_eq_preRow]; exact lifted os started H enc F)
theorem plain (f : FuncId) (fn : Func) (hf : Tryd.pinned.checked.prog.funcNamed "jitney/jitlaw1.RidesPriced" = some f) (hfn : Tryd.pinned.checked.prog.funcs[f]? = some fn) :
    false = Tryd.pinned.checked.prog.looks [] ∧ ∀ (j : Nat) t, fn.params[j]? = some t → Tryd.pinned.checked.prog.wantsStandIn t = false := by
  obtain rfl : f = 5 := Option.some.inj ((show Tryd.prog.funcNamed "jitney/jitlaw1.RidesPriced" = some 5 by kernel_rfl).symm.trans hf) |>.symm
  obtain rfl : fn = Tryd.f5 := (Option.some.inj (Tryd.func5.symm.trans hfn)).symm
  refine ⟨by kernel_rfl, fun j t ht => ?_⟩
  rw [Tryd.params5] at ht
  have hm := Array.mem_of_getElem? ht
  simp only [List.mem_toArray, List.mem_cons, List.not_mem_nil, or_false] at hm
  rcases hm with rfl | rfl | rfl | rfl | rfl
  · exact (show Tryd.prog.wantsStandIn 52 = false by kernel_rfl)
  · exact (show Tryd.prog.wantsStandIn 63 = false by kernel_rfl)
  · exact (show Tryd.prog.wantsStandIn 64 = false by kernel_rfl)
  · exact (show Tryd.prog.wantsStandIn 66 = false by kernel_rfl)
  · exact (show Tryd.prog.wantsStandIn 70 = false by kernel_rfl)
theorem proved : Rows.RidesPricedUptoCardSaid :=
  Claim7.holds_tied_plain_at .later [] _ _ _ _ said (fun _ h => by cases h) (by kernel_rfl) (fun _ h => by cases h) ridesPricedUpto_row_tie rfl ⟨rfl, rfl⟩ (by kernel_rfl) rfl plain (by kernel_rfl)
end ridesPricedUpto
end Go.Proofs.YtnlbapfbdabjaaaDoor
