/- Proved: the law ZonesCrossed at all inputs of a tied card -/
import Derived.Shelf.Bits.Mul64
import Derived.Test.YtgkdbjnmlecimaaDoorRows
import Derived.WalkKit
import Derived.ProofKit
import Derived.OpenShut
import Derived.ChangeOld
import Derived.Below
import Derived.Carry
import Derived.ChangeArms
import Derived.JoinedCond
import Derived.Test.YtgkdbjnmlecimaaDoorCards
import Derived.Test.YtgkdbjnmlecimaaDoorTie
import Derived.Deep.DeepHandedRow
import Derived.Test.YtgkdbjnmlecimaaDoorZcSh
import Derived.Test.YtgkdbjnmlecimaaDoorZcW26
import Derived.Test.YtgkdbjnmlecimaaDoorZcW27
set_option linter.unusedSimpArgs false
set_option linter.unusedVariables false
set_option linter.unusedSectionVars false
namespace Go.Proofs.YtgkdbjnmlecimaaDoor
open Go Go.GL
set_option maxRecDepth 10000
set_option maxHeartbeats 0
def crossF (l : List SZone) (ns : List ByteArray) : List ByteArray := compF none ((ns.map (zoneFor l)).filter fun z => !decide (z = ⟨#[]⟩))
theorem lastOr_get {α : Type} : ∀ (l : List α) (p : Option α), lastOr p l = if l = [] then p else l[l.length - 1]?
  | [], _ => by simp [lastOr]
  | [x], _ => by simp [lastOr]
  | x :: y :: l, p => by
    have := lastOr_get (y :: l) (some x)
    simp only [lastOr] at this ⊢
    rw [this]
    simp
theorem cross_take {l : List SZone} {ns : List ByteArray} {i : Nat} {x : ByteArray} (h : ns[i]? = some x) : crossF l (ns.take (i + 1)) = if zoneFor l x = ⟨#[]⟩ then crossF l (ns.take i) else crossF l (ns.take i) ++ (if lastOr none (crossF l (ns.take i)) = some (zoneFor l x) then [] else [zoneFor l x]) := by
  unfold crossF
  rw [take_at h, List.map_append, List.filter_append, List.map_cons, List.map_nil, List.filter_cons, List.filter_nil]
  split
  · rename_i q
    rw [if_neg (by simpa using q), compF_snoc, compF_last]
  · rename_i q
    have q : zoneFor l x = ⟨#[]⟩ := by simpa using q
    rw [if_pos q, List.append_nil]
theorem cross0 {l : List SZone} {ns : List ByteArray} {i : Nat} {x : ByteArray} (h : ns[i]? = some x) (hz : zoneFor l x = ⟨#[]⟩) : crossF l (ns.take (i + 1)) = crossF l (ns.take i) := by rw [cross_take h, if_pos hz]
theorem cross1 {l : List SZone} {ns : List ByteArray} {i : Nat} {x : ByteArray} (h : ns[i]? = some x) (hz : ¬ zoneFor l x = ⟨#[]⟩) (h0 : ((crossF l (ns.take i)).length : Int) = 0) : crossF l (ns.take (i + 1)) = crossF l (ns.take i) ++ [zoneFor l x] := by
  have : crossF l (ns.take i) = [] := List.eq_nil_of_length_eq_zero (by omega)
  rw [cross_take h, if_neg hz, this]; rfl
theorem cross2 {l : List SZone} {ns : List ByteArray} {i : Nat} {x y : ByteArray} (h : ns[i]? = some x) (hz : ¬ zoneFor l x = ⟨#[]⟩) (hy : (crossF l (ns.take i))[(crossF l (ns.take i)).length - 1]? = some y) : crossF l (ns.take (i + 1)) = if y = zoneFor l x then crossF l (ns.take i) else crossF l (ns.take i) ++ [zoneFor l x] := by
  have hne : ¬ crossF l (ns.take i) = [] := by intro q; rw [q] at hy; cases hy
  rw [cross_take h, if_neg hz, lastOr_get, if_neg hne, hy]
  by_cases q : y = zoneFor l x
  · simp [q]
  · simp [q]
theorem cross_len (l : List SZone) (ns : List ByteArray) (i : Nat) : (crossF l (ns.take i)).length ≤ i := by
  unfold crossF
  have h1 := compF_len ((List.map (zoneFor l) (ns.take i)).filter fun z => !decide (z = ⟨#[]⟩)) none
  have h2 := List.length_filter_le (fun z : ByteArray => !decide (z = ⟨#[]⟩)) (List.map (zoneFor l) (ns.take i))
  rw [List.length_map, List.length_take] at h2
  omega
theorem g83 {G0 : GH} {v w : Value} {l : List SZone} {ns : List ByteArray} (hv : RSl rZone G0 v l) (hw : RSl Rp.str G0 w ns) (hn : (l.length : Int) ≤ 9223372036854775807) (hm : ns.length ≤ 1000000000) (hz : ∀ z ∈ l, z.Nodes.length ≤ 500 ∧ sorted z.Nodes) : Gives Tryd.prog G0 83 [v, w] (fun u G' => RSl Rp.str G' u (crossF l ns)) := by
  intro G hG; replace hv := hv.le hG; replace hw := hw.le hG
  clear hG G0
  refine enter Tryd.func83 41 #[.tmp 4] rfl Tryd.ntmps83 rfl (by decide +kernel) rfl ?_
  obtain ⟨a, c, rfl⟩ := hv.val
  obtain ⟨b, d, rfl⟩ := hw.val
  simp (maxDischargeDepth := 9) only [↓gB, gV, gT, reduceIte, reduceCtorEq, Nat.reduceEqDiff, Nat.reduceAdd, Nat.reduceSub, Nat.reduceLeDiff, Nat.reduceLT, Int.reduceEq, Nat.reduceMul]
  focus
    refine Xloop_intro _ _ _ _ _ (fun k f G' => ∃ (i : Nat) (o : Value), k = ns.length - i ∧ (i ≤ ns.length) ∧ (Row Rp.str 9 G G' o (crossF l (ns.take i))) ∧ (RSl rZone G' (.slice a l.length c) l) ∧ (RSl Rp.str G' (.slice b ns.length d) ns) ∧ (G.le G') ∧ f 11 = V i ∧ f 5 = o ∧ f 0 = Go.Value.slice a l.length c ∧ f 9 = Go.Value.slice b ns.length d ∧ f 10 = Go.Value.int Go.IntKind.i64 ↑ns.length) _ ⟨0, .slice none 0 0, rfl, ?_, ?_, ?_, ?_, ?_, by simp (maxDischargeDepth := 9) only [↓gB, gV, gT, reduceIte, reduceCtorEq, Nat.reduceEqDiff, Nat.reduceAdd, Nat.reduceSub, Nat.reduceLeDiff, Nat.reduceLT, Int.reduceEq, Nat.reduceMul, and_self]⟩ ?_
    · omega
    · (exact Row.nil; done)
    · assumption
    · assumption
    · exact le_refl _
    rintro k f G' ⟨i, o, rfl, hi, hrow, hv, hw, hle, f11, f5, f0, f9, f10⟩
  obtain ⟨ao, co, rfl⟩ := hrow.val
  simp (maxDischargeDepth := 9) only [↓gB, gV, gT, reduceIte, reduceCtorEq, Nat.reduceEqDiff, Nat.reduceAdd, Nat.reduceSub, Nat.reduceLeDiff, Nat.reduceLT, Int.reduceEq, Nat.reduceMul, f11, f0, f9, f10, f5]
  have hlen := cross_len l ns i
  refine Xc_split _ _ _ _ _ (fun c1 => ?_) (fun c1 => ?_)
  · focus
      simp (maxDischargeDepth := 9) only [↓gB, gV, gT, reduceIte, reduceCtorEq, Nat.reduceEqDiff, Nat.reduceAdd, Nat.reduceSub, Nat.reduceLeDiff, Nat.reduceLT, Int.reduceEq, Nat.reduceMul, f11, f0, f9, f10, f5, c1]
      obtain ⟨x1, a1, s1, m1, rfl, rfl, e1⟩ := hw.at1 (i) (by omega) rfl
      simp (maxDischargeDepth := 9) only [↓gB, gV, gT, reduceIte, reduceCtorEq, Nat.reduceEqDiff, Nat.reduceAdd, Nat.reduceSub, Nat.reduceLeDiff, Nat.reduceLT, Int.reduceEq, Nat.reduceMul, f11, f0, f10, f5, c1, f9, e1]
      refine vguard_intro (by simp) ?_
      refine Ycp (p79 (by assumption) (by assumption) (by assumption)) ?_
      simp (maxDischargeDepth := 9) only [↓gB, gV, gT, reduceIte, reduceCtorEq, Nat.reduceEqDiff, Nat.reduceAdd, Nat.reduceSub, Nat.reduceLeDiff, Nat.reduceLT, Int.reduceEq, Nat.reduceMul, f11, f0, f10, f5, c1, f9, e1]
      by_cases c2 : (Go.Proofs.YtgkdbjnmlecimaaDoor.zoneFor l x1 : ByteArray) = { data := #[] }
      rotate_left 1
      focus
        simp (maxDischargeDepth := 9) only [↓gB, gV, gT, reduceIte, reduceCtorEq, Nat.reduceEqDiff, Nat.reduceAdd, Nat.reduceSub, Nat.reduceLeDiff, Nat.reduceLT, Int.reduceEq, Nat.reduceMul, f11, f0, f10, f5, c1, f9, e1, c2]
        by_cases c3 : (↑(Go.Proofs.YtgkdbjnmlecimaaDoor.crossF l (List.take i ns)).length : Int) = 0
        rotate_left 1
        focus
          simp (maxDischargeDepth := 9) only [↓gB, gV, gT, reduceIte, reduceCtorEq, Nat.reduceEqDiff, Nat.reduceAdd, Nat.reduceSub, Nat.reduceLeDiff, Nat.reduceLT, Int.reduceEq, Nat.reduceMul, f11, f0, f10, f5, c1, f9, e1, c2, c3]
          have q1 : Go.IntKind.i64.wrap (↑(Go.Proofs.YtgkdbjnmlecimaaDoor.crossF l (List.take i ns)).length - 1) = ↑(Go.Proofs.YtgkdbjnmlecimaaDoor.crossF l (List.take i ns)).length - 1 := wrap_id (by omega)
          simp (maxDischargeDepth := 9) only [↓gB, gV, gT, reduceIte, reduceCtorEq, Nat.reduceEqDiff, Nat.reduceAdd, Nat.reduceSub, Nat.reduceLeDiff, Nat.reduceLT, Int.reduceEq, Nat.reduceMul, f11, f0, f10, f5, c1, f9, e1, c2, c3, q1]
          obtain ⟨x2, a2, s2, m2, rfl, rfl, e2⟩ := hrow.at1 ((Go.Proofs.YtgkdbjnmlecimaaDoor.crossF l (List.take i ns)).length - 1) (by omega) rfl
          simp (maxDischargeDepth := 9) only [↓gB, gV, gT, reduceIte, reduceCtorEq, Nat.reduceEqDiff, Nat.reduceAdd, Nat.reduceSub, Nat.reduceLeDiff, Nat.reduceLT, Int.reduceEq, Nat.reduceMul, f11, f0, f10, c1, f9, e1, c2, c3, q1, f5, e2]
          refine vguard_intro (by omega) ?_
          by_cases c4 : (x2 : ByteArray) = Go.Proofs.YtgkdbjnmlecimaaDoor.zoneFor l x1
          rotate_left 1
          focus
            simp (maxDischargeDepth := 9) only [↓gB, gV, gT, reduceIte, reduceCtorEq, Nat.reduceEqDiff, Nat.reduceAdd, Nat.reduceSub, Nat.reduceLeDiff, Nat.reduceLT, Int.reduceEq, Nat.reduceMul, f11, f0, f10, c1, f9, e1, c2, c3, q1, f5, e2, c4]
            refine Yn1 fun r1 h1 => ?_
            simp (maxDischargeDepth := 9) only [↓gB, gV, gT, reduceIte, reduceCtorEq, Nat.reduceEqDiff, Nat.reduceAdd, Nat.reduceSub, Nat.reduceLeDiff, Nat.reduceLT, Int.reduceEq, Nat.reduceMul, f11, f0, f10, c1, f9, e1, c2, c3, q1, f5, e2, c4, h1]
            refine Row.app1 sl22 (Row.le hrow (by simp (maxDischargeDepth := 9) only [le_self, le_puts, le_put0, sub_self, sub_puts, sub_put0, hle, h1])) (by exact put_self _ _ _) (y := _) rfl (by omega) (by simp (maxDischargeDepth := 9) only [le_self, le_puts, le_put0, sub_self, sub_puts, sub_put0, hle, h1]) fun v1 G1 w1 k1 l1 => ?_
            replace hv := RSl.appd (RSl.put _ (by assumption) hv) (Row.put _ (by assumption) hrow) k1
            replace hw := RSl.appd (RSl.put _ (by assumption) hw) (Row.put _ (by assumption) hrow) k1
            simp (maxDischargeDepth := 9) only [↓gB, gV, gT, reduceIte, reduceCtorEq, Nat.reduceEqDiff, Nat.reduceAdd, Nat.reduceSub, Nat.reduceLeDiff, Nat.reduceLT, Int.reduceEq, Nat.reduceMul, f11, f0, f10, c1, f9, e1, c2, c3, q1, f5, e2, c4, h1]
            have q2 : Go.IntKind.i64.wrap (↑i + 1) = ↑i + 1 := wrap_id (by omega)
            simp (maxDischargeDepth := 9) only [↓gB, gV, gT, reduceIte, reduceCtorEq, Nat.reduceEqDiff, Nat.reduceAdd, Nat.reduceSub, Nat.reduceLeDiff, Nat.reduceLT, Int.reduceEq, Nat.reduceMul, f11, f0, f10, c1, f9, e1, c2, c3, q1, f5, e2, c4, h1, q2]
            rw [N_lp]
            refine ⟨_, ?_, _, sub_refl _, i + 1, v1, rfl, ?_, ?_, ?_, ?_, ?_, by simp (maxDischargeDepth := 9) only [↓gB, gV, gT, reduceIte, reduceCtorEq, Nat.reduceEqDiff, Nat.reduceAdd, Nat.reduceSub, Nat.reduceLeDiff, Nat.reduceLT, Int.reduceEq, Nat.reduceMul, f11, f0, f10, c1, f9, e1, c2, c3, q1, f5, e2, c4, h1, q2, nat_succ, and_self]⟩
            · omega
            · omega
            · (rw [cross2 m1 c2 m2, if_neg (by assumption)]; exact w1; done)
            · assumption
            · assumption
            · assumption
          rotate_right 1
          simp (maxDischargeDepth := 9) only [↓gB, gV, gT, reduceIte, reduceCtorEq, Nat.reduceEqDiff, Nat.reduceAdd, Nat.reduceSub, Nat.reduceLeDiff, Nat.reduceLT, Int.reduceEq, Nat.reduceMul, f11, f0, f10, c1, f9, e1, c2, c3, q1, f5, e2, c4]
          have q2 : Go.IntKind.i64.wrap (↑i + 1) = ↑i + 1 := wrap_id (by omega)
          simp (maxDischargeDepth := 9) only [↓gB, gV, gT, reduceIte, reduceCtorEq, Nat.reduceEqDiff, Nat.reduceAdd, Nat.reduceSub, Nat.reduceLeDiff, Nat.reduceLT, Int.reduceEq, Nat.reduceMul, f11, f0, f10, c1, f9, e1, c2, c3, q1, f5, e2, c4, q2]
          rw [N_lp]
          refine ⟨_, ?_, _, sub_refl _, i + 1, .slice (some a2) (crossF l (ns.take i)).length co, rfl, ?_, ?_, ?_, ?_, ?_, by simp (maxDischargeDepth := 9) only [↓gB, gV, gT, reduceIte, reduceCtorEq, Nat.reduceEqDiff, Nat.reduceAdd, Nat.reduceSub, Nat.reduceLeDiff, Nat.reduceLT, Int.reduceEq, Nat.reduceMul, f11, f0, f10, c1, f9, e1, c2, c3, q1, f5, e2, c4, q2, nat_succ, and_self]⟩
          · omega
          · omega
          · (rw [cross2 m1 c2 m2, if_pos (by assumption)]; exact hrow; done)
          · assumption
          · assumption
          · assumption
        rotate_right 1
        simp (maxDischargeDepth := 9) only [↓gB, gV, gT, reduceIte, reduceCtorEq, Nat.reduceEqDiff, Nat.reduceAdd, Nat.reduceSub, Nat.reduceLeDiff, Nat.reduceLT, Int.reduceEq, Nat.reduceMul, f11, f0, f10, f5, c1, f9, e1, c2, c3]
        refine Yn1 fun r1 h1 => ?_
        simp (maxDischargeDepth := 9) only [↓gB, gV, gT, reduceIte, reduceCtorEq, Nat.reduceEqDiff, Nat.reduceAdd, Nat.reduceSub, Nat.reduceLeDiff, Nat.reduceLT, Int.reduceEq, Nat.reduceMul, f11, f0, f10, f5, c1, f9, e1, c2, c3, h1]
        refine Row.app1 sl22 (Row.le hrow (by simp (maxDischargeDepth := 9) only [le_self, le_puts, le_put0, sub_self, sub_puts, sub_put0, hle, h1])) (by exact put_self _ _ _) (y := _) rfl (by omega) (by simp (maxDischargeDepth := 9) only [le_self, le_puts, le_put0, sub_self, sub_puts, sub_put0, hle, h1]) fun v1 G1 w1 k1 l1 => ?_
        replace hv := RSl.appd (RSl.put _ (by assumption) hv) (Row.put _ (by assumption) hrow) k1
        replace hw := RSl.appd (RSl.put _ (by assumption) hw) (Row.put _ (by assumption) hrow) k1
        simp (maxDischargeDepth := 9) only [↓gB, gV, gT, reduceIte, reduceCtorEq, Nat.reduceEqDiff, Nat.reduceAdd, Nat.reduceSub, Nat.reduceLeDiff, Nat.reduceLT, Int.reduceEq, Nat.reduceMul, f11, f0, f10, f5, c1, f9, e1, c2, c3, h1]
        have q1 : Go.IntKind.i64.wrap (↑i + 1) = ↑i + 1 := wrap_id (by omega)
        simp (maxDischargeDepth := 9) only [↓gB, gV, gT, reduceIte, reduceCtorEq, Nat.reduceEqDiff, Nat.reduceAdd, Nat.reduceSub, Nat.reduceLeDiff, Nat.reduceLT, Int.reduceEq, Nat.reduceMul, f11, f0, f10, f5, c1, f9, e1, c2, c3, h1, q1]
        rw [N_lp]
        refine ⟨_, ?_, _, sub_refl _, i + 1, v1, rfl, ?_, ?_, ?_, ?_, ?_, by simp (maxDischargeDepth := 9) only [↓gB, gV, gT, reduceIte, reduceCtorEq, Nat.reduceEqDiff, Nat.reduceAdd, Nat.reduceSub, Nat.reduceLeDiff, Nat.reduceLT, Int.reduceEq, Nat.reduceMul, f11, f0, f10, f5, c1, f9, e1, c2, c3, h1, q1, nat_succ, and_self]⟩
        · omega
        · omega
        · (rw [cross1 m1 c2 c3]; exact w1; done)
        · assumption
        · assumption
        · assumption
      rotate_right 1
      simp (maxDischargeDepth := 9) only [↓gB, gV, gT, reduceIte, reduceCtorEq, Nat.reduceEqDiff, Nat.reduceAdd, Nat.reduceSub, Nat.reduceLeDiff, Nat.reduceLT, Int.reduceEq, Nat.reduceMul, f11, f0, f10, f5, c1, f9, e1, c2]
      have q1 : Go.IntKind.i64.wrap (↑i + 1) = ↑i + 1 := wrap_id (by omega)
      simp (maxDischargeDepth := 9) only [↓gB, gV, gT, reduceIte, reduceCtorEq, Nat.reduceEqDiff, Nat.reduceAdd, Nat.reduceSub, Nat.reduceLeDiff, Nat.reduceLT, Int.reduceEq, Nat.reduceMul, f11, f0, f10, f5, c1, f9, e1, c2, q1]
      rw [N_lp]
      refine ⟨_, ?_, _, sub_refl _, i + 1, .slice ao (crossF l (ns.take i)).length co, rfl, ?_, ?_, ?_, ?_, ?_, by simp (maxDischargeDepth := 9) only [↓gB, gV, gT, reduceIte, reduceCtorEq, Nat.reduceEqDiff, Nat.reduceAdd, Nat.reduceSub, Nat.reduceLeDiff, Nat.reduceLT, Int.reduceEq, Nat.reduceMul, f11, f0, f10, f5, c1, f9, e1, c2, q1, nat_succ, and_self]⟩
      · omega
      · omega
      · (rw [cross0 m1 c2]; exact hrow; done)
      · assumption
      · assumption
      · assumption
  · simp (maxDischargeDepth := 9) only [↓gB, gV, gT, reduceIte, reduceCtorEq, Nat.reduceEqDiff, Nat.reduceAdd, Nat.reduceSub, Nat.reduceLeDiff, Nat.reduceLT, Int.reduceEq, Nat.reduceMul, f11, f0, f9, f10, f5, c1]
    obtain ⟨G2, hs, hl, hr⟩ := hrow.fin hle
    rw [List.take_of_length_le (by omega)] at hr ⊢
    exact Kup_gives hs hl hr
def crossR (l : List SZone) (ns : List ByteArray) : List ByteArray := (ns.map (zoneFor l)).filter fun z => !decide (z = ⟨#[]⟩)
theorem crossR_take {l : List SZone} {ns : List ByteArray} {i : Nat} {x : ByteArray} (h : ns[i]? = some x) : crossR l (ns.take (i + 1)) = crossR l (ns.take i) ++ (if zoneFor l x = ⟨#[]⟩ then [] else [zoneFor l x]) := by
  unfold crossR
  rw [take_at h, List.map_append, List.filter_append, List.map_cons, List.map_nil, List.filter_cons, List.filter_nil]
  by_cases q : zoneFor l x = ⟨#[]⟩ <;> simp [q]
theorem crossR_len (l : List SZone) (ns : List ByteArray) (i : Nat) : (crossR l (ns.take i)).length ≤ i := by
  unfold crossR
  have h2 := List.length_filter_le (fun z : ByteArray => !decide (z = ⟨#[]⟩)) (List.map (zoneFor l) (ns.take i))
  rw [List.length_map, List.length_take] at h2
  omega
theorem compCalls {e : TypeId} {G0 G : GH} {v : Value} {xs : List ByteArray} (hr : Row Rp.str e G0 G v xs) (hn : xs.length ≤ 1000000000) (hl : G0.le G) : GCalls Tryd.prog 86 [v].toArray G (fun u G' => Row Rp.str e G0 G' u (compF none xs) ∧ G0.le G') :=
  gcompact (fun blk cap zs w hH h1 h2 => Any.slices_Compact_string Tryd.layComp blk 0 cap zs w hH h1 h2) (fun a cap w => Any.slices_Compact_string_empty Tryd.layComp a cap w) hr hn hl
theorem g33 {G0 : GH} {v w : Value} {l : List SZone} {ns : List ByteArray} (hv : RSl rZone G0 v l) (hw : RSl Rp.str G0 w ns) (hn : (l.length : Int) ≤ 9223372036854775807) (hm : ns.length ≤ 1000000000) (hz : ∀ z ∈ l, z.Nodes.length ≤ 500 ∧ sorted z.Nodes) : Gives Tryd.prog G0 33 [v, w] (fun u G' => RSl Rp.str G' u (crossF l ns)) := by
  intro G hG; replace hv := hv.le hG; replace hw := hw.le hG
  clear hG G0
  refine enter Tryd.func33 27 #[.tmp 4] rfl Tryd.ntmps33 rfl (by decide +kernel) rfl ?_
  obtain ⟨a, c, rfl⟩ := hv.val
  obtain ⟨b, d, rfl⟩ := hw.val
  simp (maxDischargeDepth := 9) only [↓gB, gV, gT, reduceIte, reduceCtorEq, Nat.reduceEqDiff, Nat.reduceAdd, Nat.reduceSub, Nat.reduceLeDiff, Nat.reduceLT, Int.reduceEq, Nat.reduceMul]
  focus
    refine Xloop_intro _ _ _ _ _ (fun k f G' => ∃ (i : Nat) (o : Value), k = ns.length - i ∧ (i ≤ ns.length) ∧ (Row Rp.str 9 G G' o (crossR l (ns.take i))) ∧ (RSl rZone G' (.slice a l.length c) l) ∧ (RSl Rp.str G' (.slice b ns.length d) ns) ∧ (G.le G') ∧ f 11 = V i ∧ f 5 = o ∧ f 0 = Go.Value.slice a l.length c ∧ f 9 = Go.Value.slice b ns.length d ∧ f 10 = Go.Value.int Go.IntKind.i64 ↑ns.length) _ ⟨0, .slice none 0 0, rfl, ?_, ?_, ?_, ?_, ?_, by simp (maxDischargeDepth := 9) only [↓gB, gV, gT, reduceIte, reduceCtorEq, Nat.reduceEqDiff, Nat.reduceAdd, Nat.reduceSub, Nat.reduceLeDiff, Nat.reduceLT, Int.reduceEq, Nat.reduceMul, and_self]⟩ ?_
    · omega
    · (exact Row.nil; done)
    · assumption
    · assumption
    · exact le_refl _
    rintro k f G' ⟨i, o, rfl, hi, hrow, hv, hw, hle, f11, f5, f0, f9, f10⟩
  have hlen := crossR_len l ns i
  simp (maxDischargeDepth := 9) only [↓gB, gV, gT, reduceIte, reduceCtorEq, Nat.reduceEqDiff, Nat.reduceAdd, Nat.reduceSub, Nat.reduceLeDiff, Nat.reduceLT, Int.reduceEq, Nat.reduceMul, f11, f5, f0, f9, f10]
  refine Xc_split _ _ _ _ _ (fun c1 => ?_) (fun c1 => ?_)
  · focus
      simp (maxDischargeDepth := 9) only [↓gB, gV, gT, reduceIte, reduceCtorEq, Nat.reduceEqDiff, Nat.reduceAdd, Nat.reduceSub, Nat.reduceLeDiff, Nat.reduceLT, Int.reduceEq, Nat.reduceMul, f11, f5, f0, f9, f10, c1]
      obtain ⟨x1, a1, s1, m1, rfl, rfl, e1⟩ := hw.at1 (i) (by omega) rfl
      simp (maxDischargeDepth := 9) only [↓gB, gV, gT, reduceIte, reduceCtorEq, Nat.reduceEqDiff, Nat.reduceAdd, Nat.reduceSub, Nat.reduceLeDiff, Nat.reduceLT, Int.reduceEq, Nat.reduceMul, f11, f5, f0, f10, c1, f9, e1]
      refine vguard_intro (by simp) ?_
      refine Ycp (p30 (by assumption) (by assumption) (by assumption)) ?_
      simp (maxDischargeDepth := 9) only [↓gB, gV, gT, reduceIte, reduceCtorEq, Nat.reduceEqDiff, Nat.reduceAdd, Nat.reduceSub, Nat.reduceLeDiff, Nat.reduceLT, Int.reduceEq, Nat.reduceMul, f11, f5, f0, f10, c1, f9, e1]
      by_cases c2 : (Go.Proofs.YtgkdbjnmlecimaaDoor.zoneFor l x1 : ByteArray) = { data := #[] }
      rotate_left 1
      focus
        simp (maxDischargeDepth := 9) only [↓gB, gV, gT, reduceIte, reduceCtorEq, Nat.reduceEqDiff, Nat.reduceAdd, Nat.reduceSub, Nat.reduceLeDiff, Nat.reduceLT, Int.reduceEq, Nat.reduceMul, f11, f5, f0, f10, c1, f9, e1, c2]
        refine Yn1 fun r1 h1 => ?_
        simp (maxDischargeDepth := 9) only [↓gB, gV, gT, reduceIte, reduceCtorEq, Nat.reduceEqDiff, Nat.reduceAdd, Nat.reduceSub, Nat.reduceLeDiff, Nat.reduceLT, Int.reduceEq, Nat.reduceMul, f11, f5, f0, f10, c1, f9, e1, c2, h1]
        refine Row.app1 sl22 (Row.le hrow (by simp (maxDischargeDepth := 9) only [le_self, le_puts, le_put0, sub_self, sub_puts, sub_put0, hle, h1])) (by exact put_self _ _ _) (y := _) rfl (by omega) (by simp (maxDischargeDepth := 9) only [le_self, le_puts, le_put0, sub_self, sub_puts, sub_put0, hle, h1]) fun v1 G1 w1 k1 l1 => ?_
        replace hv := RSl.appd (RSl.put _ (by assumption) hv) (Row.put _ (by assumption) hrow) k1
        replace hw := RSl.appd (RSl.put _ (by assumption) hw) (Row.put _ (by assumption) hrow) k1
        simp (maxDischargeDepth := 9) only [↓gB, gV, gT, reduceIte, reduceCtorEq, Nat.reduceEqDiff, Nat.reduceAdd, Nat.reduceSub, Nat.reduceLeDiff, Nat.reduceLT, Int.reduceEq, Nat.reduceMul, f11, f5, f0, f10, c1, f9, e1, c2, h1]
        have q1 : Go.IntKind.i64.wrap (↑i + 1) = ↑i + 1 := wrap_id (by omega)
        simp (maxDischargeDepth := 9) only [↓gB, gV, gT, reduceIte, reduceCtorEq, Nat.reduceEqDiff, Nat.reduceAdd, Nat.reduceSub, Nat.reduceLeDiff, Nat.reduceLT, Int.reduceEq, Nat.reduceMul, f11, f5, f0, f10, c1, f9, e1, c2, h1, q1]
        rw [N_lp]
        refine ⟨_, ?_, _, sub_refl _, i + 1, v1, rfl, ?_, ?_, ?_, ?_, ?_, by simp (maxDischargeDepth := 9) only [↓gB, gV, gT, reduceIte, reduceCtorEq, Nat.reduceEqDiff, Nat.reduceAdd, Nat.reduceSub, Nat.reduceLeDiff, Nat.reduceLT, Int.reduceEq, Nat.reduceMul, f11, f5, f0, f10, c1, f9, e1, c2, h1, q1, nat_succ, and_self]⟩
        · omega
        · omega
        · (rw [crossR_take m1, if_neg c2]; exact w1; done)
        · assumption
        · assumption
        · assumption
      rotate_right 1
      simp (maxDischargeDepth := 9) only [↓gB, gV, gT, reduceIte, reduceCtorEq, Nat.reduceEqDiff, Nat.reduceAdd, Nat.reduceSub, Nat.reduceLeDiff, Nat.reduceLT, Int.reduceEq, Nat.reduceMul, f11, f5, f0, f10, c1, f9, e1, c2]
      have q1 : Go.IntKind.i64.wrap (↑i + 1) = ↑i + 1 := wrap_id (by omega)
      simp (maxDischargeDepth := 9) only [↓gB, gV, gT, reduceIte, reduceCtorEq, Nat.reduceEqDiff, Nat.reduceAdd, Nat.reduceSub, Nat.reduceLeDiff, Nat.reduceLT, Int.reduceEq, Nat.reduceMul, f11, f5, f0, f10, c1, f9, e1, c2, q1]
      rw [N_lp]
      refine ⟨_, ?_, _, sub_refl _, i + 1, o, rfl, ?_, ?_, ?_, ?_, ?_, by simp (maxDischargeDepth := 9) only [↓gB, gV, gT, reduceIte, reduceCtorEq, Nat.reduceEqDiff, Nat.reduceAdd, Nat.reduceSub, Nat.reduceLeDiff, Nat.reduceLT, Int.reduceEq, Nat.reduceMul, f11, f5, f0, f10, c1, f9, e1, c2, q1, nat_succ, and_self]⟩
      · omega
      · omega
      · (rw [crossR_take m1, if_pos c2, List.append_nil]; exact hrow; done)
      · assumption
      · assumption
      · assumption
  · simp (maxDischargeDepth := 9) only [↓gB, gV, gT, reduceIte, reduceCtorEq, Nat.reduceEqDiff, Nat.reduceAdd, Nat.reduceSub, Nat.reduceLeDiff, Nat.reduceLT, Int.reduceEq, Nat.reduceMul, f11, f5, f0, f9, f10, c1]
    refine Ycall_intro (md := none) (compCalls hrow (by omega) hle) ?_
    rintro u G1 ⟨hrow, hle⟩
    simp (maxDischargeDepth := 9) only [↓gB, gV, gT, reduceIte, reduceCtorEq, Nat.reduceEqDiff, Nat.reduceAdd, Nat.reduceSub, Nat.reduceLeDiff, Nat.reduceLT, Int.reduceEq, Nat.reduceMul, f11, f5, f0, f9, f10, c1]
    obtain ⟨G2, hs, hl, hr⟩ := hrow.fin hle
    rw [List.take_of_length_le (by omega)] at hr
    exact Kup_gives hs hl hr
end Go.Proofs.YtgkdbjnmlecimaaDoor
namespace Go.Proofs.YtgkdbjnmlecimaaDoor
open Go Go.GL
set_option maxRecDepth 10000
set_option maxHeartbeats 0
def crossE (l : List SZone) (ns : List ByteArray) : Int := orOf [checkZones l, namesF ns 2000]
theorem g31 {G0 : GH} {v w : Value} {l : List SZone} {ns : List ByteArray} (hv : RSl rZone G0 v l) (hw : RSl Rp.str G0 w ns) (hn : (l.length : Int) ≤ 9223372036854775807) (hm : ns.length ≤ 1000000000) : Gives Tryd.prog G0 31 [v, w] (fun u G' => ∃ x, RSl Rp.str G' x (if crossE l ns = 0 then crossF l ns else []) ∧ u = .tuple #[x, V (crossE l ns)]) := by
  intro G hG; replace hv := hv.le hG; replace hw := hw.le hG
  clear hG G0
  refine enter Tryd.func31 19 #[.tmp 4, .tmp 5] rfl Tryd.ntmps31 rfl (by decide +kernel) rfl ?_
  by_cases he : crossE l ns = 0
  · have hz : checkZones l = 0 := by
      unfold crossE at he; rw [orOf2] at he; split at he
      · assumption
      · rename_i q; exact absurd he q
    have hzz := cz_z hz
    have he' : orOf [checkZones l, namesF ns 2000] = 0 := he
    simp (maxDischargeDepth := 9) only [↓gB, gV, gT, reduceIte, reduceCtorEq, Nat.reduceEqDiff, Nat.reduceAdd, Nat.reduceSub, Nat.reduceLeDiff, Nat.reduceLT, Int.reduceEq, Nat.reduceMul, he', he]
    refine Ycp (p26 (by assumption) (by assumption)) ?_
    simp (maxDischargeDepth := 9) only [↓gB, gV, gT, reduceIte, reduceCtorEq, Nat.reduceEqDiff, Nat.reduceAdd, Nat.reduceSub, Nat.reduceLeDiff, Nat.reduceLT, Int.reduceEq, Nat.reduceMul, he', he]
    refine Ycp (p82 (by assumption) (by omega)) ?_
    simp (maxDischargeDepth := 9) only [↓gB, gV, gT, reduceIte, reduceCtorEq, Nat.reduceEqDiff, Nat.reduceAdd, Nat.reduceSub, Nat.reduceLeDiff, Nat.reduceLT, Int.reduceEq, Nat.reduceMul, he', he]
    refine Yn1 fun r1 h1 => ?_
    simp (maxDischargeDepth := 9) only [↓gB, gV, gT, reduceIte, reduceCtorEq, Nat.reduceEqDiff, Nat.reduceAdd, Nat.reduceSub, Nat.reduceLeDiff, Nat.reduceLT, Int.reduceEq, Nat.reduceMul, h1, he', he]
    refine Ycp (p81 (by exact put_self _ _ _)) ?_
    simp (maxDischargeDepth := 9) only [↓gB, gV, gT, reduceIte, reduceCtorEq, Nat.reduceEqDiff, Nat.reduceAdd, Nat.reduceSub, Nat.reduceLeDiff, Nat.reduceLT, Int.reduceEq, Nat.reduceMul, h1, he', he]
    have l1 := le_put h1 ((Go.Obj.cells #[Go.GL.V (Go.Proofs.YtgkdbjnmlecimaaDoor.checkZones l), Go.GL.V (Go.Proofs.YtgkdbjnmlecimaaDoor.namesF ns 2000)] 26, Bool.true))
    have y1 := put_self G r1 ((Go.Obj.cells #[Go.GL.V (Go.Proofs.YtgkdbjnmlecimaaDoor.checkZones l), Go.GL.V (Go.Proofs.YtgkdbjnmlecimaaDoor.namesF ns 2000)] 26, Bool.true))
    generalize GH.put G r1 ((Go.Obj.cells #[Go.GL.V (Go.Proofs.YtgkdbjnmlecimaaDoor.checkZones l), Go.GL.V (Go.Proofs.YtgkdbjnmlecimaaDoor.namesF ns 2000)] 26, Bool.true)) = G1 at *
    replace hv := RSl.le hv l1
    replace hw := RSl.le hw l1
    refine Ycg (g83 (by assumption) (by assumption) (by assumption) (by assumption) (by assumption)) ?_ ?_
    · exact upRSl _ _
    intro u2 G2 l2 w2
    replace l1 := GH.le.trans l1 l2
    replace y1 := l2 _ _ y1
    replace hv := RSl.le hv l2
    replace hw := RSl.le hw l2
    obtain ⟨aw2, cw2, rfl⟩ := RSl.val w2
    obtain ⟨ahv, chv, rfl⟩ := RSl.val hv
    obtain ⟨ahw, chw, rfl⟩ := RSl.val hw
    simp (maxDischargeDepth := 9) only [↓gB, gV, gT, reduceIte, reduceCtorEq, Nat.reduceEqDiff, Nat.reduceAdd, Nat.reduceSub, Nat.reduceLeDiff, Nat.reduceLT, Int.reduceEq, Nat.reduceMul, h1, y1, he', he]
    exact Kup_gives (sub_refl _) (by assumption) ⟨_, by assumption, rfl⟩
  · have he' : ¬ orOf [checkZones l, namesF ns 2000] = 0 := he
    simp (maxDischargeDepth := 9) only [↓gB, gV, gT, reduceIte, reduceCtorEq, Nat.reduceEqDiff, Nat.reduceAdd, Nat.reduceSub, Nat.reduceLeDiff, Nat.reduceLT, Int.reduceEq, Nat.reduceMul, he', he]
    refine Ycp (p26 (by assumption) (by assumption)) ?_
    simp (maxDischargeDepth := 9) only [↓gB, gV, gT, reduceIte, reduceCtorEq, Nat.reduceEqDiff, Nat.reduceAdd, Nat.reduceSub, Nat.reduceLeDiff, Nat.reduceLT, Int.reduceEq, Nat.reduceMul, he', he]
    refine Ycp (p82 (by assumption) (by omega)) ?_
    simp (maxDischargeDepth := 9) only [↓gB, gV, gT, reduceIte, reduceCtorEq, Nat.reduceEqDiff, Nat.reduceAdd, Nat.reduceSub, Nat.reduceLeDiff, Nat.reduceLT, Int.reduceEq, Nat.reduceMul, he', he]
    refine Yn1 fun r1 h1 => ?_
    simp (maxDischargeDepth := 9) only [↓gB, gV, gT, reduceIte, reduceCtorEq, Nat.reduceEqDiff, Nat.reduceAdd, Nat.reduceSub, Nat.reduceLeDiff, Nat.reduceLT, Int.reduceEq, Nat.reduceMul, h1, he', he]
    refine Ycp (p81 (by exact put_self _ _ _)) ?_
    simp (maxDischargeDepth := 9) only [↓gB, gV, gT, reduceIte, reduceCtorEq, Nat.reduceEqDiff, Nat.reduceAdd, Nat.reduceSub, Nat.reduceLeDiff, Nat.reduceLT, Int.reduceEq, Nat.reduceMul, h1, he', he]
    exact Kup_gives (sub_refl _) (by simp (maxDischargeDepth := 9) only [le_self, le_puts, le_put0, h1]) ⟨_, RSl.nil _ _, rfl⟩
theorem g27 {G0 : GH} {v : Value} {l : List SZone} (hv : RSl rZone G0 v l) (hn : l.length ≤ 1000000000) (hz : ∀ z ∈ l, z.Nodes.length ≤ 1000000000) : Gives Tryd.prog G0 27 [v] (fun u G' => RSl rZone G' u l) := by
  intro G hG; replace hv := hv.le hG
  clear hG G0
  refine enter Tryd.func27 22 #[.tmp 2] rfl Tryd.ntmps27 rfl (by decide +kernel) rfl ?_
  obtain ⟨a, c, rfl⟩ := hv.val
  simp (maxDischargeDepth := 9) only [↓gB, gV, gT, reduceIte, reduceCtorEq, Nat.reduceEqDiff, Nat.reduceAdd, Nat.reduceSub, Nat.reduceLeDiff, Nat.reduceLT, Int.reduceEq, Nat.reduceMul]
  focus
    refine Xloop_intro _ _ _ _ _ (fun k f G' => ∃ (i : Nat) (o : Value), k = l.length - i ∧ (i ≤ l.length) ∧ (Row rZone 122 G G' o (l.take i)) ∧ (RSl rZone G' (.slice a l.length c) l) ∧ (G.le G') ∧ f 8 = V i ∧ f 3 = o ∧ f 6 = Go.Value.slice a l.length c ∧ f 7 = Go.Value.int Go.IntKind.i64 ↑l.length) _ ⟨0, .slice none 0 0, rfl, ?_, ?_, ?_, ?_, by simp (maxDischargeDepth := 9) only [↓gB, gV, gT, reduceIte, reduceCtorEq, Nat.reduceEqDiff, Nat.reduceAdd, Nat.reduceSub, Nat.reduceLeDiff, Nat.reduceLT, Int.reduceEq, Nat.reduceMul, and_self]⟩ ?_
    · omega
    · (exact Row.nil; done)
    · assumption
    · exact le_refl _
    rintro k f G' ⟨i, o, rfl, hi, hrow, hv, hle, f8, f3, f6, f7⟩
  simp (maxDischargeDepth := 9) only [↓gB, gV, gT, reduceIte, reduceCtorEq, Nat.reduceEqDiff, Nat.reduceAdd, Nat.reduceSub, Nat.reduceLeDiff, Nat.reduceLT, Int.reduceEq, Nat.reduceMul, f8, f3, f6, f7]
  refine Xc_split _ _ _ _ _ (fun c1 => ?_) (fun c1 => ?_)
  · obtain ⟨z, hzi⟩ : ∃ z, l[i]? = some z := ⟨_, List.getElem?_eq_getElem (by omega)⟩
    have hz1 := hz z (List.mem_of_getElem? hzi)
    simp (maxDischargeDepth := 9) only [↓gB, gV, gT, reduceIte, reduceCtorEq, Nat.reduceEqDiff, Nat.reduceAdd, Nat.reduceSub, Nat.reduceLeDiff, Nat.reduceLT, Int.reduceEq, Nat.reduceMul, f8, f3, f6, f7, c1]
    obtain ⟨x1, a1, s1, m1, rfl, ⟨v1, rfl, w1⟩, e1⟩ := hv.at (i) (by omega) 2 rfl
    obtain ⟨aw1, cw1, rfl⟩ := RSl.val w1
    simp (maxDischargeDepth := 9) only [↓gB, gV, gT, reduceIte, reduceCtorEq, Nat.reduceEqDiff, Nat.reduceAdd, Nat.reduceSub, Nat.reduceLeDiff, Nat.reduceLT, Int.reduceEq, Nat.reduceMul, f8, f3, f7, c1, f6, e1]
    refine vguard_intro (by simp) ?_
    refine Yn2 fun r1 h1 => ?_
    simp (maxDischargeDepth := 9) only [↓gB, gV, gT, reduceIte, reduceCtorEq, Nat.reduceEqDiff, Nat.reduceAdd, Nat.reduceSub, Nat.reduceLeDiff, Nat.reduceLT, Int.reduceEq, Nat.reduceMul, f8, f3, f7, c1, f6, e1, h1]
    obtain rfl : z = x1 := by rw [hzi] at m1; cases m1; rfl
    focus
      have q1_0 := Row.fresh hrow h1
      have q1_1 := GH.le.none hle h1
      have l1 := le_put h1 ((Go.Obj.cells #[Go.Value.string z.Key, Go.Value.slice aw1 z.Nodes.length cw1] 122, Bool.true))
      have y1 := put_self G' r1 ((Go.Obj.cells #[Go.Value.string z.Key, Go.Value.slice aw1 z.Nodes.length cw1] 122, Bool.true))
      generalize GH.put G' r1 ((Go.Obj.cells #[Go.Value.string z.Key, Go.Value.slice aw1 z.Nodes.length cw1] 122, Bool.true)) = G1 at *
      replace hrow := Row.le hrow l1
      replace hle := GH.le.trans hle l1
      replace hv := RSl.le hv l1
      replace w1 := RSl.le w1 l1
      refine Ycg (g9 (by assumption) (by assumption)) ?_ ?_
      · exact upRSl _ _
      intro u2 G2 l2 w2
      replace l1 := GH.le.trans l1 l2
      replace y1 := l2 _ _ y1
      replace hrow := Row.le hrow l2
      replace hle := GH.le.trans hle l2
      replace hv := RSl.le hv l2
      replace w1 := RSl.le w1 l2
      obtain ⟨aw2, cw2, rfl⟩ := RSl.val w2
      simp (maxDischargeDepth := 9) only [↓gB, gV, gT, reduceIte, reduceCtorEq, Nat.reduceEqDiff, Nat.reduceAdd, Nat.reduceSub, Nat.reduceLeDiff, Nat.reduceLT, Int.reduceEq, Nat.reduceMul, f8, f3, f7, c1, f6, h1, e1, q1_1, y1]
      refine Yn1 fun r2 h2 => ?_
      have n2 := h2
      simp only [put_none_eq, ne_eq] at n2
      simp (maxDischargeDepth := 9) only [↓gB, gV, gT, reduceIte, reduceCtorEq, Nat.reduceEqDiff, Nat.reduceAdd, Nat.reduceSub, Nat.reduceLeDiff, Nat.reduceLT, Int.reduceEq, Nat.reduceMul, f8, f3, f7, c1, f6, h1, e1, q1_1, y1, h2, n2]
      refine Row.app1 sl52 (Row.put _ h2 (Row.over _ hrow y1 (by assumption))) (by exact put_self _ _ _) (y := ⟨_, _⟩) ⟨_, rfl, (by first | exact (RSl.put _ h2 (RSl.over _ hv y1)) | exact (RSl.put _ h2 (RSl.over _ w1 y1)) | exact (RSl.put _ h2 (RSl.over _ w2 y1)) | omega | decide | (constructor <;> omega))⟩ (by (simp; omega)) (GH.le.trans (le_put_new hle (by assumption) _) (le_put h2 _)) fun v3 G3 w3 k3 l3 => ?_
      replace hv := RSl.appd (RSl.put _ h2 (RSl.over _ hv y1)) (Row.put _ h2 (Row.over _ hrow y1 (by assumption))) k3
      replace w1 := RSl.appd (RSl.put _ h2 (RSl.over _ w1 y1)) (Row.put _ h2 (Row.over _ hrow y1 (by assumption))) k3
      replace w2 := RSl.appd (RSl.put _ h2 (RSl.over _ w2 y1)) (Row.put _ h2 (Row.over _ hrow y1 (by assumption))) k3
      simp (maxDischargeDepth := 9) only [↓gB, gV, gT, reduceIte, reduceCtorEq, Nat.reduceEqDiff, Nat.reduceAdd, Nat.reduceSub, Nat.reduceLeDiff, Nat.reduceLT, Int.reduceEq, Nat.reduceMul, f8, f3, f7, c1, f6, h1, e1, q1_1, y1, h2, n2]
      have q1 : Go.IntKind.i64.wrap (↑i + 1) = ↑i + 1 := wrap_id (by omega)
      simp (maxDischargeDepth := 9) only [↓gB, gV, gT, reduceIte, reduceCtorEq, Nat.reduceEqDiff, Nat.reduceAdd, Nat.reduceSub, Nat.reduceLeDiff, Nat.reduceLT, Int.reduceEq, Nat.reduceMul, f8, f3, f7, c1, f6, h1, e1, q1_1, y1, h2, n2, q1]
      rw [N_lp]
      refine ⟨_, ?_, _, sub_refl _, i + 1, v3, rfl, ?_, ?_, ?_, ?_, by simp (maxDischargeDepth := 9) only [↓gB, gV, gT, reduceIte, reduceCtorEq, Nat.reduceEqDiff, Nat.reduceAdd, Nat.reduceSub, Nat.reduceLeDiff, Nat.reduceLT, Int.reduceEq, Nat.reduceMul, f8, f3, f7, c1, f6, h1, e1, q1_1, y1, h2, n2, q1, nat_succ, and_self]⟩
      · omega
      · omega
      · (rw [take_at m1]; exact w3; done)
      · assumption
      · assumption
  · simp (maxDischargeDepth := 9) only [↓gB, gV, gT, reduceIte, reduceCtorEq, Nat.reduceEqDiff, Nat.reduceAdd, Nat.reduceSub, Nat.reduceLeDiff, Nat.reduceLT, Int.reduceEq, Nat.reduceMul, f8, f3, f6, f7, c1]
    obtain ⟨G2, hs, hl, hr⟩ := hrow.fin hle
    rw [List.take_of_length_le (by omega)] at hr
    exact Kup_gives hs hl hr
end Go.Proofs.YtgkdbjnmlecimaaDoor
namespace Go.Proofs.YtgkdbjnmlecimaaDoor
open Go Go.GL
set_option maxRecDepth 10000
set_option maxHeartbeats 0
def swp {α : Type} (l : List α) (j : Nat) : List α := match l[j]?, l[j+1]? with
  | some x, some y => (l.set (j + 1) x).set j y
  | _, _ => l
def sink {α : Type} (cf : α → α → Int) : Nat → List α → List α
  | 0, l => l
  | j + 1, l => match l[j]?, l[j+1]? with
    | some x, some y => if cf y x < 0 then sink cf j (swp l j) else l
    | _, _ => l
def isortTo {α : Type} (cf : α → α → Int) (l : List α) : Nat → List α
  | 0 => l
  | i + 1 => sink cf i (isortTo cf l i)
def isort {α : Type} (cf : α → α → Int) (l : List α) : List α := isortTo cf l l.length
theorem swp_len {α : Type} (l : List α) (j : Nat) : (swp l j).length = l.length := by
  unfold swp; split <;> simp
theorem sink_len {α : Type} (cf : α → α → Int) : ∀ (j : Nat) (l : List α), (sink cf j l).length = l.length
  | 0, l => rfl
  | j + 1, l => by
    unfold sink; split
    · split
      · rw [sink_len cf j, swp_len]
      · rfl
    · rfl
theorem isortTo_len {α : Type} (cf : α → α → Int) (l : List α) : ∀ i, (isortTo cf l i).length = l.length
  | 0 => rfl
  | i + 1 => by unfold isortTo; rw [sink_len, isortTo_len cf l i]
theorem sink_step {α : Type} {cf : α → α → Int} {L : List α} {j : Nat} {x y : α} (hj : (0 : Int) < j) (hx : L[j]? = some x) (hy : L[j-1]? = some y) : sink cf j L = if cf x y < 0 then sink cf (j - 1) ((L.set j y).set (j - 1) x) else L := by
  cases j with
  | zero => omega
  | succ j =>
    simp only [Nat.add_sub_cancel] at hy
    simp [sink, hx, hy, swp]
theorem s146 {G0 G : GH} {v : Value} {xs : List Int} {n : Nat} {cf : Int → Int → Int} {g : Nat} (hrow : Row Rp.int 3 G0 G v xs) (hn : n = xs.length) (hb : xs.length ≤ 1000000000) (hg : GL.Enters Tryd.prog g) (hf : ∀ (G' : GH) x y, Pure Tryd.prog G' g [V x, V y] (V (cf x y))) :
    GCalls Tryd.prog 146 [v, V 0, V n, .func (.func g) #[] #[]].toArray G (fun u G' => u = .tuple #[] ∧ Row Rp.int 3 G0 G' v (isort cf xs) ∧ (∀ b o, G b = some o → notAt v b → G' b = some o) ∧ (G0.le G → G0.le G')) := by
  subst hn
  have hg' := eq_true hg
  obtain ⟨a, c, rfl⟩ := hrow.val
  refine enter Tryd.func146 53 #[] rfl Tryd.ntmps146 rfl (by decide +kernel) rfl ?_
  simp (maxDischargeDepth := 9) only [↓gB, gV, gT, reduceIte, reduceCtorEq, Nat.reduceEqDiff, Nat.reduceAdd, Nat.reduceSub, Nat.reduceLeDiff, Nat.reduceLT, Int.reduceEq, Nat.reduceMul]
  have q1 : Go.IntKind.i64.wrap (0 + 1) = 0 + 1 := wrap_id (by omega)
  simp (maxDischargeDepth := 9) only [↓gB, gV, gT, reduceIte, reduceCtorEq, Nat.reduceEqDiff, Nat.reduceAdd, Nat.reduceSub, Nat.reduceLeDiff, Nat.reduceLT, Int.reduceEq, Nat.reduceMul, q1]
  focus
    refine Xloop_intro _ _ _ _ _ (fun k f G' => ∃ (i : Nat), k = xs.length - i ∧ (1 ≤ i) ∧ (i ≤ xs.length ∨ i = 1) ∧ (Row Rp.int 3 G0 G' (.slice a xs.length c) (isortTo cf xs i)) ∧ (∀ b o, G b = some o → notAt (.slice a xs.length c) b → G' b = some o) ∧ (G0.le G → G0.le G') ∧ f 8 = V i ∧ f 0 = Go.Value.slice a xs.length c ∧ f 1 = Go.GL.V 0 ∧ f 2 = Go.GL.V ↑xs.length ∧ f 3 = Go.Value.func (Go.Fn.func g) #[] #[]) _ ⟨1, rfl, ?_, ?_, ?_, ?_, ?_, by simp (maxDischargeDepth := 9) only [↓gB, gV, gT, reduceIte, reduceCtorEq, Nat.reduceEqDiff, Nat.reduceAdd, Nat.reduceSub, Nat.reduceLeDiff, Nat.reduceLT, Int.reduceEq, Nat.reduceMul, q1, Int.zero_add, Int.natCast_one, and_self]⟩ ?_
    · omega
    · omega
    · assumption
    · exact fun _ _ h _ => h
    · exact id
    rintro k f G' ⟨i, rfl, hi, hi2, hrow, hk, hl, f8, f0, f1, f2, f3⟩
  simp (maxDischargeDepth := 9) only [↓gB, gV, gT, reduceIte, reduceCtorEq, Nat.reduceEqDiff, Nat.reduceAdd, Nat.reduceSub, Nat.reduceLeDiff, Nat.reduceLT, Int.reduceEq, Nat.reduceMul, q1, hk, f8, f0, f1, f2, f3]
  refine Xc_split _ _ _ _ _ (fun c1 => ?_) (fun c1 => ?_)
  · simp (maxDischargeDepth := 9) only [↓gB, gV, gT, reduceIte, reduceCtorEq, Nat.reduceEqDiff, Nat.reduceAdd, Nat.reduceSub, Nat.reduceLeDiff, Nat.reduceLT, Int.reduceEq, Nat.reduceMul, q1, hk, f8, f0, f1, f2, f3, c1]
    focus
      refine Xloop_intro _ _ _ _ _ (fun k f G' => ∃ (j : Nat) (L : List Int), k = j + 1 ∧ (j ≤ i) ∧ (L.length = xs.length) ∧ (sink cf j L = sink cf i (isortTo cf xs i)) ∧ (Row Rp.int 3 G0 G' (.slice a xs.length c) L) ∧ (∀ b o, G b = some o → notAt (.slice a xs.length c) b → G' b = some o) ∧ (G0.le G → G0.le G') ∧ f 9 = V j ∧ f 0 = Go.Value.slice a xs.length c ∧ f 1 = Go.GL.V 0 ∧ f 2 = Go.GL.V ↑xs.length ∧ f 3 = Go.Value.func (Go.Fn.func g) #[] #[] ∧ f 8 = Go.GL.V ↑i) _ ⟨i, isortTo cf xs i, rfl, ?_, ?_, ?_, ?_, ?_, ?_, by simp (maxDischargeDepth := 9) only [↓gB, gV, gT, reduceIte, reduceCtorEq, Nat.reduceEqDiff, Nat.reduceAdd, Nat.reduceSub, Nat.reduceLeDiff, Nat.reduceLT, Int.reduceEq, Nat.reduceMul, q1, hk, f8, f0, f1, f2, f3, c1, and_self]⟩ ?_
      · omega
      · (exact isortTo_len cf xs i; done)
      · rfl
      · assumption
      · assumption
      · assumption
      rintro k f G' ⟨j, L, rfl, hj, hL, h, hrow, hk, hl, f9, f0, f1, f2, f3, f8⟩
    by_cases c2 : (0 : Int) < j
    · simp (maxDischargeDepth := 9) only [↓gB, gV, gT, reduceIte, reduceCtorEq, Nat.reduceEqDiff, Nat.reduceAdd, Nat.reduceSub, Nat.reduceLeDiff, Nat.reduceLT, Int.reduceEq, Nat.reduceMul, q1, hk, f8, f0, f1, f2, f3, c1, hk, f9, f0, f1, f2, f3, f8, c2, hg']
      refine Xdraw_intro [0, 1, 2, 3, 4, 5, 6, 7, 8, 9, 10, 11, 12, 13, 14, 15, 16] mixed (by kernel_rfl) (by decide +kernel) ?_
      simp (maxDischargeDepth := 9) only [↓gB, gV, gT, reduceIte, reduceCtorEq, Nat.reduceEqDiff, Nat.reduceAdd, Nat.reduceSub, Nat.reduceLeDiff, Nat.reduceLT, Int.reduceEq, Nat.reduceMul, q1, hk, f8, f0, f1, f2, f3, c1, hk, f9, f0, f1, f2, f3, f8, c2, hg']
      obtain ⟨x1, a1, s1, m1, rfl, ⟨rfl, w1⟩, e1⟩ := hrow.at1 (j) (by omega) rfl
      simp (maxDischargeDepth := 9) only [↓gB, gV, gT, reduceIte, reduceCtorEq, Nat.reduceEqDiff, Nat.reduceAdd, Nat.reduceSub, Nat.reduceLeDiff, Nat.reduceLT, Int.reduceEq, Nat.reduceMul, q1, f8, f1, f2, f3, c1, f9, f1, f2, f3, f8, c2, hk, f0, hk, f0, e1, hg']
      refine vguard_intro (by omega) ?_
      have q2 : Go.IntKind.i64.wrap (↑j - 1) = ↑j - 1 := wrap_id (by omega)
      simp (maxDischargeDepth := 9) only [↓gB, gV, gT, reduceIte, reduceCtorEq, Nat.reduceEqDiff, Nat.reduceAdd, Nat.reduceSub, Nat.reduceLeDiff, Nat.reduceLT, Int.reduceEq, Nat.reduceMul, q1, f8, f1, f2, f3, c1, f9, f1, f2, f3, f8, c2, hk, f0, hk, f0, e1, q2, hg']
      refine vguard_intro (by omega) ?_
      obtain ⟨x2, s2, m2, ⟨rfl, w2⟩, e2⟩ := hrow.at1' (j - 1) (by omega) rfl
      simp (maxDischargeDepth := 9) only [↓gB, gV, gT, reduceIte, reduceCtorEq, Nat.reduceEqDiff, Nat.reduceAdd, Nat.reduceSub, Nat.reduceLeDiff, Nat.reduceLT, Int.reduceEq, Nat.reduceMul, q1, f8, f1, f2, f3, c1, f9, f1, f2, f3, f8, c2, hk, f0, hk, f0, e1, q2, e2, hg']
      refine Ycp (hf _ x1 x2) ?_
      by_cases c3 : cf x1 x2 < 0
      · have hjc : ((j - 1 : Nat) : Int) = (j : Int) - 1 := by omega
        focus
          simp (maxDischargeDepth := 9) only [↓gB, gV, gT, reduceIte, reduceCtorEq, Nat.reduceEqDiff, Nat.reduceAdd, Nat.reduceSub, Nat.reduceLeDiff, Nat.reduceLT, Int.reduceEq, Nat.reduceMul, q1, f8, f1, f2, f3, c1, f9, f1, f2, f3, f8, c2, hk, f0, hk, f0, e1, q2, e2, c3, hjc]
          refine Xdraw_intro [0, 1, 2, 3, 4, 5, 6, 7, 8, 9, 10, 11, 12, 13, 14, 15, 16, 17] mixed (by kernel_rfl) (by decide +kernel) ?_
          simp (maxDischargeDepth := 9) only [↓gB, gV, gT, reduceIte, reduceCtorEq, Nat.reduceEqDiff, Nat.reduceAdd, Nat.reduceSub, Nat.reduceLeDiff, Nat.reduceLT, Int.reduceEq, Nat.reduceMul, q1, f8, f1, f2, f3, c1, f9, f1, f2, f3, f8, c2, hk, f0, hk, f0, e1, q2, e2, c3, hjc]
          refine vguard_intro (by omega) ?_
          refine vguard_intro (by omega) ?_
          refine vguard_intro (by omega) ?_
          refine Yrow1 hrow rfl (by first | omega | (simp only [List.length_set]; omega)) (fun _ _ => ⟨rfl, (by first | assumption | (unfold i64 at *; omega))⟩) fun G3 w3 i3 k3 kn3 l3 => ?_
          simp (maxDischargeDepth := 9) only [↓gB, gV, gT, reduceIte, reduceCtorEq, Nat.reduceEqDiff, Nat.reduceAdd, Nat.reduceSub, Nat.reduceLeDiff, Nat.reduceLT, Int.reduceEq, Nat.reduceMul, q1, f8, f1, f2, f3, c1, f9, f1, f2, f3, f8, c2, hk, f0, hk, f0, e1, q2, e2, c3, kn3, hjc]
          refine vguard_intro (by omega) ?_
          refine Yrow1 w3 rfl (by first | omega | (simp only [List.length_set]; omega)) (fun _ _ => ⟨rfl, (by first | assumption | (unfold i64 at *; omega))⟩) fun G4 w4 i4 k4 kn4 l4 => ?_
          simp (maxDischargeDepth := 9) only [↓gB, gV, gT, reduceIte, reduceCtorEq, Nat.reduceEqDiff, Nat.reduceAdd, Nat.reduceSub, Nat.reduceLeDiff, Nat.reduceLT, Int.reduceEq, Nat.reduceMul, q1, f8, f1, f2, f3, c1, f9, f1, f2, f3, f8, c2, hk, f0, hk, f0, e1, q2, e2, c3, kn3, kn4, hjc]
          rw [N_lp]
          refine ⟨_, ?_, _, sub_refl _, j - 1, (L.set j x2).set (j - 1) x1, rfl, ?_, ?_, ?_, ?_, ?_, ?_, by simp (maxDischargeDepth := 9) only [↓gB, gV, gT, reduceIte, reduceCtorEq, Nat.reduceEqDiff, Nat.reduceAdd, Nat.reduceSub, Nat.reduceLeDiff, Nat.reduceLT, Int.reduceEq, Nat.reduceMul, q1, f8, f1, f2, f3, c1, f9, f1, f2, f3, f8, c2, hk, f0, hk, f0, e1, q2, e2, c3, kn3, kn4, hjc, nat_succ, and_self]⟩
          · omega
          · omega
          · (simp [hL]; done)
          · ((rw [← h, sink_step c2 m1 m2, if_pos c3]); done)
          · assumption
          · (exact fun b o q1 q2 => k4 b o (k3 b o (hk b o q1 q2) q2) q2; done)
          · (exact fun q => l4 (l3 (hl q)); done)
      · have e : isortTo cf xs (i + 1) = L := by
          show sink cf i (isortTo cf xs i) = L
          rw [← h, sink_step c2 m1 m2, if_neg c3]
        focus
          simp (maxDischargeDepth := 9) only [↓gB, gV, gT, reduceIte, reduceCtorEq, Nat.reduceEqDiff, Nat.reduceAdd, Nat.reduceSub, Nat.reduceLeDiff, Nat.reduceLT, Int.reduceEq, Nat.reduceMul, q1, f8, f1, f2, f3, c1, f9, f1, f2, f3, f8, c2, hk, f0, hk, f0, e1, q2, e2, c3]
          have q3 : Go.IntKind.i64.wrap (↑i + 1) = ↑i + 1 := wrap_id (by omega)
          simp (maxDischargeDepth := 9) only [↓gB, gV, gT, reduceIte, reduceCtorEq, Nat.reduceEqDiff, Nat.reduceAdd, Nat.reduceSub, Nat.reduceLeDiff, Nat.reduceLT, Int.reduceEq, Nat.reduceMul, q1, f8, f1, f2, f3, c1, f9, f1, f2, f3, f8, c2, hk, f0, hk, f0, e1, q2, e2, c3, q3]
          rw [N_lp]
          refine ⟨_, ?_, _, sub_refl _, i + 1, rfl, ?_, ?_, ?_, ?_, ?_, by simp (maxDischargeDepth := 9) only [↓gB, gV, gT, reduceIte, reduceCtorEq, Nat.reduceEqDiff, Nat.reduceAdd, Nat.reduceSub, Nat.reduceLeDiff, Nat.reduceLT, Int.reduceEq, Nat.reduceMul, q1, f8, f1, f2, f3, c1, f9, f1, f2, f3, f8, c2, hk, f0, hk, f0, e1, q2, e2, c3, q3, nat_succ, and_self]⟩
          · omega
          · omega
          · omega
          · (rw [e]; exact hrow; done)
          · assumption
          · assumption
    · have e : isortTo cf xs (i + 1) = L := by
        have : j = 0 := by omega
        subst this
        exact h.symm
      focus
        simp (maxDischargeDepth := 9) only [↓gB, gV, gT, reduceIte, reduceCtorEq, Nat.reduceEqDiff, Nat.reduceAdd, Nat.reduceSub, Nat.reduceLeDiff, Nat.reduceLT, Int.reduceEq, Nat.reduceMul, q1, hk, f8, f0, f1, f2, f3, c1, hk, f9, f0, f1, f2, f3, f8, c2]
        refine Xdraw_intro [0, 1, 2, 3, 4, 5, 6, 7, 8, 9, 10, 11, 12, 13, 14, 15, 16] mixed (by kernel_rfl) (by decide +kernel) ?_
        simp (maxDischargeDepth := 9) only [↓gB, gV, gT, reduceIte, reduceCtorEq, Nat.reduceEqDiff, Nat.reduceAdd, Nat.reduceSub, Nat.reduceLeDiff, Nat.reduceLT, Int.reduceEq, Nat.reduceMul, q1, hk, f8, f0, f1, f2, f3, c1, hk, f9, f0, f1, f2, f3, f8, c2]
        have q2 : Go.IntKind.i64.wrap (↑i + 1) = ↑i + 1 := wrap_id (by omega)
        simp (maxDischargeDepth := 9) only [↓gB, gV, gT, reduceIte, reduceCtorEq, Nat.reduceEqDiff, Nat.reduceAdd, Nat.reduceSub, Nat.reduceLeDiff, Nat.reduceLT, Int.reduceEq, Nat.reduceMul, q1, hk, f8, f0, f1, f2, f3, c1, hk, f9, f0, f1, f2, f3, f8, c2, q2]
        rw [N_lp]
        refine ⟨_, ?_, _, sub_refl _, i + 1, rfl, ?_, ?_, ?_, ?_, ?_, by simp (maxDischargeDepth := 9) only [↓gB, gV, gT, reduceIte, reduceCtorEq, Nat.reduceEqDiff, Nat.reduceAdd, Nat.reduceSub, Nat.reduceLeDiff, Nat.reduceLT, Int.reduceEq, Nat.reduceMul, q1, hk, f8, f0, f1, f2, f3, c1, hk, f9, f0, f1, f2, f3, f8, c2, q2, nat_succ, and_self]⟩
        · omega
        · omega
        · omega
        · (rw [e]; exact hrow; done)
        · assumption
        · assumption
  · have e : isortTo cf xs i = isort cf xs := by
      rcases hi2 with h | h
      · have : i = xs.length := by omega
        rw [this]; rfl
      · subst h
        have : xs.length = 0 ∨ xs.length = 1 := by omega
        unfold isort
        rcases this with h | h <;> rw [h] <;> rfl
    simp (maxDischargeDepth := 9) only [↓gB, gV, gT, reduceIte, reduceCtorEq, Nat.reduceEqDiff, Nat.reduceAdd, Nat.reduceSub, Nat.reduceLeDiff, Nat.reduceLT, Int.reduceEq, Nat.reduceMul, q1, hk, f8, f0, f1, f2, f3, c1]
    exact Kup_same ⟨rfl, e ▸ hrow, hk, hl⟩
theorem s112 {G0 G : GH} {v : Value} {xs : List Int} {n : Nat} {cf : Int → Int → Int} {g : Nat} (hrow : Row Rp.int 3 G0 G v xs) (hn : n = xs.length) (hb : xs.length < 20) (hg : GL.Enters Tryd.prog g) (hf : ∀ (G' : GH) x y, Pure Tryd.prog G' g [V x, V y] (V (cf x y))) :
    GCalls Tryd.prog 112 [v, V n, .func (.func g) #[] #[]].toArray G (fun u G' => u = .tuple #[] ∧ Row Rp.int 3 G0 G' v (isort cf xs) ∧ (∀ b o, G b = some o → notAt v b → G' b = some o) ∧ (G0.le G → G0.le G')) := by
  have hn20 : ¬ (20 : Int) ≤ n := by omega
  have hn21 : ¬ (20 : Int) < n := by omega
  refine enter Tryd.func112 63 #[] rfl Tryd.ntmps112 rfl (by decide +kernel) rfl ?_
  simp (maxDischargeDepth := 9) only [↓gB, gV, gT, reduceIte, reduceCtorEq, Nat.reduceEqDiff, Nat.reduceAdd, Nat.reduceSub, Nat.reduceLeDiff, Nat.reduceLT, Int.reduceEq, Nat.reduceMul]
  refine Xloop_intro _ _ _ _ _ (fun k f G' => k = 0 ∧ (G = G') ∧ f 7 = V 0 ∧ f 8 = V 20 ∧ f 6 = V 20 ∧ f 0 = v ∧ f 1 = Go.GL.V ↑n ∧ f 2 = Go.Value.func (Go.Fn.func g) #[] #[]) _ ⟨rfl, rfl, by simp (maxDischargeDepth := 9) only [↓gB, gV, gT, reduceIte, reduceCtorEq, Nat.reduceEqDiff, Nat.reduceAdd, Nat.reduceSub, Nat.reduceLeDiff, Nat.reduceLT, Int.reduceEq, Nat.reduceMul, and_self]⟩ ?_
  rintro k f G' ⟨rfl, rfl, f7, f8, f6, f0, f1, f2⟩
  simp (maxDischargeDepth := 9) only [↓gB, gV, gT, reduceIte, reduceCtorEq, Nat.reduceEqDiff, Nat.reduceAdd, Nat.reduceSub, Nat.reduceLeDiff, Nat.reduceLT, Int.reduceEq, Nat.reduceMul, f7, f8, f6, f0, f1, f2]
  refine Xc_neg _ _ _ _ _ (by omega) ?_
  simp (maxDischargeDepth := 9) only [↓gB, gV, gT, reduceIte, reduceCtorEq, Nat.reduceEqDiff, Nat.reduceAdd, Nat.reduceSub, Nat.reduceLeDiff, Nat.reduceLT, Int.reduceEq, Nat.reduceMul, f7, f8, f6, f0, f1, f2]
  refine Ycall_intro (md := none) (s146 hrow hn (by omega) hg hf) ?_
  rintro u G1 ⟨rfl, hrow, hk, hl⟩
  simp (maxDischargeDepth := 9) only [↓gB, gV, gT, reduceIte, reduceCtorEq, Nat.reduceEqDiff, Nat.reduceAdd, Nat.reduceSub, Nat.reduceLeDiff, Nat.reduceLT, Int.reduceEq, Nat.reduceMul, f7, f8, f6, f0, f1, f2, hk]
  refine Xloop_intro _ _ _ _ _ (fun k f G' => k = 0 ∧ (G1 = G') ∧ f 6 = V 20 ∧ f 0 = v ∧ f 1 = Go.GL.V ↑n ∧ f 2 = Go.Value.func (Go.Fn.func g) #[] #[]) _ ⟨rfl, rfl, by simp (maxDischargeDepth := 9) only [↓gB, gV, gT, reduceIte, reduceCtorEq, Nat.reduceEqDiff, Nat.reduceAdd, Nat.reduceSub, Nat.reduceLeDiff, Nat.reduceLT, Int.reduceEq, Nat.reduceMul, f7, f8, f6, f0, f1, f2, hk, and_self]⟩ ?_
  rintro k f G' ⟨rfl, rfl, f6, f0, f1, f2⟩
  simp (maxDischargeDepth := 9) only [↓gB, gV, gT, reduceIte, reduceCtorEq, Nat.reduceEqDiff, Nat.reduceAdd, Nat.reduceSub, Nat.reduceLeDiff, Nat.reduceLT, Int.reduceEq, Nat.reduceMul, f7, f8, f6, f0, f1, f2, hk, f6, f0, f1, f2]
  refine Xc_neg _ _ _ _ _ (by omega) ?_
  simp (maxDischargeDepth := 9) only [↓gB, gV, gT, reduceIte, reduceCtorEq, Nat.reduceEqDiff, Nat.reduceAdd, Nat.reduceSub, Nat.reduceLeDiff, Nat.reduceLT, Int.reduceEq, Nat.reduceMul, f7, f8, f6, f0, f1, f2, hk, f6, f0, f1, f2]
  exact Kup_same ⟨rfl, hrow, hk, hl⟩
theorem s62 {G0 G : GH} {v : Value} {xs : List Int} {cf : Int → Int → Int} {g : Nat} (hrow : Row Rp.int 3 G0 G v xs) (hb : xs.length < 20) (hg : GL.Enters Tryd.prog g) (hf : ∀ (G' : GH) x y, Pure Tryd.prog G' g [V x, V y] (V (cf x y))) :
    GCalls Tryd.prog 62 [v, .func (.func g) #[] #[]].toArray G (fun u G' => u = .tuple #[] ∧ Row Rp.int 3 G0 G' v (isort cf xs) ∧ (∀ b o, G b = some o → notAt v b → G' b = some o) ∧ (G0.le G → G0.le G')) := by
  obtain ⟨a, c, rfl⟩ := hrow.val
  refine enter Tryd.func62 9 #[] rfl Tryd.ntmps62 rfl (by decide +kernel) rfl ?_
  simp (maxDischargeDepth := 9) only [↓gB, gV, gT, reduceIte, reduceCtorEq, Nat.reduceEqDiff, Nat.reduceAdd, Nat.reduceSub, Nat.reduceLeDiff, Nat.reduceLT, Int.reduceEq, Nat.reduceMul]
  refine Ycall_intro (md := none) (s112 hrow rfl hb hg hf) ?_
  rintro u G1 ⟨rfl, hrow, hk, hl⟩
  simp (maxDischargeDepth := 9) only [↓gB, gV, gT, reduceIte, reduceCtorEq, Nat.reduceEqDiff, Nat.reduceAdd, Nat.reduceSub, Nat.reduceLeDiff, Nat.reduceLT, Int.reduceEq, Nat.reduceMul, hk]
  exact Kup_same ⟨rfl, hrow, hk, hl⟩
end Go.Proofs.YtgkdbjnmlecimaaDoor
namespace Go.Proofs.YtgkdbjnmlecimaaDoor
open Go Go.GL
set_option maxRecDepth 10000
set_option maxHeartbeats 0
theorem p137 {G0 : GH} {x y : Int} (hx : 0 ≤ x) (hx2 : x ≤ 1000000000) (hy : 0 ≤ y) (hy2 : y ≤ 1000000000) : Pure Tryd.prog G0 137 [.int .u64 x, .int .u64 y] (.tuple #[.int .u64 0, .int .u64 (x * y)]) := by
  obtain ⟨m, rfl⟩ := Int.eq_ofNat_of_zero_le hx
  obtain ⟨n, rfl⟩ := Int.eq_ofNat_of_zero_le hy
  have hb : m * n ≤ 1000000000 * 1000000000 := Nat.mul_le_mul (by omega) (by omega)
  refine pure_of_calls G0 (fun w => Calls.mono (Any.bits_Mul64 Tryd.layMul m n (by omega) (by omega) w) ?_)
  rintro e w' ⟨rfl, rfl⟩
  rw [Nat.div_eq_of_lt (by omega), Nat.mod_eq_of_lt (by omega)]
  exact ⟨by simp, rfl⟩
theorem u64_id {x : Int} (h0 : 0 ≤ x) (h1 : x ≤ 9223372036854775807) : IntKind.u64.wrap x = x := by rw [IntKind.wrap_u64]; omega
theorem p138 {G0 : GH} {l y : Int} (hl : 0 ≤ l) (hl2 : l ≤ 1000000000000000000) (hy : 0 < y) : Pure Tryd.prog G0 138 [.int .u64 0, .int .u64 l, .int .u64 y] (.tuple #[.int .u64 (l / y), .int .u64 (l % y)]) := by
  intro G hG
  clear hG G0
  refine enter Tryd.func138 135 #[.tmp 6, .tmp 7] rfl Tryd.ntmps138 rfl (by decide +kernel) rfl ?_
  have hd : l.tdiv y = l / y := Int.tdiv_eq_ediv_of_nonneg hl
  have hm : l.tmod y = l % y := Int.tmod_eq_emod_of_nonneg hl
  have hq0 : 0 ≤ l / y := Int.ediv_nonneg hl (by omega)
  have hq1 : l / y ≤ l := Int.ediv_le_self y hl
  have hw : IntKind.u64.wrap (l / y) = l / y := u64_id hq0 (by omega)
  have c1 : ¬ y = 0 := by omega
  have c2 : ¬ y ≤ 0 := by omega
  simp (maxDischargeDepth := 9) only [↓gB, gV, gT, reduceIte, reduceCtorEq, Nat.reduceEqDiff, Nat.reduceAdd, Nat.reduceSub, Nat.reduceLeDiff, Nat.reduceLT, Int.reduceEq, Nat.reduceMul, hd, hm, hw, c1, c2]
  refine Xdraw_intro [0, 1, 2, 3, 4, 5, 6, 7] mixed (by kernel_rfl) (by decide +kernel) ?_
  simp (maxDischargeDepth := 9) only [↓gB, gV, gT, reduceIte, reduceCtorEq, Nat.reduceEqDiff, Nat.reduceAdd, Nat.reduceSub, Nat.reduceLeDiff, Nat.reduceLT, Int.reduceEq, Nat.reduceMul, hd, hm, hw, c1, c2]
  exact Kup_val (le_refl _) rfl
theorem p173 {G0 : GH} {a : Int}  : Pure Tryd.prog G0 173 [.int .u64 a] (.bool false) := by
  intro G hG
  clear hG G0
  refine enter Tryd.func173 6 #[.tmp 2] rfl Tryd.ntmps173 rfl (by decide +kernel) rfl ?_
  simp (maxDischargeDepth := 9) only [↓gB, gV, gT, reduceIte, reduceCtorEq, Nat.reduceEqDiff, Nat.reduceAdd, Nat.reduceSub, Nat.reduceLeDiff, Nat.reduceLT, Int.reduceEq, Nat.reduceMul]
  exact Kup_val (le_refl _) rfl
theorem p141 {G0 : GH} {a b : Int}  : Pure Tryd.prog G0 141 [.int .u64 a, .int .u64 b] (V (cmp3 a b)) := by
  intro G hG
  clear hG G0
  refine enter Tryd.func141 20 #[.tmp 4] rfl Tryd.ntmps141 rfl (by decide +kernel) rfl ?_
  focus
    simp (maxDischargeDepth := 9) only [↓gB, gV, gT, reduceIte, reduceCtorEq, Nat.reduceEqDiff, Nat.reduceAdd, Nat.reduceSub, Nat.reduceLeDiff, Nat.reduceLT, Int.reduceEq, Nat.reduceMul, cmp3]
    refine Ycp (p173) ?_
    simp (maxDischargeDepth := 9) only [↓gB, gV, gT, reduceIte, reduceCtorEq, Nat.reduceEqDiff, Nat.reduceAdd, Nat.reduceSub, Nat.reduceLeDiff, Nat.reduceLT, Int.reduceEq, Nat.reduceMul, cmp3]
    refine Ycp (p173) ?_
    simp (maxDischargeDepth := 9) only [↓gB, gV, gT, reduceIte, reduceCtorEq, Nat.reduceEqDiff, Nat.reduceAdd, Nat.reduceSub, Nat.reduceLeDiff, Nat.reduceLT, Int.reduceEq, Nat.reduceMul, cmp3]
    refine Xc_split _ _ _ _ _ (fun c1 => ?_) (fun c1 => ?_)
    rotate_left 1
    focus
      simp (maxDischargeDepth := 9) only [↓gB, gV, gT, reduceIte, reduceCtorEq, Nat.reduceEqDiff, Nat.reduceAdd, Nat.reduceSub, Nat.reduceLeDiff, Nat.reduceLT, Int.reduceEq, Nat.reduceMul, c1, cmp3]
      refine Xc_split _ _ _ _ _ (fun c2 => ?_) (fun c2 => ?_)
      rotate_left 1
      focus
        simp (maxDischargeDepth := 9) only [↓gB, gV, gT, reduceIte, reduceCtorEq, Nat.reduceEqDiff, Nat.reduceAdd, Nat.reduceSub, Nat.reduceLeDiff, Nat.reduceLT, Int.reduceEq, Nat.reduceMul, c1, c2, cmp3]
        exact Kup_val (le_refl _) rfl
      rotate_right 1
      simp (maxDischargeDepth := 9) only [↓gB, gV, gT, reduceIte, reduceCtorEq, Nat.reduceEqDiff, Nat.reduceAdd, Nat.reduceSub, Nat.reduceLeDiff, Nat.reduceLT, Int.reduceEq, Nat.reduceMul, c1, c2, cmp3]
      exact Kup_val (le_refl _) rfl
    rotate_right 1
    simp (maxDischargeDepth := 9) only [↓gB, gV, gT, reduceIte, reduceCtorEq, Nat.reduceEqDiff, Nat.reduceAdd, Nat.reduceSub, Nat.reduceLeDiff, Nat.reduceLT, Int.reduceEq, Nat.reduceMul, c1, cmp3]
    exact Kup_val (le_refl _) rfl
theorem p140 {G0 : GH} {a b c d : Int}  : Pure Tryd.prog G0 140 [.agg #[V a, .int .u64 b], .agg #[V c, .int .u64 d]] (V (cmp3 d b)) := by
  intro G hG
  clear hG G0
  refine enter Tryd.func140 10 #[.tmp 4] rfl Tryd.ntmps140 rfl (by decide +kernel) rfl ?_
  simp (maxDischargeDepth := 9) only [↓gB, gV, gT, reduceIte, reduceCtorEq, Nat.reduceEqDiff, Nat.reduceAdd, Nat.reduceSub, Nat.reduceLeDiff, Nat.reduceLT, Int.reduceEq, Nat.reduceMul]
  refine Yn2 fun r1 h1 => ?_
  simp (maxDischargeDepth := 9) only [↓gB, gV, gT, reduceIte, reduceCtorEq, Nat.reduceEqDiff, Nat.reduceAdd, Nat.reduceSub, Nat.reduceLeDiff, Nat.reduceLT, Int.reduceEq, Nat.reduceMul, h1]
  refine Yn2 fun r2 h2 => ?_
  have n2 := h2
  simp only [put_none_eq, ne_eq] at n2
  simp (maxDischargeDepth := 9) only [↓gB, gV, gT, reduceIte, reduceCtorEq, Nat.reduceEqDiff, Nat.reduceAdd, Nat.reduceSub, Nat.reduceLeDiff, Nat.reduceLT, Int.reduceEq, Nat.reduceMul, h1, h2, n2]
  refine Ycp (p141) ?_
  simp (maxDischargeDepth := 9) only [↓gB, gV, gT, reduceIte, reduceCtorEq, Nat.reduceEqDiff, Nat.reduceAdd, Nat.reduceSub, Nat.reduceLeDiff, Nat.reduceLT, Int.reduceEq, Nat.reduceMul, h1, h2, n2]
  exact Kup_val (by simp (maxDischargeDepth := 9) only [le_self, le_puts, le_put0, h1, h2, n2]) rfl
structure SRest where
  i : Int
  left : Int
deriving DecidableEq
def rRest : Rp SRest where
  sz := 2
  R G x cs := cs = [.int .i64 x.i, .int .u64 x.left]
  len := by rintro G x cs rfl; rfl
  ile := by rintro G G' x cs hl hv; exact hv
  one := by rintro G x cs rfl; rfl
def cfR (x y : SRest) : Int := cmp3 y.left x.left
end Go.Proofs.YtgkdbjnmlecimaaDoor
namespace Go.Proofs.YtgkdbjnmlecimaaDoor
open Go Go.GL
set_option maxRecDepth 10000
set_option maxHeartbeats 0
theorem s189 {G0 G : GH} {v : Value} {xs : List SRest} {n : Nat} {cf : SRest → SRest → Int} {g : Nat} (hrow : Row rRest 178 G0 G v xs) (hn : n = xs.length) (hb : xs.length ≤ 1000000000) (hg : GL.Enters Tryd.prog g) (hf : ∀ (G' : GH) x y, Pure Tryd.prog G' g [.agg #[V x.i, .int .u64 x.left], .agg #[V y.i, .int .u64 y.left]] (V (cf x y))) :
    GCalls Tryd.prog 189 [v, V 0, V n, .func (.func g) #[] #[]].toArray G (fun u G' => u = .tuple #[] ∧ Row rRest 178 G0 G' v (isort cf xs) ∧ (∀ b o, G b = some o → notAt v b → G' b = some o) ∧ (G0.le G → G0.le G')) := by
  subst hn
  have hg' := eq_true hg
  obtain ⟨a, c, rfl⟩ := hrow.val
  refine enter Tryd.func189 53 #[] rfl Tryd.ntmps189 rfl (by decide +kernel) rfl ?_
  simp (maxDischargeDepth := 9) only [↓gB, gV, gT, reduceIte, reduceCtorEq, Nat.reduceEqDiff, Nat.reduceAdd, Nat.reduceSub, Nat.reduceLeDiff, Nat.reduceLT, Int.reduceEq, Nat.reduceMul]
  have q1 : Go.IntKind.i64.wrap (0 + 1) = 0 + 1 := wrap_id (by omega)
  simp (maxDischargeDepth := 9) only [↓gB, gV, gT, reduceIte, reduceCtorEq, Nat.reduceEqDiff, Nat.reduceAdd, Nat.reduceSub, Nat.reduceLeDiff, Nat.reduceLT, Int.reduceEq, Nat.reduceMul, q1]
  focus
    refine Xloop_intro _ _ _ _ _ (fun k f G' => ∃ (i : Nat), k = xs.length - i ∧ (1 ≤ i) ∧ (i ≤ xs.length ∨ i = 1) ∧ (Row rRest 178 G0 G' (.slice a xs.length c) (isortTo cf xs i)) ∧ (∀ b o, G b = some o → notAt (.slice a xs.length c) b → G' b = some o) ∧ (G0.le G → G0.le G') ∧ f 8 = V i ∧ f 0 = Go.Value.slice a xs.length c ∧ f 1 = Go.GL.V 0 ∧ f 2 = Go.GL.V ↑xs.length ∧ f 3 = Go.Value.func (Go.Fn.func g) #[] #[]) _ ⟨1, rfl, ?_, ?_, ?_, ?_, ?_, by simp (maxDischargeDepth := 9) only [↓gB, gV, gT, reduceIte, reduceCtorEq, Nat.reduceEqDiff, Nat.reduceAdd, Nat.reduceSub, Nat.reduceLeDiff, Nat.reduceLT, Int.reduceEq, Nat.reduceMul, q1, Int.zero_add, Int.natCast_one, and_self]⟩ ?_
    · omega
    · omega
    · assumption
    · exact fun _ _ h _ => h
    · exact id
    rintro k f G' ⟨i, rfl, hi, hi2, hrow, hk, hl, f8, f0, f1, f2, f3⟩
  simp (maxDischargeDepth := 9) only [↓gB, gV, gT, reduceIte, reduceCtorEq, Nat.reduceEqDiff, Nat.reduceAdd, Nat.reduceSub, Nat.reduceLeDiff, Nat.reduceLT, Int.reduceEq, Nat.reduceMul, q1, hk, f8, f0, f1, f2, f3]
  refine Xc_split _ _ _ _ _ (fun c1 => ?_) (fun c1 => ?_)
  · simp (maxDischargeDepth := 9) only [↓gB, gV, gT, reduceIte, reduceCtorEq, Nat.reduceEqDiff, Nat.reduceAdd, Nat.reduceSub, Nat.reduceLeDiff, Nat.reduceLT, Int.reduceEq, Nat.reduceMul, q1, hk, f8, f0, f1, f2, f3, c1]
    focus
      refine Xloop_intro _ _ _ _ _ (fun k f G' => ∃ (j : Nat) (L : List SRest), k = j + 1 ∧ (j ≤ i) ∧ (L.length = xs.length) ∧ (sink cf j L = sink cf i (isortTo cf xs i)) ∧ (Row rRest 178 G0 G' (.slice a xs.length c) L) ∧ (∀ b o, G b = some o → notAt (.slice a xs.length c) b → G' b = some o) ∧ (G0.le G → G0.le G') ∧ f 9 = V j ∧ f 0 = Go.Value.slice a xs.length c ∧ f 1 = Go.GL.V 0 ∧ f 2 = Go.GL.V ↑xs.length ∧ f 3 = Go.Value.func (Go.Fn.func g) #[] #[] ∧ f 8 = Go.GL.V ↑i) _ ⟨i, isortTo cf xs i, rfl, ?_, ?_, ?_, ?_, ?_, ?_, by simp (maxDischargeDepth := 9) only [↓gB, gV, gT, reduceIte, reduceCtorEq, Nat.reduceEqDiff, Nat.reduceAdd, Nat.reduceSub, Nat.reduceLeDiff, Nat.reduceLT, Int.reduceEq, Nat.reduceMul, q1, hk, f8, f0, f1, f2, f3, c1, and_self]⟩ ?_
      · omega
      · (exact isortTo_len cf xs i; done)
      · rfl
      · assumption
      · assumption
      · assumption
      rintro k f G' ⟨j, L, rfl, hj, hL, h, hrow, hk, hl, f9, f0, f1, f2, f3, f8⟩
    by_cases c2 : (0 : Int) < j
    · simp (maxDischargeDepth := 9) only [↓gB, gV, gT, reduceIte, reduceCtorEq, Nat.reduceEqDiff, Nat.reduceAdd, Nat.reduceSub, Nat.reduceLeDiff, Nat.reduceLT, Int.reduceEq, Nat.reduceMul, q1, hk, f8, f0, f1, f2, f3, c1, hk, f9, f0, f1, f2, f3, f8, c2, hg']
      refine Xdraw_intro [0, 1, 2, 3, 4, 5, 6, 7, 8, 9, 10, 11, 12, 13, 14, 15, 16] mixed (by kernel_rfl) (by decide +kernel) ?_
      simp (maxDischargeDepth := 9) only [↓gB, gV, gT, reduceIte, reduceCtorEq, Nat.reduceEqDiff, Nat.reduceAdd, Nat.reduceSub, Nat.reduceLeDiff, Nat.reduceLT, Int.reduceEq, Nat.reduceMul, q1, hk, f8, f0, f1, f2, f3, c1, hk, f9, f0, f1, f2, f3, f8, c2, hg']
      obtain ⟨x1, a1, s1, m1, rfl, rfl, e1⟩ := hrow.at (j) (by omega) 2 rfl
      simp (maxDischargeDepth := 9) only [↓gB, gV, gT, reduceIte, reduceCtorEq, Nat.reduceEqDiff, Nat.reduceAdd, Nat.reduceSub, Nat.reduceLeDiff, Nat.reduceLT, Int.reduceEq, Nat.reduceMul, q1, f8, f1, f2, f3, c1, f9, f1, f2, f3, f8, c2, hk, f0, hk, f0, e1, hg']
      refine vguard_intro (by omega) ?_
      have q2 : Go.IntKind.i64.wrap (↑j - 1) = ↑j - 1 := wrap_id (by omega)
      simp (maxDischargeDepth := 9) only [↓gB, gV, gT, reduceIte, reduceCtorEq, Nat.reduceEqDiff, Nat.reduceAdd, Nat.reduceSub, Nat.reduceLeDiff, Nat.reduceLT, Int.reduceEq, Nat.reduceMul, q1, f8, f1, f2, f3, c1, f9, f1, f2, f3, f8, c2, hk, f0, hk, f0, e1, q2, hg']
      refine vguard_intro (by omega) ?_
      obtain ⟨x2, s2, m2, rfl, e2⟩ := hrow.at' (j - 1) (by omega) 2 rfl
      simp (maxDischargeDepth := 9) only [↓gB, gV, gT, reduceIte, reduceCtorEq, Nat.reduceEqDiff, Nat.reduceAdd, Nat.reduceSub, Nat.reduceLeDiff, Nat.reduceLT, Int.reduceEq, Nat.reduceMul, q1, f8, f1, f2, f3, c1, f9, f1, f2, f3, f8, c2, hk, f0, hk, f0, e1, q2, e2, hg']
      refine Ycp (hf _ x1 x2) ?_
      by_cases c3 : cf x1 x2 < 0
      · have hjc : ((j - 1 : Nat) : Int) = (j : Int) - 1 := by omega
        focus
          simp (maxDischargeDepth := 9) only [↓gB, gV, gT, reduceIte, reduceCtorEq, Nat.reduceEqDiff, Nat.reduceAdd, Nat.reduceSub, Nat.reduceLeDiff, Nat.reduceLT, Int.reduceEq, Nat.reduceMul, q1, f8, f1, f2, f3, c1, f9, f1, f2, f3, f8, c2, hk, f0, hk, f0, e1, q2, e2, c3, hjc]
          refine Xdraw_intro [0, 1, 2, 3, 4, 5, 6, 7, 8, 9, 10, 11, 12, 13, 14, 15, 16, 17] mixed (by kernel_rfl) (by decide +kernel) ?_
          simp (maxDischargeDepth := 9) only [↓gB, gV, gT, reduceIte, reduceCtorEq, Nat.reduceEqDiff, Nat.reduceAdd, Nat.reduceSub, Nat.reduceLeDiff, Nat.reduceLT, Int.reduceEq, Nat.reduceMul, q1, f8, f1, f2, f3, c1, f9, f1, f2, f3, f8, c2, hk, f0, hk, f0, e1, q2, e2, c3, hjc]
          refine vguard_intro (by omega) ?_
          refine vguard_intro (by omega) ?_
          refine vguard_intro (by omega) ?_
          refine Yrow hrow rfl (by first | omega | (simp only [List.length_set]; omega)) rfl (fun _ _ => rfl) fun G1 w1 i1 k1 kn1 l1 => ?_
          simp (maxDischargeDepth := 9) only [↓gB, gV, gT, reduceIte, reduceCtorEq, Nat.reduceEqDiff, Nat.reduceAdd, Nat.reduceSub, Nat.reduceLeDiff, Nat.reduceLT, Int.reduceEq, Nat.reduceMul, q1, f8, f1, f2, f3, c1, f9, f1, f2, f3, f8, c2, hk, f0, hk, f0, e1, q2, e2, c3, kn1, hjc]
          refine vguard_intro (by omega) ?_
          refine Yrow w1 rfl (by first | omega | (simp only [List.length_set]; omega)) rfl (fun _ _ => rfl) fun G2 w2 i2 k2 kn2 l2 => ?_
          simp (maxDischargeDepth := 9) only [↓gB, gV, gT, reduceIte, reduceCtorEq, Nat.reduceEqDiff, Nat.reduceAdd, Nat.reduceSub, Nat.reduceLeDiff, Nat.reduceLT, Int.reduceEq, Nat.reduceMul, q1, f8, f1, f2, f3, c1, f9, f1, f2, f3, f8, c2, hk, f0, hk, f0, e1, q2, e2, c3, kn1, kn2, hjc]
          rw [N_lp]
          refine ⟨_, ?_, _, sub_refl _, j - 1, (L.set j x2).set (j - 1) x1, rfl, ?_, ?_, ?_, ?_, ?_, ?_, by simp (maxDischargeDepth := 9) only [↓gB, gV, gT, reduceIte, reduceCtorEq, Nat.reduceEqDiff, Nat.reduceAdd, Nat.reduceSub, Nat.reduceLeDiff, Nat.reduceLT, Int.reduceEq, Nat.reduceMul, q1, f8, f1, f2, f3, c1, f9, f1, f2, f3, f8, c2, hk, f0, hk, f0, e1, q2, e2, c3, kn1, kn2, hjc, nat_succ, and_self]⟩
          · omega
          · omega
          · (simp [hL]; done)
          · ((rw [← h, sink_step c2 m1 m2, if_pos c3]); done)
          · assumption
          · (exact fun b o q1 q2 => k2 b o (k1 b o (hk b o q1 q2) q2) q2; done)
          · (exact fun q => l2 (l1 (hl q)); done)
      · have e : isortTo cf xs (i + 1) = L := by
          show sink cf i (isortTo cf xs i) = L
          rw [← h, sink_step c2 m1 m2, if_neg c3]
        focus
          simp (maxDischargeDepth := 9) only [↓gB, gV, gT, reduceIte, reduceCtorEq, Nat.reduceEqDiff, Nat.reduceAdd, Nat.reduceSub, Nat.reduceLeDiff, Nat.reduceLT, Int.reduceEq, Nat.reduceMul, q1, f8, f1, f2, f3, c1, f9, f1, f2, f3, f8, c2, hk, f0, hk, f0, e1, q2, e2, c3]
          have q3 : Go.IntKind.i64.wrap (↑i + 1) = ↑i + 1 := wrap_id (by omega)
          simp (maxDischargeDepth := 9) only [↓gB, gV, gT, reduceIte, reduceCtorEq, Nat.reduceEqDiff, Nat.reduceAdd, Nat.reduceSub, Nat.reduceLeDiff, Nat.reduceLT, Int.reduceEq, Nat.reduceMul, q1, f8, f1, f2, f3, c1, f9, f1, f2, f3, f8, c2, hk, f0, hk, f0, e1, q2, e2, c3, q3]
          rw [N_lp]
          refine ⟨_, ?_, _, sub_refl _, i + 1, rfl, ?_, ?_, ?_, ?_, ?_, by simp (maxDischargeDepth := 9) only [↓gB, gV, gT, reduceIte, reduceCtorEq, Nat.reduceEqDiff, Nat.reduceAdd, Nat.reduceSub, Nat.reduceLeDiff, Nat.reduceLT, Int.reduceEq, Nat.reduceMul, q1, f8, f1, f2, f3, c1, f9, f1, f2, f3, f8, c2, hk, f0, hk, f0, e1, q2, e2, c3, q3, nat_succ, and_self]⟩
          · omega
          · omega
          · omega
          · (rw [e]; exact hrow; done)
          · assumption
          · assumption
    · have e : isortTo cf xs (i + 1) = L := by
        have : j = 0 := by omega
        subst this
        exact h.symm
      focus
        simp (maxDischargeDepth := 9) only [↓gB, gV, gT, reduceIte, reduceCtorEq, Nat.reduceEqDiff, Nat.reduceAdd, Nat.reduceSub, Nat.reduceLeDiff, Nat.reduceLT, Int.reduceEq, Nat.reduceMul, q1, hk, f8, f0, f1, f2, f3, c1, hk, f9, f0, f1, f2, f3, f8, c2]
        refine Xdraw_intro [0, 1, 2, 3, 4, 5, 6, 7, 8, 9, 10, 11, 12, 13, 14, 15, 16] mixed (by kernel_rfl) (by decide +kernel) ?_
        simp (maxDischargeDepth := 9) only [↓gB, gV, gT, reduceIte, reduceCtorEq, Nat.reduceEqDiff, Nat.reduceAdd, Nat.reduceSub, Nat.reduceLeDiff, Nat.reduceLT, Int.reduceEq, Nat.reduceMul, q1, hk, f8, f0, f1, f2, f3, c1, hk, f9, f0, f1, f2, f3, f8, c2]
        have q2 : Go.IntKind.i64.wrap (↑i + 1) = ↑i + 1 := wrap_id (by omega)
        simp (maxDischargeDepth := 9) only [↓gB, gV, gT, reduceIte, reduceCtorEq, Nat.reduceEqDiff, Nat.reduceAdd, Nat.reduceSub, Nat.reduceLeDiff, Nat.reduceLT, Int.reduceEq, Nat.reduceMul, q1, hk, f8, f0, f1, f2, f3, c1, hk, f9, f0, f1, f2, f3, f8, c2, q2]
        rw [N_lp]
        refine ⟨_, ?_, _, sub_refl _, i + 1, rfl, ?_, ?_, ?_, ?_, ?_, by simp (maxDischargeDepth := 9) only [↓gB, gV, gT, reduceIte, reduceCtorEq, Nat.reduceEqDiff, Nat.reduceAdd, Nat.reduceSub, Nat.reduceLeDiff, Nat.reduceLT, Int.reduceEq, Nat.reduceMul, q1, hk, f8, f0, f1, f2, f3, c1, hk, f9, f0, f1, f2, f3, f8, c2, q2, nat_succ, and_self]⟩
        · omega
        · omega
        · omega
        · (rw [e]; exact hrow; done)
        · assumption
        · assumption
  · have e : isortTo cf xs i = isort cf xs := by
      rcases hi2 with h | h
      · have : i = xs.length := by omega
        rw [this]; rfl
      · subst h
        have : xs.length = 0 ∨ xs.length = 1 := by omega
        unfold isort
        rcases this with h | h <;> rw [h] <;> rfl
    simp (maxDischargeDepth := 9) only [↓gB, gV, gT, reduceIte, reduceCtorEq, Nat.reduceEqDiff, Nat.reduceAdd, Nat.reduceSub, Nat.reduceLeDiff, Nat.reduceLT, Int.reduceEq, Nat.reduceMul, q1, hk, f8, f0, f1, f2, f3, c1]
    exact Kup_same ⟨rfl, e ▸ hrow, hk, hl⟩
theorem s172 {G0 G : GH} {v : Value} {xs : List SRest} {n : Nat} {cf : SRest → SRest → Int} {g : Nat} (hrow : Row rRest 178 G0 G v xs) (hn : n = xs.length) (hb : xs.length < 20) (hg : GL.Enters Tryd.prog g) (hf : ∀ (G' : GH) x y, Pure Tryd.prog G' g [.agg #[V x.i, .int .u64 x.left], .agg #[V y.i, .int .u64 y.left]] (V (cf x y))) :
    GCalls Tryd.prog 172 [v, V n, .func (.func g) #[] #[]].toArray G (fun u G' => u = .tuple #[] ∧ Row rRest 178 G0 G' v (isort cf xs) ∧ (∀ b o, G b = some o → notAt v b → G' b = some o) ∧ (G0.le G → G0.le G')) := by
  have hn20 : ¬ (20 : Int) ≤ n := by omega
  have hn21 : ¬ (20 : Int) < n := by omega
  refine enter Tryd.func172 63 #[] rfl Tryd.ntmps172 rfl (by decide +kernel) rfl ?_
  simp (maxDischargeDepth := 9) only [↓gB, gV, gT, reduceIte, reduceCtorEq, Nat.reduceEqDiff, Nat.reduceAdd, Nat.reduceSub, Nat.reduceLeDiff, Nat.reduceLT, Int.reduceEq, Nat.reduceMul]
  refine Xloop_intro _ _ _ _ _ (fun k f G' => k = 0 ∧ (G = G') ∧ f 7 = V 0 ∧ f 8 = V 20 ∧ f 6 = V 20 ∧ f 0 = v ∧ f 1 = Go.GL.V ↑n ∧ f 2 = Go.Value.func (Go.Fn.func g) #[] #[]) _ ⟨rfl, rfl, by simp (maxDischargeDepth := 9) only [↓gB, gV, gT, reduceIte, reduceCtorEq, Nat.reduceEqDiff, Nat.reduceAdd, Nat.reduceSub, Nat.reduceLeDiff, Nat.reduceLT, Int.reduceEq, Nat.reduceMul, and_self]⟩ ?_
  rintro k f G' ⟨rfl, rfl, f7, f8, f6, f0, f1, f2⟩
  simp (maxDischargeDepth := 9) only [↓gB, gV, gT, reduceIte, reduceCtorEq, Nat.reduceEqDiff, Nat.reduceAdd, Nat.reduceSub, Nat.reduceLeDiff, Nat.reduceLT, Int.reduceEq, Nat.reduceMul, f7, f8, f6, f0, f1, f2]
  refine Xc_neg _ _ _ _ _ (by omega) ?_
  simp (maxDischargeDepth := 9) only [↓gB, gV, gT, reduceIte, reduceCtorEq, Nat.reduceEqDiff, Nat.reduceAdd, Nat.reduceSub, Nat.reduceLeDiff, Nat.reduceLT, Int.reduceEq, Nat.reduceMul, f7, f8, f6, f0, f1, f2]
  refine Ycall_intro (md := none) (s189 hrow hn (by omega) hg hf) ?_
  rintro u G1 ⟨rfl, hrow, hk, hl⟩
  simp (maxDischargeDepth := 9) only [↓gB, gV, gT, reduceIte, reduceCtorEq, Nat.reduceEqDiff, Nat.reduceAdd, Nat.reduceSub, Nat.reduceLeDiff, Nat.reduceLT, Int.reduceEq, Nat.reduceMul, f7, f8, f6, f0, f1, f2, hk]
  refine Xloop_intro _ _ _ _ _ (fun k f G' => k = 0 ∧ (G1 = G') ∧ f 6 = V 20 ∧ f 0 = v ∧ f 1 = Go.GL.V ↑n ∧ f 2 = Go.Value.func (Go.Fn.func g) #[] #[]) _ ⟨rfl, rfl, by simp (maxDischargeDepth := 9) only [↓gB, gV, gT, reduceIte, reduceCtorEq, Nat.reduceEqDiff, Nat.reduceAdd, Nat.reduceSub, Nat.reduceLeDiff, Nat.reduceLT, Int.reduceEq, Nat.reduceMul, f7, f8, f6, f0, f1, f2, hk, and_self]⟩ ?_
  rintro k f G' ⟨rfl, rfl, f6, f0, f1, f2⟩
  simp (maxDischargeDepth := 9) only [↓gB, gV, gT, reduceIte, reduceCtorEq, Nat.reduceEqDiff, Nat.reduceAdd, Nat.reduceSub, Nat.reduceLeDiff, Nat.reduceLT, Int.reduceEq, Nat.reduceMul, f7, f8, f6, f0, f1, f2, hk, f6, f0, f1, f2]
  refine Xc_neg _ _ _ _ _ (by omega) ?_
  simp (maxDischargeDepth := 9) only [↓gB, gV, gT, reduceIte, reduceCtorEq, Nat.reduceEqDiff, Nat.reduceAdd, Nat.reduceSub, Nat.reduceLeDiff, Nat.reduceLT, Int.reduceEq, Nat.reduceMul, f7, f8, f6, f0, f1, f2, hk, f6, f0, f1, f2]
  exact Kup_same ⟨rfl, hrow, hk, hl⟩
theorem s139 {G0 G : GH} {v : Value} {xs : List SRest} {cf : SRest → SRest → Int} {g : Nat} (hrow : Row rRest 178 G0 G v xs) (hb : xs.length < 20) (hg : GL.Enters Tryd.prog g) (hf : ∀ (G' : GH) x y, Pure Tryd.prog G' g [.agg #[V x.i, .int .u64 x.left], .agg #[V y.i, .int .u64 y.left]] (V (cf x y))) :
    GCalls Tryd.prog 139 [v, .func (.func g) #[] #[]].toArray G (fun u G' => u = .tuple #[] ∧ Row rRest 178 G0 G' v (isort cf xs) ∧ (∀ b o, G b = some o → notAt v b → G' b = some o) ∧ (G0.le G → G0.le G')) := by
  obtain ⟨a, c, rfl⟩ := hrow.val
  refine enter Tryd.func139 9 #[] rfl Tryd.ntmps139 rfl (by decide +kernel) rfl ?_
  simp (maxDischargeDepth := 9) only [↓gB, gV, gT, reduceIte, reduceCtorEq, Nat.reduceEqDiff, Nat.reduceAdd, Nat.reduceSub, Nat.reduceLeDiff, Nat.reduceLT, Int.reduceEq, Nat.reduceMul]
  refine Ycall_intro (md := none) (s172 hrow rfl hb hg hf) ?_
  rintro u G1 ⟨rfl, hrow, hk, hl⟩
  simp (maxDischargeDepth := 9) only [↓gB, gV, gT, reduceIte, reduceCtorEq, Nat.reduceEqDiff, Nat.reduceAdd, Nat.reduceSub, Nat.reduceLeDiff, Nat.reduceLT, Int.reduceEq, Nat.reduceMul, hk]
  exact Kup_same ⟨rfl, hrow, hk, hl⟩
end Go.Proofs.YtgkdbjnmlecimaaDoor
namespace Go.Proofs.YtgkdbjnmlecimaaDoor
open Go Go.GL
set_option maxRecDepth 10000
set_option maxHeartbeats 0
theorem swp_eq {α : Type} {l : List α} {j : Nat} {x y : α} (hx : l[j]? = some x) (hy : l[j+1]? = some y) : l = l.take j ++ x :: y :: l.drop (j + 2) ∧ (l.set (j + 1) x).set j y = l.take j ++ y :: x :: l.drop (j + 2) := by
  have h1 := drop_at hx
  have h2 := drop_at hy
  have h0 : l = l.take j ++ x :: y :: l.drop (j + 2) := by
    have := (List.take_append_drop j l).symm
    rw [h1, h2] at this; exact this
  refine ⟨h0, ?_⟩
  have hj : j + 1 < l.length := by
    by_cases q : j + 1 < l.length
    · exact q
    · rw [List.getElem?_eq_none (by omega)] at hy; cases hy
  have ht : (l.take j).length = j := by rw [List.length_take]; omega
  have key : ∀ A : List α, A.length = j → ((A ++ x :: y :: l.drop (j + 2)).set (j + 1) x).set j y = A ++ y :: x :: l.drop (j + 2) := by
    intro A hA
    rw [List.set_append_right _ _ (by omega), List.set_append_right _ _ (by omega), hA]
    have e1 : j + 1 - j = 1 := by omega
    rw [e1, Nat.sub_self]; rfl
  have := key (l.take j) ht
  rw [← h0] at this; exact this
theorem swp_perm {α : Type} (l : List α) (j : Nat) : (swp l j).Perm l := by
  unfold swp
  split
  · rename_i x y hx hy
    obtain ⟨h1, h2⟩ := swp_eq hx hy
    rw [h2]
    conv => rhs; rw [h1]
    exact List.Perm.append_left _ (List.Perm.swap _ _ _)
  · exact List.Perm.refl _
theorem sink_perm {α : Type} (cf : α → α → Int) : ∀ (j : Nat) (l : List α), (sink cf j l).Perm l
  | 0, l => List.Perm.refl _
  | j + 1, l => by
    unfold sink; split
    · split
      · exact (sink_perm cf j _).trans (swp_perm l j)
      · exact List.Perm.refl _
    · exact List.Perm.refl _
theorem isortTo_perm {α : Type} (cf : α → α → Int) (l : List α) : ∀ i, (isortTo cf l i).Perm l
  | 0 => List.Perm.refl _
  | i + 1 => (sink_perm cf i _).trans (isortTo_perm cf l i)
theorem isort_perm {α : Type} (cf : α → α → Int) (l : List α) : (isort cf l).Perm l := isortTo_perm cf l _
def qsF (n s : Int) (l : List Int) : List Int := l.map fun p => n * p / s
def rsF (n s : Int) (l : List Int) : List SRest := l.mapIdx fun i p => ⟨i, n * p % s⟩
def incs (l : List SRest) (o : List Int) : List Int := l.foldl (fun o r => o.modify r.i.toNat (· + 1)) o
def leftF (n s : Int) (l : List Int) : Int := n - (qsF n s l).sum
def divideF (n : Int) (l : List Int) : List Int := incs ((isort cfR (rsF n l.sum l)).take (leftF n l.sum l).toNat) (qsF n l.sum l)
theorem sum_take {l : List Int} {i : Nat} {x : Int} (h : l[i]? = some x) : (l.take (i + 1)).sum = (l.take i).sum + x := by
  rw [take_at h, List.sum_append]; simp
theorem sum_b {M : Int} : ∀ {l : List Int}, (∀ p ∈ l, 0 ≤ p ∧ p ≤ M) → 0 ≤ l.sum ∧ l.sum ≤ M * l.length
  | [], _ => by simp
  | x :: l, h => by
    have h1 := h x (by simp)
    have h2 := sum_b (fun p hp => h p (List.mem_cons_of_mem x hp))
    rw [List.sum_cons, List.length_cons, Int.natCast_add, Int.mul_add]
    simp only [Int.natCast_one, Int.mul_one]
    omega
theorem mem_take_b {l : List Int} {Q : Int → Prop} (h : ∀ p ∈ l, Q p) (i : Nat) : ∀ p ∈ l.take i, Q p := fun p hp => h p (List.mem_of_mem_take hp)
theorem sum_le_take {l : List Int} {M : Int} (h : ∀ p ∈ l, 0 ≤ p ∧ p ≤ M) : ∀ x ∈ l, x ≤ l.sum := by
  induction l with
  | nil => simp
  | cons y l ih =>
    intro x hx
    have h2 := sum_b (fun p hp => h p (List.mem_cons_of_mem y hp))
    have h1 := h y (by simp)
    rw [List.sum_cons]
    rcases List.mem_cons.1 hx with rfl | hx
    · omega
    · have := ih (fun p hp => h p (List.mem_cons_of_mem y hp)) x hx; omega
theorem qs_take {n s : Int} {l : List Int} {i : Nat} {x : Int} (h : l[i]? = some x) : qsF n s (l.take (i + 1)) = qsF n s (l.take i) ++ [n * x / s] := by
  unfold qsF; rw [take_at h, List.map_append]; rfl
theorem rs_take {n s : Int} {l : List Int} {i : Nat} {x : Int} (h : l[i]? = some x) : rsF n s (l.take (i + 1)) = rsF n s (l.take i) ++ [⟨i, n * x % s⟩] := by
  have hi : i < l.length := by
    by_cases q : i < l.length
    · exact q
    · rw [List.getElem?_eq_none (by omega)] at h; cases h
  unfold rsF; rw [take_at h, List.mapIdx_append]
  have : (l.take i).length = i := by rw [List.length_take]; omega
  simp [this]
theorem qs_b {n s : Int} {l : List Int} (hn : 0 ≤ n) (hn2 : n ≤ 1000000000) (hs : 0 < s) (h : ∀ p ∈ l, 0 ≤ p ∧ p ≤ s) : ∀ q ∈ qsF n s l, 0 ≤ q ∧ q ≤ 1000000000 := by
  intro q hq
  unfold qsF at hq
  obtain ⟨p, hp, rfl⟩ := List.mem_map.1 hq
  have h1 := h p hp
  have h2 : 0 ≤ n * p := Int.mul_nonneg hn h1.1
  refine ⟨Int.ediv_nonneg h2 (by omega), ?_⟩
  have h3 : n * p ≤ n * s := Int.mul_le_mul_of_nonneg_left h1.2 hn
  have h4 : n * p / s ≤ n * s / s := Int.ediv_le_ediv hs h3
  rw [Int.mul_ediv_cancel _ (by omega)] at h4
  omega
theorem rs_left (n s : Int) (l : List Int) : (rsF n s l).map (·.left) = l.map fun p => n * p % s := by
  apply List.ext_getElem?; intro i; simp only [rsF, List.getElem?_map, List.getElem?_mapIdx, Option.map_map]; rfl
theorem left_b {n s : Int} (hs : 0 < s) : ∀ (l : List Int), n * l.sum - s * (qsF n s l).sum = ((rsF n s l).map (·.left)).sum ∧ 0 ≤ ((rsF n s l).map (·.left)).sum ∧ ((rsF n s l).map (·.left)).sum ≤ (s - 1) * l.length := by
  intro l
  rw [rs_left]
  induction l with
  | nil => simp [qsF]
  | cons x l ih =>
    simp only [qsF, List.map_cons, List.sum_cons, List.length_cons] at ih ⊢
    have h1 := Int.emod_add_mul_ediv (n * x) s
    have h2 := Int.emod_nonneg (n * x) (show s ≠ 0 by omega)
    have h3 := Int.emod_lt_of_pos (n * x) hs
    have h4 : (s - 1) * ((l.length + 1 : Nat) : Int) = (s - 1) * l.length + (s - 1) := by rw [Int.natCast_add, Int.mul_add]; simp
    rw [h4, Int.mul_add, Int.mul_add]
    omega
theorem left_range {n : Int} {l : List Int} (hs : 0 < l.sum) : 0 ≤ leftF n l.sum l ∧ leftF n l.sum l ≤ l.length := by
  obtain ⟨h1, h2, h3⟩ := left_b (n := n) hs l
  unfold leftF
  have e : n * l.sum - l.sum * (qsF n l.sum l).sum = l.sum * (n - (qsF n l.sum l).sum) := by rw [Int.mul_sub, Int.mul_comm n]
  rw [e] at h1
  rw [← h1] at h2 h3
  generalize n - (qsF n l.sum l).sum = d at *
  constructor
  · by_cases q : d < 0
    · have : l.sum * d < 0 := Int.mul_neg_of_pos_of_neg hs q
      omega
    · omega
  · by_cases q : (l.length : Int) < d
    · have h5 : l.sum * (l.length : Int) ≤ l.sum * d := Int.mul_le_mul_of_nonneg_left (by omega) (by omega)
      have h6 : (l.sum - 1) * (l.length : Int) = l.sum * l.length - l.length := by rw [Int.sub_mul, Int.one_mul]
      have h7 : l.sum * (l.length + 1) ≤ l.sum * d := Int.mul_le_mul_of_nonneg_left (by omega) (by omega)
      rw [Int.mul_add, Int.mul_one] at h7
      omega
    · omega
end Go.Proofs.YtgkdbjnmlecimaaDoor
namespace Go.Proofs.YtgkdbjnmlecimaaDoor
open Go Go.GL
set_option maxRecDepth 10000
set_option maxHeartbeats 0
theorem qs_nil (n s : Int) : qsF n s [] = [] := rfl
theorem enD : GL.Enters Tryd.prog 140 := of_eq_true en140
theorem incs_take {L : List SRest} {o : List Int} {j : Nat} {x : SRest} (h : L[j]? = some x) : incs (L.take (j + 1)) o = (incs (L.take j) o).modify x.i.toNat (· + 1) := by
  unfold incs; rw [take_at h, List.foldl_append]; rfl
theorem incs_len : ∀ (L : List SRest) (o : List Int), (incs L o).length = o.length
  | [], _ => rfl
  | x :: L, o => by
    have := incs_len L (o.modify x.i.toNat (· + 1))
    unfold incs at *
    rw [List.foldl_cons, this, List.length_modify]
theorem modify_set {o : List Int} {k : Nat} {y : Int} (h : o[k]? = some y) : o.modify k (· + 1) = o.set k (y + 1) := by
  apply List.ext_getElem?
  intro t
  rw [List.getElem?_modify, List.getElem?_set]
  by_cases e : k = t
  · subst e
    rw [h, if_pos rfl]
    have : k < o.length := by
      by_cases q : k < o.length
      · exact q
      · rw [List.getElem?_eq_none (by omega)] at h; cases h
    simp [this]
  · simp [e]
theorem mem_modify {o : List Int} {k : Nat} {q : Int} (h : q ∈ o.modify k (· + 1)) : q ∈ o ∨ ∃ y ∈ o, q = y + 1 := by
  obtain ⟨t, ht⟩ := List.mem_iff_getElem?.1 h
  rw [List.getElem?_modify] at ht
  cases ho : o[t]? with
  | none => rw [ho] at ht; simp at ht
  | some y =>
    rw [ho] at ht
    by_cases e : k = t
    · simp [e] at ht; exact .inr ⟨y, List.mem_of_getElem? ho, ht.symm⟩
    · simp [e] at ht; subst ht; exact .inl (List.mem_of_getElem? ho)
theorem incs_b {M : Int} : ∀ (L : List SRest) (o : List Int), (∀ q ∈ o, 0 ≤ q ∧ q ≤ M) → ∀ q ∈ incs L o, 0 ≤ q ∧ q ≤ M + L.length
  | [], o, h => by intro q hq; have := h q hq; simp; exact this
  | x :: L, o, h => by
    intro q hq
    have := incs_b (M := M + 1) L (o.modify x.i.toNat (· + 1)) (fun q hq => by
      rcases mem_modify hq with h1 | ⟨y, h1, rfl⟩
      · have := h q h1; omega
      · have := h y h1; omega) q hq
    simp only [List.length_cons, Int.natCast_add, Int.natCast_one]; omega
theorem rs_i {n s : Int} {l : List Int} : ∀ x ∈ rsF n s l, 0 ≤ x.i ∧ x.i < l.length := by
  intro x hx
  unfold rsF at hx
  obtain ⟨i, hi, rfl⟩ := List.mem_mapIdx.1 hx
  simp only; omega
theorem g106 {G0 : GH} {n : Int} {v : Value} {l : List Int} (hv : RSl Rp.int G0 v l) (hn : 0 ≤ n) (hn2 : n ≤ 1000000000) (hl : ∀ p ∈ l, 0 ≤ p ∧ p ≤ 1000000000) (hs : 0 < l.sum) (hlen : l.length < 20) : Gives Tryd.prog G0 106 [V n, v] (fun u G' => RSl Rp.int G' u (divideF n l)) := by
  intro G hG; replace hv := hv.le hG
  clear hG G0
  refine enter Tryd.func106 88 #[.tmp 4] rfl Tryd.ntmps106 rfl (by decide +kernel) rfl ?_
  obtain ⟨a, c, rfl⟩ := hv.val
  have hsb := sum_b hl
  have hmx := sum_le_take hl
  simp (maxDischargeDepth := 9) only [↓gB, gV, gT, reduceIte, reduceCtorEq, Nat.reduceEqDiff, Nat.reduceAdd, Nat.reduceSub, Nat.reduceLeDiff, Nat.reduceLT, Int.reduceEq, Nat.reduceMul]
  focus
    refine Xloop_intro _ _ _ _ _ (fun k f G' => ∃ (i : Nat), k = l.length - i ∧ (i ≤ l.length) ∧ (G = G') ∧ f 21 = V i ∧ f 5 = V (l.take i).sum ∧ f 0 = Go.GL.V n ∧ f 1 = Go.Value.slice a l.length c ∧ f 19 = Go.Value.slice a l.length c ∧ f 20 = Go.Value.int Go.IntKind.i64 ↑l.length) _ ⟨0, rfl, ?_, rfl, by simp (maxDischargeDepth := 9) only [↓gB, gV, gT, reduceIte, reduceCtorEq, Nat.reduceEqDiff, Nat.reduceAdd, Nat.reduceSub, Nat.reduceLeDiff, Nat.reduceLT, Int.reduceEq, Nat.reduceMul, List.sum_nil, and_self]⟩ ?_
    · omega
    rintro k f G' ⟨i, rfl, hi, rfl, f21, f5, f0, f1, f19, f20⟩
  have hb := sum_b (mem_take_b hl i)
  have hlt : (l.take i).length ≤ i := by rw [List.length_take]; omega
  simp (maxDischargeDepth := 9) only [↓gB, gV, gT, reduceIte, reduceCtorEq, Nat.reduceEqDiff, Nat.reduceAdd, Nat.reduceSub, Nat.reduceLeDiff, Nat.reduceLT, Int.reduceEq, Nat.reduceMul, f21, f5, f0, f1, f19, f20]
  refine Xc_split _ _ _ _ _ (fun c1 => ?_) (fun c1 => ?_)
  · obtain ⟨x, hx⟩ : ∃ x, l[i]? = some x := ⟨_, List.getElem?_eq_getElem (by omega)⟩
    have hxb := hl x (List.mem_of_getElem? hx)
    simp (maxDischargeDepth := 9) only [↓gB, gV, gT, reduceIte, reduceCtorEq, Nat.reduceEqDiff, Nat.reduceAdd, Nat.reduceSub, Nat.reduceLeDiff, Nat.reduceLT, Int.reduceEq, Nat.reduceMul, f21, f5, f0, f1, f19, f20, c1]
    obtain ⟨x1, a1, s1, m1, rfl, ⟨rfl, w1⟩, e1⟩ := hv.at1 (i) (by omega) rfl
    simp (maxDischargeDepth := 9) only [↓gB, gV, gT, reduceIte, reduceCtorEq, Nat.reduceEqDiff, Nat.reduceAdd, Nat.reduceSub, Nat.reduceLeDiff, Nat.reduceLT, Int.reduceEq, Nat.reduceMul, f21, f5, f0, f20, c1, f1, f19, e1]
    refine vguard_intro (by simp) ?_
    have q1 : Go.IntKind.i64.wrap (↑i + 1) = ↑i + 1 := wrap_id (by omega)
    simp (maxDischargeDepth := 9) only [↓gB, gV, gT, reduceIte, reduceCtorEq, Nat.reduceEqDiff, Nat.reduceAdd, Nat.reduceSub, Nat.reduceLeDiff, Nat.reduceLT, Int.reduceEq, Nat.reduceMul, f21, f5, f0, f20, c1, f1, f19, e1, q1]
    obtain rfl : x = x1 := by rw [hx] at m1; cases m1; rfl
    have hst := sum_take hx
    focus
      have q2 : Go.IntKind.i64.wrap ((List.take i l).sum + x) = (List.take i l).sum + x := wrap_id (by omega)
      simp (maxDischargeDepth := 9) only [↓gB, gV, gT, reduceIte, reduceCtorEq, Nat.reduceEqDiff, Nat.reduceAdd, Nat.reduceSub, Nat.reduceLeDiff, Nat.reduceLT, Int.reduceEq, Nat.reduceMul, f21, f5, f0, f20, c1, f1, f19, q1, e1, q2, hst]
      rw [N_lp]
      refine ⟨_, ?_, _, ?_, i + 1, rfl, ?_, rfl, by simp (maxDischargeDepth := 9) only [↓gB, gV, gT, reduceIte, reduceCtorEq, Nat.reduceEqDiff, Nat.reduceAdd, Nat.reduceSub, Nat.reduceLeDiff, Nat.reduceLT, Int.reduceEq, Nat.reduceMul, f21, f5, f0, f20, c1, f1, f19, q1, e1, q2, hst, nat_succ, and_self]⟩
      · omega
      · exact sub_refl _
      · omega
  · have e : l.take i = l := List.take_of_length_le (by omega)
    rw [e] at f5
    simp (maxDischargeDepth := 9) only [↓gB, gV, gT, reduceIte, reduceCtorEq, Nat.reduceEqDiff, Nat.reduceAdd, Nat.reduceSub, Nat.reduceLeDiff, Nat.reduceLT, Int.reduceEq, Nat.reduceMul, f21, f5, f0, f1, f19, f20, c1]
    have hsw : IntKind.u64.wrap l.sum = l.sum := u64_id (by omega) (by omega)
    have hnw : IntKind.u64.wrap n = n := u64_id hn (by omega)
    focus
      refine Xloop_intro _ _ _ _ _ (fun k f G' => ∃ (i : Nat) (o : Value) (r : Value), k = l.length - i ∧ (i ≤ l.length) ∧ (Row Rp.int 3 G G' o (qsF n l.sum (l.take i))) ∧ (Row rRest 178 G G' r (rsF n l.sum (l.take i))) ∧ (RSl Rp.int G' (.slice a l.length c) l) ∧ (G.le G') ∧ f 32 = V i ∧ f 8 = o ∧ f 9 = r ∧ f 10 = V (n - (qsF n l.sum (l.take i)).sum) ∧ f 0 = Go.GL.V n ∧ f 5 = Go.GL.V l.sum ∧ f 30 = Go.Value.slice a l.length c ∧ f 31 = Go.Value.int Go.IntKind.i64 ↑l.length) _ ⟨0, .slice none 0 0, .slice none 0 0, rfl, ?_, ?_, ?_, ?_, ?_, by simp (maxDischargeDepth := 9) only [↓gB, gV, gT, reduceIte, reduceCtorEq, Nat.reduceEqDiff, Nat.reduceAdd, Nat.reduceSub, Nat.reduceLeDiff, Nat.reduceLT, Int.reduceEq, Nat.reduceMul, f21, f5, f0, f1, f19, f20, c1, hsw, hnw, qs_nil, List.sum_nil, Int.sub_zero, and_self]⟩ ?_
      · omega
      · (exact Row.nil; done)
      · (exact Row.nil; done)
      · assumption
      · exact le_refl _
      rintro k f G' ⟨i, o, r, rfl, hi, ho, hr, hv, hle, f32, f8, f9, f10, f0, f5, f30, f31⟩
    obtain ⟨oa, oc, rfl⟩ := ho.val
    obtain ⟨ra, rc, rfl⟩ := hr.val
    have hol : (qsF n l.sum (l.take i)).length ≤ 20 := by unfold qsF; rw [List.length_map, List.length_take]; omega
    have hrl : (rsF n l.sum (l.take i)).length ≤ 20 := by unfold rsF; rw [List.length_mapIdx, List.length_take]; omega
    have hqb := sum_b (qs_b hn hn2 hs (l := l.take i) (fun p hp => ⟨(hl p (List.mem_of_mem_take hp)).1, hmx p (List.mem_of_mem_take hp)⟩))
    simp (maxDischargeDepth := 9) only [↓gB, gV, gT, reduceIte, reduceCtorEq, Nat.reduceEqDiff, Nat.reduceAdd, Nat.reduceSub, Nat.reduceLeDiff, Nat.reduceLT, Int.reduceEq, Nat.reduceMul, f21, f5, f0, f1, f19, f20, c1, hsw, hnw, f32, f10, f0, f5, f30, f31, f8, f9]
    refine Xc_split _ _ _ _ _ (fun c1 => ?_) (fun c1 => ?_)
    · obtain ⟨x, hx⟩ : ∃ x, l[i]? = some x := ⟨_, List.getElem?_eq_getElem (by omega)⟩
      have hxb := hl x (List.mem_of_getElem? hx)
      have hxs := hmx x (List.mem_of_getElem? hx)
      have hxw : IntKind.u64.wrap x = x := u64_id hxb.1 (by omega)
      have hm0 : 0 ≤ n * x := Int.mul_nonneg hn hxb.1
      have hm1 : n * x ≤ 1000000000 * 1000000000 := Int.mul_le_mul hn2 hxb.2 hxb.1 (by omega)
      have hm2 : n * x ≤ 1000000000000000000 := by omega
      have hq0 := qs_b hn hn2 hs (l := [x]) (by simp; omega) (n * x / l.sum) (by simp [qsF])
      have hqw : IntKind.i64.wrap (n * x / l.sum) = n * x / l.sum := wrap_id (by omega)
      have hqt := qs_take (n := n) (s := l.sum) hx
      have hleft : n - (qsF n l.sum (l.take (i + 1))).sum = n - (qsF n l.sum (l.take i)).sum - n * x / l.sum := by rw [hqt, List.sum_append]; simp; omega
      have hrt := rs_take (n := n) (s := l.sum) hx
      simp (maxDischargeDepth := 9) only [↓gB, gV, gT, reduceIte, reduceCtorEq, Nat.reduceEqDiff, Nat.reduceAdd, Nat.reduceSub, Nat.reduceLeDiff, Nat.reduceLT, Int.reduceEq, Nat.reduceMul, f21, f5, f0, f1, f19, f20, c1, hsw, hnw, f32, f10, f0, f5, f30, f31, f8, f9, c1, hxw, hqw]
      obtain ⟨x1, a1, s1, m1, rfl, ⟨rfl, w1⟩, e1⟩ := hv.at1 (i) (by omega) rfl
      simp (maxDischargeDepth := 9) only [↓gB, gV, gT, reduceIte, reduceCtorEq, Nat.reduceEqDiff, Nat.reduceAdd, Nat.reduceSub, Nat.reduceLeDiff, Nat.reduceLT, Int.reduceEq, Nat.reduceMul, f21, f5, f0, f20, c1, hsw, hnw, f32, f10, f0, f5, f31, f8, f9, c1, hxw, hqw, f1, f19, f30, e1]
      refine vguard_intro (by simp) ?_
      obtain rfl : x = x1 := by rw [hx] at m1; cases m1; rfl
      focus
        simp (maxDischargeDepth := 9) only [↓gB, gV, gT, reduceIte, reduceCtorEq, Nat.reduceEqDiff, Nat.reduceAdd, Nat.reduceSub, Nat.reduceLeDiff, Nat.reduceLT, Int.reduceEq, Nat.reduceMul, f21, f5, f0, f20, c1, hsw, hnw, f32, f10, f0, f5, f31, f8, f9, c1, hxw, hqw, f1, f19, f30, e1, hleft]
        refine Ycp (p137 (by assumption) (by assumption) (by omega) (by omega)) ?_
        simp (maxDischargeDepth := 9) only [↓gB, gV, gT, reduceIte, reduceCtorEq, Nat.reduceEqDiff, Nat.reduceAdd, Nat.reduceSub, Nat.reduceLeDiff, Nat.reduceLT, Int.reduceEq, Nat.reduceMul, f21, f5, f0, f20, c1, hsw, hnw, f32, f10, f0, f5, f31, f8, f9, c1, hxw, hqw, f1, f19, f30, e1, hleft]
        refine Ycp (p138 (by assumption) (by assumption) (by assumption)) ?_
        simp (maxDischargeDepth := 9) only [↓gB, gV, gT, reduceIte, reduceCtorEq, Nat.reduceEqDiff, Nat.reduceAdd, Nat.reduceSub, Nat.reduceLeDiff, Nat.reduceLT, Int.reduceEq, Nat.reduceMul, f21, f5, f0, f20, c1, hsw, hnw, f32, f10, f0, f5, f31, f8, f9, c1, hxw, hqw, f1, f19, f30, e1, hleft]
        refine Yn1 fun r1 h1 => ?_
        simp (maxDischargeDepth := 9) only [↓gB, gV, gT, reduceIte, reduceCtorEq, Nat.reduceEqDiff, Nat.reduceAdd, Nat.reduceSub, Nat.reduceLeDiff, Nat.reduceLT, Int.reduceEq, Nat.reduceMul, f21, f5, f0, f20, c1, hsw, hnw, f32, f10, f0, f5, f31, f8, f9, c1, hxw, hqw, f1, f19, f30, e1, h1, hleft]
        refine Row.app1 sl23 (Row.put _ h1 ho) (by exact put_self _ _ _) (y := _) ⟨rfl, (by first | exact (RSl.put _ h1 hv) | omega | decide | assumption | (unfold i64; omega) | (unfold i64 at *; omega) | (constructor <;> omega))⟩ (by omega) (GH.le.trans hle (le_put h1 _)) fun v1 G1 w1 k1 l1 => ?_
        replace hr := Row.keepTy (Row.put _ h1 hr) (Row.put _ h1 ho) k1 (by decide)
        replace hv := RSl.appd (RSl.put _ h1 hv) (Row.put _ h1 ho) k1
        simp (maxDischargeDepth := 9) only [↓gB, gV, gT, reduceIte, reduceCtorEq, Nat.reduceEqDiff, Nat.reduceAdd, Nat.reduceSub, Nat.reduceLeDiff, Nat.reduceLT, Int.reduceEq, Nat.reduceMul, f21, f5, f0, f20, c1, hsw, hnw, f32, f10, f0, f5, f31, f8, f9, c1, hxw, hqw, f1, f19, f30, e1, h1, hleft]
        refine Yn1 fun r2 h2 => ?_
        simp (maxDischargeDepth := 9) only [↓gB, gV, gT, reduceIte, reduceCtorEq, Nat.reduceEqDiff, Nat.reduceAdd, Nat.reduceSub, Nat.reduceLeDiff, Nat.reduceLT, Int.reduceEq, Nat.reduceMul, f21, f5, f0, f20, c1, hsw, hnw, f32, f10, f0, f5, f31, f8, f9, c1, hxw, hqw, f1, f19, f30, e1, h1, hleft]
        refine Row.app1 sl172 (Row.put _ h2 hr) (by exact put_self _ _ _) (y := ⟨_, _⟩) rfl (by omega) (GH.le.trans l1 (le_put h2 _)) fun v2 G2 w2 k2 l2 => ?_
        replace hv := RSl.appd (RSl.put _ h2 hv) (Row.put _ h2 hr) k2
        replace w1 := Row.keepTy (Row.put _ h2 w1) (Row.put _ h2 hr) k2 (by decide)
        simp (maxDischargeDepth := 9) only [↓gB, gV, gT, reduceIte, reduceCtorEq, Nat.reduceEqDiff, Nat.reduceAdd, Nat.reduceSub, Nat.reduceLeDiff, Nat.reduceLT, Int.reduceEq, Nat.reduceMul, f21, f5, f0, f20, c1, hsw, hnw, f32, f10, f0, f5, f31, f8, f9, c1, hxw, hqw, f1, f19, f30, e1, h1, hleft]
        have q1 : Go.IntKind.i64.wrap (n - (Go.Proofs.YtgkdbjnmlecimaaDoor.qsF n l.sum (List.take i l)).sum - n * x / l.sum) = n - (Go.Proofs.YtgkdbjnmlecimaaDoor.qsF n l.sum (List.take i l)).sum - n * x / l.sum := wrap_id (by omega)
        simp (maxDischargeDepth := 9) only [↓gB, gV, gT, reduceIte, reduceCtorEq, Nat.reduceEqDiff, Nat.reduceAdd, Nat.reduceSub, Nat.reduceLeDiff, Nat.reduceLT, Int.reduceEq, Nat.reduceMul, f21, f5, f0, f20, c1, hsw, hnw, f32, f10, f0, f5, f31, f8, f9, c1, hxw, hqw, f1, f19, f30, e1, h1, q1, hleft]
        have q2 : Go.IntKind.i64.wrap (↑i + 1) = ↑i + 1 := wrap_id (by omega)
        simp (maxDischargeDepth := 9) only [↓gB, gV, gT, reduceIte, reduceCtorEq, Nat.reduceEqDiff, Nat.reduceAdd, Nat.reduceSub, Nat.reduceLeDiff, Nat.reduceLT, Int.reduceEq, Nat.reduceMul, f21, f5, f0, f20, c1, hsw, hnw, f32, f10, f0, f5, f31, f8, f9, c1, hxw, hqw, f1, f19, f30, e1, h1, q1, q2, hleft]
        rw [N_lp]
        refine ⟨_, ?_, _, sub_refl _, i + 1, v1, v2, rfl, ?_, ?_, ?_, ?_, ?_, by simp (maxDischargeDepth := 9) only [↓gB, gV, gT, reduceIte, reduceCtorEq, Nat.reduceEqDiff, Nat.reduceAdd, Nat.reduceSub, Nat.reduceLeDiff, Nat.reduceLT, Int.reduceEq, Nat.reduceMul, f21, f5, f0, f20, c1, hsw, hnw, f32, f10, f0, f5, f31, f8, f9, c1, hxw, hqw, f1, f19, f30, e1, h1, q1, q2, hleft, nat_succ, and_self]⟩
        · omega
        · omega
        · (rw [hqt]; assumption; done)
        · (rw [hrt]; assumption; done)
        · assumption
        · assumption
    · have e : l.take i = l := List.take_of_length_le (by omega)
      rw [e] at ho hr f8 f9 f10 hqb hol hrl
      have hrn : (rsF n l.sum l).length = l.length := by unfold rsF; rw [List.length_mapIdx]
      have hon : (qsF n l.sum l).length = l.length := by unfold qsF; rw [List.length_map]
      have hlr := left_range (n := n) hs
      have hlf : n - (qsF n l.sum l).sum = leftF n l.sum l := rfl
      rw [hlf] at f10
      simp (maxDischargeDepth := 9) only [↓gB, gV, gT, reduceIte, reduceCtorEq, Nat.reduceEqDiff, Nat.reduceAdd, Nat.reduceSub, Nat.reduceLeDiff, Nat.reduceLT, Int.reduceEq, Nat.reduceMul, f21, f5, f0, f1, f19, f20, c1, hsw, hnw, f32, f10, f0, f5, f30, f31, f8, f9, c1]
      refine Ycall_intro (md := none) (s139 (cf := cfR) hr (show (rsF n l.sum l).length < 20 by omega) enD (fun G' x y => p140)) ?_
      rintro u G2 ⟨rfl, hr2, hk, hl2⟩
      replace ho := Row.keepTy ho hr hk (by decide)
      replace hle := hl2 hle
      obtain ⟨G3, hs3, hrs, hk3, hl3⟩ := hr2.freeze
      refine Ysub hs3 ?_
      replace ho := Row.keepTy ho hr2 hk3 (by decide)
      replace hle := hl3 hle
      have hsl := (isort_perm cfR (rsF n l.sum l)).length_eq
      have hcap : (rsF n l.sum l).length ≤ rc := by
        obtain ⟨_, _, _, hv', _, h2, _⟩ := hrs
        cases hv'; exact h2
      obtain ⟨m, hm⟩ : ∃ m : Nat, leftF n l.sum l = (m : Int) := ⟨(leftF n l.sum l).toNat, by omega⟩
      have ht : RSl rRest G3 (.slice ra m rc) ((isort cfR (rsF n l.sum l)).take m) := RSl.take hrs (by omega)
      have hLt : ((isort cfR (rsF n l.sum l)).take m).length = m := by rw [List.length_take]; omega
      have hLi : ∀ x ∈ (isort cfR (rsF n l.sum l)).take m, 0 ≤ x.i ∧ x.i < l.length := fun x hx => rs_i x ((isort_perm cfR _).mem_iff.1 (List.mem_of_mem_take hx))
      have hdiv : divideF n l = incs ((isort cfR (rsF n l.sum l)).take m) (qsF n l.sum l) := by unfold divideF; rw [hm, Int.toNat_natCast]
      have hm20 : m ≤ 20 := by omega
      generalize (isort cfR (rsF n l.sum l)).take m = L at *
      clear hrs hr hr2 hk hk3 hl2 hl3
      rw [hm] at f10
      simp (maxDischargeDepth := 9) only [↓gB, gV, gT, reduceIte, reduceCtorEq, Nat.reduceEqDiff, Nat.reduceAdd, Nat.reduceSub, Nat.reduceLeDiff, Nat.reduceLT, Int.reduceEq, Nat.reduceMul, f21, f5, f0, f1, f19, f20, c1, hsw, hnw, f32, f0, f5, f30, f31, f8, f9, c1, f10]
      refine vguard_intro (by omega) ?_
      focus
        refine Xloop_intro _ _ _ _ _ (fun k f G' => ∃ (j : Nat), k = m - j ∧ (j ≤ m) ∧ (Row Rp.int 3 G G' (.slice oa (qsF n l.sum l).length oc) (incs (L.take j) (qsF n l.sum l))) ∧ (RSl rRest G' (.slice ra m rc) L) ∧ (G.le G') ∧ f 75 = V j ∧ f 8 = Go.Value.slice oa (Go.Proofs.YtgkdbjnmlecimaaDoor.qsF n l.sum l).length oc ∧ f 73 = Go.Value.slice ra m rc ∧ f 74 = Go.Value.int Go.IntKind.i64 ↑m) _ ⟨0, rfl, ?_, ?_, ?_, ?_, by simp (maxDischargeDepth := 9) only [↓gB, gV, gT, reduceIte, reduceCtorEq, Nat.reduceEqDiff, Nat.reduceAdd, Nat.reduceSub, Nat.reduceLeDiff, Nat.reduceLT, Int.reduceEq, Nat.reduceMul, f21, f5, f0, f1, f19, f20, c1, hsw, hnw, f32, f0, f5, f30, f31, f8, f9, c1, f10, and_self]⟩ ?_
        · omega
        · assumption
        · assumption
        · assumption
        rintro k f G' ⟨j, rfl, hj, ho, ht, hle, f75, f8, f73, f74⟩
      simp (maxDischargeDepth := 9) only [↓gB, gV, gT, reduceIte, reduceCtorEq, Nat.reduceEqDiff, Nat.reduceAdd, Nat.reduceSub, Nat.reduceLeDiff, Nat.reduceLT, Int.reduceEq, Nat.reduceMul, f21, f5, f0, f1, f19, f20, c1, hsw, hnw, f32, f0, f5, f30, f31, f8, f9, c1, f10, f75, f8, f73, f74]
      have hil : (incs (L.take j) (qsF n l.sum l)).length = l.length := by rw [incs_len, hon]
      have hib := incs_b (L.take j) (qsF n l.sum l) (qs_b hn hn2 hs (l := l) (fun p hp => ⟨(hl p hp).1, hmx p hp⟩))
      have hjl : (L.take j).length ≤ 20 := by rw [List.length_take]; omega
      refine Xc_split _ _ _ _ _ (fun c2 => ?_) (fun c2 => ?_)
      · obtain ⟨x, hx⟩ : ∃ x, L[j]? = some x := ⟨_, List.getElem?_eq_getElem (by omega)⟩
        have hxi := hLi x (List.mem_of_getElem? hx)
        obtain ⟨y, hy⟩ : ∃ y, (incs (L.take j) (qsF n l.sum l))[x.i.toNat]? = some y := ⟨_, List.getElem?_eq_getElem (by omega)⟩
        have hyb := hib y (List.mem_of_getElem? hy)
        have hin := (incs_take (o := qsF n l.sum l) hx).trans (modify_set hy)
        have hxt : ((x.i.toNat : Nat) : Int) = x.i := by omega
        simp (maxDischargeDepth := 9) only [↓gB, gV, gT, reduceIte, reduceCtorEq, Nat.reduceEqDiff, Nat.reduceAdd, Nat.reduceSub, Nat.reduceLeDiff, Nat.reduceLT, Int.reduceEq, Nat.reduceMul, f21, f5, f0, f1, f19, f20, c1, hsw, hnw, f32, f0, f5, f30, f31, f8, f9, c1, f10, f75, f8, f73, f74, c2]
        obtain ⟨x1, a1, s1, m1, rfl, rfl, e1⟩ := ht.at (j) (by omega) 2 rfl
        simp (maxDischargeDepth := 9) only [↓gB, gV, gT, reduceIte, reduceCtorEq, Nat.reduceEqDiff, Nat.reduceAdd, Nat.reduceSub, Nat.reduceLeDiff, Nat.reduceLT, Int.reduceEq, Nat.reduceMul, f21, f5, f0, f1, f19, f20, c1, hsw, hnw, f32, f0, f5, f30, f31, f8, c1, f10, f75, f8, f74, c2, f9, f73, e1]
        refine vguard_intro (by simp) ?_
        refine Yn2 fun r1 h1 => ?_
        simp (maxDischargeDepth := 9) only [↓gB, gV, gT, reduceIte, reduceCtorEq, Nat.reduceEqDiff, Nat.reduceAdd, Nat.reduceSub, Nat.reduceLeDiff, Nat.reduceLT, Int.reduceEq, Nat.reduceMul, f21, f5, f0, f1, f19, f20, c1, hsw, hnw, f32, f0, f5, f30, f31, f8, c1, f10, f75, f8, f74, c2, f9, f73, e1, h1]
        obtain rfl : x = x1 := by rw [hx] at m1; cases m1; rfl
        obtain ⟨x2, a2, s2, m2, rfl, ⟨rfl, w2⟩, e2⟩ := ho.at1 ((Int.toNat (x.i))) (by omega) rfl
        simp (maxDischargeDepth := 9) only [↓gB, gV, gT, reduceIte, reduceCtorEq, Nat.reduceEqDiff, Nat.reduceAdd, Nat.reduceSub, Nat.reduceLeDiff, Nat.reduceLT, Int.reduceEq, Nat.reduceMul, f21, f5, f0, f1, f19, f20, c1, hsw, hnw, f32, f0, f5, f30, f31, c1, f10, f75, f74, c2, f9, f73, h1, e1, f8, f8, e2]
        refine vguard_intro (by omega) ?_
        refine vguard_intro (by omega) ?_
        obtain rfl : y = x2 := by rw [hy] at m2; cases m2; rfl
        have hyw : IntKind.i64.wrap (y + 1) = y + 1 := wrap_id (by omega)
        focus
          simp (maxDischargeDepth := 9) only [↓gB, gV, gT, reduceIte, reduceCtorEq, Nat.reduceEqDiff, Nat.reduceAdd, Nat.reduceSub, Nat.reduceLeDiff, Nat.reduceLT, Int.reduceEq, Nat.reduceMul, f21, f5, f0, f1, f19, f20, c1, hsw, hnw, f32, f0, f5, f30, f31, c1, f10, f75, f74, c2, f9, f73, h1, e1, f8, f8, e2, hyw]
          refine Yrow1 (Row.put _ h1 ho) rfl (by first | omega | (simp only [List.length_set]; omega)) (fun _ _ => ⟨rfl, (by first | assumption | (unfold i64 at *; omega))⟩) fun G1 w1 i1 k1 kn1 l1 => ?_
          replace hle := l1 (GH.le.trans hle (le_put h1 _))
          replace ht := RSl.ile (RSl.put _ h1 ht) i1
          simp (maxDischargeDepth := 9) only [↓gB, gV, gT, reduceIte, reduceCtorEq, Nat.reduceEqDiff, Nat.reduceAdd, Nat.reduceSub, Nat.reduceLeDiff, Nat.reduceLT, Int.reduceEq, Nat.reduceMul, f21, f5, f0, f1, f19, f20, c1, hsw, hnw, f32, f0, f5, f30, f31, c1, f10, f75, f74, c2, f9, f73, h1, e1, f8, f8, e2, hyw, kn1]
          have q1 : Go.IntKind.i64.wrap (↑j + 1) = ↑j + 1 := wrap_id (by omega)
          simp (maxDischargeDepth := 9) only [↓gB, gV, gT, reduceIte, reduceCtorEq, Nat.reduceEqDiff, Nat.reduceAdd, Nat.reduceSub, Nat.reduceLeDiff, Nat.reduceLT, Int.reduceEq, Nat.reduceMul, f21, f5, f0, f1, f19, f20, c1, hsw, hnw, f32, f0, f5, f30, f31, c1, f10, f75, f74, c2, f9, f73, h1, e1, f8, f8, e2, hyw, kn1, q1]
          rw [N_lp]
          refine ⟨_, ?_, _, sub_refl _, j + 1, rfl, ?_, ?_, ?_, ?_, by simp (maxDischargeDepth := 9) only [↓gB, gV, gT, reduceIte, reduceCtorEq, Nat.reduceEqDiff, Nat.reduceAdd, Nat.reduceSub, Nat.reduceLeDiff, Nat.reduceLT, Int.reduceEq, Nat.reduceMul, f21, f5, f0, f1, f19, f20, c1, hsw, hnw, f32, f0, f5, f30, f31, c1, f10, f75, f74, c2, f9, f73, h1, e1, f8, f8, e2, hyw, kn1, q1, nat_succ, and_self]⟩
          · omega
          · omega
          · (rw [hin]; assumption; done)
          · assumption
          · assumption
      · simp (maxDischargeDepth := 9) only [↓gB, gV, gT, reduceIte, reduceCtorEq, Nat.reduceEqDiff, Nat.reduceAdd, Nat.reduceSub, Nat.reduceLeDiff, Nat.reduceLT, Int.reduceEq, Nat.reduceMul, f21, f5, f0, f1, f19, f20, c1, hsw, hnw, f32, f0, f5, f30, f31, f8, f9, c1, f10, f75, f8, f73, f74, c2]
        have e2 : L.take j = L := List.take_of_length_le (by omega)
        rw [e2, ← hdiv] at ho
        obtain ⟨G4, hs4, hl4, hr4⟩ := ho.fin hle
        have hdl : (divideF n l).length = (qsF n l.sum l).length := by rw [hdiv, incs_len]
        exact Kup_gives hs4 hl4 hr4
end Go.Proofs.YtgkdbjnmlecimaaDoor
namespace Go.Proofs.YtgkdbjnmlecimaaDoor
open Go Go.GL
set_option maxRecDepth 10000
set_option maxHeartbeats 0
theorem p53 {G0 : GH} {v w : Value} {l m : List Int} (hv : RSl Rp.int G0 v l) (hw : RSl Rp.int G0 w m) (hn : (l.length : Int) ≤ 9223372036854775807) : Pure Tryd.prog G0 53 [v, w] (.bool (decide (l = m))) := by
  intro G hG; replace hv := hv.le hG; replace hw := hw.le hG
  clear hG G0
  refine enter Tryd.func53 26 #[.tmp 4] rfl Tryd.ntmps53 rfl (by decide +kernel) rfl ?_
  obtain ⟨a, c, rfl⟩ := hv.val
  obtain ⟨b, d, rfl⟩ := hw.val
  simp (maxDischargeDepth := 9) only [↓gB, gV, gT, reduceIte, reduceCtorEq, Nat.reduceEqDiff, Nat.reduceAdd, Nat.reduceSub, Nat.reduceLeDiff, Nat.reduceLT, Int.reduceEq, Nat.reduceMul]
  refine Xc_split _ _ _ _ _ (fun hlen => ?_) (fun hlen => ?_)
  · simp (maxDischargeDepth := 9) only [↓gB, gV, gT, reduceIte, reduceCtorEq, Nat.reduceEqDiff, Nat.reduceAdd, Nat.reduceSub, Nat.reduceLeDiff, Nat.reduceLT, Int.reduceEq, Nat.reduceMul]
    refine Kup_val (le_refl _) ?_
    have hne : l ≠ m := by (rintro rfl; exact hlen rfl)
    simp [hne]
  · simp (maxDischargeDepth := 9) only [↓gB, gV, gT, reduceIte, reduceCtorEq, Nat.reduceEqDiff, Nat.reduceAdd, Nat.reduceSub, Nat.reduceLeDiff, Nat.reduceLT, Int.reduceEq, Nat.reduceMul]
    focus
      refine Xloop_intro _ _ _ _ _ (fun k f G' => ∃ (i : Nat), k = l.length - i ∧ (i ≤ l.length) ∧ (l.take i = m.take i) ∧ (G = G') ∧ f 13 = V i ∧ f 0 = Go.Value.slice a l.length c ∧ f 1 = Go.Value.slice b m.length d ∧ f 12 = Go.Value.int Go.IntKind.i64 ↑l.length) _ ⟨0, rfl, ?_, ?_, rfl, by simp (maxDischargeDepth := 9) only [↓gB, gV, gT, reduceIte, reduceCtorEq, Nat.reduceEqDiff, Nat.reduceAdd, Nat.reduceSub, Nat.reduceLeDiff, Nat.reduceLT, Int.reduceEq, Nat.reduceMul, and_self]⟩ ?_
      · omega
      · rfl
      rintro k f G' ⟨i, rfl, hi, h, rfl, f13, f0, f1, f12⟩
    focus
      simp (maxDischargeDepth := 9) only [↓gB, gV, gT, reduceIte, reduceCtorEq, Nat.reduceEqDiff, Nat.reduceAdd, Nat.reduceSub, Nat.reduceLeDiff, Nat.reduceLT, Int.reduceEq, Nat.reduceMul, f13, f0, f1, f12]
      refine Xc_split _ _ _ _ _ (fun c1 => ?_) (fun c1 => ?_)
      rotate_left 1
      focus
        simp (maxDischargeDepth := 9) only [↓gB, gV, gT, reduceIte, reduceCtorEq, Nat.reduceEqDiff, Nat.reduceAdd, Nat.reduceSub, Nat.reduceLeDiff, Nat.reduceLT, Int.reduceEq, Nat.reduceMul, f13, f0, f1, f12, c1]
        refine Kup_val (le_refl _) ?_
        focus ((have e : l = m := by (rw [← List.take_of_length_le (l := l) (i := i) (by omega), h, List.take_of_length_le (by omega)])); simp [e]; done)
      rotate_right 1
      simp (maxDischargeDepth := 9) only [↓gB, gV, gT, reduceIte, reduceCtorEq, Nat.reduceEqDiff, Nat.reduceAdd, Nat.reduceSub, Nat.reduceLeDiff, Nat.reduceLT, Int.reduceEq, Nat.reduceMul, f13, f0, f1, f12, c1]
      refine Xdraw_intro [0, 1, 2, 3, 4, 5, 6, 7, 8] mixed (by kernel_rfl) (by decide +kernel) ?_
      simp (maxDischargeDepth := 9) only [↓gB, gV, gT, reduceIte, reduceCtorEq, Nat.reduceEqDiff, Nat.reduceAdd, Nat.reduceSub, Nat.reduceLeDiff, Nat.reduceLT, Int.reduceEq, Nat.reduceMul, f13, f0, f1, f12, c1]
      obtain ⟨x1, a1, s1, m1, rfl, ⟨rfl, w1⟩, e1⟩ := hv.at1 (i) (by omega) rfl
      simp (maxDischargeDepth := 9) only [↓gB, gV, gT, reduceIte, reduceCtorEq, Nat.reduceEqDiff, Nat.reduceAdd, Nat.reduceSub, Nat.reduceLeDiff, Nat.reduceLT, Int.reduceEq, Nat.reduceMul, f13, f1, f12, c1, f0, e1]
      refine vguard_intro (by simp) ?_
      obtain ⟨x2, a2, s2, m2, rfl, ⟨rfl, w2⟩, e2⟩ := hw.at1 (i) (by omega) rfl
      simp (maxDischargeDepth := 9) only [↓gB, gV, gT, reduceIte, reduceCtorEq, Nat.reduceEqDiff, Nat.reduceAdd, Nat.reduceSub, Nat.reduceLeDiff, Nat.reduceLT, Int.reduceEq, Nat.reduceMul, f13, f12, c1, f0, e1, f1, e2]
      refine vguard_intro (by omega) ?_
      refine Xc_split _ _ _ _ _ (fun c2 => ?_) (fun c2 => ?_)
      rotate_left 1
      focus
        simp (maxDischargeDepth := 9) only [↓gB, gV, gT, reduceIte, reduceCtorEq, Nat.reduceEqDiff, Nat.reduceAdd, Nat.reduceSub, Nat.reduceLeDiff, Nat.reduceLT, Int.reduceEq, Nat.reduceMul, f13, f12, c1, f0, e1, f1, e2, c2]
        have q1 : Go.IntKind.i64.wrap (↑i + 1) = ↑i + 1 := wrap_id (by omega)
        simp (maxDischargeDepth := 9) only [↓gB, gV, gT, reduceIte, reduceCtorEq, Nat.reduceEqDiff, Nat.reduceAdd, Nat.reduceSub, Nat.reduceLeDiff, Nat.reduceLT, Int.reduceEq, Nat.reduceMul, f13, f12, c1, f0, e1, f1, e2, c2, q1]
        rw [N_lp]
        refine ⟨_, ?_, _, ?_, i + 1, rfl, ?_, ?_, rfl, by simp (maxDischargeDepth := 9) only [↓gB, gV, gT, reduceIte, reduceCtorEq, Nat.reduceEqDiff, Nat.reduceAdd, Nat.reduceSub, Nat.reduceLeDiff, Nat.reduceLT, Int.reduceEq, Nat.reduceMul, f13, f12, c1, f0, e1, f1, e2, c2, q1, nat_succ, and_self]⟩
        · omega
        · exact sub_refl _
        · omega
        · (rw [take_at m1, take_at m2, h, show x1 = x2 by first | assumption | omega]; done)
      rotate_right 1
      simp (maxDischargeDepth := 9) only [↓gB, gV, gT, reduceIte, reduceCtorEq, Nat.reduceEqDiff, Nat.reduceAdd, Nat.reduceSub, Nat.reduceLeDiff, Nat.reduceLT, Int.reduceEq, Nat.reduceMul, f13, f12, c1, f0, e1, f1, e2, c2]
      refine Kup_val (le_refl _) ?_
      focus ((have e : l ≠ m := by (rintro rfl; rw [m1] at m2; cases m2; simp_all)); simp [e]; done)
def partsOk (l : List Int) : Bool := l.all fun p => within p 0 1000000000
def divideE (n : Int) (l : List Int) : Int := if within n 0 1000000000 = false then 1 else if 1000 < l.length then 2 else if partsOk l = false then 1 else if l.sum = 0 then 8 else 0
theorem parts_b {l : List Int} (h : partsOk l = true) : ∀ p ∈ l, 0 ≤ p ∧ p ≤ 1000000000 := fun p hp => within_iff.1 (List.all_eq_true.1 h p hp)
theorem g51 {G0 : GH} {n : Int} {v : Value} {l : List Int} (hv : RSl Rp.int G0 v l) (hlen : l.length < 20) : Gives Tryd.prog G0 51 [V n, v] (fun u G' => ∃ x, RSl Rp.int G' x (if divideE n l = 0 then divideF n l else []) ∧ u = .tuple #[x, V (divideE n l)]) := by
  intro G hG; replace hv := hv.le hG
  clear hG G0
  refine enter Tryd.func51 31 #[.tmp 4, .tmp 5] rfl Tryd.ntmps51 rfl (by decide +kernel) rfl ?_
  obtain ⟨a, c, rfl⟩ := hv.val
  cases hn : within n 0 1000000000
  · have e : divideE n l = 1 := by simp [divideE, hn]
    simp (maxDischargeDepth := 9) only [↓gB, gV, gT, reduceIte, reduceCtorEq, Nat.reduceEqDiff, Nat.reduceAdd, Nat.reduceSub, Nat.reduceLeDiff, Nat.reduceLT, Int.reduceEq, Nat.reduceMul, hn, e]
    refine Ycp (p74) ?_
    simp (maxDischargeDepth := 9) only [↓gB, gV, gT, reduceIte, reduceCtorEq, Nat.reduceEqDiff, Nat.reduceAdd, Nat.reduceSub, Nat.reduceLeDiff, Nat.reduceLT, Int.reduceEq, Nat.reduceMul, hn, e]
    exact Kup_gives (sub_refl _) (le_refl _) ⟨_, RSl.nil _ _, rfl⟩
  · have hnb := within_iff.1 hn
    simp (maxDischargeDepth := 9) only [↓gB, gV, gT, reduceIte, reduceCtorEq, Nat.reduceEqDiff, Nat.reduceAdd, Nat.reduceSub, Nat.reduceLeDiff, Nat.reduceLT, Int.reduceEq, Nat.reduceMul, hn]
    refine Ycp (p74) ?_
    simp (maxDischargeDepth := 9) only [↓gB, gV, gT, reduceIte, reduceCtorEq, Nat.reduceEqDiff, Nat.reduceAdd, Nat.reduceSub, Nat.reduceLeDiff, Nat.reduceLT, Int.reduceEq, Nat.reduceMul, hn]
    refine Xc_neg _ _ _ _ _ (by omega) ?_
    simp (maxDischargeDepth := 9) only [↓gB, gV, gT, reduceIte, reduceCtorEq, Nat.reduceEqDiff, Nat.reduceAdd, Nat.reduceSub, Nat.reduceLeDiff, Nat.reduceLT, Int.reduceEq, Nat.reduceMul, hn]
    focus
      refine Xloop_intro _ _ _ _ _ (fun k f G' => ∃ (i : Nat), k = l.length - i ∧ (i ≤ l.length) ∧ (partsOk (l.take i) = true) ∧ (G = G') ∧ f 16 = V i ∧ f 6 = V (l.take i).sum ∧ f 0 = Go.GL.V n ∧ f 1 = Go.Value.slice a l.length c ∧ f 14 = Go.Value.slice a l.length c ∧ f 15 = Go.Value.int Go.IntKind.i64 ↑l.length) _ ⟨0, rfl, ?_, ?_, rfl, by simp (maxDischargeDepth := 9) only [↓gB, gV, gT, reduceIte, reduceCtorEq, Nat.reduceEqDiff, Nat.reduceAdd, Nat.reduceSub, Nat.reduceLeDiff, Nat.reduceLT, Int.reduceEq, Nat.reduceMul, hn, List.sum_nil, and_self]⟩ ?_
      · omega
      · rfl
      rintro k f G' ⟨i, rfl, hi, hp, rfl, f16, f6, f0, f1, f14, f15⟩
    have hb := sum_b (parts_b hp)
    have hlt : (l.take i).length ≤ i := by rw [List.length_take]; omega
    simp (maxDischargeDepth := 9) only [↓gB, gV, gT, reduceIte, reduceCtorEq, Nat.reduceEqDiff, Nat.reduceAdd, Nat.reduceSub, Nat.reduceLeDiff, Nat.reduceLT, Int.reduceEq, Nat.reduceMul, hn, hp, f16, f6, f0, f1, f14, f15]
    refine Xc_split _ _ _ _ _ (fun c1 => ?_) (fun c1 => ?_)
    · obtain ⟨x, hx⟩ : ∃ x, l[i]? = some x := ⟨_, List.getElem?_eq_getElem (by omega)⟩
      have hst := sum_take hx
      simp (maxDischargeDepth := 9) only [↓gB, gV, gT, reduceIte, reduceCtorEq, Nat.reduceEqDiff, Nat.reduceAdd, Nat.reduceSub, Nat.reduceLeDiff, Nat.reduceLT, Int.reduceEq, Nat.reduceMul, hn, hp, f16, f6, f0, f1, f14, f15, c1]
      obtain ⟨x1, a1, s1, m1, rfl, ⟨rfl, w1⟩, e1⟩ := hv.at1 (i) (by omega) rfl
      simp (maxDischargeDepth := 9) only [↓gB, gV, gT, reduceIte, reduceCtorEq, Nat.reduceEqDiff, Nat.reduceAdd, Nat.reduceSub, Nat.reduceLeDiff, Nat.reduceLT, Int.reduceEq, Nat.reduceMul, hn, hp, f16, f6, f0, f15, c1, f1, f14, e1]
      refine vguard_intro (by simp) ?_
      refine Ycp (p74) ?_
      simp (maxDischargeDepth := 9) only [↓gB, gV, gT, reduceIte, reduceCtorEq, Nat.reduceEqDiff, Nat.reduceAdd, Nat.reduceSub, Nat.reduceLeDiff, Nat.reduceLT, Int.reduceEq, Nat.reduceMul, hn, hp, f16, f6, f0, f15, c1, f1, f14, e1]
      obtain rfl : x = x1 := by rw [hx] at m1; cases m1; rfl
      cases hxw : within x 0 1000000000
      · have e : divideE n l = 1 := by
          have : partsOk l = false := by
            unfold partsOk; rw [List.all_eq_false]; exact ⟨x, List.mem_of_getElem? hx, by simp [hxw]⟩
          have h0 : ¬ 1000 < l.length := by omega
          simp [divideE, hn, this, h0]
        simp (maxDischargeDepth := 9) only [↓gB, gV, gT, reduceIte, reduceCtorEq, Nat.reduceEqDiff, Nat.reduceAdd, Nat.reduceSub, Nat.reduceLeDiff, Nat.reduceLT, Int.reduceEq, Nat.reduceMul, hn, hp, f16, f6, f0, f15, c1, f1, f14, e1, hxw, e]
        exact Kup_gives (sub_refl _) (le_refl _) ⟨_, RSl.nil _ _, rfl⟩
      · have hxb := within_iff.1 hxw
        have hp' : partsOk (l.take (i + 1)) = true := by unfold partsOk at *; rw [take_at hx, List.all_append, hp]; simp [hxw]
        focus
          simp (maxDischargeDepth := 9) only [↓gB, gV, gT, reduceIte, reduceCtorEq, Nat.reduceEqDiff, Nat.reduceAdd, Nat.reduceSub, Nat.reduceLeDiff, Nat.reduceLT, Int.reduceEq, Nat.reduceMul, hn, hp, f16, f6, f0, f15, c1, f1, f14, e1, hxw, hp', hst]
          have q1 : Go.IntKind.i64.wrap ((List.take i l).sum + x) = (List.take i l).sum + x := wrap_id (by omega)
          simp (maxDischargeDepth := 9) only [↓gB, gV, gT, reduceIte, reduceCtorEq, Nat.reduceEqDiff, Nat.reduceAdd, Nat.reduceSub, Nat.reduceLeDiff, Nat.reduceLT, Int.reduceEq, Nat.reduceMul, hn, hp, f16, f6, f0, f15, c1, f1, f14, e1, hxw, hp', q1, hst]
          have q2 : Go.IntKind.i64.wrap (↑i + 1) = ↑i + 1 := wrap_id (by omega)
          simp (maxDischargeDepth := 9) only [↓gB, gV, gT, reduceIte, reduceCtorEq, Nat.reduceEqDiff, Nat.reduceAdd, Nat.reduceSub, Nat.reduceLeDiff, Nat.reduceLT, Int.reduceEq, Nat.reduceMul, hn, hp, f16, f6, f0, f15, c1, f1, f14, e1, hxw, hp', q1, q2, hst]
          rw [N_lp]
          refine ⟨_, ?_, _, ?_, i + 1, rfl, ?_, ?_, rfl, by simp (maxDischargeDepth := 9) only [↓gB, gV, gT, reduceIte, reduceCtorEq, Nat.reduceEqDiff, Nat.reduceAdd, Nat.reduceSub, Nat.reduceLeDiff, Nat.reduceLT, Int.reduceEq, Nat.reduceMul, hn, hp, f16, f6, f0, f15, c1, f1, f14, e1, hxw, hp', q1, q2, hst, nat_succ, and_self]⟩
          · omega
          · exact sub_refl _
          · omega
          · assumption
    · have e2 : l.take i = l := List.take_of_length_le (by omega)
      rw [e2] at hp f6 hb
      have h0 : ¬ 1000 < l.length := by omega
      by_cases c2 : l.sum = 0
      · have e : divideE n l = 8 := by simp [divideE, hn, hp, c2, h0]
        simp (maxDischargeDepth := 9) only [↓gB, gV, gT, reduceIte, reduceCtorEq, Nat.reduceEqDiff, Nat.reduceAdd, Nat.reduceSub, Nat.reduceLeDiff, Nat.reduceLT, Int.reduceEq, Nat.reduceMul, hn, hp, f16, f6, f0, f1, f14, f15, c1, c2, e]
        exact Kup_gives (sub_refl _) (le_refl _) ⟨_, RSl.nil _ _, rfl⟩
      · have e : divideE n l = 0 := by simp [divideE, hn, hp, c2, h0]
        have hs0 : 0 < l.sum := by omega
        have hpb := parts_b hp
        simp (maxDischargeDepth := 9) only [↓gB, gV, gT, reduceIte, reduceCtorEq, Nat.reduceEqDiff, Nat.reduceAdd, Nat.reduceSub, Nat.reduceLeDiff, Nat.reduceLT, Int.reduceEq, Nat.reduceMul, hn, hp, f16, f6, f0, f1, f14, f15, c1, c2, e]
        refine Ycg (g106 (by assumption) (by omega) (by omega) (by assumption) (by assumption) (by assumption)) ?_ ?_
        · exact upRSl _ _
        intro u1 G1 l1 w1
        replace hv := RSl.le hv l1
        obtain ⟨aw1, cw1, rfl⟩ := RSl.val w1
        simp (maxDischargeDepth := 9) only [↓gB, gV, gT, reduceIte, reduceCtorEq, Nat.reduceEqDiff, Nat.reduceAdd, Nat.reduceSub, Nat.reduceLeDiff, Nat.reduceLT, Int.reduceEq, Nat.reduceMul, hn, hp, f16, f6, f0, f1, f14, f15, c1, c2, e]
        exact Kup_gives (sub_refl _) (by assumption) ⟨_, by assumption, rfl⟩
end Go.Proofs.YtgkdbjnmlecimaaDoor
namespace Go.Proofs.YtgkdbjnmlecimaaDoor
open Go Go.GL
set_option maxRecDepth 10000
set_option maxHeartbeats 0
theorem pr1 : divideE 10 [1, 1, 1] = 0 := by decide
theorem pr2 : divideF 10 [1, 1, 1] = [4, 3, 3] := by decide
theorem p23 {G0 : GH}   : Pure Tryd.prog G0 23 [] (.bool true) := by
  intro G hG
  clear hG G0
  refine enter Tryd.func23 15 #[.tmp 0] rfl Tryd.ntmps23 rfl (by decide +kernel) rfl ?_
  simp (maxDischargeDepth := 9) only [↓gB, gV, gT, reduceIte, reduceCtorEq, Nat.reduceEqDiff, Nat.reduceAdd, Nat.reduceSub, Nat.reduceLeDiff, Nat.reduceLT, Int.reduceEq, Nat.reduceMul]
  refine Yn1 fun r1 h1 => ?_
  simp (maxDischargeDepth := 9) only [↓gB, gV, gT, reduceIte, reduceCtorEq, Nat.reduceEqDiff, Nat.reduceAdd, Nat.reduceSub, Nat.reduceLeDiff, Nat.reduceLT, Int.reduceEq, Nat.reduceMul, h1]
  have y1 := put_self G r1 (.cells [V 1, V 1, V 1].toArray 3 (0, 0), true)
  have l1 := le_put h1 (.cells [V 1, V 1, V 1].toArray 3 (0, 0), true)
  generalize G.put r1 (.cells [V 1, V 1, V 1].toArray 3 (0, 0), true) = G1 at *
  obtain ⟨G2, hs, hv, hk, hil, hle⟩ := frz_list (ρ := Rp.int) (xs := [1, 1, 1]) y1 (cells1 (enc := V) (by simp [Rp.int, i64]))
  refine Ycsub hs ?_
  have hl := hle G l1 h1
  refine Ycg (g51 (by assumption) (by decide)) ?_ ?_
  · exact upPair _ _ _
  intro u3 G3 l3 w3
  replace hv := RSl.le hv l3
  replace hl := GH.le.trans hl l3
  obtain ⟨z3, w3', rfl⟩ := w3
  obtain ⟨aw3', cw3', rfl⟩ := RSl.val w3'
  simp (maxDischargeDepth := 9) only [↓gB, gV, gT, reduceIte, reduceCtorEq, Nat.reduceEqDiff, Nat.reduceAdd, Nat.reduceSub, Nat.reduceLeDiff, Nat.reduceLT, Int.reduceEq, Nat.reduceMul, h1, y1, hk, pr1, pr2]
  refine Yn1 fun r2 h2 => ?_
  simp (maxDischargeDepth := 9) only [↓gB, gV, gT, reduceIte, reduceCtorEq, Nat.reduceEqDiff, Nat.reduceAdd, Nat.reduceSub, Nat.reduceLeDiff, Nat.reduceLT, Int.reduceEq, Nat.reduceMul, h1, y1, hk, h2, pr1, pr2]
  have y2 := put_self G3 r2 (.cells [V 4, V 3, V 3].toArray 3 (0, 0), true)
  have l2 := le_put h2 (.cells [V 4, V 3, V 3].toArray 3 (0, 0), true)
  have w1 : RSl Rp.int G3 (.slice aw3' 3 cw3') [4, 3, 3] := by simp only [pr1, pr2, if_true] at w3'; exact w3'
  replace w1 := RSl.le w1 l2
  have l4 := hl.trans l2
  have h3 := hl.none h2
  generalize G3.put r2 (.cells [V 4, V 3, V 3].toArray 3 (0, 0), true) = G4 at *
  obtain ⟨G5, hs5, hv5, hk5, hil5, hle5⟩ := frz_list (ρ := Rp.int) (xs := [4, 3, 3]) y2 (cells1 (enc := V) (by simp [Rp.int, i64]))
  refine Ycsub hs5 ?_
  replace hl := hle5 G l4 h3
  replace w1 := RSl.ile w1 hil5
  refine Ycp (p53 (by assumption) (by assumption) (by decide)) ?_
  simp (maxDischargeDepth := 9) only [↓gB, gV, gT, reduceIte, reduceCtorEq, Nat.reduceEqDiff, Nat.reduceAdd, Nat.reduceSub, Nat.reduceLeDiff, Nat.reduceLT, Int.reduceEq, Nat.reduceMul, h1, y1, hk, h2, h3, y2, hk5, pr1, pr2]
  exact Kup_val (by simp (maxDischargeDepth := 9) only [le_self, le_puts, le_put0, h1, l1, l3, h2, h3, l2, l4, hl]) rfl
end Go.Proofs.YtgkdbjnmlecimaaDoor
namespace Go.Proofs.YtgkdbjnmlecimaaDoor
open Go Go.GL
set_option maxRecDepth 10000
set_option maxHeartbeats 0
theorem p4 {G0 : GH} {v w : Value} {l : List SZone} {n : ByteArray} {ns : List ByteArray} (hv : RSl rZone G0 v l) (hw : RSl Rp.str G0 w ns) (hn : l.length ≤ 1048576) (hz : ∀ z ∈ l, z.Nodes.length ≤ 1000000000) (hm : ns.length ≤ 1048576) : Pure Tryd.prog G0 4 [v, .string n, w] (.bool true) := by
  intro G hG; replace hv := hv.le hG; replace hw := hw.le hG
  clear hG G0
  refine enter Tryd.func4 91 #[.tmp 6] rfl Tryd.ntmps4 rfl (by decide +kernel) rfl ?_
  obtain ⟨a, c, rfl⟩ := hv.val
  obtain ⟨b, d, rfl⟩ := hw.val
  have hcE : orOf [checkZones l, namesF ns 2000] = crossE l ns := rfl
  have hzE : orOf [checkZones l, keyF n] = zoneOfF l n := rfl
  have hcl : (crossF l ns).length ≤ ns.length := by have := cross_len l ns ns.length; rwa [List.take_length] at this
  by_cases hzo : zoneOfF l n = 0
  · have h0 : checkZones l = 0 := by
      unfold zoneOfF at hzo; rw [orOf2] at hzo; split at hzo
      · assumption
      · rename_i q; exact absurd hzo q
    have hzz := cz_z h0
    by_cases he : crossE l ns = 0
    · simp (maxDischargeDepth := 9) only [↓gB, gV, gT, reduceIte, reduceCtorEq, Nat.reduceEqDiff, Nat.reduceAdd, Nat.reduceSub, Nat.reduceLeDiff, Nat.reduceLT, Int.reduceEq, Nat.reduceMul, hcE, hzE, hzo, he, beq_self_eq_true]
      refine Ycp (p25 (by assumption) (by omega)) ?_
      simp (maxDischargeDepth := 9) only [↓gB, gV, gT, reduceIte, reduceCtorEq, Nat.reduceEqDiff, Nat.reduceAdd, Nat.reduceSub, Nat.reduceLeDiff, Nat.reduceLT, Int.reduceEq, Nat.reduceMul, hcE, hzE, hzo, he, beq_self_eq_true]
      refine Ycg (g27 (by assumption) (by omega) (by assumption)) ?_ ?_
      · exact upRSl _ _
      intro u1 G1 l1 w1
      replace hv := RSl.le hv l1
      replace hw := RSl.le hw l1
      obtain ⟨aw1, cw1, rfl⟩ := RSl.val w1
      simp (maxDischargeDepth := 9) only [↓gB, gV, gT, reduceIte, reduceCtorEq, Nat.reduceEqDiff, Nat.reduceAdd, Nat.reduceSub, Nat.reduceLeDiff, Nat.reduceLT, Int.reduceEq, Nat.reduceMul, hcE, hzE, hzo, he, beq_self_eq_true]
      refine Ycp (p26 (by assumption) (by omega)) ?_
      simp (maxDischargeDepth := 9) only [↓gB, gV, gT, reduceIte, reduceCtorEq, Nat.reduceEqDiff, Nat.reduceAdd, Nat.reduceSub, Nat.reduceLeDiff, Nat.reduceLT, Int.reduceEq, Nat.reduceMul, hcE, hzE, hzo, he, beq_self_eq_true]
      refine Ycg (g27 (by assumption) (by omega) (by assumption)) ?_ ?_
      · exact upRSl _ _
      intro u2 G2 l2 w2
      replace l1 := GH.le.trans l1 l2
      replace hv := RSl.le hv l2
      replace hw := RSl.le hw l2
      replace w1 := RSl.le w1 l2
      obtain ⟨aw2, cw2, rfl⟩ := RSl.val w2
      simp (maxDischargeDepth := 9) only [↓gB, gV, gT, reduceIte, reduceCtorEq, Nat.reduceEqDiff, Nat.reduceAdd, Nat.reduceSub, Nat.reduceLeDiff, Nat.reduceLT, Int.reduceEq, Nat.reduceMul, hcE, hzE, hzo, he, beq_self_eq_true]
      refine Ycp (p28 (by assumption) (by omega)) ?_
      simp (maxDischargeDepth := 9) only [↓gB, gV, gT, reduceIte, reduceCtorEq, Nat.reduceEqDiff, Nat.reduceAdd, Nat.reduceSub, Nat.reduceLeDiff, Nat.reduceLT, Int.reduceEq, Nat.reduceMul, hcE, hzE, hzo, he, beq_self_eq_true]
      refine Ycp (p29) ?_
      simp (maxDischargeDepth := 9) only [↓gB, gV, gT, reduceIte, reduceCtorEq, Nat.reduceEqDiff, Nat.reduceAdd, Nat.reduceSub, Nat.reduceLeDiff, Nat.reduceLT, Int.reduceEq, Nat.reduceMul, hcE, hzE, hzo, he, beq_self_eq_true]
      refine Yn1 fun r1 h1 => ?_
      simp (maxDischargeDepth := 9) only [↓gB, gV, gT, reduceIte, reduceCtorEq, Nat.reduceEqDiff, Nat.reduceAdd, Nat.reduceSub, Nat.reduceLeDiff, Nat.reduceLT, Int.reduceEq, Nat.reduceMul, h1, hcE, hzE, hzo, he, beq_self_eq_true]
      refine Ycp (p16 (by exact put_self _ _ _)) ?_
      simp (maxDischargeDepth := 9) only [↓gB, gV, gT, reduceIte, reduceCtorEq, Nat.reduceEqDiff, Nat.reduceAdd, Nat.reduceSub, Nat.reduceLeDiff, Nat.reduceLT, Int.reduceEq, Nat.reduceMul, h1, hcE, hzE, hzo, he, beq_self_eq_true]
      refine Ycp (p30 (by exact RSl.put _ (by assumption) (by assumption)) (by omega) (by assumption)) ?_
      simp (maxDischargeDepth := 9) only [↓gB, gV, gT, reduceIte, reduceCtorEq, Nat.reduceEqDiff, Nat.reduceAdd, Nat.reduceSub, Nat.reduceLeDiff, Nat.reduceLT, Int.reduceEq, Nat.reduceMul, h1, hcE, hzE, hzo, he, beq_self_eq_true]
      have q3_0 := GH.le.none l2 h1
      have q3_1 := GH.le.none l1 h1
      have l3 := le_put h1 ((Go.Obj.cells #[Go.GL.V (Go.Proofs.YtgkdbjnmlecimaaDoor.checkZones l), Go.GL.V (Go.Proofs.YtgkdbjnmlecimaaDoor.keyF n)] 26, Bool.true))
      have y3 := put_self G2 r1 ((Go.Obj.cells #[Go.GL.V (Go.Proofs.YtgkdbjnmlecimaaDoor.checkZones l), Go.GL.V (Go.Proofs.YtgkdbjnmlecimaaDoor.keyF n)] 26, Bool.true))
      generalize GH.put G2 r1 ((Go.Obj.cells #[Go.GL.V (Go.Proofs.YtgkdbjnmlecimaaDoor.checkZones l), Go.GL.V (Go.Proofs.YtgkdbjnmlecimaaDoor.keyF n)] 26, Bool.true)) = G3 at *
      replace l2 := GH.le.trans l2 l3
      replace l1 := GH.le.trans l1 l3
      replace hv := RSl.le hv l3
      replace hw := RSl.le hw l3
      replace w1 := RSl.le w1 l3
      replace w2 := RSl.le w2 l3
      refine Ycg (g27 (by assumption) (by omega) (by assumption)) ?_ ?_
      · exact upRSl _ _
      intro u4 G4 l4 w4
      replace l3 := GH.le.trans l3 l4
      replace y3 := l4 _ _ y3
      replace l2 := GH.le.trans l2 l4
      replace l1 := GH.le.trans l1 l4
      replace hv := RSl.le hv l4
      replace hw := RSl.le hw l4
      replace w1 := RSl.le w1 l4
      replace w2 := RSl.le w2 l4
      obtain ⟨aw4, cw4, rfl⟩ := RSl.val w4
      simp (maxDischargeDepth := 9) only [↓gB, gV, gT, reduceIte, reduceCtorEq, Nat.reduceEqDiff, Nat.reduceAdd, Nat.reduceSub, Nat.reduceLeDiff, Nat.reduceLT, Int.reduceEq, Nat.reduceMul, h1, q3_0, q3_1, y3, hcE, hzE, hzo, he, beq_self_eq_true]
      refine Ycg (g9 (by assumption) (by omega)) ?_ ?_
      · exact upRSl _ _
      intro u5 G5 l5 w5
      replace l4 := GH.le.trans l4 l5
      replace l3 := GH.le.trans l3 l5
      replace y3 := l5 _ _ y3
      replace l2 := GH.le.trans l2 l5
      replace l1 := GH.le.trans l1 l5
      replace hv := RSl.le hv l5
      replace hw := RSl.le hw l5
      replace w1 := RSl.le w1 l5
      replace w2 := RSl.le w2 l5
      replace w4 := RSl.le w4 l5
      obtain ⟨aw5, cw5, rfl⟩ := RSl.val w5
      simp (maxDischargeDepth := 9) only [↓gB, gV, gT, reduceIte, reduceCtorEq, Nat.reduceEqDiff, Nat.reduceAdd, Nat.reduceSub, Nat.reduceLeDiff, Nat.reduceLT, Int.reduceEq, Nat.reduceMul, h1, q3_0, q3_1, y3, hcE, hzE, hzo, he, beq_self_eq_true]
      refine Ycg (g31 (by assumption) (by assumption) (by omega) (by omega)) ?_ ?_
      · exact upPair _ _ _
      intro u6 G6 l6 w6
      replace l5 := GH.le.trans l5 l6
      replace l4 := GH.le.trans l4 l6
      replace l3 := GH.le.trans l3 l6
      replace y3 := l6 _ _ y3
      replace l2 := GH.le.trans l2 l6
      replace l1 := GH.le.trans l1 l6
      replace hv := RSl.le hv l6
      replace hw := RSl.le hw l6
      replace w1 := RSl.le w1 l6
      replace w2 := RSl.le w2 l6
      replace w4 := RSl.le w4 l6
      replace w5 := RSl.le w5 l6
      obtain ⟨z6, w6', rfl⟩ := w6
      simp only [hcE, hzE, hzo, he, beq_self_eq_true, reduceIte] at w6'
      obtain ⟨aw6', cw6', rfl⟩ := RSl.val w6'
      simp (maxDischargeDepth := 9) only [↓gB, gV, gT, reduceIte, reduceCtorEq, Nat.reduceEqDiff, Nat.reduceAdd, Nat.reduceSub, Nat.reduceLeDiff, Nat.reduceLT, Int.reduceEq, Nat.reduceMul, h1, q3_0, q3_1, y3, hcE, hzE, hzo, he, beq_self_eq_true]
      refine Ycp (p32 (by assumption) (by omega)) ?_
      simp (maxDischargeDepth := 9) only [↓gB, gV, gT, reduceIte, reduceCtorEq, Nat.reduceEqDiff, Nat.reduceAdd, Nat.reduceSub, Nat.reduceLeDiff, Nat.reduceLT, Int.reduceEq, Nat.reduceMul, h1, q3_0, q3_1, y3, hcE, hzE, hzo, he, beq_self_eq_true]
      refine Yn1 fun r2 h2 => ?_
      simp (maxDischargeDepth := 9) only [↓gB, gV, gT, reduceIte, reduceCtorEq, Nat.reduceEqDiff, Nat.reduceAdd, Nat.reduceSub, Nat.reduceLeDiff, Nat.reduceLT, Int.reduceEq, Nat.reduceMul, h1, q3_0, q3_1, y3, h2, hcE, hzE, hzo, he, beq_self_eq_true]
      refine Ycp (p16 (by exact put_self _ _ _)) ?_
      simp (maxDischargeDepth := 9) only [↓gB, gV, gT, reduceIte, reduceCtorEq, Nat.reduceEqDiff, Nat.reduceAdd, Nat.reduceSub, Nat.reduceLeDiff, Nat.reduceLT, Int.reduceEq, Nat.reduceMul, h1, q3_0, q3_1, y3, h2, hcE, hzE, hzo, he, beq_self_eq_true]
      have q7_0 := GH.le.none l6 h2
      have q7_1 := GH.le.none l5 h2
      have q7_2 := GH.le.none l4 h2
      have q7_3 := GH.le.none l3 h2
      have q7_4 := GH.le.none l2 h2
      have q7_5 := GH.le.none l1 h2
      have l7 := le_put h2 ((Go.Obj.cells #[Go.GL.V (Go.Proofs.YtgkdbjnmlecimaaDoor.checkZones l), Go.GL.V (Go.Proofs.YtgkdbjnmlecimaaDoor.namesF ns 2000)] 26, Bool.true))
      have y7 := put_self G6 r2 ((Go.Obj.cells #[Go.GL.V (Go.Proofs.YtgkdbjnmlecimaaDoor.checkZones l), Go.GL.V (Go.Proofs.YtgkdbjnmlecimaaDoor.namesF ns 2000)] 26, Bool.true))
      generalize GH.put G6 r2 ((Go.Obj.cells #[Go.GL.V (Go.Proofs.YtgkdbjnmlecimaaDoor.checkZones l), Go.GL.V (Go.Proofs.YtgkdbjnmlecimaaDoor.namesF ns 2000)] 26, Bool.true)) = G7 at *
      replace l6 := GH.le.trans l6 l7
      replace l5 := GH.le.trans l5 l7
      replace l4 := GH.le.trans l4 l7
      replace l3 := GH.le.trans l3 l7
      replace y3 := l7 _ _ y3
      replace l2 := GH.le.trans l2 l7
      replace l1 := GH.le.trans l1 l7
      replace hv := RSl.le hv l7
      replace hw := RSl.le hw l7
      replace w1 := RSl.le w1 l7
      replace w2 := RSl.le w2 l7
      replace w4 := RSl.le w4 l7
      replace w5 := RSl.le w5 l7
      replace w6' := RSl.le w6' l7
      refine Ycg (g33 (by assumption) (by assumption) (by omega) (by omega) (by assumption)) ?_ ?_
      · exact upRSl _ _
      intro u8 G8 l8 w8
      replace l7 := GH.le.trans l7 l8
      replace y7 := l8 _ _ y7
      replace l6 := GH.le.trans l6 l8
      replace l5 := GH.le.trans l5 l8
      replace l4 := GH.le.trans l4 l8
      replace l3 := GH.le.trans l3 l8
      replace y3 := l8 _ _ y3
      replace l2 := GH.le.trans l2 l8
      replace l1 := GH.le.trans l1 l8
      replace hv := RSl.le hv l8
      replace hw := RSl.le hw l8
      replace w1 := RSl.le w1 l8
      replace w2 := RSl.le w2 l8
      replace w4 := RSl.le w4 l8
      replace w5 := RSl.le w5 l8
      replace w6' := RSl.le w6' l8
      obtain ⟨aw8, cw8, rfl⟩ := RSl.val w8
      simp (maxDischargeDepth := 9) only [↓gB, gV, gT, reduceIte, reduceCtorEq, Nat.reduceEqDiff, Nat.reduceAdd, Nat.reduceSub, Nat.reduceLeDiff, Nat.reduceLT, Int.reduceEq, Nat.reduceMul, h1, q3_0, q3_1, h2, q7_0, q7_1, q7_2, q7_3, q7_4, q7_5, y7, y3, hcE, hzE, hzo, he, beq_self_eq_true]
      refine Ycp (p18 (by assumption) (by assumption) (by omega)) ?_
      simp (maxDischargeDepth := 9) only [↓gB, gV, gT, reduceIte, reduceCtorEq, Nat.reduceEqDiff, Nat.reduceAdd, Nat.reduceSub, Nat.reduceLeDiff, Nat.reduceLT, Int.reduceEq, Nat.reduceMul, h1, q3_0, q3_1, h2, q7_0, q7_1, q7_2, q7_3, q7_4, q7_5, y7, y3, hcE, hzE, hzo, he, beq_self_eq_true]
      refine Ycp (p23) ?_
      simp (maxDischargeDepth := 9) only [↓gB, gV, gT, reduceIte, reduceCtorEq, Nat.reduceEqDiff, Nat.reduceAdd, Nat.reduceSub, Nat.reduceLeDiff, Nat.reduceLT, Int.reduceEq, Nat.reduceMul, h1, q3_0, q3_1, h2, q7_0, q7_1, q7_2, q7_3, q7_4, q7_5, y7, y3, hcE, hzE, hzo, he, beq_self_eq_true]
      exact Kup_val (by simp (maxDischargeDepth := 9) only [le_self, le_puts, le_put0, h1, q3_0, q3_1, h2, q7_0, q7_1, q7_2, q7_3, q7_4, q7_5, l8, l7, l6, l5, l4, l3, l2, l1]) rfl
    · simp (maxDischargeDepth := 9) only [↓gB, gV, gT, reduceIte, reduceCtorEq, Nat.reduceEqDiff, Nat.reduceAdd, Nat.reduceSub, Nat.reduceLeDiff, Nat.reduceLT, Int.reduceEq, Nat.reduceMul, hcE, hzE, hzo, he, beq_self_eq_true]
      refine Ycp (p25 (by assumption) (by omega)) ?_
      simp (maxDischargeDepth := 9) only [↓gB, gV, gT, reduceIte, reduceCtorEq, Nat.reduceEqDiff, Nat.reduceAdd, Nat.reduceSub, Nat.reduceLeDiff, Nat.reduceLT, Int.reduceEq, Nat.reduceMul, hcE, hzE, hzo, he, beq_self_eq_true]
      refine Ycg (g27 (by assumption) (by omega) (by assumption)) ?_ ?_
      · exact upRSl _ _
      intro u1 G1 l1 w1
      replace hv := RSl.le hv l1
      replace hw := RSl.le hw l1
      obtain ⟨aw1, cw1, rfl⟩ := RSl.val w1
      simp (maxDischargeDepth := 9) only [↓gB, gV, gT, reduceIte, reduceCtorEq, Nat.reduceEqDiff, Nat.reduceAdd, Nat.reduceSub, Nat.reduceLeDiff, Nat.reduceLT, Int.reduceEq, Nat.reduceMul, hcE, hzE, hzo, he, beq_self_eq_true]
      refine Ycp (p26 (by assumption) (by omega)) ?_
      simp (maxDischargeDepth := 9) only [↓gB, gV, gT, reduceIte, reduceCtorEq, Nat.reduceEqDiff, Nat.reduceAdd, Nat.reduceSub, Nat.reduceLeDiff, Nat.reduceLT, Int.reduceEq, Nat.reduceMul, hcE, hzE, hzo, he, beq_self_eq_true]
      refine Ycg (g27 (by assumption) (by omega) (by assumption)) ?_ ?_
      · exact upRSl _ _
      intro u2 G2 l2 w2
      replace l1 := GH.le.trans l1 l2
      replace hv := RSl.le hv l2
      replace hw := RSl.le hw l2
      replace w1 := RSl.le w1 l2
      obtain ⟨aw2, cw2, rfl⟩ := RSl.val w2
      simp (maxDischargeDepth := 9) only [↓gB, gV, gT, reduceIte, reduceCtorEq, Nat.reduceEqDiff, Nat.reduceAdd, Nat.reduceSub, Nat.reduceLeDiff, Nat.reduceLT, Int.reduceEq, Nat.reduceMul, hcE, hzE, hzo, he, beq_self_eq_true]
      refine Ycp (p28 (by assumption) (by omega)) ?_
      simp (maxDischargeDepth := 9) only [↓gB, gV, gT, reduceIte, reduceCtorEq, Nat.reduceEqDiff, Nat.reduceAdd, Nat.reduceSub, Nat.reduceLeDiff, Nat.reduceLT, Int.reduceEq, Nat.reduceMul, hcE, hzE, hzo, he, beq_self_eq_true]
      refine Ycp (p29) ?_
      simp (maxDischargeDepth := 9) only [↓gB, gV, gT, reduceIte, reduceCtorEq, Nat.reduceEqDiff, Nat.reduceAdd, Nat.reduceSub, Nat.reduceLeDiff, Nat.reduceLT, Int.reduceEq, Nat.reduceMul, hcE, hzE, hzo, he, beq_self_eq_true]
      refine Yn1 fun r1 h1 => ?_
      simp (maxDischargeDepth := 9) only [↓gB, gV, gT, reduceIte, reduceCtorEq, Nat.reduceEqDiff, Nat.reduceAdd, Nat.reduceSub, Nat.reduceLeDiff, Nat.reduceLT, Int.reduceEq, Nat.reduceMul, h1, hcE, hzE, hzo, he, beq_self_eq_true]
      refine Ycp (p16 (by exact put_self _ _ _)) ?_
      simp (maxDischargeDepth := 9) only [↓gB, gV, gT, reduceIte, reduceCtorEq, Nat.reduceEqDiff, Nat.reduceAdd, Nat.reduceSub, Nat.reduceLeDiff, Nat.reduceLT, Int.reduceEq, Nat.reduceMul, h1, hcE, hzE, hzo, he, beq_self_eq_true]
      refine Ycp (p30 (by exact RSl.put _ (by assumption) (by assumption)) (by omega) (by assumption)) ?_
      simp (maxDischargeDepth := 9) only [↓gB, gV, gT, reduceIte, reduceCtorEq, Nat.reduceEqDiff, Nat.reduceAdd, Nat.reduceSub, Nat.reduceLeDiff, Nat.reduceLT, Int.reduceEq, Nat.reduceMul, h1, hcE, hzE, hzo, he, beq_self_eq_true]
      have q3_0 := GH.le.none l2 h1
      have q3_1 := GH.le.none l1 h1
      have l3 := le_put h1 ((Go.Obj.cells #[Go.GL.V (Go.Proofs.YtgkdbjnmlecimaaDoor.checkZones l), Go.GL.V (Go.Proofs.YtgkdbjnmlecimaaDoor.keyF n)] 26, Bool.true))
      have y3 := put_self G2 r1 ((Go.Obj.cells #[Go.GL.V (Go.Proofs.YtgkdbjnmlecimaaDoor.checkZones l), Go.GL.V (Go.Proofs.YtgkdbjnmlecimaaDoor.keyF n)] 26, Bool.true))
      generalize GH.put G2 r1 ((Go.Obj.cells #[Go.GL.V (Go.Proofs.YtgkdbjnmlecimaaDoor.checkZones l), Go.GL.V (Go.Proofs.YtgkdbjnmlecimaaDoor.keyF n)] 26, Bool.true)) = G3 at *
      replace l2 := GH.le.trans l2 l3
      replace l1 := GH.le.trans l1 l3
      replace hv := RSl.le hv l3
      replace hw := RSl.le hw l3
      replace w1 := RSl.le w1 l3
      replace w2 := RSl.le w2 l3
      refine Ycg (g27 (by assumption) (by omega) (by assumption)) ?_ ?_
      · exact upRSl _ _
      intro u4 G4 l4 w4
      replace l3 := GH.le.trans l3 l4
      replace y3 := l4 _ _ y3
      replace l2 := GH.le.trans l2 l4
      replace l1 := GH.le.trans l1 l4
      replace hv := RSl.le hv l4
      replace hw := RSl.le hw l4
      replace w1 := RSl.le w1 l4
      replace w2 := RSl.le w2 l4
      obtain ⟨aw4, cw4, rfl⟩ := RSl.val w4
      simp (maxDischargeDepth := 9) only [↓gB, gV, gT, reduceIte, reduceCtorEq, Nat.reduceEqDiff, Nat.reduceAdd, Nat.reduceSub, Nat.reduceLeDiff, Nat.reduceLT, Int.reduceEq, Nat.reduceMul, h1, q3_0, q3_1, y3, hcE, hzE, hzo, he, beq_self_eq_true]
      refine Ycg (g9 (by assumption) (by omega)) ?_ ?_
      · exact upRSl _ _
      intro u5 G5 l5 w5
      replace l4 := GH.le.trans l4 l5
      replace l3 := GH.le.trans l3 l5
      replace y3 := l5 _ _ y3
      replace l2 := GH.le.trans l2 l5
      replace l1 := GH.le.trans l1 l5
      replace hv := RSl.le hv l5
      replace hw := RSl.le hw l5
      replace w1 := RSl.le w1 l5
      replace w2 := RSl.le w2 l5
      replace w4 := RSl.le w4 l5
      obtain ⟨aw5, cw5, rfl⟩ := RSl.val w5
      simp (maxDischargeDepth := 9) only [↓gB, gV, gT, reduceIte, reduceCtorEq, Nat.reduceEqDiff, Nat.reduceAdd, Nat.reduceSub, Nat.reduceLeDiff, Nat.reduceLT, Int.reduceEq, Nat.reduceMul, h1, q3_0, q3_1, y3, hcE, hzE, hzo, he, beq_self_eq_true]
      refine Ycg (g31 (by assumption) (by assumption) (by omega) (by omega)) ?_ ?_
      · exact upPair _ _ _
      intro u6 G6 l6 w6
      replace l5 := GH.le.trans l5 l6
      replace l4 := GH.le.trans l4 l6
      replace l3 := GH.le.trans l3 l6
      replace y3 := l6 _ _ y3
      replace l2 := GH.le.trans l2 l6
      replace l1 := GH.le.trans l1 l6
      replace hv := RSl.le hv l6
      replace hw := RSl.le hw l6
      replace w1 := RSl.le w1 l6
      replace w2 := RSl.le w2 l6
      replace w4 := RSl.le w4 l6
      replace w5 := RSl.le w5 l6
      obtain ⟨z6, w6', rfl⟩ := w6
      simp only [hcE, hzE, hzo, he, beq_self_eq_true, reduceIte] at w6'
      obtain ⟨aw6', cw6', rfl⟩ := RSl.val w6'
      simp (maxDischargeDepth := 9) only [↓gB, gV, gT, reduceIte, reduceCtorEq, Nat.reduceEqDiff, Nat.reduceAdd, Nat.reduceSub, Nat.reduceLeDiff, Nat.reduceLT, Int.reduceEq, Nat.reduceMul, h1, q3_0, q3_1, y3, hcE, hzE, hzo, he, beq_self_eq_true]
      refine Ycp (p32 (by assumption) (by omega)) ?_
      simp (maxDischargeDepth := 9) only [↓gB, gV, gT, reduceIte, reduceCtorEq, Nat.reduceEqDiff, Nat.reduceAdd, Nat.reduceSub, Nat.reduceLeDiff, Nat.reduceLT, Int.reduceEq, Nat.reduceMul, h1, q3_0, q3_1, y3, hcE, hzE, hzo, he, beq_self_eq_true]
      refine Yn1 fun r2 h2 => ?_
      simp (maxDischargeDepth := 9) only [↓gB, gV, gT, reduceIte, reduceCtorEq, Nat.reduceEqDiff, Nat.reduceAdd, Nat.reduceSub, Nat.reduceLeDiff, Nat.reduceLT, Int.reduceEq, Nat.reduceMul, h1, q3_0, q3_1, y3, h2, hcE, hzE, hzo, he, beq_self_eq_true]
      refine Ycp (p16 (by exact put_self _ _ _)) ?_
      simp (maxDischargeDepth := 9) only [↓gB, gV, gT, reduceIte, reduceCtorEq, Nat.reduceEqDiff, Nat.reduceAdd, Nat.reduceSub, Nat.reduceLeDiff, Nat.reduceLT, Int.reduceEq, Nat.reduceMul, h1, q3_0, q3_1, y3, h2, hcE, hzE, hzo, he, beq_self_eq_true]
      refine Ycp (p23) ?_
      simp (maxDischargeDepth := 9) only [↓gB, gV, gT, reduceIte, reduceCtorEq, Nat.reduceEqDiff, Nat.reduceAdd, Nat.reduceSub, Nat.reduceLeDiff, Nat.reduceLT, Int.reduceEq, Nat.reduceMul, h1, q3_0, q3_1, y3, h2, hcE, hzE, hzo, he, beq_self_eq_true]
      exact Kup_val (by simp (maxDischargeDepth := 9) only [le_self, le_puts, le_put0, h1, q3_0, q3_1, l6, l5, l4, l3, l2, l1, h2]) rfl
  · by_cases he : crossE l ns = 0
    · have h0 : checkZones l = 0 := by
        unfold crossE at he; rw [orOf2] at he; split at he
        · assumption
        · rename_i q; exact absurd he q
      have hzz := cz_z h0
      simp (maxDischargeDepth := 9) only [↓gB, gV, gT, reduceIte, reduceCtorEq, Nat.reduceEqDiff, Nat.reduceAdd, Nat.reduceSub, Nat.reduceLeDiff, Nat.reduceLT, Int.reduceEq, Nat.reduceMul, hcE, hzE, hzo, he, beq_self_eq_true]
      refine Ycp (p25 (by assumption) (by omega)) ?_
      simp (maxDischargeDepth := 9) only [↓gB, gV, gT, reduceIte, reduceCtorEq, Nat.reduceEqDiff, Nat.reduceAdd, Nat.reduceSub, Nat.reduceLeDiff, Nat.reduceLT, Int.reduceEq, Nat.reduceMul, hcE, hzE, hzo, he, beq_self_eq_true]
      refine Ycg (g27 (by assumption) (by omega) (by assumption)) ?_ ?_
      · exact upRSl _ _
      intro u1 G1 l1 w1
      replace hv := RSl.le hv l1
      replace hw := RSl.le hw l1
      obtain ⟨aw1, cw1, rfl⟩ := RSl.val w1
      simp (maxDischargeDepth := 9) only [↓gB, gV, gT, reduceIte, reduceCtorEq, Nat.reduceEqDiff, Nat.reduceAdd, Nat.reduceSub, Nat.reduceLeDiff, Nat.reduceLT, Int.reduceEq, Nat.reduceMul, hcE, hzE, hzo, he, beq_self_eq_true]
      refine Ycp (p26 (by assumption) (by omega)) ?_
      simp (maxDischargeDepth := 9) only [↓gB, gV, gT, reduceIte, reduceCtorEq, Nat.reduceEqDiff, Nat.reduceAdd, Nat.reduceSub, Nat.reduceLeDiff, Nat.reduceLT, Int.reduceEq, Nat.reduceMul, hcE, hzE, hzo, he, beq_self_eq_true]
      refine Ycg (g27 (by assumption) (by omega) (by assumption)) ?_ ?_
      · exact upRSl _ _
      intro u2 G2 l2 w2
      replace l1 := GH.le.trans l1 l2
      replace hv := RSl.le hv l2
      replace hw := RSl.le hw l2
      replace w1 := RSl.le w1 l2
      obtain ⟨aw2, cw2, rfl⟩ := RSl.val w2
      simp (maxDischargeDepth := 9) only [↓gB, gV, gT, reduceIte, reduceCtorEq, Nat.reduceEqDiff, Nat.reduceAdd, Nat.reduceSub, Nat.reduceLeDiff, Nat.reduceLT, Int.reduceEq, Nat.reduceMul, hcE, hzE, hzo, he, beq_self_eq_true]
      refine Ycp (p28 (by assumption) (by omega)) ?_
      simp (maxDischargeDepth := 9) only [↓gB, gV, gT, reduceIte, reduceCtorEq, Nat.reduceEqDiff, Nat.reduceAdd, Nat.reduceSub, Nat.reduceLeDiff, Nat.reduceLT, Int.reduceEq, Nat.reduceMul, hcE, hzE, hzo, he, beq_self_eq_true]
      refine Ycp (p29) ?_
      simp (maxDischargeDepth := 9) only [↓gB, gV, gT, reduceIte, reduceCtorEq, Nat.reduceEqDiff, Nat.reduceAdd, Nat.reduceSub, Nat.reduceLeDiff, Nat.reduceLT, Int.reduceEq, Nat.reduceMul, hcE, hzE, hzo, he, beq_self_eq_true]
      refine Yn1 fun r1 h1 => ?_
      simp (maxDischargeDepth := 9) only [↓gB, gV, gT, reduceIte, reduceCtorEq, Nat.reduceEqDiff, Nat.reduceAdd, Nat.reduceSub, Nat.reduceLeDiff, Nat.reduceLT, Int.reduceEq, Nat.reduceMul, h1, hcE, hzE, hzo, he, beq_self_eq_true]
      refine Ycp (p16 (by exact put_self _ _ _)) ?_
      simp (maxDischargeDepth := 9) only [↓gB, gV, gT, reduceIte, reduceCtorEq, Nat.reduceEqDiff, Nat.reduceAdd, Nat.reduceSub, Nat.reduceLeDiff, Nat.reduceLT, Int.reduceEq, Nat.reduceMul, h1, hcE, hzE, hzo, he, beq_self_eq_true]
      have q3_0 := GH.le.none l2 h1
      have q3_1 := GH.le.none l1 h1
      have l3 := le_put h1 ((Go.Obj.cells #[Go.GL.V (Go.Proofs.YtgkdbjnmlecimaaDoor.checkZones l), Go.GL.V (Go.Proofs.YtgkdbjnmlecimaaDoor.keyF n)] 26, Bool.true))
      have y3 := put_self G2 r1 ((Go.Obj.cells #[Go.GL.V (Go.Proofs.YtgkdbjnmlecimaaDoor.checkZones l), Go.GL.V (Go.Proofs.YtgkdbjnmlecimaaDoor.keyF n)] 26, Bool.true))
      generalize GH.put G2 r1 ((Go.Obj.cells #[Go.GL.V (Go.Proofs.YtgkdbjnmlecimaaDoor.checkZones l), Go.GL.V (Go.Proofs.YtgkdbjnmlecimaaDoor.keyF n)] 26, Bool.true)) = G3 at *
      replace l2 := GH.le.trans l2 l3
      replace l1 := GH.le.trans l1 l3
      replace hv := RSl.le hv l3
      replace hw := RSl.le hw l3
      replace w1 := RSl.le w1 l3
      replace w2 := RSl.le w2 l3
      refine Ycg (g27 (by assumption) (by omega) (by assumption)) ?_ ?_
      · exact upRSl _ _
      intro u4 G4 l4 w4
      replace l3 := GH.le.trans l3 l4
      replace y3 := l4 _ _ y3
      replace l2 := GH.le.trans l2 l4
      replace l1 := GH.le.trans l1 l4
      replace hv := RSl.le hv l4
      replace hw := RSl.le hw l4
      replace w1 := RSl.le w1 l4
      replace w2 := RSl.le w2 l4
      obtain ⟨aw4, cw4, rfl⟩ := RSl.val w4
      simp (maxDischargeDepth := 9) only [↓gB, gV, gT, reduceIte, reduceCtorEq, Nat.reduceEqDiff, Nat.reduceAdd, Nat.reduceSub, Nat.reduceLeDiff, Nat.reduceLT, Int.reduceEq, Nat.reduceMul, h1, q3_0, q3_1, y3, hcE, hzE, hzo, he, beq_self_eq_true]
      refine Ycg (g9 (by assumption) (by omega)) ?_ ?_
      · exact upRSl _ _
      intro u5 G5 l5 w5
      replace l4 := GH.le.trans l4 l5
      replace l3 := GH.le.trans l3 l5
      replace y3 := l5 _ _ y3
      replace l2 := GH.le.trans l2 l5
      replace l1 := GH.le.trans l1 l5
      replace hv := RSl.le hv l5
      replace hw := RSl.le hw l5
      replace w1 := RSl.le w1 l5
      replace w2 := RSl.le w2 l5
      replace w4 := RSl.le w4 l5
      obtain ⟨aw5, cw5, rfl⟩ := RSl.val w5
      simp (maxDischargeDepth := 9) only [↓gB, gV, gT, reduceIte, reduceCtorEq, Nat.reduceEqDiff, Nat.reduceAdd, Nat.reduceSub, Nat.reduceLeDiff, Nat.reduceLT, Int.reduceEq, Nat.reduceMul, h1, q3_0, q3_1, y3, hcE, hzE, hzo, he, beq_self_eq_true]
      refine Ycg (g31 (by assumption) (by assumption) (by omega) (by omega)) ?_ ?_
      · exact upPair _ _ _
      intro u6 G6 l6 w6
      replace l5 := GH.le.trans l5 l6
      replace l4 := GH.le.trans l4 l6
      replace l3 := GH.le.trans l3 l6
      replace y3 := l6 _ _ y3
      replace l2 := GH.le.trans l2 l6
      replace l1 := GH.le.trans l1 l6
      replace hv := RSl.le hv l6
      replace hw := RSl.le hw l6
      replace w1 := RSl.le w1 l6
      replace w2 := RSl.le w2 l6
      replace w4 := RSl.le w4 l6
      replace w5 := RSl.le w5 l6
      obtain ⟨z6, w6', rfl⟩ := w6
      simp only [hcE, hzE, hzo, he, beq_self_eq_true, reduceIte] at w6'
      obtain ⟨aw6', cw6', rfl⟩ := RSl.val w6'
      simp (maxDischargeDepth := 9) only [↓gB, gV, gT, reduceIte, reduceCtorEq, Nat.reduceEqDiff, Nat.reduceAdd, Nat.reduceSub, Nat.reduceLeDiff, Nat.reduceLT, Int.reduceEq, Nat.reduceMul, h1, q3_0, q3_1, y3, hcE, hzE, hzo, he, beq_self_eq_true]
      refine Ycp (p32 (by assumption) (by omega)) ?_
      simp (maxDischargeDepth := 9) only [↓gB, gV, gT, reduceIte, reduceCtorEq, Nat.reduceEqDiff, Nat.reduceAdd, Nat.reduceSub, Nat.reduceLeDiff, Nat.reduceLT, Int.reduceEq, Nat.reduceMul, h1, q3_0, q3_1, y3, hcE, hzE, hzo, he, beq_self_eq_true]
      refine Yn1 fun r2 h2 => ?_
      simp (maxDischargeDepth := 9) only [↓gB, gV, gT, reduceIte, reduceCtorEq, Nat.reduceEqDiff, Nat.reduceAdd, Nat.reduceSub, Nat.reduceLeDiff, Nat.reduceLT, Int.reduceEq, Nat.reduceMul, h1, q3_0, q3_1, y3, h2, hcE, hzE, hzo, he, beq_self_eq_true]
      refine Ycp (p16 (by exact put_self _ _ _)) ?_
      simp (maxDischargeDepth := 9) only [↓gB, gV, gT, reduceIte, reduceCtorEq, Nat.reduceEqDiff, Nat.reduceAdd, Nat.reduceSub, Nat.reduceLeDiff, Nat.reduceLT, Int.reduceEq, Nat.reduceMul, h1, q3_0, q3_1, y3, h2, hcE, hzE, hzo, he, beq_self_eq_true]
      have q7_0 := GH.le.none l6 h2
      have q7_1 := GH.le.none l5 h2
      have q7_2 := GH.le.none l4 h2
      have q7_3 := GH.le.none l3 h2
      have q7_4 := GH.le.none l2 h2
      have q7_5 := GH.le.none l1 h2
      have l7 := le_put h2 ((Go.Obj.cells #[Go.GL.V (Go.Proofs.YtgkdbjnmlecimaaDoor.checkZones l), Go.GL.V (Go.Proofs.YtgkdbjnmlecimaaDoor.namesF ns 2000)] 26, Bool.true))
      have y7 := put_self G6 r2 ((Go.Obj.cells #[Go.GL.V (Go.Proofs.YtgkdbjnmlecimaaDoor.checkZones l), Go.GL.V (Go.Proofs.YtgkdbjnmlecimaaDoor.namesF ns 2000)] 26, Bool.true))
      generalize GH.put G6 r2 ((Go.Obj.cells #[Go.GL.V (Go.Proofs.YtgkdbjnmlecimaaDoor.checkZones l), Go.GL.V (Go.Proofs.YtgkdbjnmlecimaaDoor.namesF ns 2000)] 26, Bool.true)) = G7 at *
      replace l6 := GH.le.trans l6 l7
      replace l5 := GH.le.trans l5 l7
      replace l4 := GH.le.trans l4 l7
      replace l3 := GH.le.trans l3 l7
      replace y3 := l7 _ _ y3
      replace l2 := GH.le.trans l2 l7
      replace l1 := GH.le.trans l1 l7
      replace hv := RSl.le hv l7
      replace hw := RSl.le hw l7
      replace w1 := RSl.le w1 l7
      replace w2 := RSl.le w2 l7
      replace w4 := RSl.le w4 l7
      replace w5 := RSl.le w5 l7
      replace w6' := RSl.le w6' l7
      refine Ycg (g33 (by assumption) (by assumption) (by omega) (by omega) (by assumption)) ?_ ?_
      · exact upRSl _ _
      intro u8 G8 l8 w8
      replace l7 := GH.le.trans l7 l8
      replace y7 := l8 _ _ y7
      replace l6 := GH.le.trans l6 l8
      replace l5 := GH.le.trans l5 l8
      replace l4 := GH.le.trans l4 l8
      replace l3 := GH.le.trans l3 l8
      replace y3 := l8 _ _ y3
      replace l2 := GH.le.trans l2 l8
      replace l1 := GH.le.trans l1 l8
      replace hv := RSl.le hv l8
      replace hw := RSl.le hw l8
      replace w1 := RSl.le w1 l8
      replace w2 := RSl.le w2 l8
      replace w4 := RSl.le w4 l8
      replace w5 := RSl.le w5 l8
      replace w6' := RSl.le w6' l8
      obtain ⟨aw8, cw8, rfl⟩ := RSl.val w8
      simp (maxDischargeDepth := 9) only [↓gB, gV, gT, reduceIte, reduceCtorEq, Nat.reduceEqDiff, Nat.reduceAdd, Nat.reduceSub, Nat.reduceLeDiff, Nat.reduceLT, Int.reduceEq, Nat.reduceMul, h1, q3_0, q3_1, h2, q7_0, q7_1, q7_2, q7_3, q7_4, q7_5, y7, y3, hcE, hzE, hzo, he, beq_self_eq_true]
      refine Ycp (p18 (by assumption) (by assumption) (by omega)) ?_
      simp (maxDischargeDepth := 9) only [↓gB, gV, gT, reduceIte, reduceCtorEq, Nat.reduceEqDiff, Nat.reduceAdd, Nat.reduceSub, Nat.reduceLeDiff, Nat.reduceLT, Int.reduceEq, Nat.reduceMul, h1, q3_0, q3_1, h2, q7_0, q7_1, q7_2, q7_3, q7_4, q7_5, y7, y3, hcE, hzE, hzo, he, beq_self_eq_true]
      refine Ycp (p23) ?_
      simp (maxDischargeDepth := 9) only [↓gB, gV, gT, reduceIte, reduceCtorEq, Nat.reduceEqDiff, Nat.reduceAdd, Nat.reduceSub, Nat.reduceLeDiff, Nat.reduceLT, Int.reduceEq, Nat.reduceMul, h1, q3_0, q3_1, h2, q7_0, q7_1, q7_2, q7_3, q7_4, q7_5, y7, y3, hcE, hzE, hzo, he, beq_self_eq_true]
      exact Kup_val (by simp (maxDischargeDepth := 9) only [le_self, le_puts, le_put0, h1, q3_0, q3_1, h2, q7_0, q7_1, q7_2, q7_3, q7_4, q7_5, l8, l7, l6, l5, l4, l3, l2, l1]) rfl
    · simp (maxDischargeDepth := 9) only [↓gB, gV, gT, reduceIte, reduceCtorEq, Nat.reduceEqDiff, Nat.reduceAdd, Nat.reduceSub, Nat.reduceLeDiff, Nat.reduceLT, Int.reduceEq, Nat.reduceMul, hcE, hzE, hzo, he, beq_self_eq_true]
      refine Ycp (p25 (by assumption) (by omega)) ?_
      simp (maxDischargeDepth := 9) only [↓gB, gV, gT, reduceIte, reduceCtorEq, Nat.reduceEqDiff, Nat.reduceAdd, Nat.reduceSub, Nat.reduceLeDiff, Nat.reduceLT, Int.reduceEq, Nat.reduceMul, hcE, hzE, hzo, he, beq_self_eq_true]
      refine Ycg (g27 (by assumption) (by omega) (by assumption)) ?_ ?_
      · exact upRSl _ _
      intro u1 G1 l1 w1
      replace hv := RSl.le hv l1
      replace hw := RSl.le hw l1
      obtain ⟨aw1, cw1, rfl⟩ := RSl.val w1
      simp (maxDischargeDepth := 9) only [↓gB, gV, gT, reduceIte, reduceCtorEq, Nat.reduceEqDiff, Nat.reduceAdd, Nat.reduceSub, Nat.reduceLeDiff, Nat.reduceLT, Int.reduceEq, Nat.reduceMul, hcE, hzE, hzo, he, beq_self_eq_true]
      refine Ycp (p26 (by assumption) (by omega)) ?_
      simp (maxDischargeDepth := 9) only [↓gB, gV, gT, reduceIte, reduceCtorEq, Nat.reduceEqDiff, Nat.reduceAdd, Nat.reduceSub, Nat.reduceLeDiff, Nat.reduceLT, Int.reduceEq, Nat.reduceMul, hcE, hzE, hzo, he, beq_self_eq_true]
      refine Ycg (g27 (by assumption) (by omega) (by assumption)) ?_ ?_
      · exact upRSl _ _
      intro u2 G2 l2 w2
      replace l1 := GH.le.trans l1 l2
      replace hv := RSl.le hv l2
      replace hw := RSl.le hw l2
      replace w1 := RSl.le w1 l2
      obtain ⟨aw2, cw2, rfl⟩ := RSl.val w2
      simp (maxDischargeDepth := 9) only [↓gB, gV, gT, reduceIte, reduceCtorEq, Nat.reduceEqDiff, Nat.reduceAdd, Nat.reduceSub, Nat.reduceLeDiff, Nat.reduceLT, Int.reduceEq, Nat.reduceMul, hcE, hzE, hzo, he, beq_self_eq_true]
      refine Ycp (p28 (by assumption) (by omega)) ?_
      simp (maxDischargeDepth := 9) only [↓gB, gV, gT, reduceIte, reduceCtorEq, Nat.reduceEqDiff, Nat.reduceAdd, Nat.reduceSub, Nat.reduceLeDiff, Nat.reduceLT, Int.reduceEq, Nat.reduceMul, hcE, hzE, hzo, he, beq_self_eq_true]
      refine Ycp (p29) ?_
      simp (maxDischargeDepth := 9) only [↓gB, gV, gT, reduceIte, reduceCtorEq, Nat.reduceEqDiff, Nat.reduceAdd, Nat.reduceSub, Nat.reduceLeDiff, Nat.reduceLT, Int.reduceEq, Nat.reduceMul, hcE, hzE, hzo, he, beq_self_eq_true]
      refine Yn1 fun r1 h1 => ?_
      simp (maxDischargeDepth := 9) only [↓gB, gV, gT, reduceIte, reduceCtorEq, Nat.reduceEqDiff, Nat.reduceAdd, Nat.reduceSub, Nat.reduceLeDiff, Nat.reduceLT, Int.reduceEq, Nat.reduceMul, h1, hcE, hzE, hzo, he, beq_self_eq_true]
      refine Ycp (p16 (by exact put_self _ _ _)) ?_
      simp (maxDischargeDepth := 9) only [↓gB, gV, gT, reduceIte, reduceCtorEq, Nat.reduceEqDiff, Nat.reduceAdd, Nat.reduceSub, Nat.reduceLeDiff, Nat.reduceLT, Int.reduceEq, Nat.reduceMul, h1, hcE, hzE, hzo, he, beq_self_eq_true]
      have q3_0 := GH.le.none l2 h1
      have q3_1 := GH.le.none l1 h1
      have l3 := le_put h1 ((Go.Obj.cells #[Go.GL.V (Go.Proofs.YtgkdbjnmlecimaaDoor.checkZones l), Go.GL.V (Go.Proofs.YtgkdbjnmlecimaaDoor.keyF n)] 26, Bool.true))
      have y3 := put_self G2 r1 ((Go.Obj.cells #[Go.GL.V (Go.Proofs.YtgkdbjnmlecimaaDoor.checkZones l), Go.GL.V (Go.Proofs.YtgkdbjnmlecimaaDoor.keyF n)] 26, Bool.true))
      generalize GH.put G2 r1 ((Go.Obj.cells #[Go.GL.V (Go.Proofs.YtgkdbjnmlecimaaDoor.checkZones l), Go.GL.V (Go.Proofs.YtgkdbjnmlecimaaDoor.keyF n)] 26, Bool.true)) = G3 at *
      replace l2 := GH.le.trans l2 l3
      replace l1 := GH.le.trans l1 l3
      replace hv := RSl.le hv l3
      replace hw := RSl.le hw l3
      replace w1 := RSl.le w1 l3
      replace w2 := RSl.le w2 l3
      refine Ycg (g27 (by assumption) (by omega) (by assumption)) ?_ ?_
      · exact upRSl _ _
      intro u4 G4 l4 w4
      replace l3 := GH.le.trans l3 l4
      replace y3 := l4 _ _ y3
      replace l2 := GH.le.trans l2 l4
      replace l1 := GH.le.trans l1 l4
      replace hv := RSl.le hv l4
      replace hw := RSl.le hw l4
      replace w1 := RSl.le w1 l4
      replace w2 := RSl.le w2 l4
      obtain ⟨aw4, cw4, rfl⟩ := RSl.val w4
      simp (maxDischargeDepth := 9) only [↓gB, gV, gT, reduceIte, reduceCtorEq, Nat.reduceEqDiff, Nat.reduceAdd, Nat.reduceSub, Nat.reduceLeDiff, Nat.reduceLT, Int.reduceEq, Nat.reduceMul, h1, q3_0, q3_1, y3, hcE, hzE, hzo, he, beq_self_eq_true]
      refine Ycg (g9 (by assumption) (by omega)) ?_ ?_
      · exact upRSl _ _
      intro u5 G5 l5 w5
      replace l4 := GH.le.trans l4 l5
      replace l3 := GH.le.trans l3 l5
      replace y3 := l5 _ _ y3
      replace l2 := GH.le.trans l2 l5
      replace l1 := GH.le.trans l1 l5
      replace hv := RSl.le hv l5
      replace hw := RSl.le hw l5
      replace w1 := RSl.le w1 l5
      replace w2 := RSl.le w2 l5
      replace w4 := RSl.le w4 l5
      obtain ⟨aw5, cw5, rfl⟩ := RSl.val w5
      simp (maxDischargeDepth := 9) only [↓gB, gV, gT, reduceIte, reduceCtorEq, Nat.reduceEqDiff, Nat.reduceAdd, Nat.reduceSub, Nat.reduceLeDiff, Nat.reduceLT, Int.reduceEq, Nat.reduceMul, h1, q3_0, q3_1, y3, hcE, hzE, hzo, he, beq_self_eq_true]
      refine Ycg (g31 (by assumption) (by assumption) (by omega) (by omega)) ?_ ?_
      · exact upPair _ _ _
      intro u6 G6 l6 w6
      replace l5 := GH.le.trans l5 l6
      replace l4 := GH.le.trans l4 l6
      replace l3 := GH.le.trans l3 l6
      replace y3 := l6 _ _ y3
      replace l2 := GH.le.trans l2 l6
      replace l1 := GH.le.trans l1 l6
      replace hv := RSl.le hv l6
      replace hw := RSl.le hw l6
      replace w1 := RSl.le w1 l6
      replace w2 := RSl.le w2 l6
      replace w4 := RSl.le w4 l6
      replace w5 := RSl.le w5 l6
      obtain ⟨z6, w6', rfl⟩ := w6
      simp only [hcE, hzE, hzo, he, beq_self_eq_true, reduceIte] at w6'
      obtain ⟨aw6', cw6', rfl⟩ := RSl.val w6'
      simp (maxDischargeDepth := 9) only [↓gB, gV, gT, reduceIte, reduceCtorEq, Nat.reduceEqDiff, Nat.reduceAdd, Nat.reduceSub, Nat.reduceLeDiff, Nat.reduceLT, Int.reduceEq, Nat.reduceMul, h1, q3_0, q3_1, y3, hcE, hzE, hzo, he, beq_self_eq_true]
      refine Ycp (p32 (by assumption) (by omega)) ?_
      simp (maxDischargeDepth := 9) only [↓gB, gV, gT, reduceIte, reduceCtorEq, Nat.reduceEqDiff, Nat.reduceAdd, Nat.reduceSub, Nat.reduceLeDiff, Nat.reduceLT, Int.reduceEq, Nat.reduceMul, h1, q3_0, q3_1, y3, hcE, hzE, hzo, he, beq_self_eq_true]
      refine Yn1 fun r2 h2 => ?_
      simp (maxDischargeDepth := 9) only [↓gB, gV, gT, reduceIte, reduceCtorEq, Nat.reduceEqDiff, Nat.reduceAdd, Nat.reduceSub, Nat.reduceLeDiff, Nat.reduceLT, Int.reduceEq, Nat.reduceMul, h1, q3_0, q3_1, y3, h2, hcE, hzE, hzo, he, beq_self_eq_true]
      refine Ycp (p16 (by exact put_self _ _ _)) ?_
      simp (maxDischargeDepth := 9) only [↓gB, gV, gT, reduceIte, reduceCtorEq, Nat.reduceEqDiff, Nat.reduceAdd, Nat.reduceSub, Nat.reduceLeDiff, Nat.reduceLT, Int.reduceEq, Nat.reduceMul, h1, q3_0, q3_1, y3, h2, hcE, hzE, hzo, he, beq_self_eq_true]
      refine Ycp (p23) ?_
      simp (maxDischargeDepth := 9) only [↓gB, gV, gT, reduceIte, reduceCtorEq, Nat.reduceEqDiff, Nat.reduceAdd, Nat.reduceSub, Nat.reduceLeDiff, Nat.reduceLT, Int.reduceEq, Nat.reduceMul, h1, q3_0, q3_1, y3, h2, hcE, hzE, hzo, he, beq_self_eq_true]
      exact Kup_val (by simp (maxDischargeDepth := 9) only [le_self, le_puts, le_put0, h1, q3_0, q3_1, l6, l5, l4, l3, l2, l1, h2]) rfl
end Go.Proofs.YtgkdbjnmlecimaaDoor
namespace Go.Proofs.YtgkdbjnmlecimaaDoor
open Go Go.GL
set_option maxRecDepth 10000
set_option maxHeartbeats 0
open Go.RowKit
set_option maxRecDepth 10000
def G0of (W : World) : GH := fun b => (W.heap[b]?).map fun o => (o, false)
theorem holdsG0 (W : World) : GL.Holds W (G0of W) W := by
  refine ⟨Go.RowKit.Below.refl _ _, ?_, ?_, Nat.le_refl _⟩
  · intro b o t h
    unfold G0of at h
    rw [Option.map_eq_some_iff] at h
    obtain ⟨o', h1, h2⟩ := h
    cases h2; exact h1
  · intro b o h
    unfold G0of at h
    rw [Option.map_eq_some_iff] at h
    obtain ⟨o', h1, h2⟩ := h
    cases h2
theorem mapM_some {α β : Type} {f : α → Option β} : ∀ (l : List α) (r : List β), l.mapM f = some r → r.length = l.length ∧ ∀ (i : Nat) x, l[i]? = some x → f x = r[i]?
  | [], r, h => by
    rw [List.mapM_nil] at h; cases h; exact ⟨rfl, by simp⟩
  | y :: l, r, h => by
    rw [List.mapM_cons] at h
    simp only [bind, Option.bind_eq_some_iff, pure, Option.some.injEq] at h
    obtain ⟨b, hb, r', hr, rfl⟩ := h
    obtain ⟨h1, h2⟩ := mapM_some l r' hr
    refine ⟨by simp [h1], ?_⟩
    intro i x hx
    cases i with
    | zero => simp at hx; subst hx; simpa using hb
    | succ i => simp at hx; simpa using h2 i x hx
theorem cellsI_of {W : World} {a : Addr} {n : Nat} {cs : List Value} (hn : 0 < n) (h : W.cells? 0 a n = some cs) : gcellsI (G0of W) a n = some cs := by
  unfold World.cells? at h
  rw [if_pos (Nat.zero_le _)] at h
  obtain ⟨h1, h2⟩ := mapM_some _ _ h
  rw [List.length_range] at h1
  have hc : ∀ i, i < n → W.cell? (a.add i) = cs[i]? := fun i hi => h2 i i (by simp [hi])
  have h0 := hc 0 hn
  have ha0 : a.add 0 = a := by cases a; rfl
  rw [ha0, List.getElem?_eq_getElem (by omega)] at h0
  unfold World.cell? at h0
  split at h0
  case h_2 => cases h0
  rename_i c e fr hb
  split at h0
  · cases h0
  rename_i hsp
  have hspn : a.spot = none := by cases hs : a.spot <;> simp_all
  have hall : ∀ i, i < n → c[a.off + i]? = cs[i]? := by
    intro i hi
    have := hc i hi
    unfold World.cell? at this
    rw [add_block, hb] at this
    simp only [add_spot _ _ hspn, add_off, Option.isSome_none, Bool.false_eq_true, if_false] at this
    exact this
  have hlast := hall (n - 1) (by omega)
  rw [List.getElem?_eq_getElem (by omega)] at hlast
  have hsz : a.off + n ≤ c.size := by
    have := (Array.getElem?_eq_some_iff.1 hlast).1
    omega
  unfold gcellsI G0of
  simp only [hb, Option.map_some]
  rw [if_pos ⟨by rw [hspn]; rfl, hsz⟩]
  congr 1
  apply List.ext_getElem?
  intro i
  rw [List.getElem?_take]
  split
  · rename_i hi
    rw [List.getElem?_drop, Array.getElem?_toList, hall i hi]
  · rw [List.getElem?_eq_none (by omega)]
theorem exists_list {α : Type} {Q : Nat → α → Prop} : ∀ n, (∀ i, i < n → ∃ x, Q i x) → ∃ l : List α, l.length = n ∧ ∀ (i : Nat) x, l[i]? = some x → Q i x
  | 0, _ => ⟨[], rfl, by simp⟩
  | n + 1, h => by
    obtain ⟨l, h1, h2⟩ := exists_list n fun i hi => h i (by omega)
    obtain ⟨x, hx⟩ := h n (by omega)
    refine ⟨l ++ [x], by simp [h1], ?_⟩
    intro i y hy
    rw [List.getElem?_append] at hy
    split at hy
    · exact h2 i y hy
    · rename_i hi
      have : i = n := by
        by_cases e : i = n
        · exact e
        · rw [List.getElem?_eq_none (by simp; omega)] at hy; cases hy
      subst this
      simp [h1] at hy
      subst hy; exact hx
theorem wf_i64 {n : Int} (h : (Lit.int .i64 n).wf = true) : i64 n := by
  simp [Lit.wf, IntKind.min, IntKind.max, IntKind.signed, IntKind.bits] at h
  unfold i64; omega
def OT (W : World) {α : Type} (ρ : Rp α) (m : α → Nat) (T : TypeId) : Prop := ∀ (H : Type) (enc : TypeId × Value → H) (sp : Nat → Bool) (held : Bool) (fuel : Nat) (cs : List Value) (x : DataW H × List MemPlace), DataW.trod enc Tryd.prog W 0 sp held fuel T cs = some x → ∃ c : α, ρ.R (G0of W) c cs ∧ m c ≤ Rows.uptoBulk x.1
def mlist {α : Type} (m : α → Nat) (l : List α) : Nat := (l.map m).sum + 1
theorem OT.int {W : World} {T : TypeId} (hT : Tryd.prog.underlying T = some (.int .i64)) : OT W Rp.int (fun _ => 1) T := by
  intro H enc sp held fuel cs x h
  obtain ⟨n, e, hx, w⟩ := DataW.trod_int hT h
  subst e hx
  exact ⟨n, ⟨rfl, wf_i64 w⟩, by simp [Rows.uptoBulk]⟩
theorem OT.str {W : World} {T : TypeId} (hT : Tryd.prog.underlying T = some .string) : OT W Rp.str (fun s => s.size + 1) T := by
  intro H enc sp held fuel cs x h
  obtain ⟨s, e, hx, w⟩ := DataW.trod_string hT h
  subst e hx
  refine ⟨s, rfl, ?_⟩
  simp [Rows.uptoBulk]
theorem OT.bool {W : World} {T : TypeId} (hT : Tryd.prog.underlying T = some .bool) : OT W Rp.bool (fun _ => 1) T := by
  intro H enc sp held fuel cs x h
  obtain ⟨n, e, hx⟩ := DataW.trod_bool hT h
  subst e hx
  exact ⟨n, rfl, by simp [Rows.uptoBulk]⟩
theorem exists_list2 {α β : Type} {Q : Nat → α → Prop} {m : α → Nat} {m2 : β → Nat} : ∀ (els : List β), (∀ (i : Nat) e, els[i]? = some e → ∃ x, Q i x ∧ m x ≤ m2 e) → ∃ l : List α, l.length = els.length ∧ (∀ (i : Nat) x, l[i]? = some x → Q i x) ∧ (l.map m).sum ≤ (els.map m2).sum
  | [], _ => ⟨[], rfl, by simp, by simp⟩
  | e :: els, h => by
    obtain ⟨x, hx, hm⟩ := h 0 e rfl
    obtain ⟨l, h1, h2, h3⟩ := exists_list2 (Q := fun i x => Q (i + 1) x) (m := m) (m2 := m2) els (fun i e he => h (i + 1) e (by simpa using he))
    refine ⟨x :: l, by simp [h1], ?_, by simp; omega⟩
    intro i y hy
    cases i with
    | zero => simp at hy; subst hy; exact hx
    | succ i => exact h2 i y (by simpa using hy)
theorem bulkAll_sum {H : Type} : ∀ (l : List (DataW H)), Rows.uptoBulkAll l = (l.map Rows.uptoBulk).sum
  | [] => rfl
  | x :: l => by simp [Rows.uptoBulkAll, bulkAll_sum l]
theorem OT.slice {W : World} {α : Type} {ρ : Rp α} {m : α → Nat} {T e : TypeId} (hT : Tryd.prog.underlying T = some (.slice e)) (hc : Tryd.prog.cellsOf e = ρ.sz) (hpos : 0 < ρ.sz) (hel : OT W ρ m e) : OT W ρ.slice (mlist m) T := by
  intro H enc sp held fuel cs x h
  rcases DataW.trod_slice hT h with ⟨hcs, hx⟩ | ⟨a, len, cap, elems, rest, n, _, hcs, hx, _, hlc, _, hel', he, _⟩
  · subst hcs hx
    exact ⟨[], ⟨_, rfl, RSl.nil _ _⟩, by simp [mlist, Rows.uptoBulk]⟩
  · subst hcs hx
    rw [hc] at he
    have key : ∀ (i : Nat) el, elems[i]? = some el → ∃ c : α, (∃ cs, gcellsI (G0of W) (a.add (i * ρ.sz)) ρ.sz = some cs ∧ ρ.R (G0of W) c cs) ∧ m c ≤ Rows.uptoBulk el.1 := by
      intro i el hi
      have hil : i < elems.length := by
        by_cases q : i < elems.length
        · exact q
        · rw [List.getElem?_eq_none (by omega)] at hi; cases hi
      have h1 := he i (by omega)
      rw [hi, Option.bind_eq_some_iff] at h1
      obtain ⟨cs, h2, h3⟩ := h1
      obtain ⟨c, hc, hb⟩ := hel _ _ _ _ _ _ _ h3
      exact ⟨c, ⟨cs, cellsI_of hpos h2, hc⟩, hb⟩
    obtain ⟨l, h1, h2, h3⟩ := exists_list2 elems key
    refine ⟨l, ⟨_, rfl, ⟨some a, len, cap, rfl, by omega, hlc, fun hpos' => ⟨a, rfl, ?_, fun i x hx => h2 i x hx⟩⟩⟩, ?_⟩
    · obtain ⟨c, ⟨cs, hg, _⟩, _⟩ := key 0 (elems[0]'(by omega)) (List.getElem?_eq_getElem (by omega))
      have e : a.add (0 * ρ.sz) = a := by cases a; simp [Addr.add]
      rw [e] at hg
      unfold gcellsI at hg
      split at hg
      · split at hg
        · rename_i hc; have := hc.1; cases hs : a.spot <;> simp_all
        · cases hg
      · cases hg
    · simp only [mlist, Rows.uptoBulk, bulkAll_sum, List.map_map]
      have : (elems.map (Rows.uptoBulk ∘ fun x => x.1)).sum = (elems.map fun x => Rows.uptoBulk x.1).sum := rfl
      omega
theorem mlist_len {α : Type} {m : α → Nat} (h1 : ∀ x, 1 ≤ m x) (l : List α) : l.length + 1 ≤ mlist m l := by
  unfold mlist
  induction l with
  | nil => simp
  | cons x l ih => have := h1 x; simp; omega
theorem mlist_mem {α : Type} {m : α → Nat} {l : List α} {x : α} (h : x ∈ l) : m x + 1 ≤ mlist m l := by
  unfold mlist
  induction l with
  | nil => cases h
  | cons y l ih =>
    rcases List.mem_cons.1 h with rfl | h
    · simp
    · have := ih h; simp; omega
theorem OT.row {W : World} {α : Type} {ρ : Rp α} {m : List α → Nat} {T : TypeId} (h : OT W ρ.slice m T) {H : Type} {enc : TypeId × Value → H} {sp : Nat → Bool} {held : Bool} {a : Option Addr} {n c : Nat} {d : DataW H} {ps : List MemPlace} (ht : DataW.Trod enc Tryd.prog W 0 sp held T (.slice a n c) d ps) : ∃ l : List α, RSl ρ (G0of W) (.slice a n c) l ∧ m l ≤ Rows.uptoBulk d := by
  obtain ⟨fuel, hf⟩ := ht
  obtain ⟨l, ⟨v, hv, hr⟩, hm⟩ := h _ _ _ _ _ _ _ hf
  simp [Value.cells] at hv
  subst hv
  exact ⟨l, hr, hm⟩
theorem OT.agg {W : World} {α : Type} {ρ : Rp α} {m : α → Nat} {T : TypeId} (h : OT W ρ m T) {H : Type} {enc : TypeId × Value → H} {sp : Nat → Bool} {held : Bool} {xs : Array Value} {d : DataW H} {ps : List MemPlace} (ht : DataW.Trod enc Tryd.prog W 0 sp held T (.agg xs) d ps) : ∃ c : α, ρ.R (G0of W) c xs.toList ∧ m c ≤ Rows.uptoBulk d := by
  obtain ⟨fuel, hf⟩ := ht
  obtain ⟨l, hr, hm⟩ := h _ _ _ _ _ _ _ hf
  exact ⟨l, by simpa [Value.cells] using hr, hm⟩
end Go.Proofs.YtgkdbjnmlecimaaDoor
namespace Go.Proofs.YtgkdbjnmlecimaaDoor
open Go Go.GL
set_option maxRecDepth 10000
set_option maxHeartbeats 0
def mZone (x : SZone) : Nat := (x.Key.size + 1) + mlist (fun s => s.size + 1) x.Nodes + 1
theorem otZone {W : World} : OT W rZone mZone 122 := by
  intro H enc sp held fuel cs x h
  obtain ⟨xs, n, _, hx, hlen, hxl, hf⟩ := DataW.trod_struct Tryd.underlying122 h
  rw [show Tryd.prog.cellsOf 122 = 2 from by kernel_rfl] at hlen
  obtain ⟨x0, x1, rfl⟩ : ∃ x0 x1, cs = [x0, x1] := by
    match cs, hlen with
    | [x0, x1], _ => exact ⟨x0, x1, rfl⟩
  have hxl : xs.length = 2 := hxl
  obtain ⟨d_0, d_1, rfl⟩ : ∃ d_0 d_1, xs = [d_0, d_1] := by
    match xs, hxl with
    | [y0, y1], _ => exact ⟨y0, y1, rfl⟩
  have f_0 : DataW.trod enc Tryd.prog W 0 sp held n 9 [x0] = some d_0 := by have := hf 0 _ rfl; exact this
  have f_1 : DataW.trod enc Tryd.prog W 0 sp held n 22 [x1] = some d_1 := by have := hf 1 _ rfl; exact this
  clear hf
  obtain ⟨c_0, e_0, q_0, w_0⟩ := DataW.trod_string Tryd.underlying9 f_0
  simp only [List.cons.injEq, and_true] at e_0; subst e_0 q_0
  have z_0 := size_len c_0
  obtain ⟨c_1, ⟨v_1, e_1, r_1⟩, b_1⟩ := OT.slice Tryd.underlying22 (by kernel_rfl) (by decide) (OT.str Tryd.underlying9) _ _ _ _ _ _ _ f_1
  simp only [List.cons.injEq, and_true] at e_1; subst e_1
  subst hx
  refine ⟨⟨c_0, c_1⟩, ⟨_, rfl, r_1⟩, ?_⟩
  simp only [mZone, Rows.uptoBulk, Rows.uptoBulkAll, List.map_cons, List.map_nil, ← size_len]
  omega
theorem mstr_pos (s : ByteArray) : 1 ≤ s.size + 1 := by omega
theorem zones_len {l : List SZone} {n : Nat} (h : mlist mZone l ≤ n) (hn : n ≤ 1048576) : l.length ≤ 1048576 ∧ ∀ z ∈ l, z.Nodes.length ≤ 1000000000 := by
  have h1 := mlist_len (m := mZone) (fun z => by unfold mZone; omega) l
  refine ⟨by omega, fun z hz => ?_⟩
  have h2 := mlist_mem (m := mZone) hz
  have h3 := mlist_len (m := fun s : ByteArray => s.size + 1) mstr_pos z.Nodes
  have h4 : mZone z = z.Key.size + 1 + mlist (fun s : ByteArray => s.size + 1) z.Nodes + 1 := rfl
  omega
theorem strs_len {l : List ByteArray} {n : Nat} (h : mlist (fun s : ByteArray => s.size + 1) l ≤ n) (hn : n ≤ 1048576) : l.length ≤ 1048576 := by
  have h3 := mlist_len (m := fun s : ByteArray => s.size + 1) mstr_pos l
  omega
namespace zonesCrossedUpto
open Go.ChangeShapes Go.WideShapes Go.ChangeAt Go.RowKit
theorem own : ownKnob Tryd.prog.godebug = none := by kernel_rfl
theorem laidOut : laidOutB Tryd.prog = true := by kernel_rfl
set_option maxRecDepth 100000 in
theorem contract (H : Type) (enc : TypeId × Value → H) (W : World) (base : Nat) (args : Array Value) (ds gs : List (DataW H)) (before : List MemPlace)
    (hval : ∀ (j : Nat) t v, Tryd.f4.params[j]? = some t → args[j]? = some v → Value.okWide Tryd.prog W .any base t v)
    (hW : DataW.Whole enc Tryd.prog Tryd.f4.params.toList Rows.zonesCrossedSpec.vars false W args.toList ds gs before) (hk : Rows.uptoSmall H (ds ++ gs) = true) :
    Calls Tryd.prog 4 args W fun e W' => ∃ v, e = .returned v ∧ Rows.zonesCrossedSpec.post enc Tryd.prog Tryd.f4 false true false false W args v W' := by
  have hW' := hW
  obtain ⟨p, q, hA0, hV, rfl, hfz, hnd⟩ := hW
  have hA : DataW.TrodAll enc Tryd.prog W 0 (fun _ => true) true Tryd.f4.params.toList args.toList ds p := hA0
  rw [Tryd.params4] at hA hval
  obtain ⟨v0, vs0, d0, ds0, p0, q0, hargs, rfl, rfl, h0, r0⟩ := trodAll_cons hA
  obtain ⟨v1, vs1, d1, ds1, p1, q1, rfl, rfl, rfl, h1, r1⟩ := trodAll_cons r0
  obtain ⟨v2, vs2, d2, ds2, p2, q2, rfl, rfl, rfl, h2, r2⟩ := trodAll_cons r1
  obtain ⟨rfl, rfl, rfl⟩ := trodAll_nil r2
  obtain rfl : args = #[v0, v1, v2] := by cases args; simp_all
  obtain ⟨rfl, rfl⟩ := trodVars_none hV
  have k0 := h0
  have lt0 : ∀ x ∈ p0, x.block < W.heap.size := by obtain ⟨m, hm⟩ := k0; exact DataW.trod_lt m _ _ _ hm
  obtain ⟨e0, n0, c0, rfl⟩ := okWide_slice Tryd.underlying52 (hval 0 52 v0 rfl rfl)
  obtain ⟨l0, R0, m0⟩ := OT.row (OT.slice Tryd.underlying52 (by kernel_rfl) (by decide) otZone) h0
  have k1 := h1
  have lt1 : ∀ x ∈ p1, x.block < W.heap.size := by obtain ⟨m, hm⟩ := k1; exact DataW.trod_lt m _ _ _ hm
  obtain ⟨s1, rfl, rfl, rfl, w1⟩ := Go.ChangeMaps.open_string Tryd.underlying9 (hval 1 9 v1 rfl rfl) k1
  have k2 := h2
  have lt2 : ∀ x ∈ p2, x.block < W.heap.size := by obtain ⟨m, hm⟩ := k2; exact DataW.trod_lt m _ _ _ hm
  obtain ⟨e2, n2, c2, rfl⟩ := okWide_slice Tryd.underlying22 (hval 2 22 v2 rfl rfl)
  obtain ⟨l2, R2, m2⟩ := OT.row (OT.slice Tryd.underlying22 (by kernel_rfl) (by decide) (OT.str Tryd.underlying9)) h2
  simp only [List.append_nil] at hk
  have hb : Rows.uptoBulkAll [d0, .lit (.string s1.data.toList), d2] ≤ 1048576 := of_decide_eq_true hk
  simp only [Rows.uptoBulkAll] at hb
  refine Calls.mono ((p4 R0 R2 (zones_len m0 (by omega)).1 (zones_len m0 (by omega)).2 (strs_len m2 (by omega))) (G0of W) (le_refl _) W W (holdsG0 W)) fun e W' he => ?_
  obtain ⟨v, G', rfl, hh, _, rfl⟩ := he
  have bel := hh.below
  exact ⟨_, rfl, _, _, _, [], _, [], hW', trodAll_mk1 (shut_bool Tryd.underlying4 _), trodAll_cons_mk (Below.trod laidOut (by kernel_rfl) (of_decide_eq_true (by kernel_rfl)) k0 bel lt0) (trodAll_cons_mk (Below.trod laidOut (by kernel_rfl) (of_decide_eq_true (by kernel_rfl)) k1 bel lt1) (trodAll_cons_mk (Below.trod laidOut (by kernel_rfl) (of_decide_eq_true (by kernel_rfl)) k2 bel lt2) trodAll_mk0)), rfl, bel.frame _, fun h => by cases h⟩
noncomputable def laidWorld (os : Os) : World :=
  { World.holding Tryd.prog os ⟨#[], #[], []⟩ with heap := (((World.holding Tryd.prog os ⟨#[], #[], []⟩).heap.modify 4 fun o => match o with | .cells _ t fr => .cells #[.int .u8 128, .int .u8 191, .int .u8 160, .int .u8 191, .int .u8 128, .int .u8 159, .int .u8 144, .int .u8 191, .int .u8 128, .int .u8 143, .int .u8 0, .int .u8 0, .int .u8 0, .int .u8 0, .int .u8 0, .int .u8 0, .int .u8 0, .int .u8 0, .int .u8 0, .int .u8 0, .int .u8 0, .int .u8 0, .int .u8 0, .int .u8 0, .int .u8 0, .int .u8 0, .int .u8 0, .int .u8 0, .int .u8 0, .int .u8 0, .int .u8 0, .int .u8 0] t fr | o => o).modify 3 fun o => match o with | .cells _ t fr => .cells (Go.Pinned.utf8FirstZ.map fun n : Nat => Value.int .u8 (n : Int)).toArray t fr | o => o) }
set_option maxRecDepth 100000 in
theorem laid_met (os : Os) : laidMet Tryd.prog Rows.zonesCrossedUptoRow.laid ((laidWorld os).forCall (fun _ _ => 0) ⟨#[], #[.slice none 0 0, .string ByteArray.empty, .slice none 0 0], []⟩).memory := laidMet_of_run' 8 (by kernel_rfl) (by kernel_rfl)
theorem reads (os : Os) {H : Type} (enc : TypeId × Value → H) : ∃ places, DataW.whole enc Tryd.prog ((laidWorld os).forCall (fun _ _ => 0) ⟨#[], #[.slice none 0 0, .string ByteArray.empty, .slice none 0 0], []⟩).memory Tryd.f4.params.toList Rows.zonesCrossedSpec.vars false (#[.slice none 0 0, .string ByteArray.empty, .slice none 0 0] : Array Value).toList 8 = some ([.nil, .lit (.string []), .nil], [], places) := ⟨[], by kernel_rfl⟩
set_option maxRecDepth 100000 in
theorem lifted (os : Os) (started : os.Started) (H : Type) (enc : TypeId × Value → H) (F : Stop.Interp) :
    ReturnsInHanded {} Tryd.checked os 4 .any ((Rows.OpenSpec.upto Rows.zonesCrossedSpec).preRow enc Tryd.prog Tryd.f4 Rows.zonesCrossedUptoRow.domain false Rows.zonesCrossedUptoRow.laid) (((Rows.OpenSpec.upto Rows.zonesCrossedSpec).at F).post enc Tryd.prog Tryd.f4 false true false false) := by
  obtain ⟨places, hx⟩ := reads os enc
  refine returnsInHanded_of_row (C := Tryd.checked) (s := Rows.OpenSpec.upto Rows.zonesCrossedSpec) own started (by kernel_rfl) Tryd.func4
    (witness_row_at (enc := enc) (C := Tryd.checked) false (laidWorld os) #[.slice none 0 0, .string ByteArray.empty, .slice none 0 0] rfl (by kernel_rfl) (by kernel_rfl) (by kernel_rfl)
      (OpenSpec.preRow_of_cond 8 hx (by kernel_rfl) (fun k hk => by cases hk; kernel_rfl) (by kernel_rfl) (laid_met os))) ?_
  intro W base args ds gs before hval hW _ hk _ _ _ _
  exact contract H enc W base args ds gs before hval hW (hk _ rfl)
theorem said : Rows.ZonesCrossedUptoSaid :=
  OpenClaim.holds_of_cond 4 Tryd.f4 rfl rfl rfl rfl rfl rfl rfl ⟨rfl, rfl, rfl, rfl, rfl⟩ rfl rfl rfl rfl rfl (by kernel_rfl) Tryd.func4 (by kernel_rfl)
    (of_decide_eq_true (by kernel_rfl)) (by unfold Func.isWrapper; first | (rw [if_pos (by decide +kernel)]; kernel_rfl) | (rw [if_neg (by decide +kernel)]; exact ⟨rfl, rfl⟩))
    (fun os started H enc _ F => by rw [OpenClaim.pre_eq_preRow]; exact lifted os started H enc F)
theorem plain (f : FuncId) (fn : Func) (hf : Tryd.pinned.checked.prog.funcNamed "jitney/jitlaw1.ZonesCrossed" = some f) (hfn : Tryd.pinned.checked.prog.funcs[f]? = some fn) :
    false = Tryd.pinned.checked.prog.looks [] ∧ ∀ (j : Nat) t, fn.params[j]? = some t → Tryd.pinned.checked.prog.wantsStandIn t = false := by
  obtain rfl : f = 4 := Option.some.inj ((show Tryd.prog.funcNamed "jitney/jitlaw1.ZonesCrossed" = some 4 by kernel_rfl).symm.trans hf) |>.symm
  obtain rfl : fn = Tryd.f4 := (Option.some.inj (Tryd.func4.symm.trans hfn)).symm
  refine ⟨by kernel_rfl, fun j t ht => ?_⟩
  rw [Tryd.params4] at ht
  have hm := Array.mem_of_getElem? ht
  simp only [List.mem_toArray, List.mem_cons, List.not_mem_nil, or_false] at hm
  rcases hm with rfl | rfl | rfl
  · exact (show Tryd.prog.wantsStandIn 52 = false by kernel_rfl)
  · exact (show Tryd.prog.wantsStandIn 9 = false by kernel_rfl)
  · exact (show Tryd.prog.wantsStandIn 22 = false by kernel_rfl)
theorem proved : Rows.ZonesCrossedUptoCardSaid :=
  Claim7.holds_tied_plain_at .later [] _ _ _ _ said (fun _ h => by cases h) (by kernel_rfl) (fun _ h => by cases h) zonesCrossedUpto_row_tie rfl ⟨rfl, rfl⟩ (by kernel_rfl) rfl plain (by kernel_rfl)
end zonesCrossedUpto
end Go.Proofs.YtgkdbjnmlecimaaDoor
