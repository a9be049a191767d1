/- A part of a proof: RidesPriced, where what it reads is of bulk at most 1048576: the law holds of the program. No conditions but the statement's own. -/
import Derived.Shelf.Bits.Mul64
import Derived.Test.YtnlbapfbdabjaaaDoorRpSh
import Derived.Test.YtnlbapfbdabjaaaDoorRpW26
import Derived.Test.YtnlbapfbdabjaaaDoorRpW27
set_option linter.unusedSimpArgs false
set_option linter.unusedVariables false
set_option linter.unusedSectionVars false
namespace Go.Proofs.YtnlbapfbdabjaaaDoor
open Go Go.GL
attribute [local irreducible] Ycall GCalls
set_option maxRecDepth 10000
set_option maxHeartbeats 0
def crossF (l : List SZone) (ns : List ByteArray) : List ByteArray := compF none ((ns.map (zoneFor l)).filter fun z => !decide (z = ⟨#[]⟩))
theorem lastOr_get {α : Type} : ∀ (l : List α) (p : Option α), lastOr p l = if l = [] then p else l[l.length - 1]?
  | [], _ => by simp [lastOr]
  | [x], _ => by simp [lastOr]
  | x :: y :: l, p => by
    have := lastOr_get (y :: l) (some x)
    simp only [lastOr] at this ⊢
    rw [this]
    simp
theorem cross_take {l : List SZone} {ns : List ByteArray} {i : Nat} {x : ByteArray} (h : ns[i]? = some x) : crossF l (ns.take (i + 1)) = if zoneFor l x = ⟨#[]⟩ then crossF l (ns.take i) else crossF l (ns.take i) ++ (if lastOr none (crossF l (ns.take i)) = some (zoneFor l x) then [] else [zoneFor l x]) := by
  unfold crossF
  rw [take_at h, List.map_append, List.filter_append, List.map_cons, List.map_nil, List.filter_cons, List.filter_nil]
  split
  · rename_i q
    rw [if_neg (by simpa using q), compF_snoc, compF_last]
  · rename_i q
    have q : zoneFor l x = ⟨#[]⟩ := by simpa using q
    rw [if_pos q, List.append_nil]
theorem cross0 {l : List SZone} {ns : List ByteArray} {i : Nat} {x : ByteArray} (h : ns[i]? = some x) (hz : zoneFor l x = ⟨#[]⟩) : crossF l (ns.take (i + 1)) = crossF l (ns.take i) := by rw [cross_take h, if_pos hz]
theorem cross1 {l : List SZone} {ns : List ByteArray} {i : Nat} {x : ByteArray} (h : ns[i]? = some x) (hz : ¬ zoneFor l x = ⟨#[]⟩) (h0 : ((crossF l (ns.take i)).length : Int) = 0) : crossF l (ns.take (i + 1)) = crossF l (ns.take i) ++ [zoneFor l x] := by
  have : crossF l (ns.take i) = [] := List.eq_nil_of_length_eq_zero (by omega)
  rw [cross_take h, if_neg hz, this]; rfl
theorem cross2 {l : List SZone} {ns : List ByteArray} {i : Nat} {x y : ByteArray} (h : ns[i]? = some x) (hz : ¬ zoneFor l x = ⟨#[]⟩) (hy : (crossF l (ns.take i))[(crossF l (ns.take i)).length - 1]? = some y) : crossF l (ns.take (i + 1)) = if y = zoneFor l x then crossF l (ns.take i) else crossF l (ns.take i) ++ [zoneFor l x] := by
  have hne : ¬ crossF l (ns.take i) = [] := by intro q; rw [q] at hy; cases hy
  rw [cross_take h, if_neg hz, lastOr_get, if_neg hne, hy]
  by_cases q : y = zoneFor l x
  · simp [q]
  · simp [q]
theorem cross_len (l : List SZone) (ns : List ByteArray) (i : Nat) : (crossF l (ns.take i)).length ≤ i := by
  unfold crossF
  have h1 := compF_len ((List.map (zoneFor l) (ns.take i)).filter fun z => !decide (z = ⟨#[]⟩)) none
  have h2 := List.length_filter_le (fun z : ByteArray => !decide (z = ⟨#[]⟩)) (List.map (zoneFor l) (ns.take i))
  rw [List.length_map, List.length_take] at h2
  omega
theorem g83 {G0 : GH} {v w : Value} {l : List SZone} {ns : List ByteArray} (hv : RSl rZone G0 v l) (hw : RSl Rp.str G0 w ns) (hn : (l.length : Int) ≤ 9223372036854775807) (hm : ns.length ≤ 1000000000) (hz : ∀ z ∈ l, z.Nodes.length ≤ 500 ∧ sorted z.Nodes) : Gives Tryd.prog G0 83 [v, w] (fun u G' => RSl Rp.str G' u (crossF l ns)) := by
  intro G hG; replace hv := hv.le hG; replace hw := hw.le hG
  clear hG G0
  refine enter Tryd.func83 41 #[.tmp 4] rfl Tryd.ntmps83 rfl (by decide +kernel) rfl ?_
  obtain ⟨a, c, rfl⟩ := hv.val
  obtain ⟨b, d, rfl⟩ := hw.val
  simp (maxDischargeDepth := 9) only [↓gB, gV, gT, reduceIte, reduceCtorEq, Nat.reduceEqDiff, Nat.reduceAdd, Nat.reduceSub, Nat.reduceLeDiff, Nat.reduceLT, Int.reduceEq, Nat.reduceMul]
  focus
    refine Xloop_intro _ _ _ _ _ (fun k f G' => ∃ (i : Nat) (o : Value), k = ns.length - i ∧ (i ≤ ns.length) ∧ (Row Rp.str 9 G G' o (crossF l (ns.take i))) ∧ (RSl rZone G' (.slice a l.length c) l) ∧ (RSl Rp.str G' (.slice b ns.length d) ns) ∧ (G.le G') ∧ f 11 = V i ∧ f 5 = o ∧ f 0 = Go.Value.slice a l.length c ∧ f 9 = Go.Value.slice b ns.length d ∧ f 10 = Go.Value.int Go.IntKind.i64 ↑ns.length) _ ⟨0, .slice none 0 0, rfl, ?_, ?_, ?_, ?_, ?_, by simp (maxDischargeDepth := 9) only [↓gB, gV, gT, reduceIte, reduceCtorEq, Nat.reduceEqDiff, Nat.reduceAdd, Nat.reduceSub, Nat.reduceLeDiff, Nat.reduceLT, Int.reduceEq, Nat.reduceMul, and_self]⟩ ?_
    · omega
    · (exact Row.nil; done)
    · assumption
    · assumption
    · exact le_refl _
    rintro k f G' ⟨i, o, rfl, hi, hrow, hv, hw, hle, f11, f5, f0, f9, f10⟩
  obtain ⟨ao, co, rfl⟩ := hrow.val
  simp (maxDischargeDepth := 9) only [↓gB, gV, gT, reduceIte, reduceCtorEq, Nat.reduceEqDiff, Nat.reduceAdd, Nat.reduceSub, Nat.reduceLeDiff, Nat.reduceLT, Int.reduceEq, Nat.reduceMul, f11, f0, f9, f10, f5]
  have hlen := cross_len l ns i
  refine Xc_split _ _ _ _ _ (fun c1 => ?_) (fun c1 => ?_)
  · focus
      simp (maxDischargeDepth := 9) only [↓gB, gV, gT, reduceIte, reduceCtorEq, Nat.reduceEqDiff, Nat.reduceAdd, Nat.reduceSub, Nat.reduceLeDiff, Nat.reduceLT, Int.reduceEq, Nat.reduceMul, f11, f0, f9, f10, f5, c1]
      obtain ⟨x1, a1, s1, m1, rfl, rfl, e1⟩ := hw.at1 (i) (by omega) rfl
      simp (maxDischargeDepth := 9) only [↓gB, gV, gT, reduceIte, reduceCtorEq, Nat.reduceEqDiff, Nat.reduceAdd, Nat.reduceSub, Nat.reduceLeDiff, Nat.reduceLT, Int.reduceEq, Nat.reduceMul, f11, f0, f10, f5, c1, f9, e1]
      refine vguard_intro (by simp) ?_
      refine Ycp (p79 (by assumption) (by assumption) (by assumption)) ?_
      simp (maxDischargeDepth := 9) only [↓gB, gV, gT, reduceIte, reduceCtorEq, Nat.reduceEqDiff, Nat.reduceAdd, Nat.reduceSub, Nat.reduceLeDiff, Nat.reduceLT, Int.reduceEq, Nat.reduceMul, f11, f0, f10, f5, c1, f9, e1]
      by_cases c2 : (Go.Proofs.YtnlbapfbdabjaaaDoor.zoneFor l x1 : ByteArray) = { data := #[] }
      rotate_left 1
      focus
        simp (maxDischargeDepth := 9) only [↓gB, gV, gT, reduceIte, reduceCtorEq, Nat.reduceEqDiff, Nat.reduceAdd, Nat.reduceSub, Nat.reduceLeDiff, Nat.reduceLT, Int.reduceEq, Nat.reduceMul, f11, f0, f10, f5, c1, f9, e1, c2]
        by_cases c3 : (↑(Go.Proofs.YtnlbapfbdabjaaaDoor.crossF l (List.take i ns)).length : Int) = 0
        rotate_left 1
        focus
          simp (maxDischargeDepth := 9) only [↓gB, gV, gT, reduceIte, reduceCtorEq, Nat.reduceEqDiff, Nat.reduceAdd, Nat.reduceSub, Nat.reduceLeDiff, Nat.reduceLT, Int.reduceEq, Nat.reduceMul, f11, f0, f10, f5, c1, f9, e1, c2, c3]
          have q1 : Go.IntKind.i64.wrap (↑(Go.Proofs.YtnlbapfbdabjaaaDoor.crossF l (List.take i ns)).length - 1) = ↑(Go.Proofs.YtnlbapfbdabjaaaDoor.crossF l (List.take i ns)).length - 1 := wrap_id (by omega)
          simp (maxDischargeDepth := 9) only [↓gB, gV, gT, reduceIte, reduceCtorEq, Nat.reduceEqDiff, Nat.reduceAdd, Nat.reduceSub, Nat.reduceLeDiff, Nat.reduceLT, Int.reduceEq, Nat.reduceMul, f11, f0, f10, f5, c1, f9, e1, c2, c3, q1]
          obtain ⟨x2, a2, s2, m2, rfl, rfl, e2⟩ := hrow.at1 ((Go.Proofs.YtnlbapfbdabjaaaDoor.crossF l (List.take i ns)).length - 1) (by omega) rfl
          simp (maxDischargeDepth := 9) only [↓gB, gV, gT, reduceIte, reduceCtorEq, Nat.reduceEqDiff, Nat.reduceAdd, Nat.reduceSub, Nat.reduceLeDiff, Nat.reduceLT, Int.reduceEq, Nat.reduceMul, f11, f0, f10, c1, f9, e1, c2, c3, q1, f5, e2]
          refine vguard_intro (by omega) ?_
          by_cases c4 : (x2 : ByteArray) = Go.Proofs.YtnlbapfbdabjaaaDoor.zoneFor l x1
          rotate_left 1
          focus
            simp (maxDischargeDepth := 9) only [↓gB, gV, gT, reduceIte, reduceCtorEq, Nat.reduceEqDiff, Nat.reduceAdd, Nat.reduceSub, Nat.reduceLeDiff, Nat.reduceLT, Int.reduceEq, Nat.reduceMul, f11, f0, f10, c1, f9, e1, c2, c3, q1, f5, e2, c4]
            refine Yn2 fun r1 h1 => ?_
            simp (maxDischargeDepth := 9) only [↓gB, gV, gT, reduceIte, reduceCtorEq, Nat.reduceEqDiff, Nat.reduceAdd, Nat.reduceSub, Nat.reduceLeDiff, Nat.reduceLT, Int.reduceEq, Nat.reduceMul, f11, f0, f10, c1, f9, e1, c2, c3, q1, f5, e2, c4, h1]
            refine Row.app1 sl22 (Row.put _ h1 hrow) (by exact put_self _ _ _) (y := _) rfl (by omega) (GH.le.trans hle (le_put h1 _)) fun v1 G1 w1 k1 l1 => ?_
            replace hv := RSl.appd (RSl.put _ h1 hv) (Row.put _ h1 hrow) k1
            replace hw := RSl.appd (RSl.put _ h1 hw) (Row.put _ h1 hrow) k1
            simp (maxDischargeDepth := 9) only [↓gB, gV, gT, reduceIte, reduceCtorEq, Nat.reduceEqDiff, Nat.reduceAdd, Nat.reduceSub, Nat.reduceLeDiff, Nat.reduceLT, Int.reduceEq, Nat.reduceMul, f11, f0, f10, c1, f9, e1, c2, c3, q1, f5, e2, c4, h1]
            have q2 : Go.IntKind.i64.wrap (↑i + 1) = ↑i + 1 := wrap_id (by omega)
            simp (maxDischargeDepth := 9) only [↓gB, gV, gT, reduceIte, reduceCtorEq, Nat.reduceEqDiff, Nat.reduceAdd, Nat.reduceSub, Nat.reduceLeDiff, Nat.reduceLT, Int.reduceEq, Nat.reduceMul, f11, f0, f10, c1, f9, e1, c2, c3, q1, f5, e2, c4, h1, q2]
            rw [N_lp]
            refine ⟨_, ?_, _, sub_refl _, i + 1, v1, rfl, ?_, ?_, ?_, ?_, ?_, by simp (maxDischargeDepth := 9) only [↓gB, gV, gT, reduceIte, reduceCtorEq, Nat.reduceEqDiff, Nat.reduceAdd, Nat.reduceSub, Nat.reduceLeDiff, Nat.reduceLT, Int.reduceEq, Nat.reduceMul, f11, f0, f10, c1, f9, e1, c2, c3, q1, f5, e2, c4, h1, q2, nat_succ, and_self]⟩
            · omega
            · omega
            · (rw [cross2 m1 c2 m2, if_neg (by assumption)]; exact w1; done)
            · assumption
            · assumption
            · assumption
          rotate_right 1
          simp (maxDischargeDepth := 9) only [↓gB, gV, gT, reduceIte, reduceCtorEq, Nat.reduceEqDiff, Nat.reduceAdd, Nat.reduceSub, Nat.reduceLeDiff, Nat.reduceLT, Int.reduceEq, Nat.reduceMul, f11, f0, f10, c1, f9, e1, c2, c3, q1, f5, e2, c4]
          have q2 : Go.IntKind.i64.wrap (↑i + 1) = ↑i + 1 := wrap_id (by omega)
          simp (maxDischargeDepth := 9) only [↓gB, gV, gT, reduceIte, reduceCtorEq, Nat.reduceEqDiff, Nat.reduceAdd, Nat.reduceSub, Nat.reduceLeDiff, Nat.reduceLT, Int.reduceEq, Nat.reduceMul, f11, f0, f10, c1, f9, e1, c2, c3, q1, f5, e2, c4, q2]
          rw [N_lp]
          refine ⟨_, ?_, _, sub_refl _, i + 1, .slice (some a2) (crossF l (ns.take i)).length co, rfl, ?_, ?_, ?_, ?_, ?_, by simp (maxDischargeDepth := 9) only [↓gB, gV, gT, reduceIte, reduceCtorEq, Nat.reduceEqDiff, Nat.reduceAdd, Nat.reduceSub, Nat.reduceLeDiff, Nat.reduceLT, Int.reduceEq, Nat.reduceMul, f11, f0, f10, c1, f9, e1, c2, c3, q1, f5, e2, c4, q2, nat_succ, and_self]⟩
          · omega
          · omega
          · (rw [cross2 m1 c2 m2, if_pos (by assumption)]; exact hrow; done)
          · assumption
          · assumption
          · assumption
        rotate_right 1
        simp (maxDischargeDepth := 9) only [↓gB, gV, gT, reduceIte, reduceCtorEq, Nat.reduceEqDiff, Nat.reduceAdd, Nat.reduceSub, Nat.reduceLeDiff, Nat.reduceLT, Int.reduceEq, Nat.reduceMul, f11, f0, f10, f5, c1, f9, e1, c2, c3]
        refine Yn2 fun r1 h1 => ?_
        simp (maxDischargeDepth := 9) only [↓gB, gV, gT, reduceIte, reduceCtorEq, Nat.reduceEqDiff, Nat.reduceAdd, Nat.reduceSub, Nat.reduceLeDiff, Nat.reduceLT, Int.reduceEq, Nat.reduceMul, f11, f0, f10, f5, c1, f9, e1, c2, c3, h1]
        refine Row.app1 sl22 (Row.put _ h1 hrow) (by exact put_self _ _ _) (y := _) rfl (by omega) (GH.le.trans hle (le_put h1 _)) fun v1 G1 w1 k1 l1 => ?_
        replace hv := RSl.appd (RSl.put _ h1 hv) (Row.put _ h1 hrow) k1
        replace hw := RSl.appd (RSl.put _ h1 hw) (Row.put _ h1 hrow) k1
        simp (maxDischargeDepth := 9) only [↓gB, gV, gT, reduceIte, reduceCtorEq, Nat.reduceEqDiff, Nat.reduceAdd, Nat.reduceSub, Nat.reduceLeDiff, Nat.reduceLT, Int.reduceEq, Nat.reduceMul, f11, f0, f10, f5, c1, f9, e1, c2, c3, h1]
        have q1 : Go.IntKind.i64.wrap (↑i + 1) = ↑i + 1 := wrap_id (by omega)
        simp (maxDischargeDepth := 9) only [↓gB, gV, gT, reduceIte, reduceCtorEq, Nat.reduceEqDiff, Nat.reduceAdd, Nat.reduceSub, Nat.reduceLeDiff, Nat.reduceLT, Int.reduceEq, Nat.reduceMul, f11, f0, f10, f5, c1, f9, e1, c2, c3, h1, q1]
        rw [N_lp]
        refine ⟨_, ?_, _, sub_refl _, i + 1, v1, rfl, ?_, ?_, ?_, ?_, ?_, by simp (maxDischargeDepth := 9) only [↓gB, gV, gT, reduceIte, reduceCtorEq, Nat.reduceEqDiff, Nat.reduceAdd, Nat.reduceSub, Nat.reduceLeDiff, Nat.reduceLT, Int.reduceEq, Nat.reduceMul, f11, f0, f10, f5, c1, f9, e1, c2, c3, h1, q1, nat_succ, and_self]⟩
        · omega
        · omega
        · (rw [cross1 m1 c2 c3]; exact w1; done)
        · assumption
        · assumption
        · assumption
      rotate_right 1
      simp (maxDischargeDepth := 9) only [↓gB, gV, gT, reduceIte, reduceCtorEq, Nat.reduceEqDiff, Nat.reduceAdd, Nat.reduceSub, Nat.reduceLeDiff, Nat.reduceLT, Int.reduceEq, Nat.reduceMul, f11, f0, f10, f5, c1, f9, e1, c2]
      have q1 : Go.IntKind.i64.wrap (↑i + 1) = ↑i + 1 := wrap_id (by omega)
      simp (maxDischargeDepth := 9) only [↓gB, gV, gT, reduceIte, reduceCtorEq, Nat.reduceEqDiff, Nat.reduceAdd, Nat.reduceSub, Nat.reduceLeDiff, Nat.reduceLT, Int.reduceEq, Nat.reduceMul, f11, f0, f10, f5, c1, f9, e1, c2, q1]
      rw [N_lp]
      refine ⟨_, ?_, _, sub_refl _, i + 1, .slice ao (crossF l (ns.take i)).length co, rfl, ?_, ?_, ?_, ?_, ?_, by simp (maxDischargeDepth := 9) only [↓gB, gV, gT, reduceIte, reduceCtorEq, Nat.reduceEqDiff, Nat.reduceAdd, Nat.reduceSub, Nat.reduceLeDiff, Nat.reduceLT, Int.reduceEq, Nat.reduceMul, f11, f0, f10, f5, c1, f9, e1, c2, q1, nat_succ, and_self]⟩
      · omega
      · omega
      · (rw [cross0 m1 c2]; exact hrow; done)
      · assumption
      · assumption
      · assumption
  · simp (maxDischargeDepth := 9) only [↓gB, gV, gT, reduceIte, reduceCtorEq, Nat.reduceEqDiff, Nat.reduceAdd, Nat.reduceSub, Nat.reduceLeDiff, Nat.reduceLT, Int.reduceEq, Nat.reduceMul, f11, f0, f9, f10, f5, c1]
    obtain ⟨G2, hs, hl, hr⟩ := hrow.fin hle
    rw [List.take_of_length_le (by omega)] at hr ⊢
    exact Kup_gives hs hl hr
def crossR (l : List SZone) (ns : List ByteArray) : List ByteArray := (ns.map (zoneFor l)).filter fun z => !decide (z = ⟨#[]⟩)
theorem crossR_take {l : List SZone} {ns : List ByteArray} {i : Nat} {x : ByteArray} (h : ns[i]? = some x) : crossR l (ns.take (i + 1)) = crossR l (ns.take i) ++ (if zoneFor l x = ⟨#[]⟩ then [] else [zoneFor l x]) := by
  unfold crossR
  rw [take_at h, List.map_append, List.filter_append, List.map_cons, List.map_nil, List.filter_cons, List.filter_nil]
  by_cases q : zoneFor l x = ⟨#[]⟩ <;> simp [q]
theorem crossR_len (l : List SZone) (ns : List ByteArray) (i : Nat) : (crossR l (ns.take i)).length ≤ i := by
  unfold crossR
  have h2 := List.length_filter_le (fun z : ByteArray => !decide (z = ⟨#[]⟩)) (List.map (zoneFor l) (ns.take i))
  rw [List.length_map, List.length_take] at h2
  omega
theorem compCalls {e : TypeId} {G0 G : GH} {v : Value} {xs : List ByteArray} (hr : Row Rp.str e G0 G v xs) (hn : xs.length ≤ 1000000000) (hl : G0.le G) : GCalls Tryd.prog 86 [v].toArray G (fun u G' => Row Rp.str e G0 G' u (compF none xs) ∧ G0.le G') :=
  gcompact (fun blk cap zs w hH h1 h2 => Any.slices_Compact_string Tryd.layComp blk 0 cap zs w hH h1 h2) (fun a cap w => Any.slices_Compact_string_empty Tryd.layComp a cap w) hr hn hl
theorem g33 {G0 : GH} {v w : Value} {l : List SZone} {ns : List ByteArray} (hv : RSl rZone G0 v l) (hw : RSl Rp.str G0 w ns) (hn : (l.length : Int) ≤ 9223372036854775807) (hm : ns.length ≤ 1000000000) (hz : ∀ z ∈ l, z.Nodes.length ≤ 500 ∧ sorted z.Nodes) : Gives Tryd.prog G0 33 [v, w] (fun u G' => RSl Rp.str G' u (crossF l ns)) := by
  intro G hG; replace hv := hv.le hG; replace hw := hw.le hG
  clear hG G0
  refine enter Tryd.func33 27 #[.tmp 4] rfl Tryd.ntmps33 rfl (by decide +kernel) rfl ?_
  obtain ⟨a, c, rfl⟩ := hv.val
  obtain ⟨b, d, rfl⟩ := hw.val
  simp (maxDischargeDepth := 9) only [↓gB, gV, gT, reduceIte, reduceCtorEq, Nat.reduceEqDiff, Nat.reduceAdd, Nat.reduceSub, Nat.reduceLeDiff, Nat.reduceLT, Int.reduceEq, Nat.reduceMul]
  focus
    refine Xloop_intro _ _ _ _ _ (fun k f G' => ∃ (i : Nat) (o : Value), k = ns.length - i ∧ (i ≤ ns.length) ∧ (Row Rp.str 9 G G' o (crossR l (ns.take i))) ∧ (RSl rZone G' (.slice a l.length c) l) ∧ (RSl Rp.str G' (.slice b ns.length d) ns) ∧ (G.le G') ∧ f 11 = V i ∧ f 5 = o ∧ f 0 = Go.Value.slice a l.length c ∧ f 9 = Go.Value.slice b ns.length d ∧ f 10 = Go.Value.int Go.IntKind.i64 ↑ns.length) _ ⟨0, .slice none 0 0, rfl, ?_, ?_, ?_, ?_, ?_, by simp (maxDischargeDepth := 9) only [↓gB, gV, gT, reduceIte, reduceCtorEq, Nat.reduceEqDiff, Nat.reduceAdd, Nat.reduceSub, Nat.reduceLeDiff, Nat.reduceLT, Int.reduceEq, Nat.reduceMul, and_self]⟩ ?_
    · omega
    · (exact Row.nil; done)
    · assumption
    · assumption
    · exact le_refl _
    rintro k f G' ⟨i, o, rfl, hi, hrow, hv, hw, hle, f11, f5, f0, f9, f10⟩
  have hlen := crossR_len l ns i
  simp (maxDischargeDepth := 9) only [↓gB, gV, gT, reduceIte, reduceCtorEq, Nat.reduceEqDiff, Nat.reduceAdd, Nat.reduceSub, Nat.reduceLeDiff, Nat.reduceLT, Int.reduceEq, Nat.reduceMul, f11, f5, f0, f9, f10]
  refine Xc_split _ _ _ _ _ (fun c1 => ?_) (fun c1 => ?_)
  · focus
      simp (maxDischargeDepth := 9) only [↓gB, gV, gT, reduceIte, reduceCtorEq, Nat.reduceEqDiff, Nat.reduceAdd, Nat.reduceSub, Nat.reduceLeDiff, Nat.reduceLT, Int.reduceEq, Nat.reduceMul, f11, f5, f0, f9, f10, c1]
      obtain ⟨x1, a1, s1, m1, rfl, rfl, e1⟩ := hw.at1 (i) (by omega) rfl
      simp (maxDischargeDepth := 9) only [↓gB, gV, gT, reduceIte, reduceCtorEq, Nat.reduceEqDiff, Nat.reduceAdd, Nat.reduceSub, Nat.reduceLeDiff, Nat.reduceLT, Int.reduceEq, Nat.reduceMul, f11, f5, f0, f10, c1, f9, e1]
      refine vguard_intro (by simp) ?_
      refine Ycp (p30 (by assumption) (by assumption) (by assumption)) ?_
      simp (maxDischargeDepth := 9) only [↓gB, gV, gT, reduceIte, reduceCtorEq, Nat.reduceEqDiff, Nat.reduceAdd, Nat.reduceSub, Nat.reduceLeDiff, Nat.reduceLT, Int.reduceEq, Nat.reduceMul, f11, f5, f0, f10, c1, f9, e1]
      by_cases c2 : (Go.Proofs.YtnlbapfbdabjaaaDoor.zoneFor l x1 : ByteArray) = { data := #[] }
      rotate_left 1
      focus
        simp (maxDischargeDepth := 9) only [↓gB, gV, gT, reduceIte, reduceCtorEq, Nat.reduceEqDiff, Nat.reduceAdd, Nat.reduceSub, Nat.reduceLeDiff, Nat.reduceLT, Int.reduceEq, Nat.reduceMul, f11, f5, f0, f10, c1, f9, e1, c2]
        refine Yn2 fun r1 h1 => ?_
        simp (maxDischargeDepth := 9) only [↓gB, gV, gT, reduceIte, reduceCtorEq, Nat.reduceEqDiff, Nat.reduceAdd, Nat.reduceSub, Nat.reduceLeDiff, Nat.reduceLT, Int.reduceEq, Nat.reduceMul, f11, f5, f0, f10, c1, f9, e1, c2, h1]
        refine Row.app1 sl22 (Row.put _ h1 hrow) (by exact put_self _ _ _) (y := _) rfl (by omega) (GH.le.trans hle (le_put h1 _)) fun v1 G1 w1 k1 l1 => ?_
        replace hv := RSl.appd (RSl.put _ h1 hv) (Row.put _ h1 hrow) k1
        replace hw := RSl.appd (RSl.put _ h1 hw) (Row.put _ h1 hrow) k1
        simp (maxDischargeDepth := 9) only [↓gB, gV, gT, reduceIte, reduceCtorEq, Nat.reduceEqDiff, Nat.reduceAdd, Nat.reduceSub, Nat.reduceLeDiff, Nat.reduceLT, Int.reduceEq, Nat.reduceMul, f11, f5, f0, f10, c1, f9, e1, c2, h1]
        have q1 : Go.IntKind.i64.wrap (↑i + 1) = ↑i + 1 := wrap_id (by omega)
        simp (maxDischargeDepth := 9) only [↓gB, gV, gT, reduceIte, reduceCtorEq, Nat.reduceEqDiff, Nat.reduceAdd, Nat.reduceSub, Nat.reduceLeDiff, Nat.reduceLT, Int.reduceEq, Nat.reduceMul, f11, f5, f0, f10, c1, f9, e1, c2, h1, q1]
        rw [N_lp]
        refine ⟨_, ?_, _, sub_refl _, i + 1, v1, rfl, ?_, ?_, ?_, ?_, ?_, by simp (maxDischargeDepth := 9) only [↓gB, gV, gT, reduceIte, reduceCtorEq, Nat.reduceEqDiff, Nat.reduceAdd, Nat.reduceSub, Nat.reduceLeDiff, Nat.reduceLT, Int.reduceEq, Nat.reduceMul, f11, f5, f0, f10, c1, f9, e1, c2, h1, q1, nat_succ, and_self]⟩
        · omega
        · omega
        · (rw [crossR_take m1, if_neg c2]; exact w1; done)
        · assumption
        · assumption
        · assumption
      rotate_right 1
      simp (maxDischargeDepth := 9) only [↓gB, gV, gT, reduceIte, reduceCtorEq, Nat.reduceEqDiff, Nat.reduceAdd, Nat.reduceSub, Nat.reduceLeDiff, Nat.reduceLT, Int.reduceEq, Nat.reduceMul, f11, f5, f0, f10, c1, f9, e1, c2]
      have q1 : Go.IntKind.i64.wrap (↑i + 1) = ↑i + 1 := wrap_id (by omega)
      simp (maxDischargeDepth := 9) only [↓gB, gV, gT, reduceIte, reduceCtorEq, Nat.reduceEqDiff, Nat.reduceAdd, Nat.reduceSub, Nat.reduceLeDiff, Nat.reduceLT, Int.reduceEq, Nat.reduceMul, f11, f5, f0, f10, c1, f9, e1, c2, q1]
      rw [N_lp]
      refine ⟨_, ?_, _, sub_refl _, i + 1, o, rfl, ?_, ?_, ?_, ?_, ?_, by simp (maxDischargeDepth := 9) only [↓gB, gV, gT, reduceIte, reduceCtorEq, Nat.reduceEqDiff, Nat.reduceAdd, Nat.reduceSub, Nat.reduceLeDiff, Nat.reduceLT, Int.reduceEq, Nat.reduceMul, f11, f5, f0, f10, c1, f9, e1, c2, q1, nat_succ, and_self]⟩
      · omega
      · omega
      · (rw [crossR_take m1, if_pos c2, List.append_nil]; exact hrow; done)
      · assumption
      · assumption
      · assumption
  · simp (maxDischargeDepth := 9) only [↓gB, gV, gT, reduceIte, reduceCtorEq, Nat.reduceEqDiff, Nat.reduceAdd, Nat.reduceSub, Nat.reduceLeDiff, Nat.reduceLT, Int.reduceEq, Nat.reduceMul, f11, f5, f0, f9, f10, c1]
    refine Ycall_intro (md := none) (compCalls hrow (by omega) hle) ?_
    rintro u G1 ⟨hrow, hle⟩
    simp (maxDischargeDepth := 9) only [↓gB, gV, gT, reduceIte, reduceCtorEq, Nat.reduceEqDiff, Nat.reduceAdd, Nat.reduceSub, Nat.reduceLeDiff, Nat.reduceLT, Int.reduceEq, Nat.reduceMul, f11, f5, f0, f9, f10, c1]
    obtain ⟨G2, hs, hl, hr⟩ := hrow.fin hle
    rw [List.take_of_length_le (by omega)] at hr
    exact Kup_gives hs hl hr
end Go.Proofs.YtnlbapfbdabjaaaDoor
namespace Go.Proofs.YtnlbapfbdabjaaaDoor
open Go Go.GL
attribute [local irreducible] Ycall GCalls
set_option maxRecDepth 10000
set_option maxHeartbeats 0
def crossE (l : List SZone) (ns : List ByteArray) : Int := orOf [checkZones l, namesF ns 2000]
theorem g31 {G0 : GH} {v w : Value} {l : List SZone} {ns : List ByteArray} (hv : RSl rZone G0 v l) (hw : RSl Rp.str G0 w ns) (hn : (l.length : Int) ≤ 9223372036854775807) (hm : ns.length ≤ 1000000000) : Gives Tryd.prog G0 31 [v, w] (fun u G' => ∃ x, RSl Rp.str G' x (if crossE l ns = 0 then crossF l ns else []) ∧ u = .tuple #[x, V (crossE l ns)]) := by
  intro G hG; replace hv := hv.le hG; replace hw := hw.le hG
  clear hG G0
  refine enter Tryd.func31 19 #[.tmp 4, .tmp 5] rfl Tryd.ntmps31 rfl (by decide +kernel) rfl ?_
  by_cases he : crossE l ns = 0
  · have hz : checkZones l = 0 := by
      unfold crossE at he; rw [orOf2] at he; split at he
      · assumption
      · rename_i q; exact absurd he q
    have hzz := cz_z hz
    have he' : orOf [checkZones l, namesF ns 2000] = 0 := he
    simp (maxDischargeDepth := 9) only [↓gB, gV, gT, reduceIte, reduceCtorEq, Nat.reduceEqDiff, Nat.reduceAdd, Nat.reduceSub, Nat.reduceLeDiff, Nat.reduceLT, Int.reduceEq, Nat.reduceMul, he', he]
    refine Ycp (p26 (by assumption) (by assumption)) ?_
    simp (maxDischargeDepth := 9) only [↓gB, gV, gT, reduceIte, reduceCtorEq, Nat.reduceEqDiff, Nat.reduceAdd, Nat.reduceSub, Nat.reduceLeDiff, Nat.reduceLT, Int.reduceEq, Nat.reduceMul, he', he]
    refine Ycp (p82 (by assumption) (by omega)) ?_
    simp (maxDischargeDepth := 9) only [↓gB, gV, gT, reduceIte, reduceCtorEq, Nat.reduceEqDiff, Nat.reduceAdd, Nat.reduceSub, Nat.reduceLeDiff, Nat.reduceLT, Int.reduceEq, Nat.reduceMul, he', he]
    refine Yn1 fun r1 h1 => ?_
    simp (maxDischargeDepth := 9) only [↓gB, gV, gT, reduceIte, reduceCtorEq, Nat.reduceEqDiff, Nat.reduceAdd, Nat.reduceSub, Nat.reduceLeDiff, Nat.reduceLT, Int.reduceEq, Nat.reduceMul, h1, he', he]
    refine Ycp (p81 (by exact put_self _ _ _)) ?_
    simp (maxDischargeDepth := 9) only [↓gB, gV, gT, reduceIte, reduceCtorEq, Nat.reduceEqDiff, Nat.reduceAdd, Nat.reduceSub, Nat.reduceLeDiff, Nat.reduceLT, Int.reduceEq, Nat.reduceMul, h1, he', he]
    have l1 := le_put h1 ((Go.Obj.cells #[Go.GL.V (Go.Proofs.YtnlbapfbdabjaaaDoor.checkZones l), Go.GL.V (Go.Proofs.YtnlbapfbdabjaaaDoor.namesF ns 2000)] 26, Bool.true))
    have y1 := put_self G r1 ((Go.Obj.cells #[Go.GL.V (Go.Proofs.YtnlbapfbdabjaaaDoor.checkZones l), Go.GL.V (Go.Proofs.YtnlbapfbdabjaaaDoor.namesF ns 2000)] 26, Bool.true))
    generalize GH.put G r1 ((Go.Obj.cells #[Go.GL.V (Go.Proofs.YtnlbapfbdabjaaaDoor.checkZones l), Go.GL.V (Go.Proofs.YtnlbapfbdabjaaaDoor.namesF ns 2000)] 26, Bool.true)) = G1 at *
    replace hv := RSl.le hv l1
    replace hw := RSl.le hw l1
    refine Ycg (g83 (by assumption) (by assumption) (by assumption) (by assumption) (by assumption)) ?_ ?_
    · exact upRSl _ _
    intro u2 G2 l2 w2
    replace l1 := GH.le.trans l1 l2
    replace y1 := l2 _ _ y1
    replace hv := RSl.le hv l2
    replace hw := RSl.le hw l2
    obtain ⟨aw2, cw2, rfl⟩ := RSl.val w2
    obtain ⟨ahv, chv, rfl⟩ := RSl.val hv
    obtain ⟨ahw, chw, rfl⟩ := RSl.val hw
    simp (maxDischargeDepth := 9) only [↓gB, gV, gT, reduceIte, reduceCtorEq, Nat.reduceEqDiff, Nat.reduceAdd, Nat.reduceSub, Nat.reduceLeDiff, Nat.reduceLT, Int.reduceEq, Nat.reduceMul, h1, y1, he', he]
    exact Kup_gives (sub_refl _) (by assumption) ⟨_, by assumption, rfl⟩
  · have he' : ¬ orOf [checkZones l, namesF ns 2000] = 0 := he
    simp (maxDischargeDepth := 9) only [↓gB, gV, gT, reduceIte, reduceCtorEq, Nat.reduceEqDiff, Nat.reduceAdd, Nat.reduceSub, Nat.reduceLeDiff, Nat.reduceLT, Int.reduceEq, Nat.reduceMul, he', he]
    refine Ycp (p26 (by assumption) (by assumption)) ?_
    simp (maxDischargeDepth := 9) only [↓gB, gV, gT, reduceIte, reduceCtorEq, Nat.reduceEqDiff, Nat.reduceAdd, Nat.reduceSub, Nat.reduceLeDiff, Nat.reduceLT, Int.reduceEq, Nat.reduceMul, he', he]
    refine Ycp (p82 (by assumption) (by omega)) ?_
    simp (maxDischargeDepth := 9) only [↓gB, gV, gT, reduceIte, reduceCtorEq, Nat.reduceEqDiff, Nat.reduceAdd, Nat.reduceSub, Nat.reduceLeDiff, Nat.reduceLT, Int.reduceEq, Nat.reduceMul, he', he]
    refine Yn1 fun r1 h1 => ?_
    simp (maxDischargeDepth := 9) only [↓gB, gV, gT, reduceIte, reduceCtorEq, Nat.reduceEqDiff, Nat.reduceAdd, Nat.reduceSub, Nat.reduceLeDiff, Nat.reduceLT, Int.reduceEq, Nat.reduceMul, h1, he', he]
    refine Ycp (p81 (by exact put_self _ _ _)) ?_
    simp (maxDischargeDepth := 9) only [↓gB, gV, gT, reduceIte, reduceCtorEq, Nat.reduceEqDiff, Nat.reduceAdd, Nat.reduceSub, Nat.reduceLeDiff, Nat.reduceLT, Int.reduceEq, Nat.reduceMul, h1, he', he]
    exact Kup_gives (sub_refl _) (by simp (maxDischargeDepth := 9) only [le_self, le_puts, le_put0, h1]) ⟨_, RSl.nil _ _, rfl⟩
theorem g27 {G0 : GH} {v : Value} {l : List SZone} (hv : RSl rZone G0 v l) (hn : l.length ≤ 1000000000) (hz : ∀ z ∈ l, z.Nodes.length ≤ 1000000000) : Gives Tryd.prog G0 27 [v] (fun u G' => RSl rZone G' u l) := by
  intro G hG; replace hv := hv.le hG
  clear hG G0
  refine enter Tryd.func27 22 #[.tmp 2] rfl Tryd.ntmps27 rfl (by decide +kernel) rfl ?_
  obtain ⟨a, c, rfl⟩ := hv.val
  simp (maxDischargeDepth := 9) only [↓gB, gV, gT, reduceIte, reduceCtorEq, Nat.reduceEqDiff, Nat.reduceAdd, Nat.reduceSub, Nat.reduceLeDiff, Nat.reduceLT, Int.reduceEq, Nat.reduceMul]
  focus
    refine Xloop_intro _ _ _ _ _ (fun k f G' => ∃ (i : Nat) (o : Value), k = l.length - i ∧ (i ≤ l.length) ∧ (Row rZone 122 G G' o (l.take i)) ∧ (RSl rZone G' (.slice a l.length c) l) ∧ (G.le G') ∧ f 8 = V i ∧ f 3 = o ∧ f 6 = Go.Value.slice a l.length c ∧ f 7 = Go.Value.int Go.IntKind.i64 ↑l.length) _ ⟨0, .slice none 0 0, rfl, ?_, ?_, ?_, ?_, by simp (maxDischargeDepth := 9) only [↓gB, gV, gT, reduceIte, reduceCtorEq, Nat.reduceEqDiff, Nat.reduceAdd, Nat.reduceSub, Nat.reduceLeDiff, Nat.reduceLT, Int.reduceEq, Nat.reduceMul, and_self]⟩ ?_
    · omega
    · (exact Row.nil; done)
    · assumption
    · exact le_refl _
    rintro k f G' ⟨i, o, rfl, hi, hrow, hv, hle, f8, f3, f6, f7⟩
  simp (maxDischargeDepth := 9) only [↓gB, gV, gT, reduceIte, reduceCtorEq, Nat.reduceEqDiff, Nat.reduceAdd, Nat.reduceSub, Nat.reduceLeDiff, Nat.reduceLT, Int.reduceEq, Nat.reduceMul, f8, f3, f6, f7]
  refine Xc_split _ _ _ _ _ (fun c1 => ?_) (fun c1 => ?_)
  · obtain ⟨z, hzi⟩ : ∃ z, l[i]? = some z := ⟨_, List.getElem?_eq_getElem (by omega)⟩
    have hz1 := hz z (List.mem_of_getElem? hzi)
    simp (maxDischargeDepth := 9) only [↓gB, gV, gT, reduceIte, reduceCtorEq, Nat.reduceEqDiff, Nat.reduceAdd, Nat.reduceSub, Nat.reduceLeDiff, Nat.reduceLT, Int.reduceEq, Nat.reduceMul, f8, f3, f6, f7, c1]
    obtain ⟨x1, a1, s1, m1, rfl, ⟨v1, rfl, w1⟩, e1⟩ := hv.at (i) (by omega) 2 rfl
    obtain ⟨aw1, cw1, rfl⟩ := RSl.val w1
    simp (maxDischargeDepth := 9) only [↓gB, gV, gT, reduceIte, reduceCtorEq, Nat.reduceEqDiff, Nat.reduceAdd, Nat.reduceSub, Nat.reduceLeDiff, Nat.reduceLT, Int.reduceEq, Nat.reduceMul, f8, f3, f7, c1, f6, e1]
    refine vguard_intro (by simp) ?_
    refine Yn2 fun r1 h1 => ?_
    simp (maxDischargeDepth := 9) only [↓gB, gV, gT, reduceIte, reduceCtorEq, Nat.reduceEqDiff, Nat.reduceAdd, Nat.reduceSub, Nat.reduceLeDiff, Nat.reduceLT, Int.reduceEq, Nat.reduceMul, f8, f3, f7, c1, f6, e1, h1]
    obtain rfl : z = x1 := by rw [hzi] at m1; cases m1; rfl
    focus
      have q1_0 := Row.fresh hrow h1
      have q1_1 := GH.le.none hle h1
      have l1 := le_put h1 ((Go.Obj.cells #[Go.Value.string z.Key, Go.Value.slice aw1 z.Nodes.length cw1] 122, Bool.true))
      have y1 := put_self G' r1 ((Go.Obj.cells #[Go.Value.string z.Key, Go.Value.slice aw1 z.Nodes.length cw1] 122, Bool.true))
      generalize GH.put G' r1 ((Go.Obj.cells #[Go.Value.string z.Key, Go.Value.slice aw1 z.Nodes.length cw1] 122, Bool.true)) = G1 at *
      replace hrow := Row.le hrow l1
      replace hle := GH.le.trans hle l1
      replace hv := RSl.le hv l1
      replace w1 := RSl.le w1 l1
      refine Ycg (g9 (by assumption) (by assumption)) ?_ ?_
      · exact upRSl _ _
      intro u2 G2 l2 w2
      replace l1 := GH.le.trans l1 l2
      replace y1 := l2 _ _ y1
      replace hrow := Row.le hrow l2
      replace hle := GH.le.trans hle l2
      replace hv := RSl.le hv l2
      replace w1 := RSl.le w1 l2
      obtain ⟨aw2, cw2, rfl⟩ := RSl.val w2
      simp (maxDischargeDepth := 9) only [↓gB, gV, gT, reduceIte, reduceCtorEq, Nat.reduceEqDiff, Nat.reduceAdd, Nat.reduceSub, Nat.reduceLeDiff, Nat.reduceLT, Int.reduceEq, Nat.reduceMul, f8, f3, f7, c1, f6, h1, e1, q1_1, y1]
      refine Yn2 fun r2 h2 => ?_
      have n2 := h2
      simp only [put_none_eq, ne_eq] at n2
      simp (maxDischargeDepth := 9) only [↓gB, gV, gT, reduceIte, reduceCtorEq, Nat.reduceEqDiff, Nat.reduceAdd, Nat.reduceSub, Nat.reduceLeDiff, Nat.reduceLT, Int.reduceEq, Nat.reduceMul, f8, f3, f7, c1, f6, h1, e1, q1_1, y1, h2, n2]
      refine Row.app1 sl52 (Row.put _ h2 (Row.over _ hrow y1 (by assumption))) (by exact put_self _ _ _) (y := ⟨_, _⟩) ⟨_, rfl, (by first | exact (RSl.put _ h2 (RSl.over _ hv y1)) | exact (RSl.put _ h2 (RSl.over _ w1 y1)) | exact (RSl.put _ h2 (RSl.over _ w2 y1)) | omega | decide | assumption | (unfold i64; omega) | (unfold i64 at *; omega) | (constructor <;> omega))⟩ (by (simp; omega)) (GH.le.trans (le_put_new hle (by assumption) _) (le_put h2 _)) fun v3 G3 w3 k3 l3 => ?_
      replace hv := RSl.appd (RSl.put _ h2 (RSl.over _ hv y1)) (Row.put _ h2 (Row.over _ hrow y1 (by assumption))) k3
      replace w1 := RSl.appd (RSl.put _ h2 (RSl.over _ w1 y1)) (Row.put _ h2 (Row.over _ hrow y1 (by assumption))) k3
      replace w2 := RSl.appd (RSl.put _ h2 (RSl.over _ w2 y1)) (Row.put _ h2 (Row.over _ hrow y1 (by assumption))) k3
      simp (maxDischargeDepth := 9) only [↓gB, gV, gT, reduceIte, reduceCtorEq, Nat.reduceEqDiff, Nat.reduceAdd, Nat.reduceSub, Nat.reduceLeDiff, Nat.reduceLT, Int.reduceEq, Nat.reduceMul, f8, f3, f7, c1, f6, h1, e1, q1_1, y1, h2, n2]
      have q1 : Go.IntKind.i64.wrap (↑i + 1) = ↑i + 1 := wrap_id (by omega)
      simp (maxDischargeDepth := 9) only [↓gB, gV, gT, reduceIte, reduceCtorEq, Nat.reduceEqDiff, Nat.reduceAdd, Nat.reduceSub, Nat.reduceLeDiff, Nat.reduceLT, Int.reduceEq, Nat.reduceMul, f8, f3, f7, c1, f6, h1, e1, q1_1, y1, h2, n2, q1]
      rw [N_lp]
      refine ⟨_, ?_, _, sub_refl _, i + 1, v3, rfl, ?_, ?_, ?_, ?_, by simp (maxDischargeDepth := 9) only [↓gB, gV, gT, reduceIte, reduceCtorEq, Nat.reduceEqDiff, Nat.reduceAdd, Nat.reduceSub, Nat.reduceLeDiff, Nat.reduceLT, Int.reduceEq, Nat.reduceMul, f8, f3, f7, c1, f6, h1, e1, q1_1, y1, h2, n2, q1, nat_succ, and_self]⟩
      · omega
      · omega
      · (rw [take_at m1]; exact w3; done)
      · assumption
      · assumption
  · simp (maxDischargeDepth := 9) only [↓gB, gV, gT, reduceIte, reduceCtorEq, Nat.reduceEqDiff, Nat.reduceAdd, Nat.reduceSub, Nat.reduceLeDiff, Nat.reduceLT, Int.reduceEq, Nat.reduceMul, f8, f3, f6, f7, c1]
    obtain ⟨G2, hs, hl, hr⟩ := hrow.fin hle
    rw [List.take_of_length_le (by omega)] at hr
    exact Kup_gives hs hl hr
end Go.Proofs.YtnlbapfbdabjaaaDoor
namespace Go.Proofs.YtnlbapfbdabjaaaDoor
open Go Go.GL
attribute [local irreducible] Ycall GCalls
set_option maxRecDepth 10000
set_option maxHeartbeats 0
def swp {α : Type} (l : List α) (j : Nat) : List α := match l[j]?, l[j+1]? with
  | some x, some y => (l.set (j + 1) x).set j y
  | _, _ => l
def sink {α : Type} (cf : α → α → Int) : Nat → List α → List α
  | 0, l => l
  | j + 1, l => match l[j]?, l[j+1]? with
    | some x, some y => if cf y x < 0 then sink cf j (swp l j) else l
    | _, _ => l
def isortTo {α : Type} (cf : α → α → Int) (l : List α) : Nat → List α
  | 0 => l
  | i + 1 => sink cf i (isortTo cf l i)
def isort {α : Type} (cf : α → α → Int) (l : List α) : List α := isortTo cf l l.length
theorem swp_len {α : Type} (l : List α) (j : Nat) : (swp l j).length = l.length := by
  unfold swp; split <;> simp
theorem sink_len {α : Type} (cf : α → α → Int) : ∀ (j : Nat) (l : List α), (sink cf j l).length = l.length
  | 0, l => rfl
  | j + 1, l => by
    unfold sink; split
    · split
      · rw [sink_len cf j, swp_len]
      · rfl
    · rfl
theorem isortTo_len {α : Type} (cf : α → α → Int) (l : List α) : ∀ i, (isortTo cf l i).length = l.length
  | 0 => rfl
  | i + 1 => by unfold isortTo; rw [sink_len, isortTo_len cf l i]
theorem sink_step {α : Type} {cf : α → α → Int} {L : List α} {j : Nat} {x y : α} (hj : (0 : Int) < j) (hx : L[j]? = some x) (hy : L[j-1]? = some y) : sink cf j L = if cf x y < 0 then sink cf (j - 1) ((L.set j y).set (j - 1) x) else L := by
  cases j with
  | zero => omega
  | succ j =>
    simp only [Nat.add_sub_cancel] at hy
    simp [sink, hx, hy, swp]
theorem s146 {G0 G : GH} {v : Value} {xs : List Int} {n : Nat} {cf : Int → Int → Int} {g : Nat} (hrow : Row Rp.int 3 G0 G v xs) (hn : n = xs.length) (hb : xs.length ≤ 1000000000) (hg : GL.Enters Tryd.prog g) (hf : ∀ (G' : GH) x y, Pure Tryd.prog G' g [V x, V y] (V (cf x y))) :
    GCalls Tryd.prog 146 [v, V 0, V n, .func (.func g) #[] #[]].toArray G (fun u G' => u = .tuple #[] ∧ Row Rp.int 3 G0 G' v (isort cf xs) ∧ (∀ b o, G b = some o → notAt v b → G' b = some o) ∧ (G0.le G → G0.le G')) := by
  subst hn
  have hg' := eq_true hg
  obtain ⟨a, c, rfl⟩ := hrow.val
  refine enter Tryd.func146 53 #[] rfl Tryd.ntmps146 rfl (by decide +kernel) rfl ?_
  simp (maxDischargeDepth := 9) only [↓gB, gV, gT, reduceIte, reduceCtorEq, Nat.reduceEqDiff, Nat.reduceAdd, Nat.reduceSub, Nat.reduceLeDiff, Nat.reduceLT, Int.reduceEq, Nat.reduceMul]
  have q1 : Go.IntKind.i64.wrap (0 + 1) = 0 + 1 := wrap_id (by omega)
  simp (maxDischargeDepth := 9) only [↓gB, gV, gT, reduceIte, reduceCtorEq, Nat.reduceEqDiff, Nat.reduceAdd, Nat.reduceSub, Nat.reduceLeDiff, Nat.reduceLT, Int.reduceEq, Nat.reduceMul, q1]
  focus
    refine Xloop_intro _ _ _ _ _ (fun k f G' => ∃ (i : Nat), k = xs.length - i ∧ (1 ≤ i) ∧ (i ≤ xs.length ∨ i = 1) ∧ (Row Rp.int 3 G0 G' (.slice a xs.length c) (isortTo cf xs i)) ∧ (∀ b o, G b = some o → notAt (.slice a xs.length c) b → G' b = some o) ∧ (G0.le G → G0.le G') ∧ f 8 = V i ∧ f 0 = Go.Value.slice a xs.length c ∧ f 1 = Go.GL.V 0 ∧ f 2 = Go.GL.V ↑xs.length ∧ f 3 = Go.Value.func (Go.Fn.func g) #[] #[]) _ ⟨1, rfl, ?_, ?_, ?_, ?_, ?_, by simp (maxDischargeDepth := 9) only [↓gB, gV, gT, reduceIte, reduceCtorEq, Nat.reduceEqDiff, Nat.reduceAdd, Nat.reduceSub, Nat.reduceLeDiff, Nat.reduceLT, Int.reduceEq, Nat.reduceMul, q1, Int.zero_add, Int.natCast_one, and_self]⟩ ?_
    · omega
    · omega
    · assumption
    · exact fun _ _ h _ => h
    · exact id
    rintro k f G' ⟨i, rfl, hi, hi2, hrow, hk, hl, f8, f0, f1, f2, f3⟩
  simp (maxDischargeDepth := 9) only [↓gB, gV, gT, reduceIte, reduceCtorEq, Nat.reduceEqDiff, Nat.reduceAdd, Nat.reduceSub, Nat.reduceLeDiff, Nat.reduceLT, Int.reduceEq, Nat.reduceMul, q1, hk, f8, f0, f1, f2, f3]
  refine Xc_split _ _ _ _ _ (fun c1 => ?_) (fun c1 => ?_)
  · simp (maxDischargeDepth := 9) only [↓gB, gV, gT, reduceIte, reduceCtorEq, Nat.reduceEqDiff, Nat.reduceAdd, Nat.reduceSub, Nat.reduceLeDiff, Nat.reduceLT, Int.reduceEq, Nat.reduceMul, q1, hk, f8, f0, f1, f2, f3, c1]
    focus
      refine Xloop_intro _ _ _ _ _ (fun k f G' => ∃ (j : Nat) (L : List Int), k = j + 1 ∧ (j ≤ i) ∧ (L.length = xs.length) ∧ (sink cf j L = sink cf i (isortTo cf xs i)) ∧ (Row Rp.int 3 G0 G' (.slice a xs.length c) L) ∧ (∀ b o, G b = some o → notAt (.slice a xs.length c) b → G' b = some o) ∧ (G0.le G → G0.le G') ∧ f 9 = V j ∧ f 0 = Go.Value.slice a xs.length c ∧ f 1 = Go.GL.V 0 ∧ f 2 = Go.GL.V ↑xs.length ∧ f 3 = Go.Value.func (Go.Fn.func g) #[] #[] ∧ f 8 = Go.GL.V ↑i) _ ⟨i, isortTo cf xs i, rfl, ?_, ?_, ?_, ?_, ?_, ?_, by simp (maxDischargeDepth := 9) only [↓gB, gV, gT, reduceIte, reduceCtorEq, Nat.reduceEqDiff, Nat.reduceAdd, Nat.reduceSub, Nat.reduceLeDiff, Nat.reduceLT, Int.reduceEq, Nat.reduceMul, q1, hk, f8, f0, f1, f2, f3, c1, and_self]⟩ ?_
      · omega
      · (exact isortTo_len cf xs i; done)
      · rfl
      · assumption
      · assumption
      · assumption
      rintro k f G' ⟨j, L, rfl, hj, hL, h, hrow, hk, hl, f9, f0, f1, f2, f3, f8⟩
    by_cases c2 : (0 : Int) < j
    · simp (maxDischargeDepth := 9) only [↓gB, gV, gT, reduceIte, reduceCtorEq, Nat.reduceEqDiff, Nat.reduceAdd, Nat.reduceSub, Nat.reduceLeDiff, Nat.reduceLT, Int.reduceEq, Nat.reduceMul, q1, hk, f8, f0, f1, f2, f3, c1, hk, f9, f0, f1, f2, f3, f8, c2, hg']
      refine Xdraw_intro [0, 1, 2, 3, 4, 5, 6, 7, 8, 9, 10, 11, 12, 13, 14, 15, 16] mixed (by kernel_rfl) (by decide +kernel) ?_
      simp (maxDischargeDepth := 9) only [↓gB, gV, gT, reduceIte, reduceCtorEq, Nat.reduceEqDiff, Nat.reduceAdd, Nat.reduceSub, Nat.reduceLeDiff, Nat.reduceLT, Int.reduceEq, Nat.reduceMul, q1, hk, f8, f0, f1, f2, f3, c1, hk, f9, f0, f1, f2, f3, f8, c2, hg']
      obtain ⟨x1, a1, s1, m1, rfl, ⟨rfl, w1⟩, e1⟩ := hrow.at1 (j) (by omega) rfl
      simp (maxDischargeDepth := 9) only [↓gB, gV, gT, reduceIte, reduceCtorEq, Nat.reduceEqDiff, Nat.reduceAdd, Nat.reduceSub, Nat.reduceLeDiff, Nat.reduceLT, Int.reduceEq, Nat.reduceMul, q1, f8, f1, f2, f3, c1, f9, f1, f2, f3, f8, c2, hk, f0, hk, f0, e1, hg']
      refine vguard_intro (by omega) ?_
      have q2 : Go.IntKind.i64.wrap (↑j - 1) = ↑j - 1 := wrap_id (by omega)
      simp (maxDischargeDepth := 9) only [↓gB, gV, gT, reduceIte, reduceCtorEq, Nat.reduceEqDiff, Nat.reduceAdd, Nat.reduceSub, Nat.reduceLeDiff, Nat.reduceLT, Int.reduceEq, Nat.reduceMul, q1, f8, f1, f2, f3, c1, f9, f1, f2, f3, f8, c2, hk, f0, hk, f0, e1, q2, hg']
      refine vguard_intro (by omega) ?_
      obtain ⟨x2, s2, m2, ⟨rfl, w2⟩, e2⟩ := hrow.at1' (j - 1) (by omega) rfl
      simp (maxDischargeDepth := 9) only [↓gB, gV, gT, reduceIte, reduceCtorEq, Nat.reduceEqDiff, Nat.reduceAdd, Nat.reduceSub, Nat.reduceLeDiff, Nat.reduceLT, Int.reduceEq, Nat.reduceMul, q1, f8, f1, f2, f3, c1, f9, f1, f2, f3, f8, c2, hk, f0, hk, f0, e1, q2, e2, hg']
      refine Ycp (hf _ x1 x2) ?_
      by_cases c3 : cf x1 x2 < 0
      · have hjc : ((j - 1 : Nat) : Int) = (j : Int) - 1 := by omega
        focus
          simp (maxDischargeDepth := 9) only [↓gB, gV, gT, reduceIte, reduceCtorEq, Nat.reduceEqDiff, Nat.reduceAdd, Nat.reduceSub, Nat.reduceLeDiff, Nat.reduceLT, Int.reduceEq, Nat.reduceMul, q1, f8, f1, f2, f3, c1, f9, f1, f2, f3, f8, c2, hk, f0, hk, f0, e1, q2, e2, c3, hjc]
          refine Xdraw_intro [0, 1, 2, 3, 4, 5, 6, 7, 8, 9, 10, 11, 12, 13, 14, 15, 16, 17] mixed (by kernel_rfl) (by decide +kernel) ?_
          simp (maxDischargeDepth := 9) only [↓gB, gV, gT, reduceIte, reduceCtorEq, Nat.reduceEqDiff, Nat.reduceAdd, Nat.reduceSub, Nat.reduceLeDiff, Nat.reduceLT, Int.reduceEq, Nat.reduceMul, q1, f8, f1, f2, f3, c1, f9, f1, f2, f3, f8, c2, hk, f0, hk, f0, e1, q2, e2, c3, hjc]
          refine vguard_intro (by omega) ?_
          refine vguard_intro (by omega) ?_
          refine vguard_intro (by omega) ?_
          refine Yrow1 hrow rfl (by first | omega | (simp only [List.length_set]; omega)) (fun _ _ => ⟨rfl, (by first | assumption | (unfold i64 at *; omega))⟩) fun G3 w3 i3 k3 kn3 l3 => ?_
          simp (maxDischargeDepth := 9) only [↓gB, gV, gT, reduceIte, reduceCtorEq, Nat.reduceEqDiff, Nat.reduceAdd, Nat.reduceSub, Nat.reduceLeDiff, Nat.reduceLT, Int.reduceEq, Nat.reduceMul, q1, f8, f1, f2, f3, c1, f9, f1, f2, f3, f8, c2, hk, f0, hk, f0, e1, q2, e2, c3, kn3, hjc]
          refine vguard_intro (by omega) ?_
          refine Yrow1 w3 rfl (by first | omega | (simp only [List.length_set]; omega)) (fun _ _ => ⟨rfl, (by first | assumption | (unfold i64 at *; omega))⟩) fun G4 w4 i4 k4 kn4 l4 => ?_
          simp (maxDischargeDepth := 9) only [↓gB, gV, gT, reduceIte, reduceCtorEq, Nat.reduceEqDiff, Nat.reduceAdd, Nat.reduceSub, Nat.reduceLeDiff, Nat.reduceLT, Int.reduceEq, Nat.reduceMul, q1, f8, f1, f2, f3, c1, f9, f1, f2, f3, f8, c2, hk, f0, hk, f0, e1, q2, e2, c3, kn3, kn4, hjc]
          rw [N_lp]
          refine ⟨_, ?_, _, sub_refl _, j - 1, (L.set j x2).set (j - 1) x1, rfl, ?_, ?_, ?_, ?_, ?_, ?_, by simp (maxDischargeDepth := 9) only [↓gB, gV, gT, reduceIte, reduceCtorEq, Nat.reduceEqDiff, Nat.reduceAdd, Nat.reduceSub, Nat.reduceLeDiff, Nat.reduceLT, Int.reduceEq, Nat.reduceMul, q1, f8, f1, f2, f3, c1, f9, f1, f2, f3, f8, c2, hk, f0, hk, f0, e1, q2, e2, c3, kn3, kn4, hjc, nat_succ, and_self]⟩
          · omega
          · omega
          · (simp [hL]; done)
          · ((rw [← h, sink_step c2 m1 m2, if_pos c3]); done)
          · assumption
          · (exact fun b o q1 q2 => k4 b o (k3 b o (hk b o q1 q2) q2) q2; done)
          · (exact fun q => l4 (l3 (hl q)); done)
      · have e : isortTo cf xs (i + 1) = L := by
          show sink cf i (isortTo cf xs i) = L
          rw [← h, sink_step c2 m1 m2, if_neg c3]
        focus
          simp (maxDischargeDepth := 9) only [↓gB, gV, gT, reduceIte, reduceCtorEq, Nat.reduceEqDiff, Nat.reduceAdd, Nat.reduceSub, Nat.reduceLeDiff, Nat.reduceLT, Int.reduceEq, Nat.reduceMul, q1, f8, f1, f2, f3, c1, f9, f1, f2, f3, f8, c2, hk, f0, hk, f0, e1, q2, e2, c3]
          have q3 : Go.IntKind.i64.wrap (↑i + 1) = ↑i + 1 := wrap_id (by omega)
          simp (maxDischargeDepth := 9) only [↓gB, gV, gT, reduceIte, reduceCtorEq, Nat.reduceEqDiff, Nat.reduceAdd, Nat.reduceSub, Nat.reduceLeDiff, Nat.reduceLT, Int.reduceEq, Nat.reduceMul, q1, f8, f1, f2, f3, c1, f9, f1, f2, f3, f8, c2, hk, f0, hk, f0, e1, q2, e2, c3, q3]
          rw [N_lp]
          refine ⟨_, ?_, _, sub_refl _, i + 1, rfl, ?_, ?_, ?_, ?_, ?_, by simp (maxDischargeDepth := 9) only [↓gB, gV, gT, reduceIte, reduceCtorEq, Nat.reduceEqDiff, Nat.reduceAdd, Nat.reduceSub, Nat.reduceLeDiff, Nat.reduceLT, Int.reduceEq, Nat.reduceMul, q1, f8, f1, f2, f3, c1, f9, f1, f2, f3, f8, c2, hk, f0, hk, f0, e1, q2, e2, c3, q3, nat_succ, and_self]⟩
          · omega
          · omega
          · omega
          · (rw [e]; exact hrow; done)
          · assumption
          · assumption
    · have e : isortTo cf xs (i + 1) = L := by
        have : j = 0 := by omega
        subst this
        exact h.symm
      focus
        simp (maxDischargeDepth := 9) only [↓gB, gV, gT, reduceIte, reduceCtorEq, Nat.reduceEqDiff, Nat.reduceAdd, Nat.reduceSub, Nat.reduceLeDiff, Nat.reduceLT, Int.reduceEq, Nat.reduceMul, q1, hk, f8, f0, f1, f2, f3, c1, hk, f9, f0, f1, f2, f3, f8, c2]
        refine Xdraw_intro [0, 1, 2, 3, 4, 5, 6, 7, 8, 9, 10, 11, 12, 13, 14, 15, 16] mixed (by kernel_rfl) (by decide +kernel) ?_
        simp (maxDischargeDepth := 9) only [↓gB, gV, gT, reduceIte, reduceCtorEq, Nat.reduceEqDiff, Nat.reduceAdd, Nat.reduceSub, Nat.reduceLeDiff, Nat.reduceLT, Int.reduceEq, Nat.reduceMul, q1, hk, f8, f0, f1, f2, f3, c1, hk, f9, f0, f1, f2, f3, f8, c2]
        have q2 : Go.IntKind.i64.wrap (↑i + 1) = ↑i + 1 := wrap_id (by omega)
        simp (maxDischargeDepth := 9) only [↓gB, gV, gT, reduceIte, reduceCtorEq, Nat.reduceEqDiff, Nat.reduceAdd, Nat.reduceSub, Nat.reduceLeDiff, Nat.reduceLT, Int.reduceEq, Nat.reduceMul, q1, hk, f8, f0, f1, f2, f3, c1, hk, f9, f0, f1, f2, f3, f8, c2, q2]
        rw [N_lp]
        refine ⟨_, ?_, _, sub_refl _, i + 1, rfl, ?_, ?_, ?_, ?_, ?_, by simp (maxDischargeDepth := 9) only [↓gB, gV, gT, reduceIte, reduceCtorEq, Nat.reduceEqDiff, Nat.reduceAdd, Nat.reduceSub, Nat.reduceLeDiff, Nat.reduceLT, Int.reduceEq, Nat.reduceMul, q1, hk, f8, f0, f1, f2, f3, c1, hk, f9, f0, f1, f2, f3, f8, c2, q2, nat_succ, and_self]⟩
        · omega
        · omega
        · omega
        · (rw [e]; exact hrow; done)
        · assumption
        · assumption
  · have e : isortTo cf xs i = isort cf xs := by
      rcases hi2 with h | h
      · have : i = xs.length := by omega
        rw [this]; rfl
      · subst h
        have : xs.length = 0 ∨ xs.length = 1 := by omega
        unfold isort
        rcases this with h | h <;> rw [h] <;> rfl
    simp (maxDischargeDepth := 9) only [↓gB, gV, gT, reduceIte, reduceCtorEq, Nat.reduceEqDiff, Nat.reduceAdd, Nat.reduceSub, Nat.reduceLeDiff, Nat.reduceLT, Int.reduceEq, Nat.reduceMul, q1, hk, f8, f0, f1, f2, f3, c1]
    exact Kup_same ⟨rfl, e ▸ hrow, hk, hl⟩
theorem s112 {G0 G : GH} {v : Value} {xs : List Int} {n : Nat} {cf : Int → Int → Int} {g : Nat} (hrow : Row Rp.int 3 G0 G v xs) (hn : n = xs.length) (hb : xs.length < 20) (hg : GL.Enters Tryd.prog g) (hf : ∀ (G' : GH) x y, Pure Tryd.prog G' g [V x, V y] (V (cf x y))) :
    GCalls Tryd.prog 112 [v, V n, .func (.func g) #[] #[]].toArray G (fun u G' => u = .tuple #[] ∧ Row Rp.int 3 G0 G' v (isort cf xs) ∧ (∀ b o, G b = some o → notAt v b → G' b = some o) ∧ (G0.le G → G0.le G')) := by
  have hn20 : ¬ (20 : Int) ≤ n := by omega
  have hn21 : ¬ (20 : Int) < n := by omega
  refine enter Tryd.func112 63 #[] rfl Tryd.ntmps112 rfl (by decide +kernel) rfl ?_
  simp (maxDischargeDepth := 9) only [↓gB, gV, gT, reduceIte, reduceCtorEq, Nat.reduceEqDiff, Nat.reduceAdd, Nat.reduceSub, Nat.reduceLeDiff, Nat.reduceLT, Int.reduceEq, Nat.reduceMul]
  refine Xloop_intro _ _ _ _ _ (fun k f G' => k = 0 ∧ (G = G') ∧ f 7 = V 0 ∧ f 8 = V 20 ∧ f 6 = V 20 ∧ f 0 = v ∧ f 1 = Go.GL.V ↑n ∧ f 2 = Go.Value.func (Go.Fn.func g) #[] #[]) _ ⟨rfl, rfl, by simp (maxDischargeDepth := 9) only [↓gB, gV, gT, reduceIte, reduceCtorEq, Nat.reduceEqDiff, Nat.reduceAdd, Nat.reduceSub, Nat.reduceLeDiff, Nat.reduceLT, Int.reduceEq, Nat.reduceMul, and_self]⟩ ?_
  rintro k f G' ⟨rfl, rfl, f7, f8, f6, f0, f1, f2⟩
  simp (maxDischargeDepth := 9) only [↓gB, gV, gT, reduceIte, reduceCtorEq, Nat.reduceEqDiff, Nat.reduceAdd, Nat.reduceSub, Nat.reduceLeDiff, Nat.reduceLT, Int.reduceEq, Nat.reduceMul, f7, f8, f6, f0, f1, f2]
  refine Xc_neg _ _ _ _ _ (by omega) ?_
  simp (maxDischargeDepth := 9) only [↓gB, gV, gT, reduceIte, reduceCtorEq, Nat.reduceEqDiff, Nat.reduceAdd, Nat.reduceSub, Nat.reduceLeDiff, Nat.reduceLT, Int.reduceEq, Nat.reduceMul, f7, f8, f6, f0, f1, f2]
  refine Ycall_intro (md := none) (s146 hrow hn (by omega) hg hf) ?_
  rintro u G1 ⟨rfl, hrow, hk, hl⟩
  simp (maxDischargeDepth := 9) only [↓gB, gV, gT, reduceIte, reduceCtorEq, Nat.reduceEqDiff, Nat.reduceAdd, Nat.reduceSub, Nat.reduceLeDiff, Nat.reduceLT, Int.reduceEq, Nat.reduceMul, f7, f8, f6, f0, f1, f2, hk]
  refine Xloop_intro _ _ _ _ _ (fun k f G' => k = 0 ∧ (G1 = G') ∧ f 6 = V 20 ∧ f 0 = v ∧ f 1 = Go.GL.V ↑n ∧ f 2 = Go.Value.func (Go.Fn.func g) #[] #[]) _ ⟨rfl, rfl, by simp (maxDischargeDepth := 9) only [↓gB, gV, gT, reduceIte, reduceCtorEq, Nat.reduceEqDiff, Nat.reduceAdd, Nat.reduceSub, Nat.reduceLeDiff, Nat.reduceLT, Int.reduceEq, Nat.reduceMul, f7, f8, f6, f0, f1, f2, hk, and_self]⟩ ?_
  rintro k f G' ⟨rfl, rfl, f6, f0, f1, f2⟩
  simp (maxDischargeDepth := 9) only [↓gB, gV, gT, reduceIte, reduceCtorEq, Nat.reduceEqDiff, Nat.reduceAdd, Nat.reduceSub, Nat.reduceLeDiff, Nat.reduceLT, Int.reduceEq, Nat.reduceMul, f7, f8, f6, f0, f1, f2, hk, f6, f0, f1, f2]
  refine Xc_neg _ _ _ _ _ (by omega) ?_
  simp (maxDischargeDepth := 9) only [↓gB, gV, gT, reduceIte, reduceCtorEq, Nat.reduceEqDiff, Nat.reduceAdd, Nat.reduceSub, Nat.reduceLeDiff, Nat.reduceLT, Int.reduceEq, Nat.reduceMul, f7, f8, f6, f0, f1, f2, hk, f6, f0, f1, f2]
  exact Kup_same ⟨rfl, hrow, hk, hl⟩
theorem s62 {G0 G : GH} {v : Value} {xs : List Int} {cf : Int → Int → Int} {g : Nat} (hrow : Row Rp.int 3 G0 G v xs) (hb : xs.length < 20) (hg : GL.Enters Tryd.prog g) (hf : ∀ (G' : GH) x y, Pure Tryd.prog G' g [V x, V y] (V (cf x y))) :
    GCalls Tryd.prog 62 [v, .func (.func g) #[] #[]].toArray G (fun u G' => u = .tuple #[] ∧ Row Rp.int 3 G0 G' v (isort cf xs) ∧ (∀ b o, G b = some o → notAt v b → G' b = some o) ∧ (G0.le G → G0.le G')) := by
  obtain ⟨a, c, rfl⟩ := hrow.val
  refine enter Tryd.func62 9 #[] rfl Tryd.ntmps62 rfl (by decide +kernel) rfl ?_
  simp (maxDischargeDepth := 9) only [↓gB, gV, gT, reduceIte, reduceCtorEq, Nat.reduceEqDiff, Nat.reduceAdd, Nat.reduceSub, Nat.reduceLeDiff, Nat.reduceLT, Int.reduceEq, Nat.reduceMul]
  refine Ycall_intro (md := none) (s112 hrow rfl hb hg hf) ?_
  rintro u G1 ⟨rfl, hrow, hk, hl⟩
  simp (maxDischargeDepth := 9) only [↓gB, gV, gT, reduceIte, reduceCtorEq, Nat.reduceEqDiff, Nat.reduceAdd, Nat.reduceSub, Nat.reduceLeDiff, Nat.reduceLT, Int.reduceEq, Nat.reduceMul, hk]
  exact Kup_same ⟨rfl, hrow, hk, hl⟩
end Go.Proofs.YtnlbapfbdabjaaaDoor
namespace Go.Proofs.YtnlbapfbdabjaaaDoor
open Go Go.GL
attribute [local irreducible] Ycall GCalls
set_option maxRecDepth 10000
set_option maxHeartbeats 0
theorem p137 {G0 : GH} {x y : Int} (hx : 0 ≤ x) (hx2 : x ≤ 1000000000) (hy : 0 ≤ y) (hy2 : y ≤ 1000000000) : Pure Tryd.prog G0 137 [.int .u64 x, .int .u64 y] (.tuple #[.int .u64 0, .int .u64 (x * y)]) := by
  obtain ⟨m, rfl⟩ := Int.eq_ofNat_of_zero_le hx
  obtain ⟨n, rfl⟩ := Int.eq_ofNat_of_zero_le hy
  have hb : m * n ≤ 1000000000 * 1000000000 := Nat.mul_le_mul (by omega) (by omega)
  refine pure_of_calls G0 (fun w => Calls.mono (Any.bits_Mul64 Tryd.layMul m n (by omega) (by omega) w) ?_)
  rintro e w' ⟨rfl, rfl⟩
  rw [Nat.div_eq_of_lt (by omega), Nat.mod_eq_of_lt (by omega)]
  exact ⟨by simp, rfl⟩
theorem u64_id {x : Int} (h0 : 0 ≤ x) (h1 : x ≤ 9223372036854775807) : IntKind.u64.wrap x = x := by rw [IntKind.wrap_u64]; omega
theorem p138 {G0 : GH} {l y : Int} (hl : 0 ≤ l) (hl2 : l ≤ 1000000000000000000) (hy : 0 < y) : Pure Tryd.prog G0 138 [.int .u64 0, .int .u64 l, .int .u64 y] (.tuple #[.int .u64 (l / y), .int .u64 (l % y)]) := by
  intro G hG
  clear hG G0
  refine enter Tryd.func138 135 #[.tmp 6, .tmp 7] rfl Tryd.ntmps138 rfl (by decide +kernel) rfl ?_
  have hd : l.tdiv y = l / y := Int.tdiv_eq_ediv_of_nonneg hl
  have hm : l.tmod y = l % y := Int.tmod_eq_emod_of_nonneg hl
  have hq0 : 0 ≤ l / y := Int.ediv_nonneg hl (by omega)
  have hq1 : l / y ≤ l := Int.ediv_le_self y hl
  have hw : IntKind.u64.wrap (l / y) = l / y := u64_id hq0 (by omega)
  have c1 : ¬ y = 0 := by omega
  have c2 : ¬ y ≤ 0 := by omega
  simp (maxDischargeDepth := 9) only [↓gB, gV, gT, reduceIte, reduceCtorEq, Nat.reduceEqDiff, Nat.reduceAdd, Nat.reduceSub, Nat.reduceLeDiff, Nat.reduceLT, Int.reduceEq, Nat.reduceMul, hd, hm, hw, c1, c2]
  refine Xdraw_intro [0, 1, 2, 3, 4, 5, 6, 7] mixed (by kernel_rfl) (by decide +kernel) ?_
  simp (maxDischargeDepth := 9) only [↓gB, gV, gT, reduceIte, reduceCtorEq, Nat.reduceEqDiff, Nat.reduceAdd, Nat.reduceSub, Nat.reduceLeDiff, Nat.reduceLT, Int.reduceEq, Nat.reduceMul, hd, hm, hw, c1, c2]
  exact Kup_val (le_refl _) rfl
theorem p173 {G0 : GH} {a : Int}  : Pure Tryd.prog G0 173 [.int .u64 a] (.bool false) := by
  intro G hG
  clear hG G0
  refine enter Tryd.func173 6 #[.tmp 2] rfl Tryd.ntmps173 rfl (by decide +kernel) rfl ?_
  simp (maxDischargeDepth := 9) only [↓gB, gV, gT, reduceIte, reduceCtorEq, Nat.reduceEqDiff, Nat.reduceAdd, Nat.reduceSub, Nat.reduceLeDiff, Nat.reduceLT, Int.reduceEq, Nat.reduceMul]
  exact Kup_val (le_refl _) rfl
theorem p141 {G0 : GH} {a b : Int}  : Pure Tryd.prog G0 141 [.int .u64 a, .int .u64 b] (V (cmp3 a b)) := by
  intro G hG
  clear hG G0
  refine enter Tryd.func141 20 #[.tmp 4] rfl Tryd.ntmps141 rfl (by decide +kernel) rfl ?_
  focus
    simp (maxDischargeDepth := 9) only [↓gB, gV, gT, reduceIte, reduceCtorEq, Nat.reduceEqDiff, Nat.reduceAdd, Nat.reduceSub, Nat.reduceLeDiff, Nat.reduceLT, Int.reduceEq, Nat.reduceMul, cmp3]
    refine Ycp (p173) ?_
    simp (maxDischargeDepth := 9) only [↓gB, gV, gT, reduceIte, reduceCtorEq, Nat.reduceEqDiff, Nat.reduceAdd, Nat.reduceSub, Nat.reduceLeDiff, Nat.reduceLT, Int.reduceEq, Nat.reduceMul, cmp3]
    refine Ycp (p173) ?_
    simp (maxDischargeDepth := 9) only [↓gB, gV, gT, reduceIte, reduceCtorEq, Nat.reduceEqDiff, Nat.reduceAdd, Nat.reduceSub, Nat.reduceLeDiff, Nat.reduceLT, Int.reduceEq, Nat.reduceMul, cmp3]
    refine Xc_split _ _ _ _ _ (fun c1 => ?_) (fun c1 => ?_)
    rotate_left 1
    focus
      simp (maxDischargeDepth := 9) only [↓gB, gV, gT, reduceIte, reduceCtorEq, Nat.reduceEqDiff, Nat.reduceAdd, Nat.reduceSub, Nat.reduceLeDiff, Nat.reduceLT, Int.reduceEq, Nat.reduceMul, c1, cmp3]
      refine Xc_split _ _ _ _ _ (fun c2 => ?_) (fun c2 => ?_)
      rotate_left 1
      focus
        simp (maxDischargeDepth := 9) only [↓gB, gV, gT, reduceIte, reduceCtorEq, Nat.reduceEqDiff, Nat.reduceAdd, Nat.reduceSub, Nat.reduceLeDiff, Nat.reduceLT, Int.reduceEq, Nat.reduceMul, c1, c2, cmp3]
        exact Kup_val (le_refl _) rfl
      rotate_right 1
      simp (maxDischargeDepth := 9) only [↓gB, gV, gT, reduceIte, reduceCtorEq, Nat.reduceEqDiff, Nat.reduceAdd, Nat.reduceSub, Nat.reduceLeDiff, Nat.reduceLT, Int.reduceEq, Nat.reduceMul, c1, c2, cmp3]
      exact Kup_val (le_refl _) rfl
    rotate_right 1
    simp (maxDischargeDepth := 9) only [↓gB, gV, gT, reduceIte, reduceCtorEq, Nat.reduceEqDiff, Nat.reduceAdd, Nat.reduceSub, Nat.reduceLeDiff, Nat.reduceLT, Int.reduceEq, Nat.reduceMul, c1, cmp3]
    exact Kup_val (le_refl _) rfl
theorem p140 {G0 : GH} {a b c d : Int}  : Pure Tryd.prog G0 140 [.agg #[V a, .int .u64 b], .agg #[V c, .int .u64 d]] (V (cmp3 d b)) := by
  intro G hG
  clear hG G0
  refine enter Tryd.func140 10 #[.tmp 4] rfl Tryd.ntmps140 rfl (by decide +kernel) rfl ?_
  simp (maxDischargeDepth := 9) only [↓gB, gV, gT, reduceIte, reduceCtorEq, Nat.reduceEqDiff, Nat.reduceAdd, Nat.reduceSub, Nat.reduceLeDiff, Nat.reduceLT, Int.reduceEq, Nat.reduceMul]
  refine Yn2 fun r1 h1 => ?_
  simp (maxDischargeDepth := 9) only [↓gB, gV, gT, reduceIte, reduceCtorEq, Nat.reduceEqDiff, Nat.reduceAdd, Nat.reduceSub, Nat.reduceLeDiff, Nat.reduceLT, Int.reduceEq, Nat.reduceMul, h1]
  refine Yn2 fun r2 h2 => ?_
  have n2 := h2
  simp only [put_none_eq, ne_eq] at n2
  simp (maxDischargeDepth := 9) only [↓gB, gV, gT, reduceIte, reduceCtorEq, Nat.reduceEqDiff, Nat.reduceAdd, Nat.reduceSub, Nat.reduceLeDiff, Nat.reduceLT, Int.reduceEq, Nat.reduceMul, h1, h2, n2]
  refine Ycp (p141) ?_
  simp (maxDischargeDepth := 9) only [↓gB, gV, gT, reduceIte, reduceCtorEq, Nat.reduceEqDiff, Nat.reduceAdd, Nat.reduceSub, Nat.reduceLeDiff, Nat.reduceLT, Int.reduceEq, Nat.reduceMul, h1, h2, n2]
  exact Kup_val (by simp (maxDischargeDepth := 9) only [le_self, le_puts, le_put0, h1, h2, n2]) rfl
structure SRest where
  i : Int
  left : Int
deriving DecidableEq
def rRest : Rp SRest where
  sz := 2
  R G x cs := cs = [.int .i64 x.i, .int .u64 x.left]
  len := by rintro G x cs rfl; rfl
  ile := by rintro G G' x cs hl hv; exact hv
  one := by rintro G x cs rfl; rfl
def cfR (x y : SRest) : Int := cmp3 y.left x.left
end Go.Proofs.YtnlbapfbdabjaaaDoor
namespace Go.Proofs.YtnlbapfbdabjaaaDoor
open Go Go.GL
attribute [local irreducible] Ycall GCalls
set_option maxRecDepth 10000
set_option maxHeartbeats 0
theorem s189 {G0 G : GH} {v : Value} {xs : List SRest} {n : Nat} {cf : SRest → SRest → Int} {g : Nat} (hrow : Row rRest 178 G0 G v xs) (hn : n = xs.length) (hb : xs.length ≤ 1000000000) (hg : GL.Enters Tryd.prog g) (hf : ∀ (G' : GH) x y, Pure Tryd.prog G' g [.agg #[V x.i, .int .u64 x.left], .agg #[V y.i, .int .u64 y.left]] (V (cf x y))) :
    GCalls Tryd.prog 189 [v, V 0, V n, .func (.func g) #[] #[]].toArray G (fun u G' => u = .tuple #[] ∧ Row rRest 178 G0 G' v (isort cf xs) ∧ (∀ b o, G b = some o → notAt v b → G' b = some o) ∧ (G0.le G → G0.le G')) := by
  subst hn
  have hg' := eq_true hg
  obtain ⟨a, c, rfl⟩ := hrow.val
  refine enter Tryd.func189 53 #[] rfl Tryd.ntmps189 rfl (by decide +kernel) rfl ?_
  simp (maxDischargeDepth := 9) only [↓gB, gV, gT, reduceIte, reduceCtorEq, Nat.reduceEqDiff, Nat.reduceAdd, Nat.reduceSub, Nat.reduceLeDiff, Nat.reduceLT, Int.reduceEq, Nat.reduceMul]
  have q1 : Go.IntKind.i64.wrap (0 + 1) = 0 + 1 := wrap_id (by omega)
  simp (maxDischargeDepth := 9) only [↓gB, gV, gT, reduceIte, reduceCtorEq, Nat.reduceEqDiff, Nat.reduceAdd, Nat.reduceSub, Nat.reduceLeDiff, Nat.reduceLT, Int.reduceEq, Nat.reduceMul, q1]
  focus
    refine Xloop_intro _ _ _ _ _ (fun k f G' => ∃ (i : Nat), k = xs.length - i ∧ (1 ≤ i) ∧ (i ≤ xs.length ∨ i = 1) ∧ (Row rRest 178 G0 G' (.slice a xs.length c) (isortTo cf xs i)) ∧ (∀ b o, G b = some o → notAt (.slice a xs.length c) b → G' b = some o) ∧ (G0.le G → G0.le G') ∧ f 8 = V i ∧ f 0 = Go.Value.slice a xs.length c ∧ f 1 = Go.GL.V 0 ∧ f 2 = Go.GL.V ↑xs.length ∧ f 3 = Go.Value.func (Go.Fn.func g) #[] #[]) _ ⟨1, rfl, ?_, ?_, ?_, ?_, ?_, by simp (maxDischargeDepth := 9) only [↓gB, gV, gT, reduceIte, reduceCtorEq, Nat.reduceEqDiff, Nat.reduceAdd, Nat.reduceSub, Nat.reduceLeDiff, Nat.reduceLT, Int.reduceEq, Nat.reduceMul, q1, Int.zero_add, Int.natCast_one, and_self]⟩ ?_
    · omega
    · omega
    · assumption
    · exact fun _ _ h _ => h
    · exact id
    rintro k f G' ⟨i, rfl, hi, hi2, hrow, hk, hl, f8, f0, f1, f2, f3⟩
  simp (maxDischargeDepth := 9) only [↓gB, gV, gT, reduceIte, reduceCtorEq, Nat.reduceEqDiff, Nat.reduceAdd, Nat.reduceSub, Nat.reduceLeDiff, Nat.reduceLT, Int.reduceEq, Nat.reduceMul, q1, hk, f8, f0, f1, f2, f3]
  refine Xc_split _ _ _ _ _ (fun c1 => ?_) (fun c1 => ?_)
  · simp (maxDischargeDepth := 9) only [↓gB, gV, gT, reduceIte, reduceCtorEq, Nat.reduceEqDiff, Nat.reduceAdd, Nat.reduceSub, Nat.reduceLeDiff, Nat.reduceLT, Int.reduceEq, Nat.reduceMul, q1, hk, f8, f0, f1, f2, f3, c1]
    focus
      refine Xloop_intro _ _ _ _ _ (fun k f G' => ∃ (j : Nat) (L : List SRest), k = j + 1 ∧ (j ≤ i) ∧ (L.length = xs.length) ∧ (sink cf j L = sink cf i (isortTo cf xs i)) ∧ (Row rRest 178 G0 G' (.slice a xs.length c) L) ∧ (∀ b o, G b = some o → notAt (.slice a xs.length c) b → G' b = some o) ∧ (G0.le G → G0.le G') ∧ f 9 = V j ∧ f 0 = Go.Value.slice a xs.length c ∧ f 1 = Go.GL.V 0 ∧ f 2 = Go.GL.V ↑xs.length ∧ f 3 = Go.Value.func (Go.Fn.func g) #[] #[] ∧ f 8 = Go.GL.V ↑i) _ ⟨i, isortTo cf xs i, rfl, ?_, ?_, ?_, ?_, ?_, ?_, by simp (maxDischargeDepth := 9) only [↓gB, gV, gT, reduceIte, reduceCtorEq, Nat.reduceEqDiff, Nat.reduceAdd, Nat.reduceSub, Nat.reduceLeDiff, Nat.reduceLT, Int.reduceEq, Nat.reduceMul, q1, hk, f8, f0, f1, f2, f3, c1, and_self]⟩ ?_
      · omega
      · (exact isortTo_len cf xs i; done)
      · rfl
      · assumption
      · assumption
      · assumption
      rintro k f G' ⟨j, L, rfl, hj, hL, h, hrow, hk, hl, f9, f0, f1, f2, f3, f8⟩
    by_cases c2 : (0 : Int) < j
    · simp (maxDischargeDepth := 9) only [↓gB, gV, gT, reduceIte, reduceCtorEq, Nat.reduceEqDiff, Nat.reduceAdd, Nat.reduceSub, Nat.reduceLeDiff, Nat.reduceLT, Int.reduceEq, Nat.reduceMul, q1, hk, f8, f0, f1, f2, f3, c1, hk, f9, f0, f1, f2, f3, f8, c2, hg']
      refine Xdraw_intro [0, 1, 2, 3, 4, 5, 6, 7, 8, 9, 10, 11, 12, 13, 14, 15, 16] mixed (by kernel_rfl) (by decide +kernel) ?_
      simp (maxDischargeDepth := 9) only [↓gB, gV, gT, reduceIte, reduceCtorEq, Nat.reduceEqDiff, Nat.reduceAdd, Nat.reduceSub, Nat.reduceLeDiff, Nat.reduceLT, Int.reduceEq, Nat.reduceMul, q1, hk, f8, f0, f1, f2, f3, c1, hk, f9, f0, f1, f2, f3, f8, c2, hg']
      obtain ⟨x1, a1, s1, m1, rfl, rfl, e1⟩ := hrow.at (j) (by omega) 2 rfl
      simp (maxDischargeDepth := 9) only [↓gB, gV, gT, reduceIte, reduceCtorEq, Nat.reduceEqDiff, Nat.reduceAdd, Nat.reduceSub, Nat.reduceLeDiff, Nat.reduceLT, Int.reduceEq, Nat.reduceMul, q1, f8, f1, f2, f3, c1, f9, f1, f2, f3, f8, c2, hk, f0, hk, f0, e1, hg']
      refine vguard_intro (by omega) ?_
      have q2 : Go.IntKind.i64.wrap (↑j - 1) = ↑j - 1 := wrap_id (by omega)
      simp (maxDischargeDepth := 9) only [↓gB, gV, gT, reduceIte, reduceCtorEq, Nat.reduceEqDiff, Nat.reduceAdd, Nat.reduceSub, Nat.reduceLeDiff, Nat.reduceLT, Int.reduceEq, Nat.reduceMul, q1, f8, f1, f2, f3, c1, f9, f1, f2, f3, f8, c2, hk, f0, hk, f0, e1, q2, hg']
      refine vguard_intro (by omega) ?_
      obtain ⟨x2, s2, m2, rfl, e2⟩ := hrow.at' (j - 1) (by omega) 2 rfl
      simp (maxDischargeDepth := 9) only [↓gB, gV, gT, reduceIte, reduceCtorEq, Nat.reduceEqDiff, Nat.reduceAdd, Nat.reduceSub, Nat.reduceLeDiff, Nat.reduceLT, Int.reduceEq, Nat.reduceMul, q1, f8, f1, f2, f3, c1, f9, f1, f2, f3, f8, c2, hk, f0, hk, f0, e1, q2, e2, hg']
      refine Ycp (hf _ x1 x2) ?_
      by_cases c3 : cf x1 x2 < 0
      · have hjc : ((j - 1 : Nat) : Int) = (j : Int) - 1 := by omega
        focus
          simp (maxDischargeDepth := 9) only [↓gB, gV, gT, reduceIte, reduceCtorEq, Nat.reduceEqDiff, Nat.reduceAdd, Nat.reduceSub, Nat.reduceLeDiff, Nat.reduceLT, Int.reduceEq, Nat.reduceMul, q1, f8, f1, f2, f3, c1, f9, f1, f2, f3, f8, c2, hk, f0, hk, f0, e1, q2, e2, c3, hjc]
          refine Xdraw_intro [0, 1, 2, 3, 4, 5, 6, 7, 8, 9, 10, 11, 12, 13, 14, 15, 16, 17] mixed (by kernel_rfl) (by decide +kernel) ?_
          simp (maxDischargeDepth := 9) only [↓gB, gV, gT, reduceIte, reduceCtorEq, Nat.reduceEqDiff, Nat.reduceAdd, Nat.reduceSub, Nat.reduceLeDiff, Nat.reduceLT, Int.reduceEq, Nat.reduceMul, q1, f8, f1, f2, f3, c1, f9, f1, f2, f3, f8, c2, hk, f0, hk, f0, e1, q2, e2, c3, hjc]
          refine vguard_intro (by omega) ?_
          refine vguard_intro (by omega) ?_
          refine vguard_intro (by omega) ?_
          refine Yrow hrow rfl (by first | omega | (simp only [List.length_set]; omega)) rfl (fun _ _ => rfl) fun G1 w1 i1 k1 kn1 l1 => ?_
          simp (maxDischargeDepth := 9) only [↓gB, gV, gT, reduceIte, reduceCtorEq, Nat.reduceEqDiff, Nat.reduceAdd, Nat.reduceSub, Nat.reduceLeDiff, Nat.reduceLT, Int.reduceEq, Nat.reduceMul, q1, f8, f1, f2, f3, c1, f9, f1, f2, f3, f8, c2, hk, f0, hk, f0, e1, q2, e2, c3, kn1, hjc]
          refine vguard_intro (by omega) ?_
          refine Yrow w1 rfl (by first | omega | (simp only [List.length_set]; omega)) rfl (fun _ _ => rfl) fun G2 w2 i2 k2 kn2 l2 => ?_
          simp (maxDischargeDepth := 9) only [↓gB, gV, gT, reduceIte, reduceCtorEq, Nat.reduceEqDiff, Nat.reduceAdd, Nat.reduceSub, Nat.reduceLeDiff, Nat.reduceLT, Int.reduceEq, Nat.reduceMul, q1, f8, f1, f2, f3, c1, f9, f1, f2, f3, f8, c2, hk, f0, hk, f0, e1, q2, e2, c3, kn1, kn2, hjc]
          rw [N_lp]
          refine ⟨_, ?_, _, sub_refl _, j - 1, (L.set j x2).set (j - 1) x1, rfl, ?_, ?_, ?_, ?_, ?_, ?_, by simp (maxDischargeDepth := 9) only [↓gB, gV, gT, reduceIte, reduceCtorEq, Nat.reduceEqDiff, Nat.reduceAdd, Nat.reduceSub, Nat.reduceLeDiff, Nat.reduceLT, Int.reduceEq, Nat.reduceMul, q1, f8, f1, f2, f3, c1, f9, f1, f2, f3, f8, c2, hk, f0, hk, f0, e1, q2, e2, c3, kn1, kn2, hjc, nat_succ, and_self]⟩
          · omega
          · omega
          · (simp [hL]; done)
          · ((rw [← h, sink_step c2 m1 m2, if_pos c3]); done)
          · assumption
          · (exact fun b o q1 q2 => k2 b o (k1 b o (hk b o q1 q2) q2) q2; done)
          · (exact fun q => l2 (l1 (hl q)); done)
      · have e : isortTo cf xs (i + 1) = L := by
          show sink cf i (isortTo cf xs i) = L
          rw [← h, sink_step c2 m1 m2, if_neg c3]
        focus
          simp (maxDischargeDepth := 9) only [↓gB, gV, gT, reduceIte, reduceCtorEq, Nat.reduceEqDiff, Nat.reduceAdd, Nat.reduceSub, Nat.reduceLeDiff, Nat.reduceLT, Int.reduceEq, Nat.reduceMul, q1, f8, f1, f2, f3, c1, f9, f1, f2, f3, f8, c2, hk, f0, hk, f0, e1, q2, e2, c3]
          have q3 : Go.IntKind.i64.wrap (↑i + 1) = ↑i + 1 := wrap_id (by omega)
          simp (maxDischargeDepth := 9) only [↓gB, gV, gT, reduceIte, reduceCtorEq, Nat.reduceEqDiff, Nat.reduceAdd, Nat.reduceSub, Nat.reduceLeDiff, Nat.reduceLT, Int.reduceEq, Nat.reduceMul, q1, f8, f1, f2, f3, c1, f9, f1, f2, f3, f8, c2, hk, f0, hk, f0, e1, q2, e2, c3, q3]
          rw [N_lp]
          refine ⟨_, ?_, _, sub_refl _, i + 1, rfl, ?_, ?_, ?_, ?_, ?_, by simp (maxDischargeDepth := 9) only [↓gB, gV, gT, reduceIte, reduceCtorEq, Nat.reduceEqDiff, Nat.reduceAdd, Nat.reduceSub, Nat.reduceLeDiff, Nat.reduceLT, Int.reduceEq, Nat.reduceMul, q1, f8, f1, f2, f3, c1, f9, f1, f2, f3, f8, c2, hk, f0, hk, f0, e1, q2, e2, c3, q3, nat_succ, and_self]⟩
          · omega
          · omega
          · omega
          · (rw [e]; exact hrow; done)
          · assumption
          · assumption
    · have e : isortTo cf xs (i + 1) = L := by
        have : j = 0 := by omega
        subst this
        exact h.symm
      focus
        simp (maxDischargeDepth := 9) only [↓gB, gV, gT, reduceIte, reduceCtorEq, Nat.reduceEqDiff, Nat.reduceAdd, Nat.reduceSub, Nat.reduceLeDiff, Nat.reduceLT, Int.reduceEq, Nat.reduceMul, q1, hk, f8, f0, f1, f2, f3, c1, hk, f9, f0, f1, f2, f3, f8, c2]
        refine Xdraw_intro [0, 1, 2, 3, 4, 5, 6, 7, 8, 9, 10, 11, 12, 13, 14, 15, 16] mixed (by kernel_rfl) (by decide +kernel) ?_
        simp (maxDischargeDepth := 9) only [↓gB, gV, gT, reduceIte, reduceCtorEq, Nat.reduceEqDiff, Nat.reduceAdd, Nat.reduceSub, Nat.reduceLeDiff, Nat.reduceLT, Int.reduceEq, Nat.reduceMul, q1, hk, f8, f0, f1, f2, f3, c1, hk, f9, f0, f1, f2, f3, f8, c2]
        have q2 : Go.IntKind.i64.wrap (↑i + 1) = ↑i + 1 := wrap_id (by omega)
        simp (maxDischargeDepth := 9) only [↓gB, gV, gT, reduceIte, reduceCtorEq, Nat.reduceEqDiff, Nat.reduceAdd, Nat.reduceSub, Nat.reduceLeDiff, Nat.reduceLT, Int.reduceEq, Nat.reduceMul, q1, hk, f8, f0, f1, f2, f3, c1, hk, f9, f0, f1, f2, f3, f8, c2, q2]
        rw [N_lp]
        refine ⟨_, ?_, _, sub_refl _, i + 1, rfl, ?_, ?_, ?_, ?_, ?_, by simp (maxDischargeDepth := 9) only [↓gB, gV, gT, reduceIte, reduceCtorEq, Nat.reduceEqDiff, Nat.reduceAdd, Nat.reduceSub, Nat.reduceLeDiff, Nat.reduceLT, Int.reduceEq, Nat.reduceMul, q1, hk, f8, f0, f1, f2, f3, c1, hk, f9, f0, f1, f2, f3, f8, c2, q2, nat_succ, and_self]⟩
        · omega
        · omega
        · omega
        · (rw [e]; exact hrow; done)
        · assumption
        · assumption
  · have e : isortTo cf xs i = isort cf xs := by
      rcases hi2 with h | h
      · have : i = xs.length := by omega
        rw [this]; rfl
      · subst h
        have : xs.length = 0 ∨ xs.length = 1 := by omega
        unfold isort
        rcases this with h | h <;> rw [h] <;> rfl
    simp (maxDischargeDepth := 9) only [↓gB, gV, gT, reduceIte, reduceCtorEq, Nat.reduceEqDiff, Nat.reduceAdd, Nat.reduceSub, Nat.reduceLeDiff, Nat.reduceLT, Int.reduceEq, Nat.reduceMul, q1, hk, f8, f0, f1, f2, f3, c1]
    exact Kup_same ⟨rfl, e ▸ hrow, hk, hl⟩
theorem s172 {G0 G : GH} {v : Value} {xs : List SRest} {n : Nat} {cf : SRest → SRest → Int} {g : Nat} (hrow : Row rRest 178 G0 G v xs) (hn : n = xs.length) (hb : xs.length < 20) (hg : GL.Enters Tryd.prog g) (hf : ∀ (G' : GH) x y, Pure Tryd.prog G' g [.agg #[V x.i, .int .u64 x.left], .agg #[V y.i, .int .u64 y.left]] (V (cf x y))) :
    GCalls Tryd.prog 172 [v, V n, .func (.func g) #[] #[]].toArray G (fun u G' => u = .tuple #[] ∧ Row rRest 178 G0 G' v (isort cf xs) ∧ (∀ b o, G b = some o → notAt v b → G' b = some o) ∧ (G0.le G → G0.le G')) := by
  have hn20 : ¬ (20 : Int) ≤ n := by omega
  have hn21 : ¬ (20 : Int) < n := by omega
  refine enter Tryd.func172 63 #[] rfl Tryd.ntmps172 rfl (by decide +kernel) rfl ?_
  simp (maxDischargeDepth := 9) only [↓gB, gV, gT, reduceIte, reduceCtorEq, Nat.reduceEqDiff, Nat.reduceAdd, Nat.reduceSub, Nat.reduceLeDiff, Nat.reduceLT, Int.reduceEq, Nat.reduceMul]
  refine Xloop_intro _ _ _ _ _ (fun k f G' => k = 0 ∧ (G = G') ∧ f 7 = V 0 ∧ f 8 = V 20 ∧ f 6 = V 20 ∧ f 0 = v ∧ f 1 = Go.GL.V ↑n ∧ f 2 = Go.Value.func (Go.Fn.func g) #[] #[]) _ ⟨rfl, rfl, by simp (maxDischargeDepth := 9) only [↓gB, gV, gT, reduceIte, reduceCtorEq, Nat.reduceEqDiff, Nat.reduceAdd, Nat.reduceSub, Nat.reduceLeDiff, Nat.reduceLT, Int.reduceEq, Nat.reduceMul, and_self]⟩ ?_
  rintro k f G' ⟨rfl, rfl, f7, f8, f6, f0, f1, f2⟩
  simp (maxDischargeDepth := 9) only [↓gB, gV, gT, reduceIte, reduceCtorEq, Nat.reduceEqDiff, Nat.reduceAdd, Nat.reduceSub, Nat.reduceLeDiff, Nat.reduceLT, Int.reduceEq, Nat.reduceMul, f7, f8, f6, f0, f1, f2]
  refine Xc_neg _ _ _ _ _ (by omega) ?_
  simp (maxDischargeDepth := 9) only [↓gB, gV, gT, reduceIte, reduceCtorEq, Nat.reduceEqDiff, Nat.reduceAdd, Nat.reduceSub, Nat.reduceLeDiff, Nat.reduceLT, Int.reduceEq, Nat.reduceMul, f7, f8, f6, f0, f1, f2]
  refine Ycall_intro (md := none) (s189 hrow hn (by omega) hg hf) ?_
  rintro u G1 ⟨rfl, hrow, hk, hl⟩
  simp (maxDischargeDepth := 9) only [↓gB, gV, gT, reduceIte, reduceCtorEq, Nat.reduceEqDiff, Nat.reduceAdd, Nat.reduceSub, Nat.reduceLeDiff, Nat.reduceLT, Int.reduceEq, Nat.reduceMul, f7, f8, f6, f0, f1, f2, hk]
  refine Xloop_intro _ _ _ _ _ (fun k f G' => k = 0 ∧ (G1 = G') ∧ f 6 = V 20 ∧ f 0 = v ∧ f 1 = Go.GL.V ↑n ∧ f 2 = Go.Value.func (Go.Fn.func g) #[] #[]) _ ⟨rfl, rfl, by simp (maxDischargeDepth := 9) only [↓gB, gV, gT, reduceIte, reduceCtorEq, Nat.reduceEqDiff, Nat.reduceAdd, Nat.reduceSub, Nat.reduceLeDiff, Nat.reduceLT, Int.reduceEq, Nat.reduceMul, f7, f8, f6, f0, f1, f2, hk, and_self]⟩ ?_
  rintro k f G' ⟨rfl, rfl, f6, f0, f1, f2⟩
  simp (maxDischargeDepth := 9) only [↓gB, gV, gT, reduceIte, reduceCtorEq, Nat.reduceEqDiff, Nat.reduceAdd, Nat.reduceSub, Nat.reduceLeDiff, Nat.reduceLT, Int.reduceEq, Nat.reduceMul, f7, f8, f6, f0, f1, f2, hk, f6, f0, f1, f2]
  refine Xc_neg _ _ _ _ _ (by omega) ?_
  simp (maxDischargeDepth := 9) only [↓gB, gV, gT, reduceIte, reduceCtorEq, Nat.reduceEqDiff, Nat.reduceAdd, Nat.reduceSub, Nat.reduceLeDiff, Nat.reduceLT, Int.reduceEq, Nat.reduceMul, f7, f8, f6, f0, f1, f2, hk, f6, f0, f1, f2]
  exact Kup_same ⟨rfl, hrow, hk, hl⟩
theorem s139 {G0 G : GH} {v : Value} {xs : List SRest} {cf : SRest → SRest → Int} {g : Nat} (hrow : Row rRest 178 G0 G v xs) (hb : xs.length < 20) (hg : GL.Enters Tryd.prog g) (hf : ∀ (G' : GH) x y, Pure Tryd.prog G' g [.agg #[V x.i, .int .u64 x.left], .agg #[V y.i, .int .u64 y.left]] (V (cf x y))) :
    GCalls Tryd.prog 139 [v, .func (.func g) #[] #[]].toArray G (fun u G' => u = .tuple #[] ∧ Row rRest 178 G0 G' v (isort cf xs) ∧ (∀ b o, G b = some o → notAt v b → G' b = some o) ∧ (G0.le G → G0.le G')) := by
  obtain ⟨a, c, rfl⟩ := hrow.val
  refine enter Tryd.func139 9 #[] rfl Tryd.ntmps139 rfl (by decide +kernel) rfl ?_
  simp (maxDischargeDepth := 9) only [↓gB, gV, gT, reduceIte, reduceCtorEq, Nat.reduceEqDiff, Nat.reduceAdd, Nat.reduceSub, Nat.reduceLeDiff, Nat.reduceLT, Int.reduceEq, Nat.reduceMul]
  refine Ycall_intro (md := none) (s172 hrow rfl hb hg hf) ?_
  rintro u G1 ⟨rfl, hrow, hk, hl⟩
  simp (maxDischargeDepth := 9) only [↓gB, gV, gT, reduceIte, reduceCtorEq, Nat.reduceEqDiff, Nat.reduceAdd, Nat.reduceSub, Nat.reduceLeDiff, Nat.reduceLT, Int.reduceEq, Nat.reduceMul, hk]
  exact Kup_same ⟨rfl, hrow, hk, hl⟩
end Go.Proofs.YtnlbapfbdabjaaaDoor
namespace Go.Proofs.YtnlbapfbdabjaaaDoor
open Go Go.GL
attribute [local irreducible] Ycall GCalls
set_option maxRecDepth 10000
set_option maxHeartbeats 0
theorem swp_eq {α : Type} {l : List α} {j : Nat} {x y : α} (hx : l[j]? = some x) (hy : l[j+1]? = some y) : l = l.take j ++ x :: y :: l.drop (j + 2) ∧ (l.set (j + 1) x).set j y = l.take j ++ y :: x :: l.drop (j + 2) := by
  have h1 := drop_at hx
  have h2 := drop_at hy
  have h0 : l = l.take j ++ x :: y :: l.drop (j + 2) := by
    have := (List.take_append_drop j l).symm
    rw [h1, h2] at this; exact this
  refine ⟨h0, ?_⟩
  have hj : j + 1 < l.length := by
    by_cases q : j + 1 < l.length
    · exact q
    · rw [List.getElem?_eq_none (by omega)] at hy; cases hy
  have ht : (l.take j).length = j := by rw [List.length_take]; omega
  have key : ∀ A : List α, A.length = j → ((A ++ x :: y :: l.drop (j + 2)).set (j + 1) x).set j y = A ++ y :: x :: l.drop (j + 2) := by
    intro A hA
    rw [List.set_append_right _ _ (by omega), List.set_append_right _ _ (by omega), hA]
    have e1 : j + 1 - j = 1 := by omega
    rw [e1, Nat.sub_self]; rfl
  have := key (l.take j) ht
  rw [← h0] at this; exact this
theorem swp_perm {α : Type} (l : List α) (j : Nat) : (swp l j).Perm l := by
  unfold swp
  split
  · rename_i x y hx hy
    obtain ⟨h1, h2⟩ := swp_eq hx hy
    rw [h2]
    conv => rhs; rw [h1]
    exact List.Perm.append_left _ (List.Perm.swap _ _ _)
  · exact List.Perm.refl _
theorem sink_perm {α : Type} (cf : α → α → Int) : ∀ (j : Nat) (l : List α), (sink cf j l).Perm l
  | 0, l => List.Perm.refl _
  | j + 1, l => by
    unfold sink; split
    · split
      · exact (sink_perm cf j _).trans (swp_perm l j)
      · exact List.Perm.refl _
    · exact List.Perm.refl _
theorem isortTo_perm {α : Type} (cf : α → α → Int) (l : List α) : ∀ i, (isortTo cf l i).Perm l
  | 0 => List.Perm.refl _
  | i + 1 => (sink_perm cf i _).trans (isortTo_perm cf l i)
theorem isort_perm {α : Type} (cf : α → α → Int) (l : List α) : (isort cf l).Perm l := isortTo_perm cf l _
def qsF (n s : Int) (l : List Int) : List Int := l.map fun p => n * p / s
def rsF (n s : Int) (l : List Int) : List SRest := l.mapIdx fun i p => ⟨i, n * p % s⟩
def incs (l : List SRest) (o : List Int) : List Int := l.foldl (fun o r => o.modify r.i.toNat (· + 1)) o
def leftF (n s : Int) (l : List Int) : Int := n - (qsF n s l).sum
def divideF (n : Int) (l : List Int) : List Int := incs ((isort cfR (rsF n l.sum l)).take (leftF n l.sum l).toNat) (qsF n l.sum l)
theorem sum_take {l : List Int} {i : Nat} {x : Int} (h : l[i]? = some x) : (l.take (i + 1)).sum = (l.take i).sum + x := by
  rw [take_at h, List.sum_append]; simp
theorem sum_b {M : Int} : ∀ {l : List Int}, (∀ p ∈ l, 0 ≤ p ∧ p ≤ M) → 0 ≤ l.sum ∧ l.sum ≤ M * l.length
  | [], _ => by simp
  | x :: l, h => by
    have h1 := h x (by simp)
    have h2 := sum_b (fun p hp => h p (List.mem_cons_of_mem x hp))
    rw [List.sum_cons, List.length_cons, Int.natCast_add, Int.mul_add]
    simp only [Int.natCast_one, Int.mul_one]
    omega
theorem mem_take_b {l : List Int} {Q : Int → Prop} (h : ∀ p ∈ l, Q p) (i : Nat) : ∀ p ∈ l.take i, Q p := fun p hp => h p (List.mem_of_mem_take hp)
theorem sum_le_take {l : List Int} {M : Int} (h : ∀ p ∈ l, 0 ≤ p ∧ p ≤ M) : ∀ x ∈ l, x ≤ l.sum := by
  induction l with
  | nil => simp
  | cons y l ih =>
    intro x hx
    have h2 := sum_b (fun p hp => h p (List.mem_cons_of_mem y hp))
    have h1 := h y (by simp)
    rw [List.sum_cons]
    rcases List.mem_cons.1 hx with rfl | hx
    · omega
    · have := ih (fun p hp => h p (List.mem_cons_of_mem y hp)) x hx; omega
theorem qs_take {n s : Int} {l : List Int} {i : Nat} {x : Int} (h : l[i]? = some x) : qsF n s (l.take (i + 1)) = qsF n s (l.take i) ++ [n * x / s] := by
  unfold qsF; rw [take_at h, List.map_append]; rfl
theorem rs_take {n s : Int} {l : List Int} {i : Nat} {x : Int} (h : l[i]? = some x) : rsF n s (l.take (i + 1)) = rsF n s (l.take i) ++ [⟨i, n * x % s⟩] := by
  have hi : i < l.length := by
    by_cases q : i < l.length
    · exact q
    · rw [List.getElem?_eq_none (by omega)] at h; cases h
  unfold rsF; rw [take_at h, List.mapIdx_append]
  have : (l.take i).length = i := by rw [List.length_take]; omega
  simp [this]
theorem qs_b {n s : Int} {l : List Int} (hn : 0 ≤ n) (hn2 : n ≤ 1000000000) (hs : 0 < s) (h : ∀ p ∈ l, 0 ≤ p ∧ p ≤ s) : ∀ q ∈ qsF n s l, 0 ≤ q ∧ q ≤ 1000000000 := by
  intro q hq
  unfold qsF at hq
  obtain ⟨p, hp, rfl⟩ := List.mem_map.1 hq
  have h1 := h p hp
  have h2 : 0 ≤ n * p := Int.mul_nonneg hn h1.1
  refine ⟨Int.ediv_nonneg h2 (by omega), ?_⟩
  have h3 : n * p ≤ n * s := Int.mul_le_mul_of_nonneg_left h1.2 hn
  have h4 : n * p / s ≤ n * s / s := Int.ediv_le_ediv hs h3
  rw [Int.mul_ediv_cancel _ (by omega)] at h4
  omega
theorem rs_left (n s : Int) (l : List Int) : (rsF n s l).map (·.left) = l.map fun p => n * p % s := by
  apply List.ext_getElem?; intro i; simp only [rsF, List.getElem?_map, List.getElem?_mapIdx, Option.map_map]; rfl
theorem left_b {n s : Int} (hs : 0 < s) : ∀ (l : List Int), n * l.sum - s * (qsF n s l).sum = ((rsF n s l).map (·.left)).sum ∧ 0 ≤ ((rsF n s l).map (·.left)).sum ∧ ((rsF n s l).map (·.left)).sum ≤ (s - 1) * l.length := by
  intro l
  rw [rs_left]
  induction l with
  | nil => simp [qsF]
  | cons x l ih =>
    simp only [qsF, List.map_cons, List.sum_cons, List.length_cons] at ih ⊢
    have h1 := Int.emod_add_mul_ediv (n * x) s
    have h2 := Int.emod_nonneg (n * x) (show s ≠ 0 by omega)
    have h3 := Int.emod_lt_of_pos (n * x) hs
    have h4 : (s - 1) * ((l.length + 1 : Nat) : Int) = (s - 1) * l.length + (s - 1) := by rw [Int.natCast_add, Int.mul_add]; simp
    rw [h4, Int.mul_add, Int.mul_add]
    omega
theorem left_range {n : Int} {l : List Int} (hs : 0 < l.sum) : 0 ≤ leftF n l.sum l ∧ leftF n l.sum l ≤ l.length := by
  obtain ⟨h1, h2, h3⟩ := left_b (n := n) hs l
  unfold leftF
  have e : n * l.sum - l.sum * (qsF n l.sum l).sum = l.sum * (n - (qsF n l.sum l).sum) := by rw [Int.mul_sub, Int.mul_comm n]
  rw [e] at h1
  rw [← h1] at h2 h3
  generalize n - (qsF n l.sum l).sum = d at *
  constructor
  · by_cases q : d < 0
    · have : l.sum * d < 0 := Int.mul_neg_of_pos_of_neg hs q
      omega
    · omega
  · by_cases q : (l.length : Int) < d
    · have h5 : l.sum * (l.length : Int) ≤ l.sum * d := Int.mul_le_mul_of_nonneg_left (by omega) (by omega)
      have h6 : (l.sum - 1) * (l.length : Int) = l.sum * l.length - l.length := by rw [Int.sub_mul, Int.one_mul]
      have h7 : l.sum * (l.length + 1) ≤ l.sum * d := Int.mul_le_mul_of_nonneg_left (by omega) (by omega)
      rw [Int.mul_add, Int.mul_one] at h7
      omega
    · omega
end Go.Proofs.YtnlbapfbdabjaaaDoor
namespace Go.Proofs.YtnlbapfbdabjaaaDoor
open Go Go.GL
attribute [local irreducible] Ycall GCalls
set_option maxRecDepth 10000
set_option maxHeartbeats 0
theorem qs_nil (n s : Int) : qsF n s [] = [] := rfl
theorem enD : GL.Enters Tryd.prog 140 := of_eq_true en140
theorem incs_take {L : List SRest} {o : List Int} {j : Nat} {x : SRest} (h : L[j]? = some x) : incs (L.take (j + 1)) o = (incs (L.take j) o).modify x.i.toNat (· + 1) := by
  unfold incs; rw [take_at h, List.foldl_append]; rfl
theorem incs_len : ∀ (L : List SRest) (o : List Int), (incs L o).length = o.length
  | [], _ => rfl
  | x :: L, o => by
    have := incs_len L (o.modify x.i.toNat (· + 1))
    unfold incs at *
    rw [List.foldl_cons, this, List.length_modify]
theorem modify_set {o : List Int} {k : Nat} {y : Int} (h : o[k]? = some y) : o.modify k (· + 1) = o.set k (y + 1) := by
  apply List.ext_getElem?
  intro t
  rw [List.getElem?_modify, List.getElem?_set]
  by_cases e : k = t
  · subst e
    rw [h, if_pos rfl]
    have : k < o.length := by
      by_cases q : k < o.length
      · exact q
      · rw [List.getElem?_eq_none (by omega)] at h; cases h
    simp [this]
  · simp [e]
theorem mem_modify {o : List Int} {k : Nat} {q : Int} (h : q ∈ o.modify k (· + 1)) : q ∈ o ∨ ∃ y ∈ o, q = y + 1 := by
  obtain ⟨t, ht⟩ := List.mem_iff_getElem?.1 h
  rw [List.getElem?_modify] at ht
  cases ho : o[t]? with
  | none => rw [ho] at ht; simp at ht
  | some y =>
    rw [ho] at ht
    by_cases e : k = t
    · simp [e] at ht; exact .inr ⟨y, List.mem_of_getElem? ho, ht.symm⟩
    · simp [e] at ht; subst ht; exact .inl (List.mem_of_getElem? ho)
theorem incs_b {M : Int} : ∀ (L : List SRest) (o : List Int), (∀ q ∈ o, 0 ≤ q ∧ q ≤ M) → ∀ q ∈ incs L o, 0 ≤ q ∧ q ≤ M + L.length
  | [], o, h => by intro q hq; have := h q hq; simp; exact this
  | x :: L, o, h => by
    intro q hq
    have := incs_b (M := M + 1) L (o.modify x.i.toNat (· + 1)) (fun q hq => by
      rcases mem_modify hq with h1 | ⟨y, h1, rfl⟩
      · have := h q h1; omega
      · have := h y h1; omega) q hq
    simp only [List.length_cons, Int.natCast_add, Int.natCast_one]; omega
theorem rs_i {n s : Int} {l : List Int} : ∀ x ∈ rsF n s l, 0 ≤ x.i ∧ x.i < l.length := by
  intro x hx
  unfold rsF at hx
  obtain ⟨i, hi, rfl⟩ := List.mem_mapIdx.1 hx
  simp only; omega
theorem g106 {G0 : GH} {n : Int} {v : Value} {l : List Int} (hv : RSl Rp.int G0 v l) (hn : 0 ≤ n) (hn2 : n ≤ 1000000000) (hl : ∀ p ∈ l, 0 ≤ p ∧ p ≤ 1000000000) (hs : 0 < l.sum) (hlen : l.length < 20) : Gives Tryd.prog G0 106 [V n, v] (fun u G' => RSl Rp.int G' u (divideF n l)) := by
  intro G hG; replace hv := hv.le hG
  clear hG G0
  refine enter Tryd.func106 88 #[.tmp 4] rfl Tryd.ntmps106 rfl (by decide +kernel) rfl ?_
  obtain ⟨a, c, rfl⟩ := hv.val
  have hsb := sum_b hl
  have hmx := sum_le_take hl
  simp (maxDischargeDepth := 9) only [↓gB, gV, gT, reduceIte, reduceCtorEq, Nat.reduceEqDiff, Nat.reduceAdd, Nat.reduceSub, Nat.reduceLeDiff, Nat.reduceLT, Int.reduceEq, Nat.reduceMul]
  focus
    refine Xloop_intro _ _ _ _ _ (fun k f G' => ∃ (i : Nat), k = l.length - i ∧ (i ≤ l.length) ∧ (G = G') ∧ f 21 = V i ∧ f 5 = V (l.take i).sum ∧ f 0 = Go.GL.V n ∧ f 1 = Go.Value.slice a l.length c ∧ f 19 = Go.Value.slice a l.length c ∧ f 20 = Go.Value.int Go.IntKind.i64 ↑l.length) _ ⟨0, rfl, ?_, rfl, by simp (maxDischargeDepth := 9) only [↓gB, gV, gT, reduceIte, reduceCtorEq, Nat.reduceEqDiff, Nat.reduceAdd, Nat.reduceSub, Nat.reduceLeDiff, Nat.reduceLT, Int.reduceEq, Nat.reduceMul, List.sum_nil, and_self]⟩ ?_
    · omega
    rintro k f G' ⟨i, rfl, hi, rfl, f21, f5, f0, f1, f19, f20⟩
  have hb := sum_b (mem_take_b hl i)
  have hlt : (l.take i).length ≤ i := by rw [List.length_take]; omega
  simp (maxDischargeDepth := 9) only [↓gB, gV, gT, reduceIte, reduceCtorEq, Nat.reduceEqDiff, Nat.reduceAdd, Nat.reduceSub, Nat.reduceLeDiff, Nat.reduceLT, Int.reduceEq, Nat.reduceMul, f21, f5, f0, f1, f19, f20]
  refine Xc_split _ _ _ _ _ (fun c1 => ?_) (fun c1 => ?_)
  · obtain ⟨x, hx⟩ : ∃ x, l[i]? = some x := ⟨_, List.getElem?_eq_getElem (by omega)⟩
    have hxb := hl x (List.mem_of_getElem? hx)
    simp (maxDischargeDepth := 9) only [↓gB, gV, gT, reduceIte, reduceCtorEq, Nat.reduceEqDiff, Nat.reduceAdd, Nat.reduceSub, Nat.reduceLeDiff, Nat.reduceLT, Int.reduceEq, Nat.reduceMul, f21, f5, f0, f1, f19, f20, c1]
    obtain ⟨x1, a1, s1, m1, rfl, ⟨rfl, w1⟩, e1⟩ := hv.at1 (i) (by omega) rfl
    simp (maxDischargeDepth := 9) only [↓gB, gV, gT, reduceIte, reduceCtorEq, Nat.reduceEqDiff, Nat.reduceAdd, Nat.reduceSub, Nat.reduceLeDiff, Nat.reduceLT, Int.reduceEq, Nat.reduceMul, f21, f5, f0, f20, c1, f1, f19, e1]
    refine vguard_intro (by simp) ?_
    have q1 : Go.IntKind.i64.wrap (↑i + 1) = ↑i + 1 := wrap_id (by omega)
    simp (maxDischargeDepth := 9) only [↓gB, gV, gT, reduceIte, reduceCtorEq, Nat.reduceEqDiff, Nat.reduceAdd, Nat.reduceSub, Nat.reduceLeDiff, Nat.reduceLT, Int.reduceEq, Nat.reduceMul, f21, f5, f0, f20, c1, f1, f19, e1, q1]
    obtain rfl : x = x1 := by rw [hx] at m1; cases m1; rfl
    have hst := sum_take hx
    focus
      have q2 : Go.IntKind.i64.wrap ((List.take i l).sum + x) = (List.take i l).sum + x := wrap_id (by omega)
      simp (maxDischargeDepth := 9) only [↓gB, gV, gT, reduceIte, reduceCtorEq, Nat.reduceEqDiff, Nat.reduceAdd, Nat.reduceSub, Nat.reduceLeDiff, Nat.reduceLT, Int.reduceEq, Nat.reduceMul, f21, f5, f0, f20, c1, f1, f19, q1, e1, q2, hst]
      rw [N_lp]
      refine ⟨_, ?_, _, ?_, i + 1, rfl, ?_, rfl, by simp (maxDischargeDepth := 9) only [↓gB, gV, gT, reduceIte, reduceCtorEq, Nat.reduceEqDiff, Nat.reduceAdd, Nat.reduceSub, Nat.reduceLeDiff, Nat.reduceLT, Int.reduceEq, Nat.reduceMul, f21, f5, f0, f20, c1, f1, f19, q1, e1, q2, hst, nat_succ, and_self]⟩
      · omega
      · exact sub_refl _
      · omega
  · have e : l.take i = l := List.take_of_length_le (by omega)
    rw [e] at f5
    simp (maxDischargeDepth := 9) only [↓gB, gV, gT, reduceIte, reduceCtorEq, Nat.reduceEqDiff, Nat.reduceAdd, Nat.reduceSub, Nat.reduceLeDiff, Nat.reduceLT, Int.reduceEq, Nat.reduceMul, f21, f5, f0, f1, f19, f20, c1]
    have hsw : IntKind.u64.wrap l.sum = l.sum := u64_id (by omega) (by omega)
    have hnw : IntKind.u64.wrap n = n := u64_id hn (by omega)
    focus
      refine Xloop_intro _ _ _ _ _ (fun k f G' => ∃ (i : Nat) (o : Value) (r : Value), k = l.length - i ∧ (i ≤ l.length) ∧ (Row Rp.int 3 G G' o (qsF n l.sum (l.take i))) ∧ (Row rRest 178 G G' r (rsF n l.sum (l.take i))) ∧ (RSl Rp.int G' (.slice a l.length c) l) ∧ (G.le G') ∧ f 32 = V i ∧ f 8 = o ∧ f 9 = r ∧ f 10 = V (n - (qsF n l.sum (l.take i)).sum) ∧ f 0 = Go.GL.V n ∧ f 5 = Go.GL.V l.sum ∧ f 30 = Go.Value.slice a l.length c ∧ f 31 = Go.Value.int Go.IntKind.i64 ↑l.length) _ ⟨0, .slice none 0 0, .slice none 0 0, rfl, ?_, ?_, ?_, ?_, ?_, by simp (maxDischargeDepth := 9) only [↓gB, gV, gT, reduceIte, reduceCtorEq, Nat.reduceEqDiff, Nat.reduceAdd, Nat.reduceSub, Nat.reduceLeDiff, Nat.reduceLT, Int.reduceEq, Nat.reduceMul, f21, f5, f0, f1, f19, f20, c1, hsw, hnw, qs_nil, List.sum_nil, Int.sub_zero, and_self]⟩ ?_
      · omega
      · (exact Row.nil; done)
      · (exact Row.nil; done)
      · assumption
      · exact le_refl _
      rintro k f G' ⟨i, o, r, rfl, hi, ho, hr, hv, hle, f32, f8, f9, f10, f0, f5, f30, f31⟩
    obtain ⟨oa, oc, rfl⟩ := ho.val
    obtain ⟨ra, rc, rfl⟩ := hr.val
    have hol : (qsF n l.sum (l.take i)).length ≤ 20 := by unfold qsF; rw [List.length_map, List.length_take]; omega
    have hrl : (rsF n l.sum (l.take i)).length ≤ 20 := by unfold rsF; rw [List.length_mapIdx, List.length_take]; omega
    have hqb := sum_b (qs_b hn hn2 hs (l := l.take i) (fun p hp => ⟨(hl p (List.mem_of_mem_take hp)).1, hmx p (List.mem_of_mem_take hp)⟩))
    simp (maxDischargeDepth := 9) only [↓gB, gV, gT, reduceIte, reduceCtorEq, Nat.reduceEqDiff, Nat.reduceAdd, Nat.reduceSub, Nat.reduceLeDiff, Nat.reduceLT, Int.reduceEq, Nat.reduceMul, f21, f5, f0, f1, f19, f20, c1, hsw, hnw, f32, f10, f0, f5, f30, f31, f8, f9]
    refine Xc_split _ _ _ _ _ (fun c1 => ?_) (fun c1 => ?_)
    · obtain ⟨x, hx⟩ : ∃ x, l[i]? = some x := ⟨_, List.getElem?_eq_getElem (by omega)⟩
      have hxb := hl x (List.mem_of_getElem? hx)
      have hxs := hmx x (List.mem_of_getElem? hx)
      have hxw : IntKind.u64.wrap x = x := u64_id hxb.1 (by omega)
      have hm0 : 0 ≤ n * x := Int.mul_nonneg hn hxb.1
      have hm1 : n * x ≤ 1000000000 * 1000000000 := Int.mul_le_mul hn2 hxb.2 hxb.1 (by omega)
      have hm2 : n * x ≤ 1000000000000000000 := by omega
      have hq0 := qs_b hn hn2 hs (l := [x]) (by simp; omega) (n * x / l.sum) (by simp [qsF])
      have hqw : IntKind.i64.wrap (n * x / l.sum) = n * x / l.sum := wrap_id (by omega)
      have hqt := qs_take (n := n) (s := l.sum) hx
      have hleft : n - (qsF n l.sum (l.take (i + 1))).sum = n - (qsF n l.sum (l.take i)).sum - n * x / l.sum := by rw [hqt, List.sum_append]; simp; omega
      have hrt := rs_take (n := n) (s := l.sum) hx
      simp (maxDischargeDepth := 9) only [↓gB, gV, gT, reduceIte, reduceCtorEq, Nat.reduceEqDiff, Nat.reduceAdd, Nat.reduceSub, Nat.reduceLeDiff, Nat.reduceLT, Int.reduceEq, Nat.reduceMul, f21, f5, f0, f1, f19, f20, c1, hsw, hnw, f32, f10, f0, f5, f30, f31, f8, f9, c1, hxw, hqw]
      obtain ⟨x1, a1, s1, m1, rfl, ⟨rfl, w1⟩, e1⟩ := hv.at1 (i) (by omega) rfl
      simp (maxDischargeDepth := 9) only [↓gB, gV, gT, reduceIte, reduceCtorEq, Nat.reduceEqDiff, Nat.reduceAdd, Nat.reduceSub, Nat.reduceLeDiff, Nat.reduceLT, Int.reduceEq, Nat.reduceMul, f21, f5, f0, f20, c1, hsw, hnw, f32, f10, f0, f5, f31, f8, f9, c1, hxw, hqw, f1, f19, f30, e1]
      refine vguard_intro (by simp) ?_
      obtain rfl : x = x1 := by rw [hx] at m1; cases m1; rfl
      focus
        simp (maxDischargeDepth := 9) only [↓gB, gV, gT, reduceIte, reduceCtorEq, Nat.reduceEqDiff, Nat.reduceAdd, Nat.reduceSub, Nat.reduceLeDiff, Nat.reduceLT, Int.reduceEq, Nat.reduceMul, f21, f5, f0, f20, c1, hsw, hnw, f32, f10, f0, f5, f31, f8, f9, c1, hxw, hqw, f1, f19, f30, e1, hleft]
        refine Ycp (p137 (by assumption) (by assumption) (by omega) (by omega)) ?_
        simp (maxDischargeDepth := 9) only [↓gB, gV, gT, reduceIte, reduceCtorEq, Nat.reduceEqDiff, Nat.reduceAdd, Nat.reduceSub, Nat.reduceLeDiff, Nat.reduceLT, Int.reduceEq, Nat.reduceMul, f21, f5, f0, f20, c1, hsw, hnw, f32, f10, f0, f5, f31, f8, f9, c1, hxw, hqw, f1, f19, f30, e1, hleft]
        refine Ycp (p138 (by assumption) (by assumption) (by assumption)) ?_
        simp (maxDischargeDepth := 9) only [↓gB, gV, gT, reduceIte, reduceCtorEq, Nat.reduceEqDiff, Nat.reduceAdd, Nat.reduceSub, Nat.reduceLeDiff, Nat.reduceLT, Int.reduceEq, Nat.reduceMul, f21, f5, f0, f20, c1, hsw, hnw, f32, f10, f0, f5, f31, f8, f9, c1, hxw, hqw, f1, f19, f30, e1, hleft]
        refine Yn2 fun r1 h1 => ?_
        simp (maxDischargeDepth := 9) only [↓gB, gV, gT, reduceIte, reduceCtorEq, Nat.reduceEqDiff, Nat.reduceAdd, Nat.reduceSub, Nat.reduceLeDiff, Nat.reduceLT, Int.reduceEq, Nat.reduceMul, f21, f5, f0, f20, c1, hsw, hnw, f32, f10, f0, f5, f31, f8, f9, c1, hxw, hqw, f1, f19, f30, e1, h1, hleft]
        refine Row.app1 sl23 (Row.put _ h1 ho) (by exact put_self _ _ _) (y := _) ⟨rfl, (by first | exact (RSl.put _ h1 hv) | omega | decide | assumption | (unfold i64; omega) | (unfold i64 at *; omega) | (constructor <;> omega))⟩ (by omega) (GH.le.trans hle (le_put h1 _)) fun v1 G1 w1 k1 l1 => ?_
        replace hr := Row.keepTy (Row.put _ h1 hr) (Row.put _ h1 ho) k1 (by decide)
        replace hv := RSl.appd (RSl.put _ h1 hv) (Row.put _ h1 ho) k1
        simp (maxDischargeDepth := 9) only [↓gB, gV, gT, reduceIte, reduceCtorEq, Nat.reduceEqDiff, Nat.reduceAdd, Nat.reduceSub, Nat.reduceLeDiff, Nat.reduceLT, Int.reduceEq, Nat.reduceMul, f21, f5, f0, f20, c1, hsw, hnw, f32, f10, f0, f5, f31, f8, f9, c1, hxw, hqw, f1, f19, f30, e1, h1, hleft]
        refine Yn2 fun r2 h2 => ?_
        simp (maxDischargeDepth := 9) only [↓gB, gV, gT, reduceIte, reduceCtorEq, Nat.reduceEqDiff, Nat.reduceAdd, Nat.reduceSub, Nat.reduceLeDiff, Nat.reduceLT, Int.reduceEq, Nat.reduceMul, f21, f5, f0, f20, c1, hsw, hnw, f32, f10, f0, f5, f31, f8, f9, c1, hxw, hqw, f1, f19, f30, e1, h1, hleft]
        refine Row.app1 sl172 (Row.put _ h2 hr) (by exact put_self _ _ _) (y := ⟨_, _⟩) rfl (by omega) (GH.le.trans l1 (le_put h2 _)) fun v2 G2 w2 k2 l2 => ?_
        replace hv := RSl.appd (RSl.put _ h2 hv) (Row.put _ h2 hr) k2
        replace w1 := Row.keepTy (Row.put _ h2 w1) (Row.put _ h2 hr) k2 (by decide)
        simp (maxDischargeDepth := 9) only [↓gB, gV, gT, reduceIte, reduceCtorEq, Nat.reduceEqDiff, Nat.reduceAdd, Nat.reduceSub, Nat.reduceLeDiff, Nat.reduceLT, Int.reduceEq, Nat.reduceMul, f21, f5, f0, f20, c1, hsw, hnw, f32, f10, f0, f5, f31, f8, f9, c1, hxw, hqw, f1, f19, f30, e1, h1, hleft]
        have q1 : Go.IntKind.i64.wrap (n - (Go.Proofs.YtnlbapfbdabjaaaDoor.qsF n l.sum (List.take i l)).sum - n * x / l.sum) = n - (Go.Proofs.YtnlbapfbdabjaaaDoor.qsF n l.sum (List.take i l)).sum - n * x / l.sum := wrap_id (by omega)
        simp (maxDischargeDepth := 9) only [↓gB, gV, gT, reduceIte, reduceCtorEq, Nat.reduceEqDiff, Nat.reduceAdd, Nat.reduceSub, Nat.reduceLeDiff, Nat.reduceLT, Int.reduceEq, Nat.reduceMul, f21, f5, f0, f20, c1, hsw, hnw, f32, f10, f0, f5, f31, f8, f9, c1, hxw, hqw, f1, f19, f30, e1, h1, q1, hleft]
        have q2 : Go.IntKind.i64.wrap (↑i + 1) = ↑i + 1 := wrap_id (by omega)
        simp (maxDischargeDepth := 9) only [↓gB, gV, gT, reduceIte, reduceCtorEq, Nat.reduceEqDiff, Nat.reduceAdd, Nat.reduceSub, Nat.reduceLeDiff, Nat.reduceLT, Int.reduceEq, Nat.reduceMul, f21, f5, f0, f20, c1, hsw, hnw, f32, f10, f0, f5, f31, f8, f9, c1, hxw, hqw, f1, f19, f30, e1, h1, q1, q2, hleft]
        rw [N_lp]
        refine ⟨_, ?_, _, sub_refl _, i + 1, v1, v2, rfl, ?_, ?_, ?_, ?_, ?_, by simp (maxDischargeDepth := 9) only [↓gB, gV, gT, reduceIte, reduceCtorEq, Nat.reduceEqDiff, Nat.reduceAdd, Nat.reduceSub, Nat.reduceLeDiff, Nat.reduceLT, Int.reduceEq, Nat.reduceMul, f21, f5, f0, f20, c1, hsw, hnw, f32, f10, f0, f5, f31, f8, f9, c1, hxw, hqw, f1, f19, f30, e1, h1, q1, q2, hleft, nat_succ, and_self]⟩
        · omega
        · omega
        · (rw [hqt]; assumption; done)
        · (rw [hrt]; assumption; done)
        · assumption
        · assumption
    · have e : l.take i = l := List.take_of_length_le (by omega)
      rw [e] at ho hr f8 f9 f10 hqb hol hrl
      have hrn : (rsF n l.sum l).length = l.length := by unfold rsF; rw [List.length_mapIdx]
      have hon : (qsF n l.sum l).length = l.length := by unfold qsF; rw [List.length_map]
      have hlr := left_range (n := n) hs
      have hlf : n - (qsF n l.sum l).sum = leftF n l.sum l := rfl
      rw [hlf] at f10
      simp (maxDischargeDepth := 9) only [↓gB, gV, gT, reduceIte, reduceCtorEq, Nat.reduceEqDiff, Nat.reduceAdd, Nat.reduceSub, Nat.reduceLeDiff, Nat.reduceLT, Int.reduceEq, Nat.reduceMul, f21, f5, f0, f1, f19, f20, c1, hsw, hnw, f32, f10, f0, f5, f30, f31, f8, f9, c1]
      refine Ycall_intro (md := none) (s139 (cf := cfR) hr (show (rsF n l.sum l).length < 20 by omega) enD (fun G' x y => p140)) ?_
      rintro u G2 ⟨rfl, hr2, hk, hl2⟩
      replace ho := Row.keepTy ho hr hk (by decide)
      replace hle := hl2 hle
      obtain ⟨G3, hs3, hrs, hk3, hl3⟩ := hr2.freeze
      refine Ysub hs3 ?_
      replace ho := Row.keepTy ho hr2 hk3 (by decide)
      replace hle := hl3 hle
      have hsl := (isort_perm cfR (rsF n l.sum l)).length_eq
      have hcap : (rsF n l.sum l).length ≤ rc := by
        obtain ⟨_, _, _, hv', _, h2, _⟩ := hrs
        cases hv'; exact h2
      obtain ⟨m, hm⟩ : ∃ m : Nat, leftF n l.sum l = (m : Int) := ⟨(leftF n l.sum l).toNat, by omega⟩
      have ht : RSl rRest G3 (.slice ra m rc) ((isort cfR (rsF n l.sum l)).take m) := RSl.take hrs (by omega)
      have hLt : ((isort cfR (rsF n l.sum l)).take m).length = m := by rw [List.length_take]; omega
      have hLi : ∀ x ∈ (isort cfR (rsF n l.sum l)).take m, 0 ≤ x.i ∧ x.i < l.length := fun x hx => rs_i x ((isort_perm cfR _).mem_iff.1 (List.mem_of_mem_take hx))
      have hdiv : divideF n l = incs ((isort cfR (rsF n l.sum l)).take m) (qsF n l.sum l) := by unfold divideF; rw [hm, Int.toNat_natCast]
      have hm20 : m ≤ 20 := by omega
      generalize (isort cfR (rsF n l.sum l)).take m = L at *
      clear hrs hr hr2 hk hk3 hl2 hl3
      rw [hm] at f10
      simp (maxDischargeDepth := 9) only [↓gB, gV, gT, reduceIte, reduceCtorEq, Nat.reduceEqDiff, Nat.reduceAdd, Nat.reduceSub, Nat.reduceLeDiff, Nat.reduceLT, Int.reduceEq, Nat.reduceMul, f21, f5, f0, f1, f19, f20, c1, hsw, hnw, f32, f0, f5, f30, f31, f8, f9, c1, f10]
      refine vguard_intro (by omega) ?_
      focus
        refine Xloop_intro _ _ _ _ _ (fun k f G' => ∃ (j : Nat), k = m - j ∧ (j ≤ m) ∧ (Row Rp.int 3 G G' (.slice oa (qsF n l.sum l).length oc) (incs (L.take j) (qsF n l.sum l))) ∧ (RSl rRest G' (.slice ra m rc) L) ∧ (G.le G') ∧ f 75 = V j ∧ f 8 = Go.Value.slice oa (Go.Proofs.YtnlbapfbdabjaaaDoor.qsF n l.sum l).length oc ∧ f 73 = Go.Value.slice ra m rc ∧ f 74 = Go.Value.int Go.IntKind.i64 ↑m) _ ⟨0, rfl, ?_, ?_, ?_, ?_, by simp (maxDischargeDepth := 9) only [↓gB, gV, gT, reduceIte, reduceCtorEq, Nat.reduceEqDiff, Nat.reduceAdd, Nat.reduceSub, Nat.reduceLeDiff, Nat.reduceLT, Int.reduceEq, Nat.reduceMul, f21, f5, f0, f1, f19, f20, c1, hsw, hnw, f32, f0, f5, f30, f31, f8, f9, c1, f10, and_self]⟩ ?_
        · omega
        · assumption
        · assumption
        · assumption
        rintro k f G' ⟨j, rfl, hj, ho, ht, hle, f75, f8, f73, f74⟩
      simp (maxDischargeDepth := 9) only [↓gB, gV, gT, reduceIte, reduceCtorEq, Nat.reduceEqDiff, Nat.reduceAdd, Nat.reduceSub, Nat.reduceLeDiff, Nat.reduceLT, Int.reduceEq, Nat.reduceMul, f21, f5, f0, f1, f19, f20, c1, hsw, hnw, f32, f0, f5, f30, f31, f8, f9, c1, f10, f75, f8, f73, f74]
      have hil : (incs (L.take j) (qsF n l.sum l)).length = l.length := by rw [incs_len, hon]
      have hib := incs_b (L.take j) (qsF n l.sum l) (qs_b hn hn2 hs (l := l) (fun p hp => ⟨(hl p hp).1, hmx p hp⟩))
      have hjl : (L.take j).length ≤ 20 := by rw [List.length_take]; omega
      refine Xc_split _ _ _ _ _ (fun c2 => ?_) (fun c2 => ?_)
      · obtain ⟨x, hx⟩ : ∃ x, L[j]? = some x := ⟨_, List.getElem?_eq_getElem (by omega)⟩
        have hxi := hLi x (List.mem_of_getElem? hx)
        obtain ⟨y, hy⟩ : ∃ y, (incs (L.take j) (qsF n l.sum l))[x.i.toNat]? = some y := ⟨_, List.getElem?_eq_getElem (by omega)⟩
        have hyb := hib y (List.mem_of_getElem? hy)
        have hin := (incs_take (o := qsF n l.sum l) hx).trans (modify_set hy)
        have hxt : ((x.i.toNat : Nat) : Int) = x.i := by omega
        simp (maxDischargeDepth := 9) only [↓gB, gV, gT, reduceIte, reduceCtorEq, Nat.reduceEqDiff, Nat.reduceAdd, Nat.reduceSub, Nat.reduceLeDiff, Nat.reduceLT, Int.reduceEq, Nat.reduceMul, f21, f5, f0, f1, f19, f20, c1, hsw, hnw, f32, f0, f5, f30, f31, f8, f9, c1, f10, f75, f8, f73, f74, c2]
        obtain ⟨x1, a1, s1, m1, rfl, rfl, e1⟩ := ht.at (j) (by omega) 2 rfl
        simp (maxDischargeDepth := 9) only [↓gB, gV, gT, reduceIte, reduceCtorEq, Nat.reduceEqDiff, Nat.reduceAdd, Nat.reduceSub, Nat.reduceLeDiff, Nat.reduceLT, Int.reduceEq, Nat.reduceMul, f21, f5, f0, f1, f19, f20, c1, hsw, hnw, f32, f0, f5, f30, f31, f8, c1, f10, f75, f8, f74, c2, f9, f73, e1]
        refine vguard_intro (by simp) ?_
        refine Yn2 fun r1 h1 => ?_
        simp (maxDischargeDepth := 9) only [↓gB, gV, gT, reduceIte, reduceCtorEq, Nat.reduceEqDiff, Nat.reduceAdd, Nat.reduceSub, Nat.reduceLeDiff, Nat.reduceLT, Int.reduceEq, Nat.reduceMul, f21, f5, f0, f1, f19, f20, c1, hsw, hnw, f32, f0, f5, f30, f31, f8, c1, f10, f75, f8, f74, c2, f9, f73, e1, h1]
        obtain rfl : x = x1 := by rw [hx] at m1; cases m1; rfl
        obtain ⟨x2, a2, s2, m2, rfl, ⟨rfl, w2⟩, e2⟩ := ho.at1 ((Int.toNat (x.i))) (by omega) rfl
        simp (maxDischargeDepth := 9) only [↓gB, gV, gT, reduceIte, reduceCtorEq, Nat.reduceEqDiff, Nat.reduceAdd, Nat.reduceSub, Nat.reduceLeDiff, Nat.reduceLT, Int.reduceEq, Nat.reduceMul, f21, f5, f0, f1, f19, f20, c1, hsw, hnw, f32, f0, f5, f30, f31, c1, f10, f75, f74, c2, f9, f73, h1, e1, f8, f8, e2]
        refine vguard_intro (by omega) ?_
        refine vguard_intro (by omega) ?_
        obtain rfl : y = x2 := by rw [hy] at m2; cases m2; rfl
        have hyw : IntKind.i64.wrap (y + 1) = y + 1 := wrap_id (by omega)
        focus
          simp (maxDischargeDepth := 9) only [↓gB, gV, gT, reduceIte, reduceCtorEq, Nat.reduceEqDiff, Nat.reduceAdd, Nat.reduceSub, Nat.reduceLeDiff, Nat.reduceLT, Int.reduceEq, Nat.reduceMul, f21, f5, f0, f1, f19, f20, c1, hsw, hnw, f32, f0, f5, f30, f31, c1, f10, f75, f74, c2, f9, f73, h1, e1, f8, f8, e2, hyw]
          refine Yrow1 (Row.put _ h1 ho) rfl (by first | omega | (simp only [List.length_set]; omega)) (fun _ _ => ⟨rfl, (by first | assumption | (unfold i64 at *; omega))⟩) fun G1 w1 i1 k1 kn1 l1 => ?_
          replace hle := l1 (GH.le.trans hle (le_put h1 _))
          replace ht := RSl.ile (RSl.put _ h1 ht) i1
          simp (maxDischargeDepth := 9) only [↓gB, gV, gT, reduceIte, reduceCtorEq, Nat.reduceEqDiff, Nat.reduceAdd, Nat.reduceSub, Nat.reduceLeDiff, Nat.reduceLT, Int.reduceEq, Nat.reduceMul, f21, f5, f0, f1, f19, f20, c1, hsw, hnw, f32, f0, f5, f30, f31, c1, f10, f75, f74, c2, f9, f73, h1, e1, f8, f8, e2, hyw, kn1]
          have q1 : Go.IntKind.i64.wrap (↑j + 1) = ↑j + 1 := wrap_id (by omega)
          simp (maxDischargeDepth := 9) only [↓gB, gV, gT, reduceIte, reduceCtorEq, Nat.reduceEqDiff, Nat.reduceAdd, Nat.reduceSub, Nat.reduceLeDiff, Nat.reduceLT, Int.reduceEq, Nat.reduceMul, f21, f5, f0, f1, f19, f20, c1, hsw, hnw, f32, f0, f5, f30, f31, c1, f10, f75, f74, c2, f9, f73, h1, e1, f8, f8, e2, hyw, kn1, q1]
          rw [N_lp]
          refine ⟨_, ?_, _, sub_refl _, j + 1, rfl, ?_, ?_, ?_, ?_, by simp (maxDischargeDepth := 9) only [↓gB, gV, gT, reduceIte, reduceCtorEq, Nat.reduceEqDiff, Nat.reduceAdd, Nat.reduceSub, Nat.reduceLeDiff, Nat.reduceLT, Int.reduceEq, Nat.reduceMul, f21, f5, f0, f1, f19, f20, c1, hsw, hnw, f32, f0, f5, f30, f31, c1, f10, f75, f74, c2, f9, f73, h1, e1, f8, f8, e2, hyw, kn1, q1, nat_succ, and_self]⟩
          · omega
          · omega
          · (rw [hin]; assumption; done)
          · assumption
          · assumption
      · simp (maxDischargeDepth := 9) only [↓gB, gV, gT, reduceIte, reduceCtorEq, Nat.reduceEqDiff, Nat.reduceAdd, Nat.reduceSub, Nat.reduceLeDiff, Nat.reduceLT, Int.reduceEq, Nat.reduceMul, f21, f5, f0, f1, f19, f20, c1, hsw, hnw, f32, f0, f5, f30, f31, f8, f9, c1, f10, f75, f8, f73, f74, c2]
        have e2 : L.take j = L := List.take_of_length_le (by omega)
        rw [e2, ← hdiv] at ho
        obtain ⟨G4, hs4, hl4, hr4⟩ := ho.fin hle
        have hdl : (divideF n l).length = (qsF n l.sum l).length := by rw [hdiv, incs_len]
        exact Kup_gives hs4 hl4 hr4
end Go.Proofs.YtnlbapfbdabjaaaDoor
namespace Go.Proofs.YtnlbapfbdabjaaaDoor
open Go Go.GL
attribute [local irreducible] Ycall GCalls
set_option maxRecDepth 10000
set_option maxHeartbeats 0
theorem p53 {G0 : GH} {v w : Value} {l m : List Int} (hv : RSl Rp.int G0 v l) (hw : RSl Rp.int G0 w m) (hn : (l.length : Int) ≤ 9223372036854775807) : Pure Tryd.prog G0 53 [v, w] (.bool (decide (l = m))) := by
  intro G hG; replace hv := hv.le hG; replace hw := hw.le hG
  clear hG G0
  refine enter Tryd.func53 26 #[.tmp 4] rfl Tryd.ntmps53 rfl (by decide +kernel) rfl ?_
  obtain ⟨a, c, rfl⟩ := hv.val
  obtain ⟨b, d, rfl⟩ := hw.val
  simp (maxDischargeDepth := 9) only [↓gB, gV, gT, reduceIte, reduceCtorEq, Nat.reduceEqDiff, Nat.reduceAdd, Nat.reduceSub, Nat.reduceLeDiff, Nat.reduceLT, Int.reduceEq, Nat.reduceMul]
  refine Xc_split _ _ _ _ _ (fun hlen => ?_) (fun hlen => ?_)
  · simp (maxDischargeDepth := 9) only [↓gB, gV, gT, reduceIte, reduceCtorEq, Nat.reduceEqDiff, Nat.reduceAdd, Nat.reduceSub, Nat.reduceLeDiff, Nat.reduceLT, Int.reduceEq, Nat.reduceMul]
    refine Kup_val (le_refl _) ?_
    have hne : l ≠ m := by (rintro rfl; exact hlen rfl)
    simp [hne]
  · simp (maxDischargeDepth := 9) only [↓gB, gV, gT, reduceIte, reduceCtorEq, Nat.reduceEqDiff, Nat.reduceAdd, Nat.reduceSub, Nat.reduceLeDiff, Nat.reduceLT, Int.reduceEq, Nat.reduceMul]
    focus
      refine Xloop_intro _ _ _ _ _ (fun k f G' => ∃ (i : Nat), k = l.length - i ∧ (i ≤ l.length) ∧ (l.take i = m.take i) ∧ (G = G') ∧ f 13 = V i ∧ f 0 = Go.Value.slice a l.length c ∧ f 1 = Go.Value.slice b m.length d ∧ f 12 = Go.Value.int Go.IntKind.i64 ↑l.length) _ ⟨0, rfl, ?_, ?_, rfl, by simp (maxDischargeDepth := 9) only [↓gB, gV, gT, reduceIte, reduceCtorEq, Nat.reduceEqDiff, Nat.reduceAdd, Nat.reduceSub, Nat.reduceLeDiff, Nat.reduceLT, Int.reduceEq, Nat.reduceMul, and_self]⟩ ?_
      · omega
      · rfl
      rintro k f G' ⟨i, rfl, hi, h, rfl, f13, f0, f1, f12⟩
    focus
      simp (maxDischargeDepth := 9) only [↓gB, gV, gT, reduceIte, reduceCtorEq, Nat.reduceEqDiff, Nat.reduceAdd, Nat.reduceSub, Nat.reduceLeDiff, Nat.reduceLT, Int.reduceEq, Nat.reduceMul, f13, f0, f1, f12]
      refine Xc_split _ _ _ _ _ (fun c1 => ?_) (fun c1 => ?_)
      rotate_left 1
      focus
        simp (maxDischargeDepth := 9) only [↓gB, gV, gT, reduceIte, reduceCtorEq, Nat.reduceEqDiff, Nat.reduceAdd, Nat.reduceSub, Nat.reduceLeDiff, Nat.reduceLT, Int.reduceEq, Nat.reduceMul, f13, f0, f1, f12, c1]
        refine Kup_val (le_refl _) ?_
        focus ((have e : l = m := by (rw [← List.take_of_length_le (l := l) (i := i) (by omega), h, List.take_of_length_le (by omega)])); simp [e]; done)
      rotate_right 1
      simp (maxDischargeDepth := 9) only [↓gB, gV, gT, reduceIte, reduceCtorEq, Nat.reduceEqDiff, Nat.reduceAdd, Nat.reduceSub, Nat.reduceLeDiff, Nat.reduceLT, Int.reduceEq, Nat.reduceMul, f13, f0, f1, f12, c1]
      refine Xdraw_intro [0, 1, 2, 3, 4, 5, 6, 7, 8] mixed (by kernel_rfl) (by decide +kernel) ?_
      simp (maxDischargeDepth := 9) only [↓gB, gV, gT, reduceIte, reduceCtorEq, Nat.reduceEqDiff, Nat.reduceAdd, Nat.reduceSub, Nat.reduceLeDiff, Nat.reduceLT, Int.reduceEq, Nat.reduceMul, f13, f0, f1, f12, c1]
      obtain ⟨x1, a1, s1, m1, rfl, ⟨rfl, w1⟩, e1⟩ := hv.at1 (i) (by omega) rfl
      simp (maxDischargeDepth := 9) only [↓gB, gV, gT, reduceIte, reduceCtorEq, Nat.reduceEqDiff, Nat.reduceAdd, Nat.reduceSub, Nat.reduceLeDiff, Nat.reduceLT, Int.reduceEq, Nat.reduceMul, f13, f1, f12, c1, f0, e1]
      refine vguard_intro (by simp) ?_
      obtain ⟨x2, a2, s2, m2, rfl, ⟨rfl, w2⟩, e2⟩ := hw.at1 (i) (by omega) rfl
      simp (maxDischargeDepth := 9) only [↓gB, gV, gT, reduceIte, reduceCtorEq, Nat.reduceEqDiff, Nat.reduceAdd, Nat.reduceSub, Nat.reduceLeDiff, Nat.reduceLT, Int.reduceEq, Nat.reduceMul, f13, f12, c1, f0, e1, f1, e2]
      refine vguard_intro (by omega) ?_
      refine Xc_split _ _ _ _ _ (fun c2 => ?_) (fun c2 => ?_)
      rotate_left 1
      focus
        simp (maxDischargeDepth := 9) only [↓gB, gV, gT, reduceIte, reduceCtorEq, Nat.reduceEqDiff, Nat.reduceAdd, Nat.reduceSub, Nat.reduceLeDiff, Nat.reduceLT, Int.reduceEq, Nat.reduceMul, f13, f12, c1, f0, e1, f1, e2, c2]
        have q1 : Go.IntKind.i64.wrap (↑i + 1) = ↑i + 1 := wrap_id (by omega)
        simp (maxDischargeDepth := 9) only [↓gB, gV, gT, reduceIte, reduceCtorEq, Nat.reduceEqDiff, Nat.reduceAdd, Nat.reduceSub, Nat.reduceLeDiff, Nat.reduceLT, Int.reduceEq, Nat.reduceMul, f13, f12, c1, f0, e1, f1, e2, c2, q1]
        rw [N_lp]
        refine ⟨_, ?_, _, ?_, i + 1, rfl, ?_, ?_, rfl, by simp (maxDischargeDepth := 9) only [↓gB, gV, gT, reduceIte, reduceCtorEq, Nat.reduceEqDiff, Nat.reduceAdd, Nat.reduceSub, Nat.reduceLeDiff, Nat.reduceLT, Int.reduceEq, Nat.reduceMul, f13, f12, c1, f0, e1, f1, e2, c2, q1, nat_succ, and_self]⟩
        · omega
        · exact sub_refl _
        · omega
        · (rw [take_at m1, take_at m2, h, show x1 = x2 by first | assumption | omega]; done)
      rotate_right 1
      simp (maxDischargeDepth := 9) only [↓gB, gV, gT, reduceIte, reduceCtorEq, Nat.reduceEqDiff, Nat.reduceAdd, Nat.reduceSub, Nat.reduceLeDiff, Nat.reduceLT, Int.reduceEq, Nat.reduceMul, f13, f12, c1, f0, e1, f1, e2, c2]
      refine Kup_val (le_refl _) ?_
      focus ((have e : l ≠ m := by (rintro rfl; rw [m1] at m2; cases m2; simp_all)); simp [e]; done)
def partsOk (l : List Int) : Bool := l.all fun p => within p 0 1000000000
def divideE (n : Int) (l : List Int) : Int := if within n 0 1000000000 = false then 1 else if 1000 < l.length then 2 else if partsOk l = false then 1 else if l.sum = 0 then 8 else 0
theorem parts_b {l : List Int} (h : partsOk l = true) : ∀ p ∈ l, 0 ≤ p ∧ p ≤ 1000000000 := fun p hp => within_iff.1 (List.all_eq_true.1 h p hp)
theorem g51 {G0 : GH} {n : Int} {v : Value} {l : List Int} (hv : RSl Rp.int G0 v l) (hlen : l.length < 20) : Gives Tryd.prog G0 51 [V n, v] (fun u G' => ∃ x, RSl Rp.int G' x (if divideE n l = 0 then divideF n l else []) ∧ u = .tuple #[x, V (divideE n l)]) := by
  intro G hG; replace hv := hv.le hG
  clear hG G0
  refine enter Tryd.func51 31 #[.tmp 4, .tmp 5] rfl Tryd.ntmps51 rfl (by decide +kernel) rfl ?_
  obtain ⟨a, c, rfl⟩ := hv.val
  cases hn : within n 0 1000000000
  · have e : divideE n l = 1 := by simp [divideE, hn]
    simp (maxDischargeDepth := 9) only [↓gB, gV, gT, reduceIte, reduceCtorEq, Nat.reduceEqDiff, Nat.reduceAdd, Nat.reduceSub, Nat.reduceLeDiff, Nat.reduceLT, Int.reduceEq, Nat.reduceMul, hn, e]
    refine Ycp (p74) ?_
    simp (maxDischargeDepth := 9) only [↓gB, gV, gT, reduceIte, reduceCtorEq, Nat.reduceEqDiff, Nat.reduceAdd, Nat.reduceSub, Nat.reduceLeDiff, Nat.reduceLT, Int.reduceEq, Nat.reduceMul, hn, e]
    exact Kup_gives (sub_refl _) (le_refl _) ⟨_, RSl.nil _ _, rfl⟩
  · have hnb := within_iff.1 hn
    simp (maxDischargeDepth := 9) only [↓gB, gV, gT, reduceIte, reduceCtorEq, Nat.reduceEqDiff, Nat.reduceAdd, Nat.reduceSub, Nat.reduceLeDiff, Nat.reduceLT, Int.reduceEq, Nat.reduceMul, hn]
    refine Ycp (p74) ?_
    simp (maxDischargeDepth := 9) only [↓gB, gV, gT, reduceIte, reduceCtorEq, Nat.reduceEqDiff, Nat.reduceAdd, Nat.reduceSub, Nat.reduceLeDiff, Nat.reduceLT, Int.reduceEq, Nat.reduceMul, hn]
    refine Xc_neg _ _ _ _ _ (by omega) ?_
    simp (maxDischargeDepth := 9) only [↓gB, gV, gT, reduceIte, reduceCtorEq, Nat.reduceEqDiff, Nat.reduceAdd, Nat.reduceSub, Nat.reduceLeDiff, Nat.reduceLT, Int.reduceEq, Nat.reduceMul, hn]
    focus
      refine Xloop_intro _ _ _ _ _ (fun k f G' => ∃ (i : Nat), k = l.length - i ∧ (i ≤ l.length) ∧ (partsOk (l.take i) = true) ∧ (G = G') ∧ f 16 = V i ∧ f 6 = V (l.take i).sum ∧ f 0 = Go.GL.V n ∧ f 1 = Go.Value.slice a l.length c ∧ f 14 = Go.Value.slice a l.length c ∧ f 15 = Go.Value.int Go.IntKind.i64 ↑l.length) _ ⟨0, rfl, ?_, ?_, rfl, by simp (maxDischargeDepth := 9) only [↓gB, gV, gT, reduceIte, reduceCtorEq, Nat.reduceEqDiff, Nat.reduceAdd, Nat.reduceSub, Nat.reduceLeDiff, Nat.reduceLT, Int.reduceEq, Nat.reduceMul, hn, List.sum_nil, and_self]⟩ ?_
      · omega
      · rfl
      rintro k f G' ⟨i, rfl, hi, hp, rfl, f16, f6, f0, f1, f14, f15⟩
    have hb := sum_b (parts_b hp)
    have hlt : (l.take i).length ≤ i := by rw [List.length_take]; omega
    simp (maxDischargeDepth := 9) only [↓gB, gV, gT, reduceIte, reduceCtorEq, Nat.reduceEqDiff, Nat.reduceAdd, Nat.reduceSub, Nat.reduceLeDiff, Nat.reduceLT, Int.reduceEq, Nat.reduceMul, hn, hp, f16, f6, f0, f1, f14, f15]
    refine Xc_split _ _ _ _ _ (fun c1 => ?_) (fun c1 => ?_)
    · obtain ⟨x, hx⟩ : ∃ x, l[i]? = some x := ⟨_, List.getElem?_eq_getElem (by omega)⟩
      have hst := sum_take hx
      simp (maxDischargeDepth := 9) only [↓gB, gV, gT, reduceIte, reduceCtorEq, Nat.reduceEqDiff, Nat.reduceAdd, Nat.reduceSub, Nat.reduceLeDiff, Nat.reduceLT, Int.reduceEq, Nat.reduceMul, hn, hp, f16, f6, f0, f1, f14, f15, c1]
      obtain ⟨x1, a1, s1, m1, rfl, ⟨rfl, w1⟩, e1⟩ := hv.at1 (i) (by omega) rfl
      simp (maxDischargeDepth := 9) only [↓gB, gV, gT, reduceIte, reduceCtorEq, Nat.reduceEqDiff, Nat.reduceAdd, Nat.reduceSub, Nat.reduceLeDiff, Nat.reduceLT, Int.reduceEq, Nat.reduceMul, hn, hp, f16, f6, f0, f15, c1, f1, f14, e1]
      refine vguard_intro (by simp) ?_
      refine Ycp (p74) ?_
      simp (maxDischargeDepth := 9) only [↓gB, gV, gT, reduceIte, reduceCtorEq, Nat.reduceEqDiff, Nat.reduceAdd, Nat.reduceSub, Nat.reduceLeDiff, Nat.reduceLT, Int.reduceEq, Nat.reduceMul, hn, hp, f16, f6, f0, f15, c1, f1, f14, e1]
      obtain rfl : x = x1 := by rw [hx] at m1; cases m1; rfl
      cases hxw : within x 0 1000000000
      · have e : divideE n l = 1 := by
          have : partsOk l = false := by
            unfold partsOk; rw [List.all_eq_false]; exact ⟨x, List.mem_of_getElem? hx, by simp [hxw]⟩
          have h0 : ¬ 1000 < l.length := by omega
          simp [divideE, hn, this, h0]
        simp (maxDischargeDepth := 9) only [↓gB, gV, gT, reduceIte, reduceCtorEq, Nat.reduceEqDiff, Nat.reduceAdd, Nat.reduceSub, Nat.reduceLeDiff, Nat.reduceLT, Int.reduceEq, Nat.reduceMul, hn, hp, f16, f6, f0, f15, c1, f1, f14, e1, hxw, e]
        exact Kup_gives (sub_refl _) (le_refl _) ⟨_, RSl.nil _ _, rfl⟩
      · have hxb := within_iff.1 hxw
        have hp' : partsOk (l.take (i + 1)) = true := by unfold partsOk at *; rw [take_at hx, List.all_append, hp]; simp [hxw]
        focus
          simp (maxDischargeDepth := 9) only [↓gB, gV, gT, reduceIte, reduceCtorEq, Nat.reduceEqDiff, Nat.reduceAdd, Nat.reduceSub, Nat.reduceLeDiff, Nat.reduceLT, Int.reduceEq, Nat.reduceMul, hn, hp, f16, f6, f0, f15, c1, f1, f14, e1, hxw, hp', hst]
          have q1 : Go.IntKind.i64.wrap ((List.take i l).sum + x) = (List.take i l).sum + x := wrap_id (by omega)
          simp (maxDischargeDepth := 9) only [↓gB, gV, gT, reduceIte, reduceCtorEq, Nat.reduceEqDiff, Nat.reduceAdd, Nat.reduceSub, Nat.reduceLeDiff, Nat.reduceLT, Int.reduceEq, Nat.reduceMul, hn, hp, f16, f6, f0, f15, c1, f1, f14, e1, hxw, hp', q1, hst]
          have q2 : Go.IntKind.i64.wrap (↑i + 1) = ↑i + 1 := wrap_id (by omega)
          simp (maxDischargeDepth := 9) only [↓gB, gV, gT, reduceIte, reduceCtorEq, Nat.reduceEqDiff, Nat.reduceAdd, Nat.reduceSub, Nat.reduceLeDiff, Nat.reduceLT, Int.reduceEq, Nat.reduceMul, hn, hp, f16, f6, f0, f15, c1, f1, f14, e1, hxw, hp', q1, q2, hst]
          rw [N_lp]
          refine ⟨_, ?_, _, ?_, i + 1, rfl, ?_, ?_, rfl, by simp (maxDischargeDepth := 9) only [↓gB, gV, gT, reduceIte, reduceCtorEq, Nat.reduceEqDiff, Nat.reduceAdd, Nat.reduceSub, Nat.reduceLeDiff, Nat.reduceLT, Int.reduceEq, Nat.reduceMul, hn, hp, f16, f6, f0, f15, c1, f1, f14, e1, hxw, hp', q1, q2, hst, nat_succ, and_self]⟩
          · omega
          · exact sub_refl _
          · omega
          · assumption
    · have e2 : l.take i = l := List.take_of_length_le (by omega)
      rw [e2] at hp f6 hb
      have h0 : ¬ 1000 < l.length := by omega
      by_cases c2 : l.sum = 0
      · have e : divideE n l = 8 := by simp [divideE, hn, hp, c2, h0]
        simp (maxDischargeDepth := 9) only [↓gB, gV, gT, reduceIte, reduceCtorEq, Nat.reduceEqDiff, Nat.reduceAdd, Nat.reduceSub, Nat.reduceLeDiff, Nat.reduceLT, Int.reduceEq, Nat.reduceMul, hn, hp, f16, f6, f0, f1, f14, f15, c1, c2, e]
        exact Kup_gives (sub_refl _) (le_refl _) ⟨_, RSl.nil _ _, rfl⟩
      · have e : divideE n l = 0 := by simp [divideE, hn, hp, c2, h0]
        have hs0 : 0 < l.sum := by omega
        have hpb := parts_b hp
        simp (maxDischargeDepth := 9) only [↓gB, gV, gT, reduceIte, reduceCtorEq, Nat.reduceEqDiff, Nat.reduceAdd, Nat.reduceSub, Nat.reduceLeDiff, Nat.reduceLT, Int.reduceEq, Nat.reduceMul, hn, hp, f16, f6, f0, f1, f14, f15, c1, c2, e]
        refine Ycg (g106 (by assumption) (by omega) (by omega) (by assumption) (by assumption) (by assumption)) ?_ ?_
        · exact upRSl _ _
        intro u1 G1 l1 w1
        replace hv := RSl.le hv l1
        obtain ⟨aw1, cw1, rfl⟩ := RSl.val w1
        simp (maxDischargeDepth := 9) only [↓gB, gV, gT, reduceIte, reduceCtorEq, Nat.reduceEqDiff, Nat.reduceAdd, Nat.reduceSub, Nat.reduceLeDiff, Nat.reduceLT, Int.reduceEq, Nat.reduceMul, hn, hp, f16, f6, f0, f1, f14, f15, c1, c2, e]
        exact Kup_gives (sub_refl _) (by assumption) ⟨_, by assumption, rfl⟩
end Go.Proofs.YtnlbapfbdabjaaaDoor
namespace Go.Proofs.YtnlbapfbdabjaaaDoor
open Go Go.GL
attribute [local irreducible] Ycall GCalls
set_option maxRecDepth 10000
set_option maxHeartbeats 0
theorem pr1 : divideE 10 [1, 1, 1] = 0 := by decide
theorem pr2 : divideF 10 [1, 1, 1] = [4, 3, 3] := by decide
theorem p23 {G0 : GH}   : Pure Tryd.prog G0 23 [] (.bool true) := by
  intro G hG
  clear hG G0
  refine enter Tryd.func23 15 #[.tmp 0] rfl Tryd.ntmps23 rfl (by decide +kernel) rfl ?_
  simp (maxDischargeDepth := 9) only [↓gB, gV, gT, reduceIte, reduceCtorEq, Nat.reduceEqDiff, Nat.reduceAdd, Nat.reduceSub, Nat.reduceLeDiff, Nat.reduceLT, Int.reduceEq, Nat.reduceMul]
  refine Yn1 fun r1 h1 => ?_
  simp (maxDischargeDepth := 9) only [↓gB, gV, gT, reduceIte, reduceCtorEq, Nat.reduceEqDiff, Nat.reduceAdd, Nat.reduceSub, Nat.reduceLeDiff, Nat.reduceLT, Int.reduceEq, Nat.reduceMul, h1]
  have y1 := put_self G r1 (.cells [V 1, V 1, V 1].toArray 3 (0, 0), true)
  have l1 := le_put h1 (.cells [V 1, V 1, V 1].toArray 3 (0, 0), true)
  generalize G.put r1 (.cells [V 1, V 1, V 1].toArray 3 (0, 0), true) = G1 at *
  obtain ⟨G2, hs, hv, hk, hil, hle⟩ := frz_list (ρ := Rp.int) (xs := [1, 1, 1]) y1 (cells1 (enc := V) (by simp [Rp.int, i64]))
  refine Ycsub hs ?_
  have hl := hle G l1 h1
  refine Ycg (g51 (by assumption) (by decide)) ?_ ?_
  · exact upPair _ _ _
  intro u3 G3 l3 w3
  replace hv := RSl.le hv l3
  replace hl := GH.le.trans hl l3
  obtain ⟨z3, w3', rfl⟩ := w3
  simp only [pr1, pr2, reduceIte] at w3'
  obtain ⟨aw3', cw3', rfl⟩ := RSl.val w3'
  simp (maxDischargeDepth := 9) only [↓gB, gV, gT, reduceIte, reduceCtorEq, Nat.reduceEqDiff, Nat.reduceAdd, Nat.reduceSub, Nat.reduceLeDiff, Nat.reduceLT, Int.reduceEq, Nat.reduceMul, h1, y1, hk, pr1, pr2]
  refine Yn1 fun r2 h2 => ?_
  simp (maxDischargeDepth := 9) only [↓gB, gV, gT, reduceIte, reduceCtorEq, Nat.reduceEqDiff, Nat.reduceAdd, Nat.reduceSub, Nat.reduceLeDiff, Nat.reduceLT, Int.reduceEq, Nat.reduceMul, h1, y1, hk, h2, pr1, pr2]
  have y2 := put_self G3 r2 (.cells [V 4, V 3, V 3].toArray 3 (0, 0), true)
  have l2 := le_put h2 (.cells [V 4, V 3, V 3].toArray 3 (0, 0), true)
  have w1 : RSl Rp.int G3 (.slice aw3' 3 cw3') [4, 3, 3] := by first | exact w3' | (simp only [pr1, pr2, if_true] at w3'; exact w3')
  replace w1 := RSl.le w1 l2
  have l4 := hl.trans l2
  have h3 := hl.none h2
  generalize G3.put r2 (.cells [V 4, V 3, V 3].toArray 3 (0, 0), true) = G4 at *
  obtain ⟨G5, hs5, hv5, hk5, hil5, hle5⟩ := frz_list (ρ := Rp.int) (xs := [4, 3, 3]) y2 (cells1 (enc := V) (by simp [Rp.int, i64]))
  refine Ycsub hs5 ?_
  replace hl := hle5 G l4 h3
  replace w1 := RSl.ile w1 hil5
  refine Ycp (p53 (by assumption) (by assumption) (by decide)) ?_
  simp (maxDischargeDepth := 9) only [↓gB, gV, gT, reduceIte, reduceCtorEq, Nat.reduceEqDiff, Nat.reduceAdd, Nat.reduceSub, Nat.reduceLeDiff, Nat.reduceLT, Int.reduceEq, Nat.reduceMul, h1, y1, hk, h2, h3, y2, hk5, pr1, pr2]
  exact Kup_val (by simp (maxDischargeDepth := 9) only [le_self, le_puts, le_put0, h1, l1, l3, h2, h3, l2, l4, hl]) rfl
end Go.Proofs.YtnlbapfbdabjaaaDoor
namespace Go.Proofs.YtnlbapfbdabjaaaDoor
open Go Go.GL
attribute [local irreducible] Ycall GCalls
set_option maxRecDepth 10000
set_option maxHeartbeats 0
def rI : Rp Int where
  sz := 1
  R _ n cs := cs = [.int .i64 n]
  len := by rintro G x cs rfl; rfl
  ile := by rintro G G' x cs h hv; exact hv
  one := by rintro G x cs rfl; rfl
theorem RSl.ints {G : GH} {v : Value} {l : List Int} (h : RSl Rp.int G v l) : RSl rI G v l := by
  obtain ⟨a, n, c, hv, h1, h2, h3⟩ := h
  exact ⟨a, n, c, hv, h1, h2, fun hn => let ⟨ad, e, hs, hc⟩ := h3 hn; ⟨ad, e, hs, fun i x hx => let ⟨cs, h4, h5⟩ := hc i x hx; ⟨cs, h4, h5.1⟩⟩⟩
theorem p114 {G0 : GH} {v : Value} {l : List Int} {q : Int → Bool} {g : Nat} {fa fb : List Value} (hv : RSl rI G0 v l) (hg : GL.Enters Tryd.prog g) (hn : (l.length : Int) ≤ 9223372036854775807) (hf : ∀ (G0' : GH), G0.le G0' → ∀ x cs, (rI).R G0' x cs → Pure Tryd.prog G0' g (fa ++ [V x] ++ fb) (.bool (q x))) : Pure Tryd.prog G0 114 [v, .func (.func g) fa.toArray fb.toArray] (V (match l.findIdx? q with | some i => (i : Int) | none => -1)) := by
  intro G hG; replace hv := hv.le hG; replace hf := fun (G' : GH) (h : G.le G') => hf G' (hG.trans h)
  clear hG G0
  refine enter Tryd.func114 19 #[.tmp 4] rfl Tryd.ntmps114 rfl (by decide +kernel) rfl ?_
  obtain ⟨a, c, rfl⟩ := hv.val
  have hg' := eq_true hg
  simp (maxDischargeDepth := 9) only [↓gB, gV, gT, reduceIte, reduceCtorEq, Nat.reduceEqDiff, Nat.reduceAdd, Nat.reduceSub, Nat.reduceLeDiff, Nat.reduceLT, Int.reduceEq, Nat.reduceMul]
  focus
    refine Xloop_intro _ _ _ _ _ (fun k f G' => ∃ (i : Nat), k = l.length - i ∧ (i ≤ l.length) ∧ ((l.take i).findIdx? q = none) ∧ (G = G') ∧ f 8 = V i ∧ f 0 = Go.Value.slice a l.length c ∧ f 1 = Go.Value.func (Go.Fn.func g) fa.toArray fb.toArray ∧ f 7 = Go.Value.int Go.IntKind.i64 ↑l.length) _ ⟨0, rfl, ?_, ?_, rfl, by simp (maxDischargeDepth := 9) only [↓gB, gV, gT, reduceIte, reduceCtorEq, Nat.reduceEqDiff, Nat.reduceAdd, Nat.reduceSub, Nat.reduceLeDiff, Nat.reduceLT, Int.reduceEq, Nat.reduceMul, and_self]⟩ ?_
    · omega
    · rfl
    rintro k f G' ⟨i, rfl, hi, h, rfl, f8, f0, f1, f7⟩
  simp (maxDischargeDepth := 9) only [↓gB, gV, gT, reduceIte, reduceCtorEq, Nat.reduceEqDiff, Nat.reduceAdd, Nat.reduceSub, Nat.reduceLeDiff, Nat.reduceLT, Int.reduceEq, Nat.reduceMul, f8, f0, f1, f7]
  refine Xc_split _ _ _ _ _ (fun c1 => ?_) (fun c1 => ?_)
  · simp (maxDischargeDepth := 9) only [↓gB, gV, gT, reduceIte, reduceCtorEq, Nat.reduceEqDiff, Nat.reduceAdd, Nat.reduceSub, Nat.reduceLeDiff, Nat.reduceLT, Int.reduceEq, Nat.reduceMul, f8, f0, f1, f7, c1, hg']
    obtain ⟨x1, a1, s1, m1, rfl, rfl, e1⟩ := hv.at1 (i) (by omega) rfl
    simp (maxDischargeDepth := 9) only [↓gB, gV, gT, reduceIte, reduceCtorEq, Nat.reduceEqDiff, Nat.reduceAdd, Nat.reduceSub, Nat.reduceLeDiff, Nat.reduceLT, Int.reduceEq, Nat.reduceMul, f8, f1, f7, c1, f0, e1, hg']
    refine vguard_intro (by simp) ?_
    refine Ycp (hf _ (le_refl _) x1 _ rfl) ?_
    cases hq : q x1
    · focus
        simp (maxDischargeDepth := 9) only [↓gB, gV, gT, reduceIte, reduceCtorEq, Nat.reduceEqDiff, Nat.reduceAdd, Nat.reduceSub, Nat.reduceLeDiff, Nat.reduceLT, Int.reduceEq, Nat.reduceMul, f8, f1, f7, c1, f0, e1, hq]
        have q1 : Go.IntKind.i64.wrap (↑i + 1) = ↑i + 1 := wrap_id (by omega)
        simp (maxDischargeDepth := 9) only [↓gB, gV, gT, reduceIte, reduceCtorEq, Nat.reduceEqDiff, Nat.reduceAdd, Nat.reduceSub, Nat.reduceLeDiff, Nat.reduceLT, Int.reduceEq, Nat.reduceMul, f8, f1, f7, c1, f0, e1, hq, q1]
        rw [N_lp]
        refine ⟨_, ?_, _, ?_, i + 1, rfl, ?_, ?_, rfl, by simp (maxDischargeDepth := 9) only [↓gB, gV, gT, reduceIte, reduceCtorEq, Nat.reduceEqDiff, Nat.reduceAdd, Nat.reduceSub, Nat.reduceLeDiff, Nat.reduceLT, Int.reduceEq, Nat.reduceMul, f8, f1, f7, c1, f0, e1, hq, q1, nat_succ, and_self]⟩
        · omega
        · exact sub_refl _
        · omega
        · ((rw [take_at m1, List.findIdx?_append, h]; simp [hq]); done)
    · have e := drop_at m1
      have e2 : l.findIdx? q = some i := by
        rw [← List.take_append_drop i l, List.findIdx?_append, h, e, List.findIdx?_cons, hq]; simp; omega
      simp (maxDischargeDepth := 9) only [↓gB, gV, gT, reduceIte, reduceCtorEq, Nat.reduceEqDiff, Nat.reduceAdd, Nat.reduceSub, Nat.reduceLeDiff, Nat.reduceLT, Int.reduceEq, Nat.reduceMul, f8, f1, f7, c1, f0, e1, hq]
      exact Kup_val (le_refl _) (by simp [*])
  · have e : l.findIdx? q = none := by rw [← List.take_of_length_le (l := l) (i := i) (by omega), h]
    simp (maxDischargeDepth := 9) only [↓gB, gV, gT, reduceIte, reduceCtorEq, Nat.reduceEqDiff, Nat.reduceAdd, Nat.reduceSub, Nat.reduceLeDiff, Nat.reduceLT, Int.reduceEq, Nat.reduceMul, f8, f0, f1, f7, c1]
    exact Kup_val (le_refl _) (by simp [*])
theorem p66 {G0 : GH} {v : Value} {l : List Int} {q : Int → Bool} {g : Nat} {fa fb : List Value} (hv : RSl rI G0 v l) (hg : GL.Enters Tryd.prog g) (hn : (l.length : Int) ≤ 9223372036854775807) (hf : ∀ (G0' : GH), G0.le G0' → ∀ x cs, (rI).R G0' x cs → Pure Tryd.prog G0' g (fa ++ [V x] ++ fb) (.bool (q x))) : Pure Tryd.prog G0 66 [v, .func (.func g) fa.toArray fb.toArray] (.bool (l.any q)) := by
  intro G hG; replace hv := hv.le hG; replace hf := fun (G' : GH) (h : G.le G') => hf G' (hG.trans h)
  clear hG G0
  refine enter Tryd.func66 9 #[.tmp 4] rfl Tryd.ntmps66 rfl (by decide +kernel) rfl ?_
  have e : decide (0 ≤ (match l.findIdx? q with | some i => (i : Int) | none => -1)) = l.any q := by
    cases h : l.findIdx? q with
    | none =>
      rw [List.findIdx?_eq_none_iff] at h
      simp; exact h
    | some i =>
      rw [List.findIdx?_eq_some_iff_getElem] at h
      obtain ⟨hi, h1, _⟩ := h
      have : l.any q = true := List.any_eq_true.2 ⟨l[i], by simp, h1⟩
      rw [this]; simp
  simp (maxDischargeDepth := 9) only [↓gB, gV, gT, reduceIte, reduceCtorEq, Nat.reduceEqDiff, Nat.reduceAdd, Nat.reduceSub, Nat.reduceLeDiff, Nat.reduceLT, Int.reduceEq, Nat.reduceMul, e]
  refine Ycp (p114 (by assumption) (by assumption) (by assumption) (by assumption)) ?_
  simp (maxDischargeDepth := 9) only [↓gB, gV, gT, reduceIte, reduceCtorEq, Nat.reduceEqDiff, Nat.reduceAdd, Nat.reduceSub, Nat.reduceLeDiff, Nat.reduceLT, Int.reduceEq, Nat.reduceMul, e]
  exact Kup_val (le_refl _) rfl
structure SPrice where
  Key : ByteArray
  Base : Int
  Metre : Int
  Minute : Int
  Cross : Int
  From : Int
  To : Int
  Peak : Int
  Least : Int
  Most : Int
deriving DecidableEq
def rPrice : Rp SPrice where
  sz := 10
  R G x cs := cs = [.string x.Key, .int .i64 x.Base, .int .i64 x.Metre, .int .i64 x.Minute, .int .i64 x.Cross, .int .i64 x.From, .int .i64 x.To, .int .i64 x.Peak, .int .i64 x.Least, .int .i64 x.Most]
  len := by rintro G x cs rfl; rfl
  ile := by rintro G G' x cs hl hv; exact hv
  one := by rintro G x cs rfl; rfl
def cents (n : Int) : Bool := within n 0 1000000000
theorem p87 {G0 : GH} {n : Int}  : Pure Tryd.prog G0 87 [V n] (.bool (!cents n)) := by
  intro G hG
  clear hG G0
  refine enter Tryd.func87 5 #[.tmp 2] rfl Tryd.ntmps87 rfl (by decide +kernel) rfl ?_
  simp (maxDischargeDepth := 9) only [↓gB, gV, gT, reduceIte, reduceCtorEq, Nat.reduceEqDiff, Nat.reduceAdd, Nat.reduceSub, Nat.reduceLeDiff, Nat.reduceLT, Int.reduceEq, Nat.reduceMul, cents]
  refine Ycp (p74) ?_
  simp (maxDischargeDepth := 9) only [↓gB, gV, gT, reduceIte, reduceCtorEq, Nat.reduceEqDiff, Nat.reduceAdd, Nat.reduceSub, Nat.reduceLeDiff, Nat.reduceLT, Int.reduceEq, Nat.reduceMul, cents]
  exact Kup_val (le_refl _) rfl
theorem p88 {G0 : GH} {n : Int}  : Pure Tryd.prog G0 88 [V n] (.bool (!cents n)) := by
  intro G hG
  clear hG G0
  refine enter Tryd.func88 6 #[.tmp 2] rfl Tryd.ntmps88 rfl (by decide +kernel) rfl ?_
  simp (maxDischargeDepth := 9) only [↓gB, gV, gT, reduceIte, reduceCtorEq, Nat.reduceEqDiff, Nat.reduceAdd, Nat.reduceSub, Nat.reduceLeDiff, Nat.reduceLT, Int.reduceEq, Nat.reduceMul, cents]
  refine Ycp (p68) ?_
  simp (maxDischargeDepth := 9) only [↓gB, gV, gT, reduceIte, reduceCtorEq, Nat.reduceEqDiff, Nat.reduceAdd, Nat.reduceSub, Nat.reduceLeDiff, Nat.reduceLT, Int.reduceEq, Nat.reduceMul, cents]
  exact Kup_val (le_refl _) rfl
theorem conOwn {G0 : GH} {g : Nat} {q : Int → Bool} (hg : GL.Enters Tryd.prog g) (hf : ∀ (G : GH) (x : Int), Pure Tryd.prog G g [V x] (.bool (q x))) {l : List Int} {r : Nat} {t : TypeId} (hn : (l.length : Int) ≤ 9223372036854775807) (hr : G0 r = some (.cells (l.map V).toArray t (0, 0), true)) : Pure Tryd.prog G0 66 [.slice (some ⟨r, 0, none⟩) l.length l.length, .func (.func g) #[] #[]] (.bool (l.any q)) :=
  Pure.own hr (p66 (fa := []) (fb := []) (frz_at G0 r (cells1 (ρ := rI) (enc := V) (fun _ _ => rfl))) hg hn (fun G' h x cs hx => hf G' x))
theorem p66b {G0 : GH} {a b c d e f : Int} {r g : Nat} {t : TypeId} (hr : G0 r = some (.cells [V a, V b, V c, V d, V e, V f].toArray t (0, 0), true)) (hg : g = 87 ∨ g = 88) : Pure Tryd.prog G0 66 [.slice (some ⟨r, 0, none⟩) 6 6, .func (.func g) #[] #[]] (.bool ([a, b, c, d, e, f].any fun n => !cents n)) := by
  rcases hg with rfl | rfl
  · exact conOwn (l := [a, b, c, d, e, f]) (of_eq_true en87) (fun G x => p87) (by simp) hr
  · exact conOwn (l := [a, b, c, d, e, f]) (of_eq_true en88) (fun G x => p88) (by simp) hr
def priceArg (p : SPrice) : Bool := !([p.Base, p.Metre, p.Minute, p.Cross, p.Least, p.Most].any fun n => !cents n) && (within p.From 0 p.To && decide (p.To ≤ 24) && within p.Peak 0 1000 && decide (p.Least ≤ p.Most))
def pricesF : Option SPrice → List SPrice → Int
  | _, [] => 0
  | q, p :: l => if isKey p.Key = false then 5 else if q.any (fun q => !sLt q.Key p.Key) then 7 else if priceArg p = false then 1 else pricesF (some p) l
def checkPrices (l : List SPrice) : Int := if 50 < l.length then 2 else pricesF none l
theorem pf5 {l : List SPrice} {i : Nat} {x : SPrice} (h0 : ¬ 50 < l.length) (h : pricesF none l = pricesF (prevOf l i) (l.drop i)) (m : l[i]? = some x) (c : isKey x.Key = false) : checkPrices l = 5 := by unfold checkPrices; rw [if_neg h0, h, drop_at m]; simp [pricesF, c]
theorem pf7 {l : List SPrice} {i : Nat} {x : SPrice} (h0 : ¬ 50 < l.length) (h : pricesF none l = pricesF (prevOf l i) (l.drop i)) (m : l[i]? = some x) (c : isKey x.Key = true) (c2 : (prevOf l i).any (fun q => !sLt q.Key x.Key) = true) : checkPrices l = 7 := by unfold checkPrices; rw [if_neg h0, h, drop_at m]; simp only [pricesF, c, c2, if_true]; rfl
theorem pf1 {l : List SPrice} {i : Nat} {x : SPrice} (h0 : ¬ 50 < l.length) (h : pricesF none l = pricesF (prevOf l i) (l.drop i)) (m : l[i]? = some x) (c : isKey x.Key = true) (c2 : (prevOf l i).any (fun q => !sLt q.Key x.Key) = false) (c3 : priceArg x = false) : checkPrices l = 1 := by unfold checkPrices; rw [if_neg h0, h, drop_at m]; simp only [pricesF, c, c2, c3, if_true]; rfl
theorem pfn {l : List SPrice} {i : Nat} {x : SPrice} (h : pricesF none l = pricesF (prevOf l i) (l.drop i)) (m : l[i]? = some x) (c : isKey x.Key = true) (c2 : (prevOf l i).any (fun q => !sLt q.Key x.Key) = false) (c3 : priceArg x = true) : pricesF none l = pricesF (prevOf l (i + 1)) (l.drop (i + 1)) := by
  rw [h, drop_at m, prevOf_s, m]; simp only [pricesF, c, c2, c3]; rfl
theorem pf0 {l : List SPrice} {i : Nat} (h0 : ¬ 50 < l.length) (h : pricesF none l = pricesF (prevOf l i) (l.drop i)) (c : ¬ (i : Int) < l.length) : checkPrices l = 0 := by unfold checkPrices; rw [if_neg h0, h, List.drop_eq_nil_of_le (by omega)]; rfl
theorem pa1 {p : SPrice} (h : ([p.Base, p.Metre, p.Minute, p.Cross, p.Least, p.Most].any fun n => !cents n) = true) : priceArg p = false := by unfold priceArg; rw [h]; rfl
theorem pa2 {p : SPrice} (h : within p.From 0 p.To = false ∨ 24 < p.To ∨ within p.Peak 0 1000 = false ∨ p.Most < p.Least) : priceArg p = false := by
  unfold priceArg; rcases h with h | h | h | h
  · simp [h]
  · simp [show ¬ p.To ≤ 24 by omega]
  · simp [h]
  · simp [show ¬ p.Least ≤ p.Most by omega]
theorem pa0 {p : SPrice} (h : ([p.Base, p.Metre, p.Minute, p.Cross, p.Least, p.Most].any fun n => !cents n) = false) (h1 : within p.From 0 p.To = true) (h2 : ¬ 24 < p.To) (h3 : within p.Peak 0 1000 = true) (h4 : ¬ p.Most < p.Least) : priceArg p = true := by unfold priceArg; rw [h, h1, h3, decide_eq_true (show p.To ≤ 24 by omega), decide_eq_true (show p.Least ≤ p.Most by omega)]; rfl
theorem pfa {l : List SPrice} {i : Nat} {x : SPrice} (h0 : ¬ 50 < l.length) (h : pricesF none l = pricesF (prevOf l i) (l.drop i)) (m : l[i]? = some x) (c : isKey x.Key = true) (c2 : (prevOf l i).any (fun q => !sLt q.Key x.Key) = false) (h1 : ([x.Base, x.Metre, x.Minute, x.Cross, x.Least, x.Most].any fun n => !cents n) = true ∨ within x.From 0 x.To = false ∨ 24 < x.To ∨ within x.Peak 0 1000 = false ∨ x.Most < x.Least) : checkPrices l = 1 := pf1 h0 h m c c2 (h1.elim pa1 pa2)
theorem p34 {G0 : GH} {v : Value} {l : List SPrice} (hv : RSl rPrice G0 v l) (hn : (l.length : Int) ≤ 9223372036854775807) : Pure Tryd.prog G0 34 [v] (V (checkPrices l)) := by
  intro G hG; replace hv := hv.le hG
  clear hG G0
  refine enter Tryd.func34 73 #[.tmp 2] rfl Tryd.ntmps34 rfl (by decide +kernel) rfl ?_
  obtain ⟨a, c, rfl⟩ := hv.val
  simp (maxDischargeDepth := 9) only [↓gB, gV, gT, reduceIte, reduceCtorEq, Nat.reduceEqDiff, Nat.reduceAdd, Nat.reduceSub, Nat.reduceLeDiff, Nat.reduceLT, Int.reduceEq, Nat.reduceMul]
  refine Xc_split _ _ _ _ _ (fun c0 => ?_) (fun c0 => ?_)
  · simp (maxDischargeDepth := 9) only [↓gB, gV, gT, reduceIte, reduceCtorEq, Nat.reduceEqDiff, Nat.reduceAdd, Nat.reduceSub, Nat.reduceLeDiff, Nat.reduceLT, Int.reduceEq, Nat.reduceMul, c0]
    refine Kup_val (le_refl _) ?_
    focus ((have : 50 < l.length := by omega); simp [checkPrices, this]; done)
  · have h0' : ¬ 50 < l.length := by omega
    simp (maxDischargeDepth := 9) only [↓gB, gV, gT, reduceIte, reduceCtorEq, Nat.reduceEqDiff, Nat.reduceAdd, Nat.reduceSub, Nat.reduceLeDiff, Nat.reduceLT, Int.reduceEq, Nat.reduceMul, c0]
    focus
      refine Xloop_intro _ _ _ _ _ (fun k f G' => ∃ (i : Nat), k = l.length - i ∧ (i ≤ l.length) ∧ (pricesF none l = pricesF (prevOf l i) (l.drop i)) ∧ (RSl rPrice G' (.slice a l.length c) l) ∧ (G.le G') ∧ f 10 = V i ∧ f 0 = Go.Value.slice a l.length c ∧ f 8 = Go.Value.slice a l.length c ∧ f 9 = Go.Value.int Go.IntKind.i64 ↑l.length) _ ⟨0, rfl, ?_, ?_, ?_, ?_, by simp (maxDischargeDepth := 9) only [↓gB, gV, gT, reduceIte, reduceCtorEq, Nat.reduceEqDiff, Nat.reduceAdd, Nat.reduceSub, Nat.reduceLeDiff, Nat.reduceLT, Int.reduceEq, Nat.reduceMul, c0, and_self]⟩ ?_
      · omega
      · rfl
      · assumption
      · exact le_refl _
      rintro k f G' ⟨i, rfl, hi, h, hv, hle, f10, f0, f8, f9⟩
    simp (maxDischargeDepth := 9) only [↓gB, gV, gT, reduceIte, reduceCtorEq, Nat.reduceEqDiff, Nat.reduceAdd, Nat.reduceSub, Nat.reduceLeDiff, Nat.reduceLT, Int.reduceEq, Nat.reduceMul, c0, f10, f0, f8, f9]
    refine Xc_split _ _ _ _ _ (fun c1 => ?_) (fun c1 => ?_)
    · focus
        simp (maxDischargeDepth := 9) only [↓gB, gV, gT, reduceIte, reduceCtorEq, Nat.reduceEqDiff, Nat.reduceAdd, Nat.reduceSub, Nat.reduceLeDiff, Nat.reduceLT, Int.reduceEq, Nat.reduceMul, c0, f10, f0, f8, f9, c1]
        obtain ⟨x1, a1, s1, m1, rfl, rfl, e1⟩ := hv.at (i) (by omega) 10 rfl
        simp (maxDischargeDepth := 9) only [↓gB, gV, gT, reduceIte, reduceCtorEq, Nat.reduceEqDiff, Nat.reduceAdd, Nat.reduceSub, Nat.reduceLeDiff, Nat.reduceLT, Int.reduceEq, Nat.reduceMul, c0, f10, f9, c1, f0, f8, e1]
        refine vguard_intro (by simp) ?_
        refine Yn2 fun r1 h1 => ?_
        simp (maxDischargeDepth := 9) only [↓gB, gV, gT, reduceIte, reduceCtorEq, Nat.reduceEqDiff, Nat.reduceAdd, Nat.reduceSub, Nat.reduceLeDiff, Nat.reduceLT, Int.reduceEq, Nat.reduceMul, c0, f10, f9, c1, f0, f8, e1, h1]
        refine Ycp (p78) ?_
        simp (maxDischargeDepth := 9) only [↓gB, gV, gT, reduceIte, reduceCtorEq, Nat.reduceEqDiff, Nat.reduceAdd, Nat.reduceSub, Nat.reduceLeDiff, Nat.reduceLT, Int.reduceEq, Nat.reduceMul, c0, f10, f9, c1, f0, f8, e1, h1]
        rcases bool_tf (Go.Proofs.YtnlbapfbdabjaaaDoor.isKey x1.Key) with c2 | c2
        rotate_left 1
        focus
          simp (maxDischargeDepth := 9) only [↓gB, gV, gT, reduceIte, reduceCtorEq, Nat.reduceEqDiff, Nat.reduceAdd, Nat.reduceSub, Nat.reduceLeDiff, Nat.reduceLT, Int.reduceEq, Nat.reduceMul, c0, f10, f9, c1, f0, f8, e1, h1, c2]
          refine Kup_val (by simp (maxDischargeDepth := 9) only [le_self, le_puts, le_put0, hle, h1]) ?_
          focus (rw [pf5 h0' h m1 (by assumption)]; done)
        rotate_right 1
        simp (maxDischargeDepth := 9) only [↓gB, gV, gT, reduceIte, reduceCtorEq, Nat.reduceEqDiff, Nat.reduceAdd, Nat.reduceSub, Nat.reduceLeDiff, Nat.reduceLT, Int.reduceEq, Nat.reduceMul, c0, f10, f9, c1, f0, f8, e1, h1, c2]
        refine Xdraw_intro [0, 1, 2, 3, 4, 5, 6, 7, 8, 9, 10, 11, 12, 13] mixed (by kernel_rfl) (by decide +kernel) ?_
        simp (maxDischargeDepth := 9) only [↓gB, gV, gT, reduceIte, reduceCtorEq, Nat.reduceEqDiff, Nat.reduceAdd, Nat.reduceSub, Nat.reduceLeDiff, Nat.reduceLT, Int.reduceEq, Nat.reduceMul, c0, f10, f9, c1, f0, f8, e1, h1, c2]
        by_cases c3 : (0 : Int) < ↑i
        rotate_left 1
        focus
          simp (maxDischargeDepth := 9) only [↓gB, gV, gT, reduceIte, reduceCtorEq, Nat.reduceEqDiff, Nat.reduceAdd, Nat.reduceSub, Nat.reduceLeDiff, Nat.reduceLT, Int.reduceEq, Nat.reduceMul, c0, f10, f9, c1, f0, f8, e1, h1, c2, c3]
          refine Yn1 fun r2 h2 => ?_
          have n2 := h2
          simp only [put_none_eq, ne_eq] at n2
          simp (maxDischargeDepth := 9) only [↓gB, gV, gT, reduceIte, reduceCtorEq, Nat.reduceEqDiff, Nat.reduceAdd, Nat.reduceSub, Nat.reduceLeDiff, Nat.reduceLT, Int.reduceEq, Nat.reduceMul, c0, f10, f9, c1, f0, f8, e1, h1, c2, c3, h2, n2]
          refine Ycp (p66b (by exact put_self _ _ _) (by omega)) ?_
          simp (maxDischargeDepth := 9) only [↓gB, gV, gT, reduceIte, reduceCtorEq, Nat.reduceEqDiff, Nat.reduceAdd, Nat.reduceSub, Nat.reduceLeDiff, Nat.reduceLT, Int.reduceEq, Nat.reduceMul, c0, f10, f9, c1, f0, f8, e1, h1, c2, c3, h2, n2]
          rcases bool_tf ([x1.Base, x1.Metre, x1.Minute, x1.Cross, x1.Least, x1.Most].any fun n ↦ !Go.Proofs.YtnlbapfbdabjaaaDoor.cents n) with c4 | c4
          rotate_left 1
          focus
            simp (maxDischargeDepth := 9) only [↓gB, gV, gT, reduceIte, reduceCtorEq, Nat.reduceEqDiff, Nat.reduceAdd, Nat.reduceSub, Nat.reduceLeDiff, Nat.reduceLT, Int.reduceEq, Nat.reduceMul, c0, f10, f9, c1, f0, f8, e1, h1, c2, c3, h2, n2, c4]
            refine Ycp (p74) ?_
            simp (maxDischargeDepth := 9) only [↓gB, gV, gT, reduceIte, reduceCtorEq, Nat.reduceEqDiff, Nat.reduceAdd, Nat.reduceSub, Nat.reduceLeDiff, Nat.reduceLT, Int.reduceEq, Nat.reduceMul, c0, f10, f9, c1, f0, f8, e1, h1, c2, c3, h2, n2, c4]
            rcases bool_tf (Go.Proofs.YtnlbapfbdabjaaaDoor.within x1.From 0 x1.To) with c5 | c5
            rotate_left 1
            focus
              simp (maxDischargeDepth := 9) only [↓gB, gV, gT, reduceIte, reduceCtorEq, Nat.reduceEqDiff, Nat.reduceAdd, Nat.reduceSub, Nat.reduceLeDiff, Nat.reduceLT, Int.reduceEq, Nat.reduceMul, c0, f10, f9, c1, f0, f8, e1, h1, c2, c3, h2, n2, c4, c5]
              refine Kup_val (by simp (maxDischargeDepth := 9) only [le_self, le_puts, le_put0, hle, h1, h2, n2]) ?_
              focus (rw [pfa h0' h m1 (by assumption) (pv_z (by assumption)) (by first | exact .inl (by assumption) | exact .inr (.inl (by assumption)) | exact .inr (.inr (.inl (by assumption))) | exact .inr (.inr (.inr (.inl (by assumption)))) | exact .inr (.inr (.inr (.inr (by assumption)))))]; done)
            rotate_right 1
            simp (maxDischargeDepth := 9) only [↓gB, gV, gT, reduceIte, reduceCtorEq, Nat.reduceEqDiff, Nat.reduceAdd, Nat.reduceSub, Nat.reduceLeDiff, Nat.reduceLT, Int.reduceEq, Nat.reduceMul, c0, f10, f9, c1, f0, f8, e1, h1, c2, c3, h2, n2, c4, c5]
            by_cases c6 : (24 : Int) < x1.To
            rotate_left 1
            focus
              simp (maxDischargeDepth := 9) only [↓gB, gV, gT, reduceIte, reduceCtorEq, Nat.reduceEqDiff, Nat.reduceAdd, Nat.reduceSub, Nat.reduceLeDiff, Nat.reduceLT, Int.reduceEq, Nat.reduceMul, c0, f10, f9, c1, f0, f8, e1, h1, c2, c3, h2, n2, c4, c5, c6]
              refine Ycp (p74) ?_
              simp (maxDischargeDepth := 9) only [↓gB, gV, gT, reduceIte, reduceCtorEq, Nat.reduceEqDiff, Nat.reduceAdd, Nat.reduceSub, Nat.reduceLeDiff, Nat.reduceLT, Int.reduceEq, Nat.reduceMul, c0, f10, f9, c1, f0, f8, e1, h1, c2, c3, h2, n2, c4, c5, c6]
              rcases bool_tf (Go.Proofs.YtnlbapfbdabjaaaDoor.within x1.Peak 0 1000) with c7 | c7
              rotate_left 1
              focus
                simp (maxDischargeDepth := 9) only [↓gB, gV, gT, reduceIte, reduceCtorEq, Nat.reduceEqDiff, Nat.reduceAdd, Nat.reduceSub, Nat.reduceLeDiff, Nat.reduceLT, Int.reduceEq, Nat.reduceMul, c0, f10, f9, c1, f0, f8, e1, h1, c2, c3, h2, n2, c4, c5, c6, c7]
                refine Kup_val (by simp (maxDischargeDepth := 9) only [le_self, le_puts, le_put0, hle, h1, h2, n2]) ?_
                focus (rw [pfa h0' h m1 (by assumption) (pv_z (by assumption)) (by first | exact .inl (by assumption) | exact .inr (.inl (by assumption)) | exact .inr (.inr (.inl (by assumption))) | exact .inr (.inr (.inr (.inl (by assumption)))) | exact .inr (.inr (.inr (.inr (by assumption)))))]; done)
              rotate_right 1
              simp (maxDischargeDepth := 9) only [↓gB, gV, gT, reduceIte, reduceCtorEq, Nat.reduceEqDiff, Nat.reduceAdd, Nat.reduceSub, Nat.reduceLeDiff, Nat.reduceLT, Int.reduceEq, Nat.reduceMul, c0, f10, f9, c1, f0, f8, e1, h1, c2, c3, h2, n2, c4, c5, c6, c7]
              refine Xc_split _ _ _ _ _ (fun c8 => ?_) (fun c8 => ?_)
              rotate_left 1
              focus
                simp (maxDischargeDepth := 9) only [↓gB, gV, gT, reduceIte, reduceCtorEq, Nat.reduceEqDiff, Nat.reduceAdd, Nat.reduceSub, Nat.reduceLeDiff, Nat.reduceLT, Int.reduceEq, Nat.reduceMul, c0, f10, f9, c1, f0, f8, e1, h1, c2, c3, h2, n2, c4, c5, c6, c7, c8]
                have q1 : Go.IntKind.i64.wrap (↑i + 1) = ↑i + 1 := wrap_id (by omega)
                simp (maxDischargeDepth := 9) only [↓gB, gV, gT, reduceIte, reduceCtorEq, Nat.reduceEqDiff, Nat.reduceAdd, Nat.reduceSub, Nat.reduceLeDiff, Nat.reduceLT, Int.reduceEq, Nat.reduceMul, c0, f10, f9, c1, f0, f8, e1, h1, c2, c3, h2, n2, c4, c5, c6, c7, c8, q1]
                rw [N_lp]
                refine ⟨_, ?_, _, sub_refl _, i + 1, rfl, ?_, ?_, ?_, ?_, by simp (maxDischargeDepth := 9) only [↓gB, gV, gT, reduceIte, reduceCtorEq, Nat.reduceEqDiff, Nat.reduceAdd, Nat.reduceSub, Nat.reduceLeDiff, Nat.reduceLT, Int.reduceEq, Nat.reduceMul, c0, f10, f9, c1, f0, f8, e1, h1, c2, c3, h2, n2, c4, c5, c6, c7, c8, q1, nat_succ, and_self]⟩
                · omega
                · omega
                · (exact pfn h m1 (by assumption) (pv_z (by assumption)) (pa0 (by assumption) (by assumption) (by assumption) (by assumption) (by assumption)); done)
                · exact RSl.put _ (by assumption) (RSl.put _ (by assumption) (by assumption))
                · (simp (maxDischargeDepth := 9) only [le_self, le_puts, le_put0, sub_self, sub_puts, sub_put0, hle, h1, h2, n2]; done)
              rotate_right 1
              simp (maxDischargeDepth := 9) only [↓gB, gV, gT, reduceIte, reduceCtorEq, Nat.reduceEqDiff, Nat.reduceAdd, Nat.reduceSub, Nat.reduceLeDiff, Nat.reduceLT, Int.reduceEq, Nat.reduceMul, c0, f10, f9, c1, f0, f8, e1, h1, c2, c3, h2, n2, c4, c5, c6, c7, c8]
              refine Kup_val (by simp (maxDischargeDepth := 9) only [le_self, le_puts, le_put0, hle, h1, h2, n2]) ?_
              focus (rw [pfa h0' h m1 (by assumption) (pv_z (by assumption)) (by first | exact .inl (by assumption) | exact .inr (.inl (by assumption)) | exact .inr (.inr (.inl (by assumption))) | exact .inr (.inr (.inr (.inl (by assumption)))) | exact .inr (.inr (.inr (.inr (by assumption)))))]; done)
            rotate_right 1
            simp (maxDischargeDepth := 9) only [↓gB, gV, gT, reduceIte, reduceCtorEq, Nat.reduceEqDiff, Nat.reduceAdd, Nat.reduceSub, Nat.reduceLeDiff, Nat.reduceLT, Int.reduceEq, Nat.reduceMul, c0, f10, f9, c1, f0, f8, e1, h1, c2, c3, h2, n2, c4, c5, c6]
            refine Kup_val (by simp (maxDischargeDepth := 9) only [le_self, le_puts, le_put0, hle, h1, h2, n2]) ?_
            focus (rw [pfa h0' h m1 (by assumption) (pv_z (by assumption)) (by first | exact .inl (by assumption) | exact .inr (.inl (by assumption)) | exact .inr (.inr (.inl (by assumption))) | exact .inr (.inr (.inr (.inl (by assumption)))) | exact .inr (.inr (.inr (.inr (by assumption)))))]; done)
          rotate_right 1
          simp (maxDischargeDepth := 9) only [↓gB, gV, gT, reduceIte, reduceCtorEq, Nat.reduceEqDiff, Nat.reduceAdd, Nat.reduceSub, Nat.reduceLeDiff, Nat.reduceLT, Int.reduceEq, Nat.reduceMul, c0, f10, f9, c1, f0, f8, e1, h1, c2, c3, h2, n2, c4]
          refine Kup_val (by simp (maxDischargeDepth := 9) only [le_self, le_puts, le_put0, hle, h1, h2, n2]) ?_
          focus (rw [pfa h0' h m1 (by assumption) (pv_z (by assumption)) (by first | exact .inl (by assumption) | exact .inr (.inl (by assumption)) | exact .inr (.inr (.inl (by assumption))) | exact .inr (.inr (.inr (.inl (by assumption)))) | exact .inr (.inr (.inr (.inr (by assumption)))))]; done)
        rotate_right 1
        simp (maxDischargeDepth := 9) only [↓gB, gV, gT, reduceIte, reduceCtorEq, Nat.reduceEqDiff, Nat.reduceAdd, Nat.reduceSub, Nat.reduceLeDiff, Nat.reduceLT, Int.reduceEq, Nat.reduceMul, c0, f10, f9, c1, f0, f8, e1, h1, c2, c3]
        have q1 : Go.IntKind.i64.wrap (↑i - 1) = ↑i - 1 := wrap_id (by omega)
        simp (maxDischargeDepth := 9) only [↓gB, gV, gT, reduceIte, reduceCtorEq, Nat.reduceEqDiff, Nat.reduceAdd, Nat.reduceSub, Nat.reduceLeDiff, Nat.reduceLT, Int.reduceEq, Nat.reduceMul, c0, f10, f9, c1, f0, f8, e1, h1, c2, c3, q1]
        refine vguard_intro (by omega) ?_
        obtain ⟨x2, s2, m2, rfl, e2⟩ := hv.at' (i - 1) (by omega) 10 rfl
        simp (maxDischargeDepth := 9) only [↓gB, gV, gT, reduceIte, reduceCtorEq, Nat.reduceEqDiff, Nat.reduceAdd, Nat.reduceSub, Nat.reduceLeDiff, Nat.reduceLT, Int.reduceEq, Nat.reduceMul, c0, f10, f9, c1, f0, f8, e1, h1, c2, c3, q1, e2]
        rcases bool_tf (Go.GL.sLt x2.Key x1.Key) with c4 | c4
        rotate_left 1
        focus
          simp (maxDischargeDepth := 9) only [↓gB, gV, gT, reduceIte, reduceCtorEq, Nat.reduceEqDiff, Nat.reduceAdd, Nat.reduceSub, Nat.reduceLeDiff, Nat.reduceLT, Int.reduceEq, Nat.reduceMul, c0, f10, f9, c1, f0, f8, e1, h1, c2, c3, q1, e2, c4]
          refine Kup_val (by simp (maxDischargeDepth := 9) only [le_self, le_puts, le_put0, hle, h1]) ?_
          focus (rw [pf7 h0' h m1 (by assumption) (pv_p (by assumption) m2 (by simp [*]))]; done)
        rotate_right 1
        simp (maxDischargeDepth := 9) only [↓gB, gV, gT, reduceIte, reduceCtorEq, Nat.reduceEqDiff, Nat.reduceAdd, Nat.reduceSub, Nat.reduceLeDiff, Nat.reduceLT, Int.reduceEq, Nat.reduceMul, c0, f10, f9, c1, f0, f8, e1, h1, c2, c3, q1, e2, c4]
        refine Yn1 fun r2 h2 => ?_
        have n2 := h2
        simp only [put_none_eq, ne_eq] at n2
        simp (maxDischargeDepth := 9) only [↓gB, gV, gT, reduceIte, reduceCtorEq, Nat.reduceEqDiff, Nat.reduceAdd, Nat.reduceSub, Nat.reduceLeDiff, Nat.reduceLT, Int.reduceEq, Nat.reduceMul, c0, f10, f9, c1, f0, f8, e1, h1, c2, c3, q1, e2, c4, h2, n2]
        refine Ycp (p66b (by exact put_self _ _ _) (by omega)) ?_
        simp (maxDischargeDepth := 9) only [↓gB, gV, gT, reduceIte, reduceCtorEq, Nat.reduceEqDiff, Nat.reduceAdd, Nat.reduceSub, Nat.reduceLeDiff, Nat.reduceLT, Int.reduceEq, Nat.reduceMul, c0, f10, f9, c1, f0, f8, e1, h1, c2, c3, q1, e2, c4, h2, n2]
        rcases bool_tf ([x1.Base, x1.Metre, x1.Minute, x1.Cross, x1.Least, x1.Most].any fun n ↦ !Go.Proofs.YtnlbapfbdabjaaaDoor.cents n) with c5 | c5
        rotate_left 1
        focus
          simp (maxDischargeDepth := 9) only [↓gB, gV, gT, reduceIte, reduceCtorEq, Nat.reduceEqDiff, Nat.reduceAdd, Nat.reduceSub, Nat.reduceLeDiff, Nat.reduceLT, Int.reduceEq, Nat.reduceMul, c0, f10, f9, c1, f0, f8, e1, h1, c2, c3, q1, e2, c4, h2, n2, c5]
          refine Ycp (p74) ?_
          simp (maxDischargeDepth := 9) only [↓gB, gV, gT, reduceIte, reduceCtorEq, Nat.reduceEqDiff, Nat.reduceAdd, Nat.reduceSub, Nat.reduceLeDiff, Nat.reduceLT, Int.reduceEq, Nat.reduceMul, c0, f10, f9, c1, f0, f8, e1, h1, c2, c3, q1, e2, c4, h2, n2, c5]
          rcases bool_tf (Go.Proofs.YtnlbapfbdabjaaaDoor.within x1.From 0 x1.To) with c6 | c6
          rotate_left 1
          focus
            simp (maxDischargeDepth := 9) only [↓gB, gV, gT, reduceIte, reduceCtorEq, Nat.reduceEqDiff, Nat.reduceAdd, Nat.reduceSub, Nat.reduceLeDiff, Nat.reduceLT, Int.reduceEq, Nat.reduceMul, c0, f10, f9, c1, f0, f8, e1, h1, c2, c3, q1, e2, c4, h2, n2, c5, c6]
            refine Kup_val (by simp (maxDischargeDepth := 9) only [le_self, le_puts, le_put0, hle, h1, h2, n2]) ?_
            focus (rw [pfa h0' h m1 (by assumption) (pv_p (by assumption) m2 (by simp [*])) (by first | exact .inl (by assumption) | exact .inr (.inl (by assumption)) | exact .inr (.inr (.inl (by assumption))) | exact .inr (.inr (.inr (.inl (by assumption)))) | exact .inr (.inr (.inr (.inr (by assumption)))))]; done)
          rotate_right 1
          simp (maxDischargeDepth := 9) only [↓gB, gV, gT, reduceIte, reduceCtorEq, Nat.reduceEqDiff, Nat.reduceAdd, Nat.reduceSub, Nat.reduceLeDiff, Nat.reduceLT, Int.reduceEq, Nat.reduceMul, c0, f10, f9, c1, f0, f8, e1, h1, c2, c3, q1, e2, c4, h2, n2, c5, c6]
          by_cases c7 : (24 : Int) < x1.To
          rotate_left 1
          focus
            simp (maxDischargeDepth := 9) only [↓gB, gV, gT, reduceIte, reduceCtorEq, Nat.reduceEqDiff, Nat.reduceAdd, Nat.reduceSub, Nat.reduceLeDiff, Nat.reduceLT, Int.reduceEq, Nat.reduceMul, c0, f10, f9, c1, f0, f8, e1, h1, c2, c3, q1, e2, c4, h2, n2, c5, c6, c7]
            refine Ycp (p74) ?_
            simp (maxDischargeDepth := 9) only [↓gB, gV, gT, reduceIte, reduceCtorEq, Nat.reduceEqDiff, Nat.reduceAdd, Nat.reduceSub, Nat.reduceLeDiff, Nat.reduceLT, Int.reduceEq, Nat.reduceMul, c0, f10, f9, c1, f0, f8, e1, h1, c2, c3, q1, e2, c4, h2, n2, c5, c6, c7]
            rcases bool_tf (Go.Proofs.YtnlbapfbdabjaaaDoor.within x1.Peak 0 1000) with c8 | c8
            rotate_left 1
            focus
              simp (maxDischargeDepth := 9) only [↓gB, gV, gT, reduceIte, reduceCtorEq, Nat.reduceEqDiff, Nat.reduceAdd, Nat.reduceSub, Nat.reduceLeDiff, Nat.reduceLT, Int.reduceEq, Nat.reduceMul, c0, f10, f9, c1, f0, f8, e1, h1, c2, c3, q1, e2, c4, h2, n2, c5, c6, c7, c8]
              refine Kup_val (by simp (maxDischargeDepth := 9) only [le_self, le_puts, le_put0, hle, h1, h2, n2]) ?_
              focus (rw [pfa h0' h m1 (by assumption) (pv_p (by assumption) m2 (by simp [*])) (by first | exact .inl (by assumption) | exact .inr (.inl (by assumption)) | exact .inr (.inr (.inl (by assumption))) | exact .inr (.inr (.inr (.inl (by assumption)))) | exact .inr (.inr (.inr (.inr (by assumption)))))]; done)
            rotate_right 1
            simp (maxDischargeDepth := 9) only [↓gB, gV, gT, reduceIte, reduceCtorEq, Nat.reduceEqDiff, Nat.reduceAdd, Nat.reduceSub, Nat.reduceLeDiff, Nat.reduceLT, Int.reduceEq, Nat.reduceMul, c0, f10, f9, c1, f0, f8, e1, h1, c2, c3, q1, e2, c4, h2, n2, c5, c6, c7, c8]
            refine Xc_split _ _ _ _ _ (fun c9 => ?_) (fun c9 => ?_)
            rotate_left 1
            focus
              simp (maxDischargeDepth := 9) only [↓gB, gV, gT, reduceIte, reduceCtorEq, Nat.reduceEqDiff, Nat.reduceAdd, Nat.reduceSub, Nat.reduceLeDiff, Nat.reduceLT, Int.reduceEq, Nat.reduceMul, c0, f10, f9, c1, f0, f8, e1, h1, c2, c3, q1, e2, c4, h2, n2, c5, c6, c7, c8, c9]
              have q2 : Go.IntKind.i64.wrap (↑i + 1) = ↑i + 1 := wrap_id (by omega)
              simp (maxDischargeDepth := 9) only [↓gB, gV, gT, reduceIte, reduceCtorEq, Nat.reduceEqDiff, Nat.reduceAdd, Nat.reduceSub, Nat.reduceLeDiff, Nat.reduceLT, Int.reduceEq, Nat.reduceMul, c0, f10, f9, c1, f0, f8, e1, h1, c2, c3, q1, e2, c4, h2, n2, c5, c6, c7, c8, c9, q2]
              rw [N_lp]
              refine ⟨_, ?_, _, sub_refl _, i + 1, rfl, ?_, ?_, ?_, ?_, by simp (maxDischargeDepth := 9) only [↓gB, gV, gT, reduceIte, reduceCtorEq, Nat.reduceEqDiff, Nat.reduceAdd, Nat.reduceSub, Nat.reduceLeDiff, Nat.reduceLT, Int.reduceEq, Nat.reduceMul, c0, f10, f9, c1, f0, f8, e1, h1, c2, c3, q1, e2, c4, h2, n2, c5, c6, c7, c8, c9, q2, nat_succ, and_self]⟩
              · omega
              · omega
              · (exact pfn h m1 (by assumption) (pv_p (by assumption) m2 (by simp [*])) (pa0 (by assumption) (by assumption) (by assumption) (by assumption) (by assumption)); done)
              · exact RSl.put _ (by assumption) (RSl.put _ (by assumption) (by assumption))
              · (simp (maxDischargeDepth := 9) only [le_self, le_puts, le_put0, sub_self, sub_puts, sub_put0, hle, h1, h2, n2]; done)
            rotate_right 1
            simp (maxDischargeDepth := 9) only [↓gB, gV, gT, reduceIte, reduceCtorEq, Nat.reduceEqDiff, Nat.reduceAdd, Nat.reduceSub, Nat.reduceLeDiff, Nat.reduceLT, Int.reduceEq, Nat.reduceMul, c0, f10, f9, c1, f0, f8, e1, h1, c2, c3, q1, e2, c4, h2, n2, c5, c6, c7, c8, c9]
            refine Kup_val (by simp (maxDischargeDepth := 9) only [le_self, le_puts, le_put0, hle, h1, h2, n2]) ?_
            focus (rw [pfa h0' h m1 (by assumption) (pv_p (by assumption) m2 (by simp [*])) (by first | exact .inl (by assumption) | exact .inr (.inl (by assumption)) | exact .inr (.inr (.inl (by assumption))) | exact .inr (.inr (.inr (.inl (by assumption)))) | exact .inr (.inr (.inr (.inr (by assumption)))))]; done)
          rotate_right 1
          simp (maxDischargeDepth := 9) only [↓gB, gV, gT, reduceIte, reduceCtorEq, Nat.reduceEqDiff, Nat.reduceAdd, Nat.reduceSub, Nat.reduceLeDiff, Nat.reduceLT, Int.reduceEq, Nat.reduceMul, c0, f10, f9, c1, f0, f8, e1, h1, c2, c3, q1, e2, c4, h2, n2, c5, c6, c7]
          refine Kup_val (by simp (maxDischargeDepth := 9) only [le_self, le_puts, le_put0, hle, h1, h2, n2]) ?_
          focus (rw [pfa h0' h m1 (by assumption) (pv_p (by assumption) m2 (by simp [*])) (by first | exact .inl (by assumption) | exact .inr (.inl (by assumption)) | exact .inr (.inr (.inl (by assumption))) | exact .inr (.inr (.inr (.inl (by assumption)))) | exact .inr (.inr (.inr (.inr (by assumption)))))]; done)
        rotate_right 1
        simp (maxDischargeDepth := 9) only [↓gB, gV, gT, reduceIte, reduceCtorEq, Nat.reduceEqDiff, Nat.reduceAdd, Nat.reduceSub, Nat.reduceLeDiff, Nat.reduceLT, Int.reduceEq, Nat.reduceMul, c0, f10, f9, c1, f0, f8, e1, h1, c2, c3, q1, e2, c4, h2, n2, c5]
        refine Kup_val (by simp (maxDischargeDepth := 9) only [le_self, le_puts, le_put0, hle, h1, h2, n2]) ?_
        focus (rw [pfa h0' h m1 (by assumption) (pv_p (by assumption) m2 (by simp [*])) (by first | exact .inl (by assumption) | exact .inr (.inl (by assumption)) | exact .inr (.inr (.inl (by assumption))) | exact .inr (.inr (.inr (.inl (by assumption)))) | exact .inr (.inr (.inr (.inr (by assumption)))))]; done)
    · simp (maxDischargeDepth := 9) only [↓gB, gV, gT, reduceIte, reduceCtorEq, Nat.reduceEqDiff, Nat.reduceAdd, Nat.reduceSub, Nat.reduceLeDiff, Nat.reduceLT, Int.reduceEq, Nat.reduceMul, c0, f10, f0, f8, f9, c1]
      refine Kup_val (by simp (maxDischargeDepth := 9) only [le_self, le_puts, le_put0, hle]) ?_
      focus (rw [pf0 h0' h c1]; done)
end Go.Proofs.YtnlbapfbdabjaaaDoor
namespace Go.Proofs.YtnlbapfbdabjaaaDoor
open Go Go.GL
attribute [local irreducible] Ycall GCalls
set_option maxRecDepth 10000
set_option maxHeartbeats 0
theorem p36 {G0 : GH} {v : Value} {l : List SPrice} (hv : RSl rPrice G0 v l) (hn : (l.length : Int) ≤ 9223372036854775807) : Pure Tryd.prog G0 36 [v] (V (checkPrices l)) := by
  intro G hG; replace hv := hv.le hG
  clear hG G0
  refine enter Tryd.func36 77 #[.tmp 2] rfl Tryd.ntmps36 rfl (by decide +kernel) rfl ?_
  obtain ⟨a, c, rfl⟩ := hv.val
  simp (maxDischargeDepth := 9) only [↓gB, gV, gT, reduceIte, reduceCtorEq, Nat.reduceEqDiff, Nat.reduceAdd, Nat.reduceSub, Nat.reduceLeDiff, Nat.reduceLT, Int.reduceEq, Nat.reduceMul]
  refine Xc_split _ _ _ _ _ (fun c0 => ?_) (fun c0 => ?_)
  · simp (maxDischargeDepth := 9) only [↓gB, gV, gT, reduceIte, reduceCtorEq, Nat.reduceEqDiff, Nat.reduceAdd, Nat.reduceSub, Nat.reduceLeDiff, Nat.reduceLT, Int.reduceEq, Nat.reduceMul, c0]
    refine Kup_val (le_refl _) ?_
    focus ((have : 50 < l.length := by omega); simp [checkPrices, this]; done)
  · have h0' : ¬ 50 < l.length := by omega
    simp (maxDischargeDepth := 9) only [↓gB, gV, gT, reduceIte, reduceCtorEq, Nat.reduceEqDiff, Nat.reduceAdd, Nat.reduceSub, Nat.reduceLeDiff, Nat.reduceLT, Int.reduceEq, Nat.reduceMul, c0]
    focus
      refine Xloop_intro _ _ _ _ _ (fun k f G' => ∃ (i : Nat), k = l.length - i ∧ (i ≤ l.length) ∧ (pricesF none l = pricesF (prevOf l i) (l.drop i)) ∧ (RSl rPrice G' (.slice a l.length c) l) ∧ (G.le G') ∧ f 11 = V i ∧ f 0 = Go.Value.slice a l.length c ∧ f 9 = Go.Value.slice a l.length c ∧ f 10 = Go.Value.int Go.IntKind.i64 ↑l.length) _ ⟨0, rfl, ?_, ?_, ?_, ?_, by simp (maxDischargeDepth := 9) only [↓gB, gV, gT, reduceIte, reduceCtorEq, Nat.reduceEqDiff, Nat.reduceAdd, Nat.reduceSub, Nat.reduceLeDiff, Nat.reduceLT, Int.reduceEq, Nat.reduceMul, c0, and_self]⟩ ?_
      · omega
      · rfl
      · assumption
      · exact le_refl _
      rintro k f G' ⟨i, rfl, hi, h, hv, hle, f11, f0, f9, f10⟩
    simp (maxDischargeDepth := 9) only [↓gB, gV, gT, reduceIte, reduceCtorEq, Nat.reduceEqDiff, Nat.reduceAdd, Nat.reduceSub, Nat.reduceLeDiff, Nat.reduceLT, Int.reduceEq, Nat.reduceMul, c0, f11, f0, f9, f10]
    refine Xc_split _ _ _ _ _ (fun c1 => ?_) (fun c1 => ?_)
    · focus
        simp (maxDischargeDepth := 9) only [↓gB, gV, gT, reduceIte, reduceCtorEq, Nat.reduceEqDiff, Nat.reduceAdd, Nat.reduceSub, Nat.reduceLeDiff, Nat.reduceLT, Int.reduceEq, Nat.reduceMul, c0, f11, f0, f9, f10, c1]
        obtain ⟨x1, a1, s1, m1, rfl, rfl, e1⟩ := hv.at (i) (by omega) 10 rfl
        simp (maxDischargeDepth := 9) only [↓gB, gV, gT, reduceIte, reduceCtorEq, Nat.reduceEqDiff, Nat.reduceAdd, Nat.reduceSub, Nat.reduceLeDiff, Nat.reduceLT, Int.reduceEq, Nat.reduceMul, c0, f11, f10, c1, f0, f9, e1]
        refine vguard_intro (by simp) ?_
        refine Yn2 fun r1 h1 => ?_
        simp (maxDischargeDepth := 9) only [↓gB, gV, gT, reduceIte, reduceCtorEq, Nat.reduceEqDiff, Nat.reduceAdd, Nat.reduceSub, Nat.reduceLeDiff, Nat.reduceLT, Int.reduceEq, Nat.reduceMul, c0, f11, f10, c1, f0, f9, e1, h1]
        refine Yn1 fun r2 h2 => ?_
        have n2 := h2
        simp only [put_none_eq, ne_eq] at n2
        simp (maxDischargeDepth := 9) only [↓gB, gV, gT, reduceIte, reduceCtorEq, Nat.reduceEqDiff, Nat.reduceAdd, Nat.reduceSub, Nat.reduceLeDiff, Nat.reduceLT, Int.reduceEq, Nat.reduceMul, c0, f11, f10, c1, f0, f9, e1, h1, h2, n2]
        refine Ycp (p77) ?_
        simp (maxDischargeDepth := 9) only [↓gB, gV, gT, reduceIte, reduceCtorEq, Nat.reduceEqDiff, Nat.reduceAdd, Nat.reduceSub, Nat.reduceLeDiff, Nat.reduceLT, Int.reduceEq, Nat.reduceMul, c0, f11, f10, c1, f0, f9, e1, h1, h2, n2]
        rcases bool_tf (Go.Proofs.YtnlbapfbdabjaaaDoor.isKey x1.Key) with c2 | c2
        rotate_left 1
        focus
          simp (maxDischargeDepth := 9) only [↓gB, gV, gT, reduceIte, reduceCtorEq, Nat.reduceEqDiff, Nat.reduceAdd, Nat.reduceSub, Nat.reduceLeDiff, Nat.reduceLT, Int.reduceEq, Nat.reduceMul, c0, f11, f10, c1, f0, f9, e1, h1, h2, n2, c2]
          refine Kup_val (by simp (maxDischargeDepth := 9) only [le_self, le_puts, le_put0, hle, h1, h2, n2]) ?_
          focus (rw [pf5 h0' h m1 (by assumption)]; done)
        rotate_right 1
        simp (maxDischargeDepth := 9) only [↓gB, gV, gT, reduceIte, reduceCtorEq, Nat.reduceEqDiff, Nat.reduceAdd, Nat.reduceSub, Nat.reduceLeDiff, Nat.reduceLT, Int.reduceEq, Nat.reduceMul, c0, f11, f10, c1, f0, f9, e1, h1, h2, n2, c2]
        refine Xdraw_intro [0, 1, 2, 3, 4, 5, 6, 7, 8, 9, 10, 11, 12, 13] mixed (by kernel_rfl) (by decide +kernel) ?_
        simp (maxDischargeDepth := 9) only [↓gB, gV, gT, reduceIte, reduceCtorEq, Nat.reduceEqDiff, Nat.reduceAdd, Nat.reduceSub, Nat.reduceLeDiff, Nat.reduceLT, Int.reduceEq, Nat.reduceMul, c0, f11, f10, c1, f0, f9, e1, h1, h2, n2, c2]
        by_cases c3 : (0 : Int) < ↑i
        rotate_left 1
        focus
          simp (maxDischargeDepth := 9) only [↓gB, gV, gT, reduceIte, reduceCtorEq, Nat.reduceEqDiff, Nat.reduceAdd, Nat.reduceSub, Nat.reduceLeDiff, Nat.reduceLT, Int.reduceEq, Nat.reduceMul, c0, f11, f10, c1, f0, f9, e1, h1, h2, n2, c2, c3]
          refine Ycp (p66b (by exact put_self _ _ _) (by omega)) ?_
          simp (maxDischargeDepth := 9) only [↓gB, gV, gT, reduceIte, reduceCtorEq, Nat.reduceEqDiff, Nat.reduceAdd, Nat.reduceSub, Nat.reduceLeDiff, Nat.reduceLT, Int.reduceEq, Nat.reduceMul, c0, f11, f10, c1, f0, f9, e1, h1, h2, n2, c2, c3]
          rcases bool_tf ([x1.Base, x1.Metre, x1.Minute, x1.Cross, x1.Least, x1.Most].any fun n ↦ !Go.Proofs.YtnlbapfbdabjaaaDoor.cents n) with c4 | c4
          rotate_left 1
          focus
            simp (maxDischargeDepth := 9) only [↓gB, gV, gT, reduceIte, reduceCtorEq, Nat.reduceEqDiff, Nat.reduceAdd, Nat.reduceSub, Nat.reduceLeDiff, Nat.reduceLT, Int.reduceEq, Nat.reduceMul, c0, f11, f10, c1, f0, f9, e1, h1, h2, n2, c2, c3, c4]
            refine Ycp (p68) ?_
            simp (maxDischargeDepth := 9) only [↓gB, gV, gT, reduceIte, reduceCtorEq, Nat.reduceEqDiff, Nat.reduceAdd, Nat.reduceSub, Nat.reduceLeDiff, Nat.reduceLT, Int.reduceEq, Nat.reduceMul, c0, f11, f10, c1, f0, f9, e1, h1, h2, n2, c2, c3, c4]
            rcases bool_tf (Go.Proofs.YtnlbapfbdabjaaaDoor.within x1.From 0 x1.To) with c5 | c5
            rotate_left 1
            focus
              simp (maxDischargeDepth := 9) only [↓gB, gV, gT, reduceIte, reduceCtorEq, Nat.reduceEqDiff, Nat.reduceAdd, Nat.reduceSub, Nat.reduceLeDiff, Nat.reduceLT, Int.reduceEq, Nat.reduceMul, c0, f11, f10, c1, f0, f9, e1, h1, h2, n2, c2, c3, c4, c5]
              refine Kup_val (by simp (maxDischargeDepth := 9) only [le_self, le_puts, le_put0, hle, h1, h2, n2]) ?_
              focus (rw [pfa h0' h m1 (by assumption) (pv_z (by assumption)) (by first | exact .inl (by assumption) | exact .inr (.inl (by assumption)) | exact .inr (.inr (.inl (by assumption))) | exact .inr (.inr (.inr (.inl (by assumption)))) | exact .inr (.inr (.inr (.inr (by assumption)))))]; done)
            rotate_right 1
            simp (maxDischargeDepth := 9) only [↓gB, gV, gT, reduceIte, reduceCtorEq, Nat.reduceEqDiff, Nat.reduceAdd, Nat.reduceSub, Nat.reduceLeDiff, Nat.reduceLT, Int.reduceEq, Nat.reduceMul, c0, f11, f10, c1, f0, f9, e1, h1, h2, n2, c2, c3, c4, c5]
            by_cases c6 : (24 : Int) < x1.To
            rotate_left 1
            focus
              simp (maxDischargeDepth := 9) only [↓gB, gV, gT, reduceIte, reduceCtorEq, Nat.reduceEqDiff, Nat.reduceAdd, Nat.reduceSub, Nat.reduceLeDiff, Nat.reduceLT, Int.reduceEq, Nat.reduceMul, c0, f11, f10, c1, f0, f9, e1, h1, h2, n2, c2, c3, c4, c5, c6]
              refine Ycp (p68) ?_
              simp (maxDischargeDepth := 9) only [↓gB, gV, gT, reduceIte, reduceCtorEq, Nat.reduceEqDiff, Nat.reduceAdd, Nat.reduceSub, Nat.reduceLeDiff, Nat.reduceLT, Int.reduceEq, Nat.reduceMul, c0, f11, f10, c1, f0, f9, e1, h1, h2, n2, c2, c3, c4, c5, c6]
              rcases bool_tf (Go.Proofs.YtnlbapfbdabjaaaDoor.within x1.Peak 0 1000) with c7 | c7
              rotate_left 1
              focus
                simp (maxDischargeDepth := 9) only [↓gB, gV, gT, reduceIte, reduceCtorEq, Nat.reduceEqDiff, Nat.reduceAdd, Nat.reduceSub, Nat.reduceLeDiff, Nat.reduceLT, Int.reduceEq, Nat.reduceMul, c0, f11, f10, c1, f0, f9, e1, h1, h2, n2, c2, c3, c4, c5, c6, c7]
                refine Kup_val (by simp (maxDischargeDepth := 9) only [le_self, le_puts, le_put0, hle, h1, h2, n2]) ?_
                focus (rw [pfa h0' h m1 (by assumption) (pv_z (by assumption)) (by first | exact .inl (by assumption) | exact .inr (.inl (by assumption)) | exact .inr (.inr (.inl (by assumption))) | exact .inr (.inr (.inr (.inl (by assumption)))) | exact .inr (.inr (.inr (.inr (by assumption)))))]; done)
              rotate_right 1
              simp (maxDischargeDepth := 9) only [↓gB, gV, gT, reduceIte, reduceCtorEq, Nat.reduceEqDiff, Nat.reduceAdd, Nat.reduceSub, Nat.reduceLeDiff, Nat.reduceLT, Int.reduceEq, Nat.reduceMul, c0, f11, f10, c1, f0, f9, e1, h1, h2, n2, c2, c3, c4, c5, c6, c7]
              refine Xc_split _ _ _ _ _ (fun c8 => ?_) (fun c8 => ?_)
              rotate_left 1
              focus
                simp (maxDischargeDepth := 9) only [↓gB, gV, gT, reduceIte, reduceCtorEq, Nat.reduceEqDiff, Nat.reduceAdd, Nat.reduceSub, Nat.reduceLeDiff, Nat.reduceLT, Int.reduceEq, Nat.reduceMul, c0, f11, f10, c1, f0, f9, e1, h1, h2, n2, c2, c3, c4, c5, c6, c7, c8]
                have q1 : Go.IntKind.i64.wrap (↑i + 1) = ↑i + 1 := wrap_id (by omega)
                simp (maxDischargeDepth := 9) only [↓gB, gV, gT, reduceIte, reduceCtorEq, Nat.reduceEqDiff, Nat.reduceAdd, Nat.reduceSub, Nat.reduceLeDiff, Nat.reduceLT, Int.reduceEq, Nat.reduceMul, c0, f11, f10, c1, f0, f9, e1, h1, h2, n2, c2, c3, c4, c5, c6, c7, c8, q1]
                rw [N_lp]
                refine ⟨_, ?_, _, sub_refl _, i + 1, rfl, ?_, ?_, ?_, ?_, by simp (maxDischargeDepth := 9) only [↓gB, gV, gT, reduceIte, reduceCtorEq, Nat.reduceEqDiff, Nat.reduceAdd, Nat.reduceSub, Nat.reduceLeDiff, Nat.reduceLT, Int.reduceEq, Nat.reduceMul, c0, f11, f10, c1, f0, f9, e1, h1, h2, n2, c2, c3, c4, c5, c6, c7, c8, q1, nat_succ, and_self]⟩
                · omega
                · omega
                · (exact pfn h m1 (by assumption) (pv_z (by assumption)) (pa0 (by assumption) (by assumption) (by assumption) (by assumption) (by assumption)); done)
                · exact RSl.put _ (by assumption) (RSl.put _ (by assumption) (by assumption))
                · (simp (maxDischargeDepth := 9) only [le_self, le_puts, le_put0, sub_self, sub_puts, sub_put0, hle, h1, h2, n2]; done)
              rotate_right 1
              simp (maxDischargeDepth := 9) only [↓gB, gV, gT, reduceIte, reduceCtorEq, Nat.reduceEqDiff, Nat.reduceAdd, Nat.reduceSub, Nat.reduceLeDiff, Nat.reduceLT, Int.reduceEq, Nat.reduceMul, c0, f11, f10, c1, f0, f9, e1, h1, h2, n2, c2, c3, c4, c5, c6, c7, c8]
              refine Kup_val (by simp (maxDischargeDepth := 9) only [le_self, le_puts, le_put0, hle, h1, h2, n2]) ?_
              focus (rw [pfa h0' h m1 (by assumption) (pv_z (by assumption)) (by first | exact .inl (by assumption) | exact .inr (.inl (by assumption)) | exact .inr (.inr (.inl (by assumption))) | exact .inr (.inr (.inr (.inl (by assumption)))) | exact .inr (.inr (.inr (.inr (by assumption)))))]; done)
            rotate_right 1
            simp (maxDischargeDepth := 9) only [↓gB, gV, gT, reduceIte, reduceCtorEq, Nat.reduceEqDiff, Nat.reduceAdd, Nat.reduceSub, Nat.reduceLeDiff, Nat.reduceLT, Int.reduceEq, Nat.reduceMul, c0, f11, f10, c1, f0, f9, e1, h1, h2, n2, c2, c3, c4, c5, c6]
            refine Kup_val (by simp (maxDischargeDepth := 9) only [le_self, le_puts, le_put0, hle, h1, h2, n2]) ?_
            focus (rw [pfa h0' h m1 (by assumption) (pv_z (by assumption)) (by first | exact .inl (by assumption) | exact .inr (.inl (by assumption)) | exact .inr (.inr (.inl (by assumption))) | exact .inr (.inr (.inr (.inl (by assumption)))) | exact .inr (.inr (.inr (.inr (by assumption)))))]; done)
          rotate_right 1
          simp (maxDischargeDepth := 9) only [↓gB, gV, gT, reduceIte, reduceCtorEq, Nat.reduceEqDiff, Nat.reduceAdd, Nat.reduceSub, Nat.reduceLeDiff, Nat.reduceLT, Int.reduceEq, Nat.reduceMul, c0, f11, f10, c1, f0, f9, e1, h1, h2, n2, c2, c3, c4]
          refine Kup_val (by simp (maxDischargeDepth := 9) only [le_self, le_puts, le_put0, hle, h1, h2, n2]) ?_
          focus (rw [pfa h0' h m1 (by assumption) (pv_z (by assumption)) (by first | exact .inl (by assumption) | exact .inr (.inl (by assumption)) | exact .inr (.inr (.inl (by assumption))) | exact .inr (.inr (.inr (.inl (by assumption)))) | exact .inr (.inr (.inr (.inr (by assumption)))))]; done)
        rotate_right 1
        simp (maxDischargeDepth := 9) only [↓gB, gV, gT, reduceIte, reduceCtorEq, Nat.reduceEqDiff, Nat.reduceAdd, Nat.reduceSub, Nat.reduceLeDiff, Nat.reduceLT, Int.reduceEq, Nat.reduceMul, c0, f11, f10, c1, f0, f9, e1, h1, h2, n2, c2, c3]
        have q1 : Go.IntKind.i64.wrap (↑i - 1) = ↑i - 1 := wrap_id (by omega)
        simp (maxDischargeDepth := 9) only [↓gB, gV, gT, reduceIte, reduceCtorEq, Nat.reduceEqDiff, Nat.reduceAdd, Nat.reduceSub, Nat.reduceLeDiff, Nat.reduceLT, Int.reduceEq, Nat.reduceMul, c0, f11, f10, c1, f0, f9, e1, h1, h2, n2, c2, c3, q1]
        refine vguard_intro (by omega) ?_
        obtain ⟨x2, s2, m2, rfl, e2⟩ := hv.at' (i - 1) (by omega) 10 rfl
        simp (maxDischargeDepth := 9) only [↓gB, gV, gT, reduceIte, reduceCtorEq, Nat.reduceEqDiff, Nat.reduceAdd, Nat.reduceSub, Nat.reduceLeDiff, Nat.reduceLT, Int.reduceEq, Nat.reduceMul, c0, f11, f10, c1, f0, f9, e1, h1, h2, n2, c2, c3, q1, e2]
        rcases bool_tf (Go.GL.sLt x2.Key x1.Key) with c4 | c4
        rotate_left 1
        focus
          simp (maxDischargeDepth := 9) only [↓gB, gV, gT, reduceIte, reduceCtorEq, Nat.reduceEqDiff, Nat.reduceAdd, Nat.reduceSub, Nat.reduceLeDiff, Nat.reduceLT, Int.reduceEq, Nat.reduceMul, c0, f11, f10, c1, f0, f9, e1, h1, h2, n2, c2, c3, q1, e2, c4]
          refine Kup_val (by simp (maxDischargeDepth := 9) only [le_self, le_puts, le_put0, hle, h1, h2, n2]) ?_
          focus (rw [pf7 h0' h m1 (by assumption) (pv_p (by assumption) m2 (by simp [*]))]; done)
        rotate_right 1
        simp (maxDischargeDepth := 9) only [↓gB, gV, gT, reduceIte, reduceCtorEq, Nat.reduceEqDiff, Nat.reduceAdd, Nat.reduceSub, Nat.reduceLeDiff, Nat.reduceLT, Int.reduceEq, Nat.reduceMul, c0, f11, f10, c1, f0, f9, e1, h1, h2, n2, c2, c3, q1, e2, c4]
        refine Ycp (p66b (by exact put_self _ _ _) (by omega)) ?_
        simp (maxDischargeDepth := 9) only [↓gB, gV, gT, reduceIte, reduceCtorEq, Nat.reduceEqDiff, Nat.reduceAdd, Nat.reduceSub, Nat.reduceLeDiff, Nat.reduceLT, Int.reduceEq, Nat.reduceMul, c0, f11, f10, c1, f0, f9, e1, h1, h2, n2, c2, c3, q1, e2, c4]
        rcases bool_tf ([x1.Base, x1.Metre, x1.Minute, x1.Cross, x1.Least, x1.Most].any fun n ↦ !Go.Proofs.YtnlbapfbdabjaaaDoor.cents n) with c5 | c5
        rotate_left 1
        focus
          simp (maxDischargeDepth := 9) only [↓gB, gV, gT, reduceIte, reduceCtorEq, Nat.reduceEqDiff, Nat.reduceAdd, Nat.reduceSub, Nat.reduceLeDiff, Nat.reduceLT, Int.reduceEq, Nat.reduceMul, c0, f11, f10, c1, f0, f9, e1, h1, h2, n2, c2, c3, q1, e2, c4, c5]
          refine Ycp (p68) ?_
          simp (maxDischargeDepth := 9) only [↓gB, gV, gT, reduceIte, reduceCtorEq, Nat.reduceEqDiff, Nat.reduceAdd, Nat.reduceSub, Nat.reduceLeDiff, Nat.reduceLT, Int.reduceEq, Nat.reduceMul, c0, f11, f10, c1, f0, f9, e1, h1, h2, n2, c2, c3, q1, e2, c4, c5]
          rcases bool_tf (Go.Proofs.YtnlbapfbdabjaaaDoor.within x1.From 0 x1.To) with c6 | c6
          rotate_left 1
          focus
            simp (maxDischargeDepth := 9) only [↓gB, gV, gT, reduceIte, reduceCtorEq, Nat.reduceEqDiff, Nat.reduceAdd, Nat.reduceSub, Nat.reduceLeDiff, Nat.reduceLT, Int.reduceEq, Nat.reduceMul, c0, f11, f10, c1, f0, f9, e1, h1, h2, n2, c2, c3, q1, e2, c4, c5, c6]
            refine Kup_val (by simp (maxDischargeDepth := 9) only [le_self, le_puts, le_put0, hle, h1, h2, n2]) ?_
            focus (rw [pfa h0' h m1 (by assumption) (pv_p (by assumption) m2 (by simp [*])) (by first | exact .inl (by assumption) | exact .inr (.inl (by assumption)) | exact .inr (.inr (.inl (by assumption))) | exact .inr (.inr (.inr (.inl (by assumption)))) | exact .inr (.inr (.inr (.inr (by assumption)))))]; done)
          rotate_right 1
          simp (maxDischargeDepth := 9) only [↓gB, gV, gT, reduceIte, reduceCtorEq, Nat.reduceEqDiff, Nat.reduceAdd, Nat.reduceSub, Nat.reduceLeDiff, Nat.reduceLT, Int.reduceEq, Nat.reduceMul, c0, f11, f10, c1, f0, f9, e1, h1, h2, n2, c2, c3, q1, e2, c4, c5, c6]
          by_cases c7 : (24 : Int) < x1.To
          rotate_left 1
          focus
            simp (maxDischargeDepth := 9) only [↓gB, gV, gT, reduceIte, reduceCtorEq, Nat.reduceEqDiff, Nat.reduceAdd, Nat.reduceSub, Nat.reduceLeDiff, Nat.reduceLT, Int.reduceEq, Nat.reduceMul, c0, f11, f10, c1, f0, f9, e1, h1, h2, n2, c2, c3, q1, e2, c4, c5, c6, c7]
            refine Ycp (p68) ?_
            simp (maxDischargeDepth := 9) only [↓gB, gV, gT, reduceIte, reduceCtorEq, Nat.reduceEqDiff, Nat.reduceAdd, Nat.reduceSub, Nat.reduceLeDiff, Nat.reduceLT, Int.reduceEq, Nat.reduceMul, c0, f11, f10, c1, f0, f9, e1, h1, h2, n2, c2, c3, q1, e2, c4, c5, c6, c7]
            rcases bool_tf (Go.Proofs.YtnlbapfbdabjaaaDoor.within x1.Peak 0 1000) with c8 | c8
            rotate_left 1
            focus
              simp (maxDischargeDepth := 9) only [↓gB, gV, gT, reduceIte, reduceCtorEq, Nat.reduceEqDiff, Nat.reduceAdd, Nat.reduceSub, Nat.reduceLeDiff, Nat.reduceLT, Int.reduceEq, Nat.reduceMul, c0, f11, f10, c1, f0, f9, e1, h1, h2, n2, c2, c3, q1, e2, c4, c5, c6, c7, c8]
              refine Kup_val (by simp (maxDischargeDepth := 9) only [le_self, le_puts, le_put0, hle, h1, h2, n2]) ?_
              focus (rw [pfa h0' h m1 (by assumption) (pv_p (by assumption) m2 (by simp [*])) (by first | exact .inl (by assumption) | exact .inr (.inl (by assumption)) | exact .inr (.inr (.inl (by assumption))) | exact .inr (.inr (.inr (.inl (by assumption)))) | exact .inr (.inr (.inr (.inr (by assumption)))))]; done)
            rotate_right 1
            simp (maxDischargeDepth := 9) only [↓gB, gV, gT, reduceIte, reduceCtorEq, Nat.reduceEqDiff, Nat.reduceAdd, Nat.reduceSub, Nat.reduceLeDiff, Nat.reduceLT, Int.reduceEq, Nat.reduceMul, c0, f11, f10, c1, f0, f9, e1, h1, h2, n2, c2, c3, q1, e2, c4, c5, c6, c7, c8]
            refine Xc_split _ _ _ _ _ (fun c9 => ?_) (fun c9 => ?_)
            rotate_left 1
            focus
              simp (maxDischargeDepth := 9) only [↓gB, gV, gT, reduceIte, reduceCtorEq, Nat.reduceEqDiff, Nat.reduceAdd, Nat.reduceSub, Nat.reduceLeDiff, Nat.reduceLT, Int.reduceEq, Nat.reduceMul, c0, f11, f10, c1, f0, f9, e1, h1, h2, n2, c2, c3, q1, e2, c4, c5, c6, c7, c8, c9]
              have q2 : Go.IntKind.i64.wrap (↑i + 1) = ↑i + 1 := wrap_id (by omega)
              simp (maxDischargeDepth := 9) only [↓gB, gV, gT, reduceIte, reduceCtorEq, Nat.reduceEqDiff, Nat.reduceAdd, Nat.reduceSub, Nat.reduceLeDiff, Nat.reduceLT, Int.reduceEq, Nat.reduceMul, c0, f11, f10, c1, f0, f9, e1, h1, h2, n2, c2, c3, q1, e2, c4, c5, c6, c7, c8, c9, q2]
              rw [N_lp]
              refine ⟨_, ?_, _, sub_refl _, i + 1, rfl, ?_, ?_, ?_, ?_, by simp (maxDischargeDepth := 9) only [↓gB, gV, gT, reduceIte, reduceCtorEq, Nat.reduceEqDiff, Nat.reduceAdd, Nat.reduceSub, Nat.reduceLeDiff, Nat.reduceLT, Int.reduceEq, Nat.reduceMul, c0, f11, f10, c1, f0, f9, e1, h1, h2, n2, c2, c3, q1, e2, c4, c5, c6, c7, c8, c9, q2, nat_succ, and_self]⟩
              · omega
              · omega
              · (exact pfn h m1 (by assumption) (pv_p (by assumption) m2 (by simp [*])) (pa0 (by assumption) (by assumption) (by assumption) (by assumption) (by assumption)); done)
              · exact RSl.put _ (by assumption) (RSl.put _ (by assumption) (by assumption))
              · (simp (maxDischargeDepth := 9) only [le_self, le_puts, le_put0, sub_self, sub_puts, sub_put0, hle, h1, h2, n2]; done)
            rotate_right 1
            simp (maxDischargeDepth := 9) only [↓gB, gV, gT, reduceIte, reduceCtorEq, Nat.reduceEqDiff, Nat.reduceAdd, Nat.reduceSub, Nat.reduceLeDiff, Nat.reduceLT, Int.reduceEq, Nat.reduceMul, c0, f11, f10, c1, f0, f9, e1, h1, h2, n2, c2, c3, q1, e2, c4, c5, c6, c7, c8, c9]
            refine Kup_val (by simp (maxDischargeDepth := 9) only [le_self, le_puts, le_put0, hle, h1, h2, n2]) ?_
            focus (rw [pfa h0' h m1 (by assumption) (pv_p (by assumption) m2 (by simp [*])) (by first | exact .inl (by assumption) | exact .inr (.inl (by assumption)) | exact .inr (.inr (.inl (by assumption))) | exact .inr (.inr (.inr (.inl (by assumption)))) | exact .inr (.inr (.inr (.inr (by assumption)))))]; done)
          rotate_right 1
          simp (maxDischargeDepth := 9) only [↓gB, gV, gT, reduceIte, reduceCtorEq, Nat.reduceEqDiff, Nat.reduceAdd, Nat.reduceSub, Nat.reduceLeDiff, Nat.reduceLT, Int.reduceEq, Nat.reduceMul, c0, f11, f10, c1, f0, f9, e1, h1, h2, n2, c2, c3, q1, e2, c4, c5, c6, c7]
          refine Kup_val (by simp (maxDischargeDepth := 9) only [le_self, le_puts, le_put0, hle, h1, h2, n2]) ?_
          focus (rw [pfa h0' h m1 (by assumption) (pv_p (by assumption) m2 (by simp [*])) (by first | exact .inl (by assumption) | exact .inr (.inl (by assumption)) | exact .inr (.inr (.inl (by assumption))) | exact .inr (.inr (.inr (.inl (by assumption)))) | exact .inr (.inr (.inr (.inr (by assumption)))))]; done)
        rotate_right 1
        simp (maxDischargeDepth := 9) only [↓gB, gV, gT, reduceIte, reduceCtorEq, Nat.reduceEqDiff, Nat.reduceAdd, Nat.reduceSub, Nat.reduceLeDiff, Nat.reduceLT, Int.reduceEq, Nat.reduceMul, c0, f11, f10, c1, f0, f9, e1, h1, h2, n2, c2, c3, q1, e2, c4, c5]
        refine Kup_val (by simp (maxDischargeDepth := 9) only [le_self, le_puts, le_put0, hle, h1, h2, n2]) ?_
        focus (rw [pfa h0' h m1 (by assumption) (pv_p (by assumption) m2 (by simp [*])) (by first | exact .inl (by assumption) | exact .inr (.inl (by assumption)) | exact .inr (.inr (.inl (by assumption))) | exact .inr (.inr (.inr (.inl (by assumption)))) | exact .inr (.inr (.inr (.inr (by assumption)))))]; done)
    · simp (maxDischargeDepth := 9) only [↓gB, gV, gT, reduceIte, reduceCtorEq, Nat.reduceEqDiff, Nat.reduceAdd, Nat.reduceSub, Nat.reduceLeDiff, Nat.reduceLT, Int.reduceEq, Nat.reduceMul, c0, f11, f0, f9, f10, c1]
      refine Kup_val (by simp (maxDischargeDepth := 9) only [le_self, le_puts, le_put0, hle]) ?_
      focus (rw [pf0 h0' h c1]; done)
end Go.Proofs.YtnlbapfbdabjaaaDoor
namespace Go.Proofs.YtnlbapfbdabjaaaDoor
open Go Go.GL
attribute [local irreducible] Ycall GCalls
set_option maxRecDepth 10000
set_option maxHeartbeats 0
structure SJourney where
  Ride : ByteArray
  Rider : ByteArray
  Nodes : List ByteArray
  Metres : Int
  Time_From : Int
  Time_To : Int
deriving DecidableEq
def rJourney : Rp SJourney where
  sz := 6
  R G x cs := ∃ v2, cs = [.string x.Ride, .string x.Rider, v2, .int .i64 x.Metres, .int .i64 x.Time_From, .int .i64 x.Time_To] ∧ RSl Rp.str G v2 x.Nodes
  len := by rintro G x cs ⟨v2, rfl, h0⟩; rfl
  ile := by rintro G G' x cs hl ⟨v2, rfl, h0⟩; exact ⟨v2, rfl, h0.ile hl⟩
  one := by rintro G x cs ⟨v2, rfl, h0⟩; obtain ⟨a0, c0, rfl⟩ := h0.val; rfl
def tripArg (t : SJourney) : Bool := within t.Metres 0 100000000 && within t.Time_From 0 t.Time_To && decide (t.Time_To ≤ 345686399999)
def tripsF : Option SJourney → List SJourney → Int
  | _, [] => 0
  | q, t :: l => if isKey t.Ride = false ∨ isKey t.Rider = false then 5 else if q.any (fun q => !sLt q.Ride t.Ride) then 7 else if t.Nodes.length = 0 then 8 else if ¬ namesF t.Nodes 2000 = 0 then namesF t.Nodes 2000 else if tripArg t = false then 1 else tripsF (some t) l
def checkTrips (l : List SJourney) : Int := if 1000 < l.length then 2 else tripsF none l
section
variable {l : List SJourney} {i : Nat} {x : SJourney}
theorem tf5 (h0 : ¬ 1000 < l.length) (h : tripsF none l = tripsF (prevOf l i) (l.drop i)) (m : l[i]? = some x) (c : isKey x.Ride = false ∨ isKey x.Rider = false) : checkTrips l = 5 := by unfold checkTrips; rw [if_neg h0, h, drop_at m]; simp only [tripsF, if_pos c]
theorem tfk (c : isKey x.Ride = true) (c1 : isKey x.Rider = true) : ¬ (isKey x.Ride = false ∨ isKey x.Rider = false) := by rw [c, c1]; simp
theorem tf7 (h0 : ¬ 1000 < l.length) (h : tripsF none l = tripsF (prevOf l i) (l.drop i)) (m : l[i]? = some x) (c : isKey x.Ride = true) (c1 : isKey x.Rider = true) (c2 : (prevOf l i).any (fun q => !sLt q.Ride x.Ride) = true) : checkTrips l = 7 := by unfold checkTrips; rw [if_neg h0, h, drop_at m]; simp only [tripsF, if_neg (tfk c c1), c2, if_true]
theorem tf8 (h0 : ¬ 1000 < l.length) (h : tripsF none l = tripsF (prevOf l i) (l.drop i)) (m : l[i]? = some x) (c : isKey x.Ride = true) (c1 : isKey x.Rider = true) (c2 : (prevOf l i).any (fun q => !sLt q.Ride x.Ride) = false) (c3 : (x.Nodes.length : Int) = 0) : checkTrips l = 8 := by
  unfold checkTrips; rw [if_neg h0, h, drop_at m]; simp only [tripsF, if_neg (tfk c c1), c2, if_pos (show x.Nodes.length = 0 by omega)]; rfl
theorem tfe (h0 : ¬ 1000 < l.length) (h : tripsF none l = tripsF (prevOf l i) (l.drop i)) (m : l[i]? = some x) (c : isKey x.Ride = true) (c1 : isKey x.Rider = true) (c2 : (prevOf l i).any (fun q => !sLt q.Ride x.Ride) = false) (c3 : ¬ (x.Nodes.length : Int) = 0) (c4 : ¬ namesF x.Nodes 2000 = 0) : checkTrips l = namesF x.Nodes 2000 := by
  unfold checkTrips; rw [if_neg h0, h, drop_at m]; simp only [tripsF, if_neg (tfk c c1), c2, if_neg (show ¬ x.Nodes.length = 0 by omega), if_pos c4]; rfl
theorem tf1 (h0 : ¬ 1000 < l.length) (h : tripsF none l = tripsF (prevOf l i) (l.drop i)) (m : l[i]? = some x) (c : isKey x.Ride = true) (c1 : isKey x.Rider = true) (c2 : (prevOf l i).any (fun q => !sLt q.Ride x.Ride) = false) (c3 : ¬ (x.Nodes.length : Int) = 0) (c4 : namesF x.Nodes 2000 = 0) (c5 : within x.Metres 0 100000000 = false ∨ within x.Time_From 0 x.Time_To = false ∨ 345686399999 < x.Time_To) : checkTrips l = 1 := by
  have c6 : tripArg x = false := by
    unfold tripArg; rcases c5 with h | h | h
    · simp [h]
    · simp [h]
    · simp [show ¬ x.Time_To ≤ 345686399999 by omega]
  unfold checkTrips; rw [if_neg h0, h, drop_at m]; simp only [tripsF, if_neg (tfk c c1), c2, if_neg (show ¬ x.Nodes.length = 0 by omega), if_neg (show ¬ ¬ namesF x.Nodes 2000 = 0 by omega), c6, if_true]; rfl
theorem tfn (h : tripsF none l = tripsF (prevOf l i) (l.drop i)) (m : l[i]? = some x) (c : isKey x.Ride = true) (c1 : isKey x.Rider = true) (c2 : (prevOf l i).any (fun q => !sLt q.Ride x.Ride) = false) (c3 : ¬ (x.Nodes.length : Int) = 0) (c4 : namesF x.Nodes 2000 = 0) (c5 : within x.Metres 0 100000000 = true) (c6 : within x.Time_From 0 x.Time_To = true) (c7 : ¬ 345686399999 < x.Time_To) : tripsF none l = tripsF (prevOf l (i + 1)) (l.drop (i + 1)) := by
  have c8 : tripArg x = true := by unfold tripArg; rw [c5, c6, decide_eq_true (show x.Time_To ≤ 345686399999 by omega)]; rfl
  rw [h, drop_at m, prevOf_s, m]; simp only [tripsF, if_neg (tfk c c1), c2, if_neg (show ¬ x.Nodes.length = 0 by omega), if_neg (show ¬ ¬ namesF x.Nodes 2000 = 0 by omega), c8]; rfl
theorem tf0 (h0 : ¬ 1000 < l.length) (h : tripsF none l = tripsF (prevOf l i) (l.drop i)) (c : ¬ (i : Int) < l.length) : checkTrips l = 0 := by unfold checkTrips; rw [if_neg h0, h, List.drop_eq_nil_of_le (by omega)]; rfl
end
theorem p37 {G0 : GH} {v : Value} {l : List SJourney} (hv : RSl rJourney G0 v l) (hn : (l.length : Int) ≤ 9223372036854775807) (hz : ∀ t ∈ l, t.Nodes.length ≤ 1000000000) : Pure Tryd.prog G0 37 [v] (V (checkTrips l)) := by
  intro G hG; replace hv := hv.le hG
  clear hG G0
  refine enter Tryd.func37 71 #[.tmp 2] rfl Tryd.ntmps37 rfl (by decide +kernel) rfl ?_
  obtain ⟨a, c, rfl⟩ := hv.val
  simp (maxDischargeDepth := 9) only [↓gB, gV, gT, reduceIte, reduceCtorEq, Nat.reduceEqDiff, Nat.reduceAdd, Nat.reduceSub, Nat.reduceLeDiff, Nat.reduceLT, Int.reduceEq, Nat.reduceMul]
  refine Xc_split _ _ _ _ _ (fun c0 => ?_) (fun c0 => ?_)
  · simp (maxDischargeDepth := 9) only [↓gB, gV, gT, reduceIte, reduceCtorEq, Nat.reduceEqDiff, Nat.reduceAdd, Nat.reduceSub, Nat.reduceLeDiff, Nat.reduceLT, Int.reduceEq, Nat.reduceMul, c0]
    refine Kup_val (le_refl _) ?_
    focus ((have : 1000 < l.length := by omega); simp [checkTrips, this]; done)
  · have h0' : ¬ 1000 < l.length := by omega
    simp (maxDischargeDepth := 9) only [↓gB, gV, gT, reduceIte, reduceCtorEq, Nat.reduceEqDiff, Nat.reduceAdd, Nat.reduceSub, Nat.reduceLeDiff, Nat.reduceLT, Int.reduceEq, Nat.reduceMul, c0]
    focus
      refine Xloop_intro _ _ _ _ _ (fun k f G' => ∃ (i : Nat), k = l.length - i ∧ (i ≤ l.length) ∧ (tripsF none l = tripsF (prevOf l i) (l.drop i)) ∧ (RSl rJourney G' (.slice a l.length c) l) ∧ (G.le G') ∧ f 11 = V i ∧ f 0 = Go.Value.slice a l.length c ∧ f 9 = Go.Value.slice a l.length c ∧ f 10 = Go.Value.int Go.IntKind.i64 ↑l.length) _ ⟨0, rfl, ?_, ?_, ?_, ?_, by simp (maxDischargeDepth := 9) only [↓gB, gV, gT, reduceIte, reduceCtorEq, Nat.reduceEqDiff, Nat.reduceAdd, Nat.reduceSub, Nat.reduceLeDiff, Nat.reduceLT, Int.reduceEq, Nat.reduceMul, c0, and_self]⟩ ?_
      · omega
      · rfl
      · assumption
      · exact le_refl _
      rintro k f G' ⟨i, rfl, hi, h, hv, hle, f11, f0, f9, f10⟩
    simp (maxDischargeDepth := 9) only [↓gB, gV, gT, reduceIte, reduceCtorEq, Nat.reduceEqDiff, Nat.reduceAdd, Nat.reduceSub, Nat.reduceLeDiff, Nat.reduceLT, Int.reduceEq, Nat.reduceMul, c0, f11, f0, f9, f10]
    refine Xc_split _ _ _ _ _ (fun c1 => ?_) (fun c1 => ?_)
    · obtain ⟨t, hti⟩ : ∃ t, l[i]? = some t := ⟨_, List.getElem?_eq_getElem (by omega)⟩
      have hz1 := hz t (List.mem_of_getElem? hti)
      simp (maxDischargeDepth := 9) only [↓gB, gV, gT, reduceIte, reduceCtorEq, Nat.reduceEqDiff, Nat.reduceAdd, Nat.reduceSub, Nat.reduceLeDiff, Nat.reduceLT, Int.reduceEq, Nat.reduceMul, c0, f11, f0, f9, f10, c1]
      obtain ⟨x1, a1, s1, m1, rfl, ⟨v1, rfl, w1⟩, e1⟩ := hv.at (i) (by omega) 6 rfl
      obtain ⟨aw1, cw1, rfl⟩ := RSl.val w1
      simp (maxDischargeDepth := 9) only [↓gB, gV, gT, reduceIte, reduceCtorEq, Nat.reduceEqDiff, Nat.reduceAdd, Nat.reduceSub, Nat.reduceLeDiff, Nat.reduceLT, Int.reduceEq, Nat.reduceMul, c0, f11, f10, c1, f0, f9, e1]
      refine vguard_intro (by simp) ?_
      refine Yn2 fun r1 h1 => ?_
      simp (maxDischargeDepth := 9) only [↓gB, gV, gT, reduceIte, reduceCtorEq, Nat.reduceEqDiff, Nat.reduceAdd, Nat.reduceSub, Nat.reduceLeDiff, Nat.reduceLT, Int.reduceEq, Nat.reduceMul, c0, f11, f10, c1, f0, f9, e1, h1]
      refine Ycp (p78) ?_
      simp (maxDischargeDepth := 9) only [↓gB, gV, gT, reduceIte, reduceCtorEq, Nat.reduceEqDiff, Nat.reduceAdd, Nat.reduceSub, Nat.reduceLeDiff, Nat.reduceLT, Int.reduceEq, Nat.reduceMul, c0, f11, f10, c1, f0, f9, e1, h1]
      obtain rfl : t = x1 := by rw [hti] at m1; cases m1; rfl
      focus
        rcases bool_tf (Go.Proofs.YtnlbapfbdabjaaaDoor.isKey t.Ride) with c2 | c2
        rotate_left 1
        focus
          simp (maxDischargeDepth := 9) only [↓gB, gV, gT, reduceIte, reduceCtorEq, Nat.reduceEqDiff, Nat.reduceAdd, Nat.reduceSub, Nat.reduceLeDiff, Nat.reduceLT, Int.reduceEq, Nat.reduceMul, c0, f11, f10, c1, f0, f9, h1, e1, c2]
          refine Kup_val (by simp (maxDischargeDepth := 9) only [le_self, le_puts, le_put0, hle, h1]) ?_
          focus (rw [tf5 h0' h m1 (.inl (by assumption))]; done)
        rotate_right 1
        simp (maxDischargeDepth := 9) only [↓gB, gV, gT, reduceIte, reduceCtorEq, Nat.reduceEqDiff, Nat.reduceAdd, Nat.reduceSub, Nat.reduceLeDiff, Nat.reduceLT, Int.reduceEq, Nat.reduceMul, c0, f11, f10, c1, f0, f9, h1, e1, c2]
        refine Ycp (p78) ?_
        simp (maxDischargeDepth := 9) only [↓gB, gV, gT, reduceIte, reduceCtorEq, Nat.reduceEqDiff, Nat.reduceAdd, Nat.reduceSub, Nat.reduceLeDiff, Nat.reduceLT, Int.reduceEq, Nat.reduceMul, c0, f11, f10, c1, f0, f9, h1, e1, c2]
        rcases bool_tf (Go.Proofs.YtnlbapfbdabjaaaDoor.isKey t.Rider) with c3 | c3
        rotate_left 1
        focus
          simp (maxDischargeDepth := 9) only [↓gB, gV, gT, reduceIte, reduceCtorEq, Nat.reduceEqDiff, Nat.reduceAdd, Nat.reduceSub, Nat.reduceLeDiff, Nat.reduceLT, Int.reduceEq, Nat.reduceMul, c0, f11, f10, c1, f0, f9, h1, e1, c2, c3]
          refine Kup_val (by simp (maxDischargeDepth := 9) only [le_self, le_puts, le_put0, hle, h1]) ?_
          focus (rw [tf5 h0' h m1 (.inr (by assumption))]; done)
        rotate_right 1
        simp (maxDischargeDepth := 9) only [↓gB, gV, gT, reduceIte, reduceCtorEq, Nat.reduceEqDiff, Nat.reduceAdd, Nat.reduceSub, Nat.reduceLeDiff, Nat.reduceLT, Int.reduceEq, Nat.reduceMul, c0, f11, f10, c1, f0, f9, h1, e1, c2, c3]
        refine Xdraw_intro [0, 1, 2, 3, 4, 5, 6, 7, 8, 9, 10, 11, 12, 13] mixed (by kernel_rfl) (by decide +kernel) ?_
        simp (maxDischargeDepth := 9) only [↓gB, gV, gT, reduceIte, reduceCtorEq, Nat.reduceEqDiff, Nat.reduceAdd, Nat.reduceSub, Nat.reduceLeDiff, Nat.reduceLT, Int.reduceEq, Nat.reduceMul, c0, f11, f10, c1, f0, f9, h1, e1, c2, c3]
        by_cases c4 : (0 : Int) < ↑i
        rotate_left 1
        focus
          simp (maxDischargeDepth := 9) only [↓gB, gV, gT, reduceIte, reduceCtorEq, Nat.reduceEqDiff, Nat.reduceAdd, Nat.reduceSub, Nat.reduceLeDiff, Nat.reduceLT, Int.reduceEq, Nat.reduceMul, c0, f11, f10, c1, f0, f9, h1, e1, c2, c3, c4]
          refine Xc_split _ _ _ _ _ (fun c5 => ?_) (fun c5 => ?_)
          rotate_left 1
          focus
            simp (maxDischargeDepth := 9) only [↓gB, gV, gT, reduceIte, reduceCtorEq, Nat.reduceEqDiff, Nat.reduceAdd, Nat.reduceSub, Nat.reduceLeDiff, Nat.reduceLT, Int.reduceEq, Nat.reduceMul, c0, f11, f10, c1, f0, f9, h1, e1, c2, c3, c4, c5]
            refine Ycp (p82 (by exact RSl.put _ (by assumption) (by assumption)) (by omega)) ?_
            simp (maxDischargeDepth := 9) only [↓gB, gV, gT, reduceIte, reduceCtorEq, Nat.reduceEqDiff, Nat.reduceAdd, Nat.reduceSub, Nat.reduceLeDiff, Nat.reduceLT, Int.reduceEq, Nat.reduceMul, c0, f11, f10, c1, f0, f9, h1, e1, c2, c3, c4, c5]
            refine Xc_split _ _ _ _ _ (fun c6 => ?_) (fun c6 => ?_)
            rotate_left 1
            focus
              simp (maxDischargeDepth := 9) only [↓gB, gV, gT, reduceIte, reduceCtorEq, Nat.reduceEqDiff, Nat.reduceAdd, Nat.reduceSub, Nat.reduceLeDiff, Nat.reduceLT, Int.reduceEq, Nat.reduceMul, c0, f11, f10, c1, f0, f9, h1, e1, c2, c3, c4, c5, c6]
              refine Ycp (p74) ?_
              simp (maxDischargeDepth := 9) only [↓gB, gV, gT, reduceIte, reduceCtorEq, Nat.reduceEqDiff, Nat.reduceAdd, Nat.reduceSub, Nat.reduceLeDiff, Nat.reduceLT, Int.reduceEq, Nat.reduceMul, c0, f11, f10, c1, f0, f9, h1, e1, c2, c3, c4, c5, c6]
              rcases bool_tf (Go.Proofs.YtnlbapfbdabjaaaDoor.within t.Metres 0 100000000) with c7 | c7
              rotate_left 1
              focus
                simp (maxDischargeDepth := 9) only [↓gB, gV, gT, reduceIte, reduceCtorEq, Nat.reduceEqDiff, Nat.reduceAdd, Nat.reduceSub, Nat.reduceLeDiff, Nat.reduceLT, Int.reduceEq, Nat.reduceMul, c0, f11, f10, c1, f0, f9, h1, e1, c2, c3, c4, c5, c6, c7]
                refine Kup_val (by simp (maxDischargeDepth := 9) only [le_self, le_puts, le_put0, hle, h1]) ?_
                focus (rw [tf1 h0' h m1 (by assumption) (by assumption) (by first | exact pv_p (by assumption) m2 (by simp [*]) | exact pv_z (by assumption)) (by assumption) (Classical.not_not.1 (by assumption)) (by first | exact .inl (by assumption) | exact .inr (.inl (by assumption)) | exact .inr (.inr (by assumption)))]; done)
              rotate_right 1
              simp (maxDischargeDepth := 9) only [↓gB, gV, gT, reduceIte, reduceCtorEq, Nat.reduceEqDiff, Nat.reduceAdd, Nat.reduceSub, Nat.reduceLeDiff, Nat.reduceLT, Int.reduceEq, Nat.reduceMul, c0, f11, f10, c1, f0, f9, h1, e1, c2, c3, c4, c5, c6, c7]
              refine Ycp (p74) ?_
              simp (maxDischargeDepth := 9) only [↓gB, gV, gT, reduceIte, reduceCtorEq, Nat.reduceEqDiff, Nat.reduceAdd, Nat.reduceSub, Nat.reduceLeDiff, Nat.reduceLT, Int.reduceEq, Nat.reduceMul, c0, f11, f10, c1, f0, f9, h1, e1, c2, c3, c4, c5, c6, c7]
              rcases bool_tf (Go.Proofs.YtnlbapfbdabjaaaDoor.within t.Time_From 0 t.Time_To) with c8 | c8
              rotate_left 1
              focus
                simp (maxDischargeDepth := 9) only [↓gB, gV, gT, reduceIte, reduceCtorEq, Nat.reduceEqDiff, Nat.reduceAdd, Nat.reduceSub, Nat.reduceLeDiff, Nat.reduceLT, Int.reduceEq, Nat.reduceMul, c0, f11, f10, c1, f0, f9, h1, e1, c2, c3, c4, c5, c6, c7, c8]
                refine Kup_val (by simp (maxDischargeDepth := 9) only [le_self, le_puts, le_put0, hle, h1]) ?_
                focus (rw [tf1 h0' h m1 (by assumption) (by assumption) (by first | exact pv_p (by assumption) m2 (by simp [*]) | exact pv_z (by assumption)) (by assumption) (Classical.not_not.1 (by assumption)) (by first | exact .inl (by assumption) | exact .inr (.inl (by assumption)) | exact .inr (.inr (by assumption)))]; done)
              rotate_right 1
              simp (maxDischargeDepth := 9) only [↓gB, gV, gT, reduceIte, reduceCtorEq, Nat.reduceEqDiff, Nat.reduceAdd, Nat.reduceSub, Nat.reduceLeDiff, Nat.reduceLT, Int.reduceEq, Nat.reduceMul, c0, f11, f10, c1, f0, f9, h1, e1, c2, c3, c4, c5, c6, c7, c8]
              refine Xc_split _ _ _ _ _ (fun c9 => ?_) (fun c9 => ?_)
              rotate_left 1
              focus
                simp (maxDischargeDepth := 9) only [↓gB, gV, gT, reduceIte, reduceCtorEq, Nat.reduceEqDiff, Nat.reduceAdd, Nat.reduceSub, Nat.reduceLeDiff, Nat.reduceLT, Int.reduceEq, Nat.reduceMul, c0, f11, f10, c1, f0, f9, h1, e1, c2, c3, c4, c5, c6, c7, c8, c9]
                have q1 : Go.IntKind.i64.wrap (↑i + 1) = ↑i + 1 := wrap_id (by omega)
                simp (maxDischargeDepth := 9) only [↓gB, gV, gT, reduceIte, reduceCtorEq, Nat.reduceEqDiff, Nat.reduceAdd, Nat.reduceSub, Nat.reduceLeDiff, Nat.reduceLT, Int.reduceEq, Nat.reduceMul, c0, f11, f10, c1, f0, f9, h1, e1, c2, c3, c4, c5, c6, c7, c8, c9, q1]
                rw [N_lp]
                refine ⟨_, ?_, _, sub_refl _, i + 1, rfl, ?_, ?_, ?_, ?_, by simp (maxDischargeDepth := 9) only [↓gB, gV, gT, reduceIte, reduceCtorEq, Nat.reduceEqDiff, Nat.reduceAdd, Nat.reduceSub, Nat.reduceLeDiff, Nat.reduceLT, Int.reduceEq, Nat.reduceMul, c0, f11, f10, c1, f0, f9, h1, e1, c2, c3, c4, c5, c6, c7, c8, c9, q1, nat_succ, and_self]⟩
                · omega
                · omega
                · (exact tfn h m1 (by assumption) (by assumption) (by first | exact pv_p (by assumption) m2 (by simp [*]) | exact pv_z (by assumption)) (by assumption) (Classical.not_not.1 (by assumption)) (by assumption) (by assumption) (by assumption); done)
                · exact RSl.put _ (by assumption) (by assumption)
                · (simp (maxDischargeDepth := 9) only [le_self, le_puts, le_put0, sub_self, sub_puts, sub_put0, hle, h1]; done)
              rotate_right 1
              simp (maxDischargeDepth := 9) only [↓gB, gV, gT, reduceIte, reduceCtorEq, Nat.reduceEqDiff, Nat.reduceAdd, Nat.reduceSub, Nat.reduceLeDiff, Nat.reduceLT, Int.reduceEq, Nat.reduceMul, c0, f11, f10, c1, f0, f9, h1, e1, c2, c3, c4, c5, c6, c7, c8, c9]
              refine Kup_val (by simp (maxDischargeDepth := 9) only [le_self, le_puts, le_put0, hle, h1]) ?_
              focus (rw [tf1 h0' h m1 (by assumption) (by assumption) (by first | exact pv_p (by assumption) m2 (by simp [*]) | exact pv_z (by assumption)) (by assumption) (Classical.not_not.1 (by assumption)) (by first | exact .inl (by assumption) | exact .inr (.inl (by assumption)) | exact .inr (.inr (by assumption)))]; done)
            rotate_right 1
            simp (maxDischargeDepth := 9) only [↓gB, gV, gT, reduceIte, reduceCtorEq, Nat.reduceEqDiff, Nat.reduceAdd, Nat.reduceSub, Nat.reduceLeDiff, Nat.reduceLT, Int.reduceEq, Nat.reduceMul, c0, f11, f10, c1, f0, f9, h1, e1, c2, c3, c4, c5, c6]
            refine Kup_val (by simp (maxDischargeDepth := 9) only [le_self, le_puts, le_put0, hle, h1]) ?_
            focus (rw [tfe h0' h m1 (by assumption) (by assumption) (by first | exact pv_p (by assumption) m2 (by simp [*]) | exact pv_z (by assumption)) (by assumption) (by assumption)]; done)
          rotate_right 1
          simp (maxDischargeDepth := 9) only [↓gB, gV, gT, reduceIte, reduceCtorEq, Nat.reduceEqDiff, Nat.reduceAdd, Nat.reduceSub, Nat.reduceLeDiff, Nat.reduceLT, Int.reduceEq, Nat.reduceMul, c0, f11, f10, c1, f0, f9, h1, e1, c2, c3, c4, c5]
          refine Kup_val (by simp (maxDischargeDepth := 9) only [le_self, le_puts, le_put0, hle, h1]) ?_
          focus (rw [tf8 h0' h m1 (by assumption) (by assumption) (by first | exact pv_p (by assumption) m2 (by simp [*]) | exact pv_z (by assumption)) (by assumption)]; done)
        rotate_right 1
        simp (maxDischargeDepth := 9) only [↓gB, gV, gT, reduceIte, reduceCtorEq, Nat.reduceEqDiff, Nat.reduceAdd, Nat.reduceSub, Nat.reduceLeDiff, Nat.reduceLT, Int.reduceEq, Nat.reduceMul, c0, f11, f10, c1, f0, f9, h1, e1, c2, c3, c4]
        have q1 : Go.IntKind.i64.wrap (↑i - 1) = ↑i - 1 := wrap_id (by omega)
        simp (maxDischargeDepth := 9) only [↓gB, gV, gT, reduceIte, reduceCtorEq, Nat.reduceEqDiff, Nat.reduceAdd, Nat.reduceSub, Nat.reduceLeDiff, Nat.reduceLT, Int.reduceEq, Nat.reduceMul, c0, f11, f10, c1, f0, f9, h1, e1, c2, c3, c4, q1]
        refine vguard_intro (by omega) ?_
        obtain ⟨x2, s2, m2, ⟨v2, rfl, w2⟩, e2⟩ := hv.at' (i - 1) (by omega) 6 rfl
        obtain ⟨aw2, cw2, rfl⟩ := RSl.val w2
        simp (maxDischargeDepth := 9) only [↓gB, gV, gT, reduceIte, reduceCtorEq, Nat.reduceEqDiff, Nat.reduceAdd, Nat.reduceSub, Nat.reduceLeDiff, Nat.reduceLT, Int.reduceEq, Nat.reduceMul, c0, f11, f10, c1, f0, f9, h1, e1, c2, c3, c4, q1, e2]
        rcases bool_tf (Go.GL.sLt x2.Ride t.Ride) with c5 | c5
        rotate_left 1
        focus
          simp (maxDischargeDepth := 9) only [↓gB, gV, gT, reduceIte, reduceCtorEq, Nat.reduceEqDiff, Nat.reduceAdd, Nat.reduceSub, Nat.reduceLeDiff, Nat.reduceLT, Int.reduceEq, Nat.reduceMul, c0, f11, f10, c1, f0, f9, h1, e1, c2, c3, c4, q1, e2, c5]
          refine Kup_val (by simp (maxDischargeDepth := 9) only [le_self, le_puts, le_put0, hle, h1]) ?_
          focus (rw [tf7 h0' h m1 (by assumption) (by assumption) (pv_p (by assumption) m2 (by simp [*]))]; done)
        rotate_right 1
        simp (maxDischargeDepth := 9) only [↓gB, gV, gT, reduceIte, reduceCtorEq, Nat.reduceEqDiff, Nat.reduceAdd, Nat.reduceSub, Nat.reduceLeDiff, Nat.reduceLT, Int.reduceEq, Nat.reduceMul, c0, f11, f10, c1, f0, f9, h1, e1, c2, c3, c4, q1, e2, c5]
        refine Xc_split _ _ _ _ _ (fun c6 => ?_) (fun c6 => ?_)
        rotate_left 1
        focus
          simp (maxDischargeDepth := 9) only [↓gB, gV, gT, reduceIte, reduceCtorEq, Nat.reduceEqDiff, Nat.reduceAdd, Nat.reduceSub, Nat.reduceLeDiff, Nat.reduceLT, Int.reduceEq, Nat.reduceMul, c0, f11, f10, c1, f0, f9, h1, e1, c2, c3, c4, q1, e2, c5, c6]
          refine Ycp (p82 (by exact RSl.put _ (by assumption) (by assumption)) (by omega)) ?_
          simp (maxDischargeDepth := 9) only [↓gB, gV, gT, reduceIte, reduceCtorEq, Nat.reduceEqDiff, Nat.reduceAdd, Nat.reduceSub, Nat.reduceLeDiff, Nat.reduceLT, Int.reduceEq, Nat.reduceMul, c0, f11, f10, c1, f0, f9, h1, e1, c2, c3, c4, q1, e2, c5, c6]
          refine Xc_split _ _ _ _ _ (fun c7 => ?_) (fun c7 => ?_)
          rotate_left 1
          focus
            simp (maxDischargeDepth := 9) only [↓gB, gV, gT, reduceIte, reduceCtorEq, Nat.reduceEqDiff, Nat.reduceAdd, Nat.reduceSub, Nat.reduceLeDiff, Nat.reduceLT, Int.reduceEq, Nat.reduceMul, c0, f11, f10, c1, f0, f9, h1, e1, c2, c3, c4, q1, e2, c5, c6, c7]
            refine Ycp (p74) ?_
            simp (maxDischargeDepth := 9) only [↓gB, gV, gT, reduceIte, reduceCtorEq, Nat.reduceEqDiff, Nat.reduceAdd, Nat.reduceSub, Nat.reduceLeDiff, Nat.reduceLT, Int.reduceEq, Nat.reduceMul, c0, f11, f10, c1, f0, f9, h1, e1, c2, c3, c4, q1, e2, c5, c6, c7]
            rcases bool_tf (Go.Proofs.YtnlbapfbdabjaaaDoor.within t.Metres 0 100000000) with c8 | c8
            rotate_left 1
            focus
              simp (maxDischargeDepth := 9) only [↓gB, gV, gT, reduceIte, reduceCtorEq, Nat.reduceEqDiff, Nat.reduceAdd, Nat.reduceSub, Nat.reduceLeDiff, Nat.reduceLT, Int.reduceEq, Nat.reduceMul, c0, f11, f10, c1, f0, f9, h1, e1, c2, c3, c4, q1, e2, c5, c6, c7, c8]
              refine Kup_val (by simp (maxDischargeDepth := 9) only [le_self, le_puts, le_put0, hle, h1]) ?_
              focus (rw [tf1 h0' h m1 (by assumption) (by assumption) (by first | exact pv_p (by assumption) m2 (by simp [*]) | exact pv_z (by assumption)) (by assumption) (Classical.not_not.1 (by assumption)) (by first | exact .inl (by assumption) | exact .inr (.inl (by assumption)) | exact .inr (.inr (by assumption)))]; done)
            rotate_right 1
            simp (maxDischargeDepth := 9) only [↓gB, gV, gT, reduceIte, reduceCtorEq, Nat.reduceEqDiff, Nat.reduceAdd, Nat.reduceSub, Nat.reduceLeDiff, Nat.reduceLT, Int.reduceEq, Nat.reduceMul, c0, f11, f10, c1, f0, f9, h1, e1, c2, c3, c4, q1, e2, c5, c6, c7, c8]
            refine Ycp (p74) ?_
            simp (maxDischargeDepth := 9) only [↓gB, gV, gT, reduceIte, reduceCtorEq, Nat.reduceEqDiff, Nat.reduceAdd, Nat.reduceSub, Nat.reduceLeDiff, Nat.reduceLT, Int.reduceEq, Nat.reduceMul, c0, f11, f10, c1, f0, f9, h1, e1, c2, c3, c4, q1, e2, c5, c6, c7, c8]
            rcases bool_tf (Go.Proofs.YtnlbapfbdabjaaaDoor.within t.Time_From 0 t.Time_To) with c9 | c9
            rotate_left 1
            focus
              simp (maxDischargeDepth := 9) only [↓gB, gV, gT, reduceIte, reduceCtorEq, Nat.reduceEqDiff, Nat.reduceAdd, Nat.reduceSub, Nat.reduceLeDiff, Nat.reduceLT, Int.reduceEq, Nat.reduceMul, c0, f11, f10, c1, f0, f9, h1, e1, c2, c3, c4, q1, e2, c5, c6, c7, c8, c9]
              refine Kup_val (by simp (maxDischargeDepth := 9) only [le_self, le_puts, le_put0, hle, h1]) ?_
              focus (rw [tf1 h0' h m1 (by assumption) (by assumption) (by first | exact pv_p (by assumption) m2 (by simp [*]) | exact pv_z (by assumption)) (by assumption) (Classical.not_not.1 (by assumption)) (by first | exact .inl (by assumption) | exact .inr (.inl (by assumption)) | exact .inr (.inr (by assumption)))]; done)
            rotate_right 1
            simp (maxDischargeDepth := 9) only [↓gB, gV, gT, reduceIte, reduceCtorEq, Nat.reduceEqDiff, Nat.reduceAdd, Nat.reduceSub, Nat.reduceLeDiff, Nat.reduceLT, Int.reduceEq, Nat.reduceMul, c0, f11, f10, c1, f0, f9, h1, e1, c2, c3, c4, q1, e2, c5, c6, c7, c8, c9]
            refine Xc_split _ _ _ _ _ (fun c10 => ?_) (fun c10 => ?_)
            rotate_left 1
            focus
              simp (maxDischargeDepth := 9) only [↓gB, gV, gT, reduceIte, reduceCtorEq, Nat.reduceEqDiff, Nat.reduceAdd, Nat.reduceSub, Nat.reduceLeDiff, Nat.reduceLT, Int.reduceEq, Nat.reduceMul, c0, f11, f10, c1, f0, f9, h1, e1, c2, c3, c4, q1, e2, c5, c6, c7, c8, c9, c10]
              have q2 : Go.IntKind.i64.wrap (↑i + 1) = ↑i + 1 := wrap_id (by omega)
              simp (maxDischargeDepth := 9) only [↓gB, gV, gT, reduceIte, reduceCtorEq, Nat.reduceEqDiff, Nat.reduceAdd, Nat.reduceSub, Nat.reduceLeDiff, Nat.reduceLT, Int.reduceEq, Nat.reduceMul, c0, f11, f10, c1, f0, f9, h1, e1, c2, c3, c4, q1, e2, c5, c6, c7, c8, c9, c10, q2]
              rw [N_lp]
              refine ⟨_, ?_, _, sub_refl _, i + 1, rfl, ?_, ?_, ?_, ?_, by simp (maxDischargeDepth := 9) only [↓gB, gV, gT, reduceIte, reduceCtorEq, Nat.reduceEqDiff, Nat.reduceAdd, Nat.reduceSub, Nat.reduceLeDiff, Nat.reduceLT, Int.reduceEq, Nat.reduceMul, c0, f11, f10, c1, f0, f9, h1, e1, c2, c3, c4, q1, e2, c5, c6, c7, c8, c9, c10, q2, nat_succ, and_self]⟩
              · omega
              · omega
              · (exact tfn h m1 (by assumption) (by assumption) (by first | exact pv_p (by assumption) m2 (by simp [*]) | exact pv_z (by assumption)) (by assumption) (Classical.not_not.1 (by assumption)) (by assumption) (by assumption) (by assumption); done)
              · exact RSl.put _ (by assumption) (by assumption)
              · (simp (maxDischargeDepth := 9) only [le_self, le_puts, le_put0, sub_self, sub_puts, sub_put0, hle, h1]; done)
            rotate_right 1
            simp (maxDischargeDepth := 9) only [↓gB, gV, gT, reduceIte, reduceCtorEq, Nat.reduceEqDiff, Nat.reduceAdd, Nat.reduceSub, Nat.reduceLeDiff, Nat.reduceLT, Int.reduceEq, Nat.reduceMul, c0, f11, f10, c1, f0, f9, h1, e1, c2, c3, c4, q1, e2, c5, c6, c7, c8, c9, c10]
            refine Kup_val (by simp (maxDischargeDepth := 9) only [le_self, le_puts, le_put0, hle, h1]) ?_
            focus (rw [tf1 h0' h m1 (by assumption) (by assumption) (by first | exact pv_p (by assumption) m2 (by simp [*]) | exact pv_z (by assumption)) (by assumption) (Classical.not_not.1 (by assumption)) (by first | exact .inl (by assumption) | exact .inr (.inl (by assumption)) | exact .inr (.inr (by assumption)))]; done)
          rotate_right 1
          simp (maxDischargeDepth := 9) only [↓gB, gV, gT, reduceIte, reduceCtorEq, Nat.reduceEqDiff, Nat.reduceAdd, Nat.reduceSub, Nat.reduceLeDiff, Nat.reduceLT, Int.reduceEq, Nat.reduceMul, c0, f11, f10, c1, f0, f9, h1, e1, c2, c3, c4, q1, e2, c5, c6, c7]
          refine Kup_val (by simp (maxDischargeDepth := 9) only [le_self, le_puts, le_put0, hle, h1]) ?_
          focus (rw [tfe h0' h m1 (by assumption) (by assumption) (by first | exact pv_p (by assumption) m2 (by simp [*]) | exact pv_z (by assumption)) (by assumption) (by assumption)]; done)
        rotate_right 1
        simp (maxDischargeDepth := 9) only [↓gB, gV, gT, reduceIte, reduceCtorEq, Nat.reduceEqDiff, Nat.reduceAdd, Nat.reduceSub, Nat.reduceLeDiff, Nat.reduceLT, Int.reduceEq, Nat.reduceMul, c0, f11, f10, c1, f0, f9, h1, e1, c2, c3, c4, q1, e2, c5, c6]
        refine Kup_val (by simp (maxDischargeDepth := 9) only [le_self, le_puts, le_put0, hle, h1]) ?_
        focus (rw [tf8 h0' h m1 (by assumption) (by assumption) (by first | exact pv_p (by assumption) m2 (by simp [*]) | exact pv_z (by assumption)) (by assumption)]; done)
    · simp (maxDischargeDepth := 9) only [↓gB, gV, gT, reduceIte, reduceCtorEq, Nat.reduceEqDiff, Nat.reduceAdd, Nat.reduceSub, Nat.reduceLeDiff, Nat.reduceLT, Int.reduceEq, Nat.reduceMul, c0, f11, f0, f9, f10, c1]
      refine Kup_val (by simp (maxDischargeDepth := 9) only [le_self, le_puts, le_put0, hle]) ?_
      focus (rw [tf0 h0' h c1]; done)
end Go.Proofs.YtnlbapfbdabjaaaDoor
namespace Go.Proofs.YtnlbapfbdabjaaaDoor
open Go Go.GL
attribute [local irreducible] Ycall GCalls
set_option maxRecDepth 10000
set_option maxHeartbeats 0
theorem p39 {G0 : GH} {v : Value} {l : List SJourney} (hv : RSl rJourney G0 v l) (hn : (l.length : Int) ≤ 9223372036854775807) (hz : ∀ t ∈ l, t.Nodes.length ≤ 1000000000) : Pure Tryd.prog G0 39 [v] (V (checkTrips l)) := by
  intro G hG; replace hv := hv.le hG
  clear hG G0
  refine enter Tryd.func39 73 #[.tmp 2] rfl Tryd.ntmps39 rfl (by decide +kernel) rfl ?_
  obtain ⟨a, c, rfl⟩ := hv.val
  simp (maxDischargeDepth := 9) only [↓gB, gV, gT, reduceIte, reduceCtorEq, Nat.reduceEqDiff, Nat.reduceAdd, Nat.reduceSub, Nat.reduceLeDiff, Nat.reduceLT, Int.reduceEq, Nat.reduceMul]
  refine Xc_split _ _ _ _ _ (fun c0 => ?_) (fun c0 => ?_)
  · simp (maxDischargeDepth := 9) only [↓gB, gV, gT, reduceIte, reduceCtorEq, Nat.reduceEqDiff, Nat.reduceAdd, Nat.reduceSub, Nat.reduceLeDiff, Nat.reduceLT, Int.reduceEq, Nat.reduceMul, c0]
    refine Kup_val (le_refl _) ?_
    focus ((have : 1000 < l.length := by omega); simp [checkTrips, this]; done)
  · have h0' : ¬ 1000 < l.length := by omega
    simp (maxDischargeDepth := 9) only [↓gB, gV, gT, reduceIte, reduceCtorEq, Nat.reduceEqDiff, Nat.reduceAdd, Nat.reduceSub, Nat.reduceLeDiff, Nat.reduceLT, Int.reduceEq, Nat.reduceMul, c0]
    focus
      refine Xloop_intro _ _ _ _ _ (fun k f G' => ∃ (i : Nat), k = l.length - i ∧ (i ≤ l.length) ∧ (tripsF none l = tripsF (prevOf l i) (l.drop i)) ∧ (RSl rJourney G' (.slice a l.length c) l) ∧ (G.le G') ∧ f 11 = V i ∧ f 0 = Go.Value.slice a l.length c ∧ f 9 = Go.Value.slice a l.length c ∧ f 10 = Go.Value.int Go.IntKind.i64 ↑l.length) _ ⟨0, rfl, ?_, ?_, ?_, ?_, by simp (maxDischargeDepth := 9) only [↓gB, gV, gT, reduceIte, reduceCtorEq, Nat.reduceEqDiff, Nat.reduceAdd, Nat.reduceSub, Nat.reduceLeDiff, Nat.reduceLT, Int.reduceEq, Nat.reduceMul, c0, and_self]⟩ ?_
      · omega
      · rfl
      · assumption
      · exact le_refl _
      rintro k f G' ⟨i, rfl, hi, h, hv, hle, f11, f0, f9, f10⟩
    simp (maxDischargeDepth := 9) only [↓gB, gV, gT, reduceIte, reduceCtorEq, Nat.reduceEqDiff, Nat.reduceAdd, Nat.reduceSub, Nat.reduceLeDiff, Nat.reduceLT, Int.reduceEq, Nat.reduceMul, c0, f11, f0, f9, f10]
    refine Xc_split _ _ _ _ _ (fun c1 => ?_) (fun c1 => ?_)
    · obtain ⟨t, hti⟩ : ∃ t, l[i]? = some t := ⟨_, List.getElem?_eq_getElem (by omega)⟩
      have hz1 := hz t (List.mem_of_getElem? hti)
      simp (maxDischargeDepth := 9) only [↓gB, gV, gT, reduceIte, reduceCtorEq, Nat.reduceEqDiff, Nat.reduceAdd, Nat.reduceSub, Nat.reduceLeDiff, Nat.reduceLT, Int.reduceEq, Nat.reduceMul, c0, f11, f0, f9, f10, c1]
      obtain ⟨x1, a1, s1, m1, rfl, ⟨v1, rfl, w1⟩, e1⟩ := hv.at (i) (by omega) 6 rfl
      obtain ⟨aw1, cw1, rfl⟩ := RSl.val w1
      simp (maxDischargeDepth := 9) only [↓gB, gV, gT, reduceIte, reduceCtorEq, Nat.reduceEqDiff, Nat.reduceAdd, Nat.reduceSub, Nat.reduceLeDiff, Nat.reduceLT, Int.reduceEq, Nat.reduceMul, c0, f11, f10, c1, f0, f9, e1]
      refine vguard_intro (by simp) ?_
      refine Yn2 fun r1 h1 => ?_
      simp (maxDischargeDepth := 9) only [↓gB, gV, gT, reduceIte, reduceCtorEq, Nat.reduceEqDiff, Nat.reduceAdd, Nat.reduceSub, Nat.reduceLeDiff, Nat.reduceLT, Int.reduceEq, Nat.reduceMul, c0, f11, f10, c1, f0, f9, e1, h1]
      refine Ycp (p77) ?_
      simp (maxDischargeDepth := 9) only [↓gB, gV, gT, reduceIte, reduceCtorEq, Nat.reduceEqDiff, Nat.reduceAdd, Nat.reduceSub, Nat.reduceLeDiff, Nat.reduceLT, Int.reduceEq, Nat.reduceMul, c0, f11, f10, c1, f0, f9, e1, h1]
      obtain rfl : t = x1 := by rw [hti] at m1; cases m1; rfl
      focus
        rcases bool_tf (Go.Proofs.YtnlbapfbdabjaaaDoor.isKey t.Ride) with c2 | c2
        rotate_left 1
        focus
          simp (maxDischargeDepth := 9) only [↓gB, gV, gT, reduceIte, reduceCtorEq, Nat.reduceEqDiff, Nat.reduceAdd, Nat.reduceSub, Nat.reduceLeDiff, Nat.reduceLT, Int.reduceEq, Nat.reduceMul, c0, f11, f10, c1, f0, f9, h1, e1, c2]
          refine Kup_val (by simp (maxDischargeDepth := 9) only [le_self, le_puts, le_put0, hle, h1]) ?_
          focus (rw [tf5 h0' h m1 (.inl (by assumption))]; done)
        rotate_right 1
        simp (maxDischargeDepth := 9) only [↓gB, gV, gT, reduceIte, reduceCtorEq, Nat.reduceEqDiff, Nat.reduceAdd, Nat.reduceSub, Nat.reduceLeDiff, Nat.reduceLT, Int.reduceEq, Nat.reduceMul, c0, f11, f10, c1, f0, f9, h1, e1, c2]
        refine Ycp (p77) ?_
        simp (maxDischargeDepth := 9) only [↓gB, gV, gT, reduceIte, reduceCtorEq, Nat.reduceEqDiff, Nat.reduceAdd, Nat.reduceSub, Nat.reduceLeDiff, Nat.reduceLT, Int.reduceEq, Nat.reduceMul, c0, f11, f10, c1, f0, f9, h1, e1, c2]
        rcases bool_tf (Go.Proofs.YtnlbapfbdabjaaaDoor.isKey t.Rider) with c3 | c3
        rotate_left 1
        focus
          simp (maxDischargeDepth := 9) only [↓gB, gV, gT, reduceIte, reduceCtorEq, Nat.reduceEqDiff, Nat.reduceAdd, Nat.reduceSub, Nat.reduceLeDiff, Nat.reduceLT, Int.reduceEq, Nat.reduceMul, c0, f11, f10, c1, f0, f9, h1, e1, c2, c3]
          refine Kup_val (by simp (maxDischargeDepth := 9) only [le_self, le_puts, le_put0, hle, h1]) ?_
          focus (rw [tf5 h0' h m1 (.inr (by assumption))]; done)
        rotate_right 1
        simp (maxDischargeDepth := 9) only [↓gB, gV, gT, reduceIte, reduceCtorEq, Nat.reduceEqDiff, Nat.reduceAdd, Nat.reduceSub, Nat.reduceLeDiff, Nat.reduceLT, Int.reduceEq, Nat.reduceMul, c0, f11, f10, c1, f0, f9, h1, e1, c2, c3]
        refine Xdraw_intro [0, 1, 2, 3, 4, 5, 6, 7, 8, 9, 10, 11, 12, 13] mixed (by kernel_rfl) (by decide +kernel) ?_
        simp (maxDischargeDepth := 9) only [↓gB, gV, gT, reduceIte, reduceCtorEq, Nat.reduceEqDiff, Nat.reduceAdd, Nat.reduceSub, Nat.reduceLeDiff, Nat.reduceLT, Int.reduceEq, Nat.reduceMul, c0, f11, f10, c1, f0, f9, h1, e1, c2, c3]
        by_cases c4 : (0 : Int) < ↑i
        rotate_left 1
        focus
          simp (maxDischargeDepth := 9) only [↓gB, gV, gT, reduceIte, reduceCtorEq, Nat.reduceEqDiff, Nat.reduceAdd, Nat.reduceSub, Nat.reduceLeDiff, Nat.reduceLT, Int.reduceEq, Nat.reduceMul, c0, f11, f10, c1, f0, f9, h1, e1, c2, c3, c4]
          refine Xc_split _ _ _ _ _ (fun c5 => ?_) (fun c5 => ?_)
          rotate_left 1
          focus
            simp (maxDischargeDepth := 9) only [↓gB, gV, gT, reduceIte, reduceCtorEq, Nat.reduceEqDiff, Nat.reduceAdd, Nat.reduceSub, Nat.reduceLeDiff, Nat.reduceLT, Int.reduceEq, Nat.reduceMul, c0, f11, f10, c1, f0, f9, h1, e1, c2, c3, c4, c5]
            refine Ycp (p32 (by exact RSl.put _ (by assumption) (by assumption)) (by omega)) ?_
            simp (maxDischargeDepth := 9) only [↓gB, gV, gT, reduceIte, reduceCtorEq, Nat.reduceEqDiff, Nat.reduceAdd, Nat.reduceSub, Nat.reduceLeDiff, Nat.reduceLT, Int.reduceEq, Nat.reduceMul, c0, f11, f10, c1, f0, f9, h1, e1, c2, c3, c4, c5]
            refine Xc_split _ _ _ _ _ (fun c6 => ?_) (fun c6 => ?_)
            rotate_left 1
            focus
              simp (maxDischargeDepth := 9) only [↓gB, gV, gT, reduceIte, reduceCtorEq, Nat.reduceEqDiff, Nat.reduceAdd, Nat.reduceSub, Nat.reduceLeDiff, Nat.reduceLT, Int.reduceEq, Nat.reduceMul, c0, f11, f10, c1, f0, f9, h1, e1, c2, c3, c4, c5, c6]
              refine Ycp (p68) ?_
              simp (maxDischargeDepth := 9) only [↓gB, gV, gT, reduceIte, reduceCtorEq, Nat.reduceEqDiff, Nat.reduceAdd, Nat.reduceSub, Nat.reduceLeDiff, Nat.reduceLT, Int.reduceEq, Nat.reduceMul, c0, f11, f10, c1, f0, f9, h1, e1, c2, c3, c4, c5, c6]
              rcases bool_tf (Go.Proofs.YtnlbapfbdabjaaaDoor.within t.Metres 0 100000000) with c7 | c7
              rotate_left 1
              focus
                simp (maxDischargeDepth := 9) only [↓gB, gV, gT, reduceIte, reduceCtorEq, Nat.reduceEqDiff, Nat.reduceAdd, Nat.reduceSub, Nat.reduceLeDiff, Nat.reduceLT, Int.reduceEq, Nat.reduceMul, c0, f11, f10, c1, f0, f9, h1, e1, c2, c3, c4, c5, c6, c7]
                refine Kup_val (by simp (maxDischargeDepth := 9) only [le_self, le_puts, le_put0, hle, h1]) ?_
                focus (rw [tf1 h0' h m1 (by assumption) (by assumption) (by first | exact pv_p (by assumption) m2 (by simp [*]) | exact pv_z (by assumption)) (by assumption) (Classical.not_not.1 (by assumption)) (by first | exact .inl (by assumption) | exact .inr (.inl (by assumption)) | exact .inr (.inr (by assumption)))]; done)
              rotate_right 1
              simp (maxDischargeDepth := 9) only [↓gB, gV, gT, reduceIte, reduceCtorEq, Nat.reduceEqDiff, Nat.reduceAdd, Nat.reduceSub, Nat.reduceLeDiff, Nat.reduceLT, Int.reduceEq, Nat.reduceMul, c0, f11, f10, c1, f0, f9, h1, e1, c2, c3, c4, c5, c6, c7]
              refine Ycp (p68) ?_
              simp (maxDischargeDepth := 9) only [↓gB, gV, gT, reduceIte, reduceCtorEq, Nat.reduceEqDiff, Nat.reduceAdd, Nat.reduceSub, Nat.reduceLeDiff, Nat.reduceLT, Int.reduceEq, Nat.reduceMul, c0, f11, f10, c1, f0, f9, h1, e1, c2, c3, c4, c5, c6, c7]
              rcases bool_tf (Go.Proofs.YtnlbapfbdabjaaaDoor.within t.Time_From 0 t.Time_To) with c8 | c8
              rotate_left 1
              focus
                simp (maxDischargeDepth := 9) only [↓gB, gV, gT, reduceIte, reduceCtorEq, Nat.reduceEqDiff, Nat.reduceAdd, Nat.reduceSub, Nat.reduceLeDiff, Nat.reduceLT, Int.reduceEq, Nat.reduceMul, c0, f11, f10, c1, f0, f9, h1, e1, c2, c3, c4, c5, c6, c7, c8]
                refine Kup_val (by simp (maxDischargeDepth := 9) only [le_self, le_puts, le_put0, hle, h1]) ?_
                focus (rw [tf1 h0' h m1 (by assumption) (by assumption) (by first | exact pv_p (by assumption) m2 (by simp [*]) | exact pv_z (by assumption)) (by assumption) (Classical.not_not.1 (by assumption)) (by first | exact .inl (by assumption) | exact .inr (.inl (by assumption)) | exact .inr (.inr (by assumption)))]; done)
              rotate_right 1
              simp (maxDischargeDepth := 9) only [↓gB, gV, gT, reduceIte, reduceCtorEq, Nat.reduceEqDiff, Nat.reduceAdd, Nat.reduceSub, Nat.reduceLeDiff, Nat.reduceLT, Int.reduceEq, Nat.reduceMul, c0, f11, f10, c1, f0, f9, h1, e1, c2, c3, c4, c5, c6, c7, c8]
              refine Xc_split _ _ _ _ _ (fun c9 => ?_) (fun c9 => ?_)
              rotate_left 1
              focus
                simp (maxDischargeDepth := 9) only [↓gB, gV, gT, reduceIte, reduceCtorEq, Nat.reduceEqDiff, Nat.reduceAdd, Nat.reduceSub, Nat.reduceLeDiff, Nat.reduceLT, Int.reduceEq, Nat.reduceMul, c0, f11, f10, c1, f0, f9, h1, e1, c2, c3, c4, c5, c6, c7, c8, c9]
                have q1 : Go.IntKind.i64.wrap (↑i + 1) = ↑i + 1 := wrap_id (by omega)
                simp (maxDischargeDepth := 9) only [↓gB, gV, gT, reduceIte, reduceCtorEq, Nat.reduceEqDiff, Nat.reduceAdd, Nat.reduceSub, Nat.reduceLeDiff, Nat.reduceLT, Int.reduceEq, Nat.reduceMul, c0, f11, f10, c1, f0, f9, h1, e1, c2, c3, c4, c5, c6, c7, c8, c9, q1]
                rw [N_lp]
                refine ⟨_, ?_, _, sub_refl _, i + 1, rfl, ?_, ?_, ?_, ?_, by simp (maxDischargeDepth := 9) only [↓gB, gV, gT, reduceIte, reduceCtorEq, Nat.reduceEqDiff, Nat.reduceAdd, Nat.reduceSub, Nat.reduceLeDiff, Nat.reduceLT, Int.reduceEq, Nat.reduceMul, c0, f11, f10, c1, f0, f9, h1, e1, c2, c3, c4, c5, c6, c7, c8, c9, q1, nat_succ, and_self]⟩
                · omega
                · omega
                · (exact tfn h m1 (by assumption) (by assumption) (by first | exact pv_p (by assumption) m2 (by simp [*]) | exact pv_z (by assumption)) (by assumption) (Classical.not_not.1 (by assumption)) (by assumption) (by assumption) (by assumption); done)
                · exact RSl.put _ (by assumption) (by assumption)
                · (simp (maxDischargeDepth := 9) only [le_self, le_puts, le_put0, sub_self, sub_puts, sub_put0, hle, h1]; done)
              rotate_right 1
              simp (maxDischargeDepth := 9) only [↓gB, gV, gT, reduceIte, reduceCtorEq, Nat.reduceEqDiff, Nat.reduceAdd, Nat.reduceSub, Nat.reduceLeDiff, Nat.reduceLT, Int.reduceEq, Nat.reduceMul, c0, f11, f10, c1, f0, f9, h1, e1, c2, c3, c4, c5, c6, c7, c8, c9]
              refine Kup_val (by simp (maxDischargeDepth := 9) only [le_self, le_puts, le_put0, hle, h1]) ?_
              focus (rw [tf1 h0' h m1 (by assumption) (by assumption) (by first | exact pv_p (by assumption) m2 (by simp [*]) | exact pv_z (by assumption)) (by assumption) (Classical.not_not.1 (by assumption)) (by first | exact .inl (by assumption) | exact .inr (.inl (by assumption)) | exact .inr (.inr (by assumption)))]; done)
            rotate_right 1
            simp (maxDischargeDepth := 9) only [↓gB, gV, gT, reduceIte, reduceCtorEq, Nat.reduceEqDiff, Nat.reduceAdd, Nat.reduceSub, Nat.reduceLeDiff, Nat.reduceLT, Int.reduceEq, Nat.reduceMul, c0, f11, f10, c1, f0, f9, h1, e1, c2, c3, c4, c5, c6]
            refine Kup_val (by simp (maxDischargeDepth := 9) only [le_self, le_puts, le_put0, hle, h1]) ?_
            focus (rw [tfe h0' h m1 (by assumption) (by assumption) (by first | exact pv_p (by assumption) m2 (by simp [*]) | exact pv_z (by assumption)) (by assumption) (by assumption)]; done)
          rotate_right 1
          simp (maxDischargeDepth := 9) only [↓gB, gV, gT, reduceIte, reduceCtorEq, Nat.reduceEqDiff, Nat.reduceAdd, Nat.reduceSub, Nat.reduceLeDiff, Nat.reduceLT, Int.reduceEq, Nat.reduceMul, c0, f11, f10, c1, f0, f9, h1, e1, c2, c3, c4, c5]
          refine Kup_val (by simp (maxDischargeDepth := 9) only [le_self, le_puts, le_put0, hle, h1]) ?_
          focus (rw [tf8 h0' h m1 (by assumption) (by assumption) (by first | exact pv_p (by assumption) m2 (by simp [*]) | exact pv_z (by assumption)) (by assumption)]; done)
        rotate_right 1
        simp (maxDischargeDepth := 9) only [↓gB, gV, gT, reduceIte, reduceCtorEq, Nat.reduceEqDiff, Nat.reduceAdd, Nat.reduceSub, Nat.reduceLeDiff, Nat.reduceLT, Int.reduceEq, Nat.reduceMul, c0, f11, f10, c1, f0, f9, h1, e1, c2, c3, c4]
        have q1 : Go.IntKind.i64.wrap (↑i - 1) = ↑i - 1 := wrap_id (by omega)
        simp (maxDischargeDepth := 9) only [↓gB, gV, gT, reduceIte, reduceCtorEq, Nat.reduceEqDiff, Nat.reduceAdd, Nat.reduceSub, Nat.reduceLeDiff, Nat.reduceLT, Int.reduceEq, Nat.reduceMul, c0, f11, f10, c1, f0, f9, h1, e1, c2, c3, c4, q1]
        refine vguard_intro (by omega) ?_
        obtain ⟨x2, s2, m2, ⟨v2, rfl, w2⟩, e2⟩ := hv.at' (i - 1) (by omega) 6 rfl
        obtain ⟨aw2, cw2, rfl⟩ := RSl.val w2
        simp (maxDischargeDepth := 9) only [↓gB, gV, gT, reduceIte, reduceCtorEq, Nat.reduceEqDiff, Nat.reduceAdd, Nat.reduceSub, Nat.reduceLeDiff, Nat.reduceLT, Int.reduceEq, Nat.reduceMul, c0, f11, f10, c1, f0, f9, h1, e1, c2, c3, c4, q1, e2]
        rcases bool_tf (Go.GL.sLt x2.Ride t.Ride) with c5 | c5
        rotate_left 1
        focus
          simp (maxDischargeDepth := 9) only [↓gB, gV, gT, reduceIte, reduceCtorEq, Nat.reduceEqDiff, Nat.reduceAdd, Nat.reduceSub, Nat.reduceLeDiff, Nat.reduceLT, Int.reduceEq, Nat.reduceMul, c0, f11, f10, c1, f0, f9, h1, e1, c2, c3, c4, q1, e2, c5]
          refine Kup_val (by simp (maxDischargeDepth := 9) only [le_self, le_puts, le_put0, hle, h1]) ?_
          focus (rw [tf7 h0' h m1 (by assumption) (by assumption) (pv_p (by assumption) m2 (by simp [*]))]; done)
        rotate_right 1
        simp (maxDischargeDepth := 9) only [↓gB, gV, gT, reduceIte, reduceCtorEq, Nat.reduceEqDiff, Nat.reduceAdd, Nat.reduceSub, Nat.reduceLeDiff, Nat.reduceLT, Int.reduceEq, Nat.reduceMul, c0, f11, f10, c1, f0, f9, h1, e1, c2, c3, c4, q1, e2, c5]
        refine Xc_split _ _ _ _ _ (fun c6 => ?_) (fun c6 => ?_)
        rotate_left 1
        focus
          simp (maxDischargeDepth := 9) only [↓gB, gV, gT, reduceIte, reduceCtorEq, Nat.reduceEqDiff, Nat.reduceAdd, Nat.reduceSub, Nat.reduceLeDiff, Nat.reduceLT, Int.reduceEq, Nat.reduceMul, c0, f11, f10, c1, f0, f9, h1, e1, c2, c3, c4, q1, e2, c5, c6]
          refine Ycp (p32 (by exact RSl.put _ (by assumption) (by assumption)) (by omega)) ?_
          simp (maxDischargeDepth := 9) only [↓gB, gV, gT, reduceIte, reduceCtorEq, Nat.reduceEqDiff, Nat.reduceAdd, Nat.reduceSub, Nat.reduceLeDiff, Nat.reduceLT, Int.reduceEq, Nat.reduceMul, c0, f11, f10, c1, f0, f9, h1, e1, c2, c3, c4, q1, e2, c5, c6]
          refine Xc_split _ _ _ _ _ (fun c7 => ?_) (fun c7 => ?_)
          rotate_left 1
          focus
            simp (maxDischargeDepth := 9) only [↓gB, gV, gT, reduceIte, reduceCtorEq, Nat.reduceEqDiff, Nat.reduceAdd, Nat.reduceSub, Nat.reduceLeDiff, Nat.reduceLT, Int.reduceEq, Nat.reduceMul, c0, f11, f10, c1, f0, f9, h1, e1, c2, c3, c4, q1, e2, c5, c6, c7]
            refine Ycp (p68) ?_
            simp (maxDischargeDepth := 9) only [↓gB, gV, gT, reduceIte, reduceCtorEq, Nat.reduceEqDiff, Nat.reduceAdd, Nat.reduceSub, Nat.reduceLeDiff, Nat.reduceLT, Int.reduceEq, Nat.reduceMul, c0, f11, f10, c1, f0, f9, h1, e1, c2, c3, c4, q1, e2, c5, c6, c7]
            rcases bool_tf (Go.Proofs.YtnlbapfbdabjaaaDoor.within t.Metres 0 100000000) with c8 | c8
            rotate_left 1
            focus
              simp (maxDischargeDepth := 9) only [↓gB, gV, gT, reduceIte, reduceCtorEq, Nat.reduceEqDiff, Nat.reduceAdd, Nat.reduceSub, Nat.reduceLeDiff, Nat.reduceLT, Int.reduceEq, Nat.reduceMul, c0, f11, f10, c1, f0, f9, h1, e1, c2, c3, c4, q1, e2, c5, c6, c7, c8]
              refine Kup_val (by simp (maxDischargeDepth := 9) only [le_self, le_puts, le_put0, hle, h1]) ?_
              focus (rw [tf1 h0' h m1 (by assumption) (by assumption) (by first | exact pv_p (by assumption) m2 (by simp [*]) | exact pv_z (by assumption)) (by assumption) (Classical.not_not.1 (by assumption)) (by first | exact .inl (by assumption) | exact .inr (.inl (by assumption)) | exact .inr (.inr (by assumption)))]; done)
            rotate_right 1
            simp (maxDischargeDepth := 9) only [↓gB, gV, gT, reduceIte, reduceCtorEq, Nat.reduceEqDiff, Nat.reduceAdd, Nat.reduceSub, Nat.reduceLeDiff, Nat.reduceLT, Int.reduceEq, Nat.reduceMul, c0, f11, f10, c1, f0, f9, h1, e1, c2, c3, c4, q1, e2, c5, c6, c7, c8]
            refine Ycp (p68) ?_
            simp (maxDischargeDepth := 9) only [↓gB, gV, gT, reduceIte, reduceCtorEq, Nat.reduceEqDiff, Nat.reduceAdd, Nat.reduceSub, Nat.reduceLeDiff, Nat.reduceLT, Int.reduceEq, Nat.reduceMul, c0, f11, f10, c1, f0, f9, h1, e1, c2, c3, c4, q1, e2, c5, c6, c7, c8]
            rcases bool_tf (Go.Proofs.YtnlbapfbdabjaaaDoor.within t.Time_From 0 t.Time_To) with c9 | c9
            rotate_left 1
            focus
              simp (maxDischargeDepth := 9) only [↓gB, gV, gT, reduceIte, reduceCtorEq, Nat.reduceEqDiff, Nat.reduceAdd, Nat.reduceSub, Nat.reduceLeDiff, Nat.reduceLT, Int.reduceEq, Nat.reduceMul, c0, f11, f10, c1, f0, f9, h1, e1, c2, c3, c4, q1, e2, c5, c6, c7, c8, c9]
              refine Kup_val (by simp (maxDischargeDepth := 9) only [le_self, le_puts, le_put0, hle, h1]) ?_
              focus (rw [tf1 h0' h m1 (by assumption) (by assumption) (by first | exact pv_p (by assumption) m2 (by simp [*]) | exact pv_z (by assumption)) (by assumption) (Classical.not_not.1 (by assumption)) (by first | exact .inl (by assumption) | exact .inr (.inl (by assumption)) | exact .inr (.inr (by assumption)))]; done)
            rotate_right 1
            simp (maxDischargeDepth := 9) only [↓gB, gV, gT, reduceIte, reduceCtorEq, Nat.reduceEqDiff, Nat.reduceAdd, Nat.reduceSub, Nat.reduceLeDiff, Nat.reduceLT, Int.reduceEq, Nat.reduceMul, c0, f11, f10, c1, f0, f9, h1, e1, c2, c3, c4, q1, e2, c5, c6, c7, c8, c9]
            refine Xc_split _ _ _ _ _ (fun c10 => ?_) (fun c10 => ?_)
            rotate_left 1
            focus
              simp (maxDischargeDepth := 9) only [↓gB, gV, gT, reduceIte, reduceCtorEq, Nat.reduceEqDiff, Nat.reduceAdd, Nat.reduceSub, Nat.reduceLeDiff, Nat.reduceLT, Int.reduceEq, Nat.reduceMul, c0, f11, f10, c1, f0, f9, h1, e1, c2, c3, c4, q1, e2, c5, c6, c7, c8, c9, c10]
              have q2 : Go.IntKind.i64.wrap (↑i + 1) = ↑i + 1 := wrap_id (by omega)
              simp (maxDischargeDepth := 9) only [↓gB, gV, gT, reduceIte, reduceCtorEq, Nat.reduceEqDiff, Nat.reduceAdd, Nat.reduceSub, Nat.reduceLeDiff, Nat.reduceLT, Int.reduceEq, Nat.reduceMul, c0, f11, f10, c1, f0, f9, h1, e1, c2, c3, c4, q1, e2, c5, c6, c7, c8, c9, c10, q2]
              rw [N_lp]
              refine ⟨_, ?_, _, sub_refl _, i + 1, rfl, ?_, ?_, ?_, ?_, by simp (maxDischargeDepth := 9) only [↓gB, gV, gT, reduceIte, reduceCtorEq, Nat.reduceEqDiff, Nat.reduceAdd, Nat.reduceSub, Nat.reduceLeDiff, Nat.reduceLT, Int.reduceEq, Nat.reduceMul, c0, f11, f10, c1, f0, f9, h1, e1, c2, c3, c4, q1, e2, c5, c6, c7, c8, c9, c10, q2, nat_succ, and_self]⟩
              · omega
              · omega
              · (exact tfn h m1 (by assumption) (by assumption) (by first | exact pv_p (by assumption) m2 (by simp [*]) | exact pv_z (by assumption)) (by assumption) (Classical.not_not.1 (by assumption)) (by assumption) (by assumption) (by assumption); done)
              · exact RSl.put _ (by assumption) (by assumption)
              · (simp (maxDischargeDepth := 9) only [le_self, le_puts, le_put0, sub_self, sub_puts, sub_put0, hle, h1]; done)
            rotate_right 1
            simp (maxDischargeDepth := 9) only [↓gB, gV, gT, reduceIte, reduceCtorEq, Nat.reduceEqDiff, Nat.reduceAdd, Nat.reduceSub, Nat.reduceLeDiff, Nat.reduceLT, Int.reduceEq, Nat.reduceMul, c0, f11, f10, c1, f0, f9, h1, e1, c2, c3, c4, q1, e2, c5, c6, c7, c8, c9, c10]
            refine Kup_val (by simp (maxDischargeDepth := 9) only [le_self, le_puts, le_put0, hle, h1]) ?_
            focus (rw [tf1 h0' h m1 (by assumption) (by assumption) (by first | exact pv_p (by assumption) m2 (by simp [*]) | exact pv_z (by assumption)) (by assumption) (Classical.not_not.1 (by assumption)) (by first | exact .inl (by assumption) | exact .inr (.inl (by assumption)) | exact .inr (.inr (by assumption)))]; done)
          rotate_right 1
          simp (maxDischargeDepth := 9) only [↓gB, gV, gT, reduceIte, reduceCtorEq, Nat.reduceEqDiff, Nat.reduceAdd, Nat.reduceSub, Nat.reduceLeDiff, Nat.reduceLT, Int.reduceEq, Nat.reduceMul, c0, f11, f10, c1, f0, f9, h1, e1, c2, c3, c4, q1, e2, c5, c6, c7]
          refine Kup_val (by simp (maxDischargeDepth := 9) only [le_self, le_puts, le_put0, hle, h1]) ?_
          focus (rw [tfe h0' h m1 (by assumption) (by assumption) (by first | exact pv_p (by assumption) m2 (by simp [*]) | exact pv_z (by assumption)) (by assumption) (by assumption)]; done)
        rotate_right 1
        simp (maxDischargeDepth := 9) only [↓gB, gV, gT, reduceIte, reduceCtorEq, Nat.reduceEqDiff, Nat.reduceAdd, Nat.reduceSub, Nat.reduceLeDiff, Nat.reduceLT, Int.reduceEq, Nat.reduceMul, c0, f11, f10, c1, f0, f9, h1, e1, c2, c3, c4, q1, e2, c5, c6]
        refine Kup_val (by simp (maxDischargeDepth := 9) only [le_self, le_puts, le_put0, hle, h1]) ?_
        focus (rw [tf8 h0' h m1 (by assumption) (by assumption) (by first | exact pv_p (by assumption) m2 (by simp [*]) | exact pv_z (by assumption)) (by assumption)]; done)
    · simp (maxDischargeDepth := 9) only [↓gB, gV, gT, reduceIte, reduceCtorEq, Nat.reduceEqDiff, Nat.reduceAdd, Nat.reduceSub, Nat.reduceLeDiff, Nat.reduceLT, Int.reduceEq, Nat.reduceMul, c0, f11, f0, f9, f10, c1]
      refine Kup_val (by simp (maxDischargeDepth := 9) only [le_self, le_puts, le_put0, hle]) ?_
      focus (rw [tf0 h0' h c1]; done)
end Go.Proofs.YtnlbapfbdabjaaaDoor
namespace Go.Proofs.YtnlbapfbdabjaaaDoor
open Go Go.GL
attribute [local irreducible] Ycall GCalls
set_option maxRecDepth 10000
set_option maxHeartbeats 0
theorem begunA {n : Int} : (n + 100 - 1) / 100 = (n + 99) / 100 := by omega
def begunF (n p : Int) : Int := (n + (p - 1)) / p
theorem begun1 (n : Int) : begunF n 100 = (n + 99) / 100 := rfl
theorem begun6 (n : Int) : begunF n 60000 = (n + 59999) / 60000 := rfl
theorem p90 {G0 : GH} {n p : Int} (h0 : 0 ≤ n) (h1 : n ≤ 9000000000000000000) (hp : p = 100 ∨ p = 60000) : Pure Tryd.prog G0 90 [V n, V p] (V (begunF n p)) := by
  intro G hG
  clear hG G0
  refine enter Tryd.func90 16 #[.tmp 4] rfl Tryd.ntmps90 rfl (by decide +kernel) rfl ?_
  rcases hp with rfl | rfl
  · have d1 : n.tdiv 100 = n / 100 := Int.tdiv_eq_ediv_of_nonneg h0
    have d2 : n.tmod 100 = n % 100 := Int.tmod_eq_emod_of_nonneg h0
    focus
      simp (maxDischargeDepth := 9) only [↓gB, gV, gT, reduceIte, reduceCtorEq, Nat.reduceEqDiff, Nat.reduceAdd, Nat.reduceSub, Nat.reduceLeDiff, Nat.reduceLT, Int.reduceEq, Nat.reduceMul, d1, d2, begun1]
      refine Xc_split _ _ _ _ _ (fun c1 => ?_) (fun c1 => ?_)
      rotate_left 1
      focus
        simp (maxDischargeDepth := 9) only [↓gB, gV, gT, reduceIte, reduceCtorEq, Nat.reduceEqDiff, Nat.reduceAdd, Nat.reduceSub, Nat.reduceLeDiff, Nat.reduceLT, Int.reduceEq, Nat.reduceMul, d1, d2, c1, begun1]
        refine Kup_val (le_refl _) ?_
        have q1 : Go.IntKind.i64.wrap (n / 100) = n / 100 := wrap_id (by omega)
        simp (maxDischargeDepth := 9) only [↓gB, gV, gT, reduceIte, reduceCtorEq, Nat.reduceEqDiff, Nat.reduceAdd, Nat.reduceSub, Nat.reduceLeDiff, Nat.reduceLT, Int.reduceEq, Nat.reduceMul, d1, d2, c1, q1, begun1]
        focus ((have e : (n + 99) / 100 = n / 100 := by omega); rw [e]; done)
      rotate_right 1
      simp (maxDischargeDepth := 9) only [↓gB, gV, gT, reduceIte, reduceCtorEq, Nat.reduceEqDiff, Nat.reduceAdd, Nat.reduceSub, Nat.reduceLeDiff, Nat.reduceLT, Int.reduceEq, Nat.reduceMul, d1, d2, c1, begun1]
      refine Kup_val (le_refl _) ?_
      have q1 : Go.IntKind.i64.wrap (n / 100) = n / 100 := wrap_id (by omega)
      simp (maxDischargeDepth := 9) only [↓gB, gV, gT, reduceIte, reduceCtorEq, Nat.reduceEqDiff, Nat.reduceAdd, Nat.reduceSub, Nat.reduceLeDiff, Nat.reduceLT, Int.reduceEq, Nat.reduceMul, d1, d2, c1, q1, begun1]
      have q2 : Go.IntKind.i64.wrap (n / 100 + 1) = n / 100 + 1 := wrap_id (by omega)
      simp (maxDischargeDepth := 9) only [↓gB, gV, gT, reduceIte, reduceCtorEq, Nat.reduceEqDiff, Nat.reduceAdd, Nat.reduceSub, Nat.reduceLeDiff, Nat.reduceLT, Int.reduceEq, Nat.reduceMul, d1, d2, c1, q1, q2, begun1]
      focus ((have e : (n + 99) / 100 = n / 100 + 1 := by omega); rw [e]; done)
  · have d1 : n.tdiv 60000 = n / 60000 := Int.tdiv_eq_ediv_of_nonneg h0
    have d2 : n.tmod 60000 = n % 60000 := Int.tmod_eq_emod_of_nonneg h0
    focus
      simp (maxDischargeDepth := 9) only [↓gB, gV, gT, reduceIte, reduceCtorEq, Nat.reduceEqDiff, Nat.reduceAdd, Nat.reduceSub, Nat.reduceLeDiff, Nat.reduceLT, Int.reduceEq, Nat.reduceMul, d1, d2, begun6]
      refine Xc_split _ _ _ _ _ (fun c1 => ?_) (fun c1 => ?_)
      rotate_left 1
      focus
        simp (maxDischargeDepth := 9) only [↓gB, gV, gT, reduceIte, reduceCtorEq, Nat.reduceEqDiff, Nat.reduceAdd, Nat.reduceSub, Nat.reduceLeDiff, Nat.reduceLT, Int.reduceEq, Nat.reduceMul, d1, d2, c1, begun6]
        refine Kup_val (le_refl _) ?_
        have q1 : Go.IntKind.i64.wrap (n / 60000) = n / 60000 := wrap_id (by omega)
        simp (maxDischargeDepth := 9) only [↓gB, gV, gT, reduceIte, reduceCtorEq, Nat.reduceEqDiff, Nat.reduceAdd, Nat.reduceSub, Nat.reduceLeDiff, Nat.reduceLT, Int.reduceEq, Nat.reduceMul, d1, d2, c1, q1, begun6]
        focus ((have e : (n + 59999) / 60000 = n / 60000 := by omega); rw [e]; done)
      rotate_right 1
      simp (maxDischargeDepth := 9) only [↓gB, gV, gT, reduceIte, reduceCtorEq, Nat.reduceEqDiff, Nat.reduceAdd, Nat.reduceSub, Nat.reduceLeDiff, Nat.reduceLT, Int.reduceEq, Nat.reduceMul, d1, d2, c1, begun6]
      refine Kup_val (le_refl _) ?_
      have q1 : Go.IntKind.i64.wrap (n / 60000) = n / 60000 := wrap_id (by omega)
      simp (maxDischargeDepth := 9) only [↓gB, gV, gT, reduceIte, reduceCtorEq, Nat.reduceEqDiff, Nat.reduceAdd, Nat.reduceSub, Nat.reduceLeDiff, Nat.reduceLT, Int.reduceEq, Nat.reduceMul, d1, d2, c1, q1, begun6]
      have q2 : Go.IntKind.i64.wrap (n / 60000 + 1) = n / 60000 + 1 := wrap_id (by omega)
      simp (maxDischargeDepth := 9) only [↓gB, gV, gT, reduceIte, reduceCtorEq, Nat.reduceEqDiff, Nat.reduceAdd, Nat.reduceSub, Nat.reduceLeDiff, Nat.reduceLT, Int.reduceEq, Nat.reduceMul, d1, d2, c1, q1, q2, begun6]
      focus ((have e : (n + 59999) / 60000 = n / 60000 + 1 := by omega); rw [e]; done)
def full0 (L : Int) (p : SPrice) (t : SJourney) : Int := p.Base + p.Metre * ((t.Metres + 99) / 100) + p.Minute * ((t.Time_To - t.Time_From + 59999) / 60000) + p.Cross * max 0 (L - 1)
def hourF (t : SJourney) : Int := t.Time_From % 86400000 / 3600000
def full1 (L : Int) (p : SPrice) (t : SJourney) : Int := if p.From ≤ hourF t ∧ hourF t < p.To then (full0 L p t * p.Peak + 99) / 100 else full0 L p t
def fullF (l : List SZone) (p : SPrice) (t : SJourney) : Int := min (max (full1 (crossF l t.Nodes).length p t) p.Least) p.Most
structure POk (p : SPrice) : Prop where
  k : isKey p.Key = true
  a : 0 ≤ p.Base ∧ p.Base ≤ 1000000000
  b : 0 ≤ p.Metre ∧ p.Metre ≤ 1000000000
  c : 0 ≤ p.Minute ∧ p.Minute ≤ 1000000000
  d : 0 ≤ p.Cross ∧ p.Cross ≤ 1000000000
  e : 0 ≤ p.Least ∧ p.Least ≤ 1000000000
  f : 0 ≤ p.Most ∧ p.Most ≤ 1000000000
  g : 0 ≤ p.Peak ∧ p.Peak ≤ 1000
structure TOk (t : SJourney) : Prop where
  a : 0 ≤ t.Metres ∧ t.Metres ≤ 100000000
  b : 0 ≤ t.Time_From ∧ t.Time_From ≤ t.Time_To
  c : t.Time_To ≤ 345686399999
  d : t.Nodes.length ≤ 2000
theorem mul_b {a b A B : Int} (h : 0 ≤ a ∧ a ≤ A) (k : 0 ≤ b ∧ b ≤ B) : 0 ≤ a * b ∧ a * b ≤ A * B := ⟨Int.mul_nonneg h.1 k.1, Int.mul_le_mul h.2 k.2 k.1 (by omega)⟩
structure Fb (L : Int) (p : SPrice) (t : SJourney) : Prop where
  a : 0 ≤ p.Metre * ((t.Metres + 99) / 100) ∧ p.Metre * ((t.Metres + 99) / 100) ≤ 1001000000000000
  b : 0 ≤ p.Minute * ((t.Time_To - t.Time_From + 59999) / 60000) ∧ p.Minute * ((t.Time_To - t.Time_From + 59999) / 60000) ≤ 5762000000000000
  c : 0 ≤ p.Cross * max 0 (L - 1) ∧ p.Cross * max 0 (L - 1) ≤ 2000000000000
  d : 0 ≤ full0 L p t ∧ full0 L p t ≤ 6800000000000000
  e : 0 ≤ full0 L p t * p.Peak ∧ full0 L p t * p.Peak ≤ 6800000000000000000
theorem fb {L : Int} {p : SPrice} {t : SJourney} (hp : POk p) (ht : TOk t) (h0 : 0 ≤ L) (h1 : L ≤ 2000) : Fb L p t := by
  obtain ⟨ta, tb, tc, td⟩ := ht
  have a := mul_b hp.b (show 0 ≤ (t.Metres + 99) / 100 ∧ (t.Metres + 99) / 100 ≤ 1001000 by omega)
  have b := mul_b hp.c (show 0 ≤ (t.Time_To - t.Time_From + 59999) / 60000 ∧ (t.Time_To - t.Time_From + 59999) / 60000 ≤ 5762000 by omega)
  have c := mul_b hp.d (show 0 ≤ max 0 (L - 1) ∧ max 0 (L - 1) ≤ 2000 by omega)
  have pa := hp.a
  have d : 0 ≤ full0 L p t ∧ full0 L p t ≤ 6800000000000000 := by unfold full0; omega
  have e := mul_b d hp.g
  exact ⟨by omega, by omega, by omega, d, by omega⟩
theorem pa_ok {p : SPrice} (hk : isKey p.Key = true) (h : priceArg p = true) : POk p := by
  unfold priceArg at h
  simp only [Bool.and_eq_true, Bool.not_eq_true', List.any_eq_false, List.mem_cons, List.not_mem_nil, or_false, decide_eq_true_eq, cents, Bool.not_eq_true] at h
  obtain ⟨h, ⟨⟨h1, h2⟩, h3⟩, h4⟩ := h
  have g : ∀ x, (x = p.Base ∨ x = p.Metre ∨ x = p.Minute ∨ x = p.Cross ∨ x = p.Least ∨ x = p.Most) → 0 ≤ x ∧ x ≤ 1000000000 := fun x hx => within_iff.1 (by have := h x hx; simpa using this)
  exact ⟨hk, g _ (by simp), g _ (by simp), g _ (by simp), g _ (by simp), g _ (by simp), g _ (by simp), within_iff.1 h3⟩
theorem prices_ok : ∀ {q : Option SPrice} {l : List SPrice}, pricesF q l = 0 → ∀ p ∈ l, POk p
  | _, [], _ => by simp
  | q, x :: l, h => by
    unfold pricesF at h
    split at h
    · cases h
    · rename_i hk
      split at h
      · cases h
      · split at h
        · cases h
        · rename_i ha
          intro p hp
          rcases List.mem_cons.1 hp with rfl | hp
          · exact pa_ok (by simpa using hk) (by simpa using ha)
          · exact prices_ok h p hp
theorem cp_ok {l : List SPrice} (h : checkPrices l = 0) : ∀ p ∈ l, POk p := by
  unfold checkPrices at h; split at h
  · cases h
  · exact prices_ok h
theorem names_len {l : List ByteArray} {n : Int} (h : namesF l n = 0) : (l.length : Int) ≤ n := by
  unfold namesF at h; split at h
  · cases h
  · omega
theorem trips_ok : ∀ {q : Option SJourney} {l : List SJourney}, tripsF q l = 0 → ∀ t ∈ l, TOk t
  | _, [], _ => by simp
  | q, x :: l, h => by
    unfold tripsF at h
    split at h
    · cases h
    · split at h
      · cases h
      · split at h
        · cases h
        · split at h
          · rename_i h1; exact absurd h h1
          · rename_i h1
            have h1 : namesF x.Nodes 2000 = 0 := by omega
            split at h
            · cases h
            · rename_i ha
              intro p hp
              rcases List.mem_cons.1 hp with rfl | hp
              · have ha : tripArg p = true := by simpa using ha
                unfold tripArg at ha
                simp only [Bool.and_eq_true, decide_eq_true_eq] at ha
                have := names_len h1
                exact ⟨within_iff.1 ha.1.1, within_iff.1 ha.1.2, ha.2, by omega⟩
              · exact trips_ok h p hp
theorem ct_ok {l : List SJourney} (h : checkTrips l = 0) : ∀ t ∈ l, TOk t := by
  unfold checkTrips at h; split at h
  · cases h
  · exact trips_ok h
end Go.Proofs.YtnlbapfbdabjaaaDoor
