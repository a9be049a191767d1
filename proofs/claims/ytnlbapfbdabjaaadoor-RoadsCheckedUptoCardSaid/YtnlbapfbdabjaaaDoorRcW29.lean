/- A part of a proof: RoadsChecked, where what it reads is of bulk at most 1048576: the law holds of the program. No conditions but the statement's own. -/
import Derived.Shelf.Slices.CompactS
import Derived.Test.YtnlbapfbdabjaaaDoorRcGlZ
import Derived.Test.YtnlbapfbdabjaaaDoorRcSh
import Derived.Test.YtnlbapfbdabjaaaDoorRcW27
import Derived.Test.YtnlbapfbdabjaaaDoorRcW28
set_option linter.unusedSimpArgs false
set_option linter.unusedVariables false
set_option linter.unusedSectionVars false
namespace Go.Proofs.YtnlbapfbdabjaaaDoor
open Go Go.GL
attribute [local irreducible] Ycall GCalls
set_option maxRecDepth 10000
set_option maxHeartbeats 0
def afterK (l : List SKnot) (i : Nat) : SKnot := match l[i + 1]? with | some k => k | none => ⟨86400000, match l[0]? with | some k => k.Time | none => 0⟩
theorem after_s {l : List SKnot} {i : Nat} {x : SKnot} (m : l[i + 1]? = some x) : afterK l i = x := by unfold afterK; rw [m]
theorem after_e {l : List SKnot} {i : Nat} {x : SKnot} (h : ¬ (i : Int) + 1 < l.length) (m : l[0]? = some x) : afterK l i = ⟨86400000, x.Time⟩ := by unfold afterK; rw [List.getElem?_eq_none (by omega), m]
theorem p126 {G0 : GH} {v : Value} {l : List SKnot} {i : Nat} (hv : RSl rKnot G0 v l) (hi : i < l.length) (hn : (l.length : Int) ≤ 4611686018427387903) : Pure Tryd.prog G0 126 [v, V i] (.agg #[V (afterK l i).At, V (afterK l i).Time]) := by
  intro G hG; replace hv := hv.le hG
  clear hG G0
  refine enter Tryd.func126 20 #[.cell 4 141] rfl Tryd.ntmps126 rfl (by decide +kernel) rfl ?_
  obtain ⟨a, c, rfl⟩ := hv.val
  focus
    simp (maxDischargeDepth := 9) only [↓gB, gV, gT, reduceIte, reduceCtorEq, Nat.reduceEqDiff, Nat.reduceAdd, Nat.reduceSub, Nat.reduceLeDiff, Nat.reduceLT, Int.reduceEq, Nat.reduceMul, Int.toNat_zero]
    refine Yn2 fun r1 h1 => ?_
    simp (maxDischargeDepth := 9) only [↓gB, gV, gT, reduceIte, reduceCtorEq, Nat.reduceEqDiff, Nat.reduceAdd, Nat.reduceSub, Nat.reduceLeDiff, Nat.reduceLT, Int.reduceEq, Nat.reduceMul, h1, Int.toNat_zero]
    have q1 : Go.IntKind.i64.wrap (↑i + 1) = ↑i + 1 := wrap_id (by omega)
    simp (maxDischargeDepth := 9) only [↓gB, gV, gT, reduceIte, reduceCtorEq, Nat.reduceEqDiff, Nat.reduceAdd, Nat.reduceSub, Nat.reduceLeDiff, Nat.reduceLT, Int.reduceEq, Nat.reduceMul, h1, q1, Int.toNat_zero]
    refine Xc_split _ _ _ _ _ (fun c1 => ?_) (fun c1 => ?_)
    rotate_left 1
    focus
      simp (maxDischargeDepth := 9) only [↓gB, gV, gT, reduceIte, reduceCtorEq, Nat.reduceEqDiff, Nat.reduceAdd, Nat.reduceSub, Nat.reduceLeDiff, Nat.reduceLT, Int.reduceEq, Nat.reduceMul, h1, q1, c1, Int.toNat_zero]
      obtain ⟨x1, a1, s1, m1, rfl, rfl, e1⟩ := hv.at (0) (by omega) 2 rfl
      simp (maxDischargeDepth := 9) only [↓gB, gV, gT, reduceIte, reduceCtorEq, Nat.reduceEqDiff, Nat.reduceAdd, Nat.reduceSub, Nat.reduceLeDiff, Nat.reduceLT, Int.reduceEq, Nat.reduceMul, h1, q1, c1, e1, Int.toNat_zero]
      refine vguard_intro (by omega) ?_
      refine Kup_val (by simp (maxDischargeDepth := 9) only [le_self, le_puts, le_put0, h1]) ?_
      focus (rw [after_e (by assumption) m1]; done)
    rotate_right 1
    simp (maxDischargeDepth := 9) only [↓gB, gV, gT, reduceIte, reduceCtorEq, Nat.reduceEqDiff, Nat.reduceAdd, Nat.reduceSub, Nat.reduceLeDiff, Nat.reduceLT, Int.reduceEq, Nat.reduceMul, h1, q1, c1, Int.toNat_zero]
    obtain ⟨x1, a1, s1, m1, rfl, rfl, e1⟩ := hv.at (i + 1) (by omega) 2 rfl
    simp (maxDischargeDepth := 9) only [↓gB, gV, gT, reduceIte, reduceCtorEq, Nat.reduceEqDiff, Nat.reduceAdd, Nat.reduceSub, Nat.reduceLeDiff, Nat.reduceLT, Int.reduceEq, Nat.reduceMul, h1, q1, c1, e1, Int.toNat_zero]
    refine vguard_intro (by simp; omega) ?_
    refine Kup_val (by simp (maxDischargeDepth := 9) only [le_self, le_puts, le_put0, h1]) ?_
    focus (rw [after_s m1]; done)
def knotBad (q : Option SKnot) (k : SKnot) : Int := if within k.At 0 86399999 = false then 1 else if within k.Time 1 3600000 = false then 1 else if q.isNone = true ∧ ¬ k.At = 0 then 7 else if q.any (fun q => decide (k.At ≤ q.At)) = true then 7 else 0
def rules (l : List SKnot) : Bool := (List.range l.length).all fun i => match l[i]? with | some k => decide (k.Time - (afterK l i).Time ≤ (afterK l i).At - k.At) | none => true
theorem rules_no {l : List SKnot} {i : Nat} {k : SKnot} (m : l[i]? = some k) (h : (afterK l i).At - k.At < k.Time - (afterK l i).Time) : rules l = false := by
  have hi : i < l.length := by
    by_cases q : i < l.length
    · exact q
    · rw [List.getElem?_eq_none (by omega)] at m; cases m
  unfold rules
  rw [List.all_eq_false]
  refine ⟨i, List.mem_range.2 hi, ?_⟩
  simp only [m, decide_eq_true_eq]; omega
theorem rules_yes {l : List SKnot} (h : ∀ (i : Nat) k, i < l.length → l[i]? = some k → k.Time - (afterK l i).Time ≤ (afterK l i).At - k.At) : rules l = true := by
  unfold rules
  rw [List.all_eq_true]
  intro i hi
  split
  · rename_i k hk; exact decide_eq_true (h i k (List.mem_range.1 hi) hk)
  · rfl
theorem rules_at {l : List SKnot} (h : rules l = true) {i : Nat} {k : SKnot} (m : l[i]? = some k) : k.Time - (afterK l i).Time ≤ (afterK l i).At - k.At := by
  by_cases q : k.Time - (afterK l i).Time ≤ (afterK l i).At - k.At
  · exact q
  · rw [rules_no m (by omega)] at h; cases h
def knotsE (l : List SKnot) : Int := if l = [] then 8 else if 48 < l.length then 2 else if chk knotBad none l = 0 then (if rules l = true then 0 else 16) else chk knotBad none l
section
variable {l : List SKnot} {i : Nat} {x y : SKnot}
theorem kn1a (c : within x.At 0 86399999 = false) : knotBad (prevOf l i) x = 1 := by simp [knotBad, c]
theorem kn1b (c : within x.At 0 86399999 = true) (c2 : within x.Time 1 3600000 = false) : knotBad (prevOf l i) x = 1 := by simp [knotBad, c, c2]
theorem kn7a (c : within x.At 0 86399999 = true) (c2 : within x.Time 1 3600000 = true) (h : (i : Int) = 0) (h2 : ¬ x.At = 0) : knotBad (prevOf l i) x = 7 := by
  rw [prevOf_z (by omega)]; simp [knotBad, c, c2, h2]
theorem kn7b (c : within x.At 0 86399999 = true) (c2 : within x.Time 1 3600000 = true) (h : (0 : Int) < i) (m : l[i - 1]? = some y) (h2 : x.At ≤ y.At) : knotBad (prevOf l i) x = 7 := by
  rw [prevOf_p h, m]; simp [knotBad, c, c2, h2]
theorem kn0a (c : within x.At 0 86399999 = true) (c2 : within x.Time 1 3600000 = true) (h : (i : Int) = 0) (h2 : x.At = 0) : knotBad (prevOf l i) x = 0 := by
  rw [prevOf_z (by omega)]; unfold knotBad; rw [if_neg (by simp [c]), if_neg (by simp [c2]), if_neg (by simp [h2]), if_neg (by simp)]
theorem kn0b (c : within x.At 0 86399999 = true) (c2 : within x.Time 1 3600000 = true) (h : (0 : Int) < i) (m : l[i - 1]? = some y) (h2 : ¬ x.At ≤ y.At) : knotBad (prevOf l i) x = 0 := by
  rw [prevOf_p h, m]; simp [knotBad, c, c2, h2]
theorem kb_ok {q : Option SKnot} (h : knotBad q x = 0) : (0 ≤ x.At ∧ x.At ≤ 86399999) ∧ (1 ≤ x.Time ∧ x.Time ≤ 3600000) ∧ (q = none → x.At = 0) ∧ (∀ p, q = some p → p.At < x.At) := by
  unfold knotBad at h
  split at h
  · cases h
  · split at h
    · cases h
    · split at h
      · cases h
      · split at h
        · cases h
        · rename_i h1 h2 h3 h4
          refine ⟨within_iff.1 (by simpa using h1), within_iff.1 (by simpa using h2), ?_, ?_⟩
          · rintro rfl; simp at h3; exact h3
          · rintro p rfl; simp at h4; omega
theorem kE8 (h : (l.length : Int) = 0) : knotsE l = 8 := by unfold knotsE; rw [if_pos (List.eq_nil_of_length_eq_zero (by omega))]
theorem kE2 (h : ¬ (l.length : Int) = 0) (h2 : (48 : Int) < l.length) : knotsE l = 2 := by
  unfold knotsE; rw [if_neg (by rintro rfl; simp at h), if_pos (by omega)]
theorem kEbad (h : ¬ (l.length : Int) = 0) (h2 : ¬ (48 : Int) < l.length) {e : Int} (hc : chk knotBad none l = e) (he : e ≠ 0) : knotsE l = e := by
  unfold knotsE; rw [if_neg (by rintro rfl; simp at h), if_neg (by omega), hc, if_neg he]
theorem kE16 (h : ¬ (l.length : Int) = 0) (h2 : ¬ (48 : Int) < l.length) (hc : chk knotBad none l = 0) (hr : rules l = false) : knotsE l = 16 := by
  unfold knotsE; rw [if_neg (by rintro rfl; simp at h), if_neg (by omega), if_pos hc, hr]; rfl
theorem kE0 (h : ¬ (l.length : Int) = 0) (h2 : ¬ (48 : Int) < l.length) (hc : chk knotBad none l = 0) (hr : rules l = true) : knotsE l = 0 := by
  unfold knotsE; rw [if_neg (by rintro rfl; simp at h), if_neg (by omega), if_pos hc, hr]; rfl
theorem kn_b (hc : chk knotBad none l = 0) (m : l[i]? = some x) : (0 ≤ x.At ∧ x.At ≤ 86399999) ∧ (1 ≤ x.Time ∧ x.Time ≤ 3600000) := let h := kb_ok (chk_prev hc m); ⟨h.1, h.2.1⟩
theorem after_b (hc : chk knotBad none l = 0) (hi : i < l.length) : (0 ≤ (afterK l i).At ∧ (afterK l i).At ≤ 86400000) ∧ (1 ≤ (afterK l i).Time ∧ (afterK l i).Time ≤ 3600000) := by
  have h0 : ∃ z, l[0]? = some z := ⟨_, List.getElem?_eq_getElem (by omega)⟩
  obtain ⟨z, hz⟩ := h0
  have hzb := kn_b hc hz
  by_cases q : i + 1 < l.length
  · have hy : ∃ y, l[i + 1]? = some y := ⟨_, List.getElem?_eq_getElem q⟩
    obtain ⟨y, hy⟩ := hy
    have := kn_b hc hy
    rw [after_s hy]; omega
  · rw [after_e (by omega) hz]; simp only; omega
end
theorem p93 {G0 : GH} {v : Value} {l : List SKnot} (hv : RSl rKnot G0 v l) (hn : (l.length : Int) ≤ 4611686018427387903) : Pure Tryd.prog G0 93 [v] (V (knotsE l)) := by
  intro G hG; replace hv := hv.le hG
  clear hG G0
  refine enter Tryd.func93 78 #[.tmp 2] rfl Tryd.ntmps93 rfl (by decide +kernel) rfl ?_
  obtain ⟨a, c, rfl⟩ := hv.val
  simp (maxDischargeDepth := 9) only [↓gB, gV, gT, reduceIte, reduceCtorEq, Nat.reduceEqDiff, Nat.reduceAdd, Nat.reduceSub, Nat.reduceLeDiff, Nat.reduceLT, Int.reduceEq, Nat.reduceMul]
  refine Xc_split _ _ _ _ _ (fun c0 => ?_) (fun c0 => ?_)
  · simp (maxDischargeDepth := 9) only [↓gB, gV, gT, reduceIte, reduceCtorEq, Nat.reduceEqDiff, Nat.reduceAdd, Nat.reduceSub, Nat.reduceLeDiff, Nat.reduceLT, Int.reduceEq, Nat.reduceMul, c0]
    refine Kup_val (le_refl _) ?_
    focus (rw [kE8 c0]; done)
  · simp (maxDischargeDepth := 9) only [↓gB, gV, gT, reduceIte, reduceCtorEq, Nat.reduceEqDiff, Nat.reduceAdd, Nat.reduceSub, Nat.reduceLeDiff, Nat.reduceLT, Int.reduceEq, Nat.reduceMul, c0]
    refine Xc_split _ _ _ _ _ (fun c00 => ?_) (fun c00 => ?_)
    · simp (maxDischargeDepth := 9) only [↓gB, gV, gT, reduceIte, reduceCtorEq, Nat.reduceEqDiff, Nat.reduceAdd, Nat.reduceSub, Nat.reduceLeDiff, Nat.reduceLT, Int.reduceEq, Nat.reduceMul, c0, c00]
      refine Kup_val (le_refl _) ?_
      focus (rw [kE2 c0 c00]; done)
    · simp (maxDischargeDepth := 9) only [↓gB, gV, gT, reduceIte, reduceCtorEq, Nat.reduceEqDiff, Nat.reduceAdd, Nat.reduceSub, Nat.reduceLeDiff, Nat.reduceLT, Int.reduceEq, Nat.reduceMul, c0, c00]
      focus
        refine Xloop_intro _ _ _ _ _ (fun k f G' => ∃ (i : Nat), k = l.length - i ∧ (i ≤ l.length) ∧ (chk knotBad none l = chk knotBad (prevOf l i) (l.drop i)) ∧ (RSl rKnot G' (.slice a l.length c) l) ∧ (G.le G') ∧ f 18 = V i ∧ f 0 = Go.Value.slice a l.length c ∧ f 16 = Go.Value.slice a l.length c ∧ f 17 = Go.Value.int Go.IntKind.i64 ↑l.length) _ ⟨0, rfl, ?_, ?_, ?_, ?_, by simp (maxDischargeDepth := 9) only [↓gB, gV, gT, reduceIte, reduceCtorEq, Nat.reduceEqDiff, Nat.reduceAdd, Nat.reduceSub, Nat.reduceLeDiff, Nat.reduceLT, Int.reduceEq, Nat.reduceMul, c0, c00, and_self]⟩ ?_
        · omega
        · rfl
        · assumption
        · exact le_refl _
        rintro k f G' ⟨i, rfl, hi, h, hv, hle, f18, f0, f16, f17⟩
      simp (maxDischargeDepth := 9) only [↓gB, gV, gT, reduceIte, reduceCtorEq, Nat.reduceEqDiff, Nat.reduceAdd, Nat.reduceSub, Nat.reduceLeDiff, Nat.reduceLT, Int.reduceEq, Nat.reduceMul, c0, c00, f18, f0, f16, f17]
      refine Xc_split _ _ _ _ _ (fun c1 => ?_) (fun c1 => ?_)
      · focus
          simp (maxDischargeDepth := 9) only [↓gB, gV, gT, reduceIte, reduceCtorEq, Nat.reduceEqDiff, Nat.reduceAdd, Nat.reduceSub, Nat.reduceLeDiff, Nat.reduceLT, Int.reduceEq, Nat.reduceMul, c0, c00, f18, f0, f16, f17, c1]
          obtain ⟨x1, a1, s1, m1, rfl, rfl, e1⟩ := hv.at (i) (by omega) 2 rfl
          simp (maxDischargeDepth := 9) only [↓gB, gV, gT, reduceIte, reduceCtorEq, Nat.reduceEqDiff, Nat.reduceAdd, Nat.reduceSub, Nat.reduceLeDiff, Nat.reduceLT, Int.reduceEq, Nat.reduceMul, c0, c00, f18, f17, c1, f0, f16, e1]
          refine vguard_intro (by simp) ?_
          refine Yn2 fun r1 h1 => ?_
          simp (maxDischargeDepth := 9) only [↓gB, gV, gT, reduceIte, reduceCtorEq, Nat.reduceEqDiff, Nat.reduceAdd, Nat.reduceSub, Nat.reduceLeDiff, Nat.reduceLT, Int.reduceEq, Nat.reduceMul, c0, c00, f18, f17, c1, f0, f16, e1, h1]
          refine Ycp (p74) ?_
          simp (maxDischargeDepth := 9) only [↓gB, gV, gT, reduceIte, reduceCtorEq, Nat.reduceEqDiff, Nat.reduceAdd, Nat.reduceSub, Nat.reduceLeDiff, Nat.reduceLT, Int.reduceEq, Nat.reduceMul, c0, c00, f18, f17, c1, f0, f16, e1, h1]
          rcases bool_tf (Go.Proofs.YtnlbapfbdabjaaaDoor.within x1.At 0 86399999) with c2 | c2
          rotate_left 1
          focus
            simp (maxDischargeDepth := 9) only [↓gB, gV, gT, reduceIte, reduceCtorEq, Nat.reduceEqDiff, Nat.reduceAdd, Nat.reduceSub, Nat.reduceLeDiff, Nat.reduceLT, Int.reduceEq, Nat.reduceMul, c0, c00, f18, f17, c1, f0, f16, e1, h1, c2]
            refine Kup_val (by simp (maxDischargeDepth := 9) only [le_self, le_puts, le_put0, hle, h1]) ?_
            focus (rw [kEbad c0 c00 (chk_bad h m1 (kn1a (by assumption)) (by decide)) (by decide)]; done)
          rotate_right 1
          simp (maxDischargeDepth := 9) only [↓gB, gV, gT, reduceIte, reduceCtorEq, Nat.reduceEqDiff, Nat.reduceAdd, Nat.reduceSub, Nat.reduceLeDiff, Nat.reduceLT, Int.reduceEq, Nat.reduceMul, c0, c00, f18, f17, c1, f0, f16, e1, h1, c2]
          refine Ycp (p74) ?_
          simp (maxDischargeDepth := 9) only [↓gB, gV, gT, reduceIte, reduceCtorEq, Nat.reduceEqDiff, Nat.reduceAdd, Nat.reduceSub, Nat.reduceLeDiff, Nat.reduceLT, Int.reduceEq, Nat.reduceMul, c0, c00, f18, f17, c1, f0, f16, e1, h1, c2]
          rcases bool_tf (Go.Proofs.YtnlbapfbdabjaaaDoor.within x1.Time 1 3600000) with c3 | c3
          rotate_left 1
          focus
            simp (maxDischargeDepth := 9) only [↓gB, gV, gT, reduceIte, reduceCtorEq, Nat.reduceEqDiff, Nat.reduceAdd, Nat.reduceSub, Nat.reduceLeDiff, Nat.reduceLT, Int.reduceEq, Nat.reduceMul, c0, c00, f18, f17, c1, f0, f16, e1, h1, c2, c3]
            refine Kup_val (by simp (maxDischargeDepth := 9) only [le_self, le_puts, le_put0, hle, h1]) ?_
            focus (rw [kEbad c0 c00 (chk_bad h m1 (kn1b (by assumption) (by assumption)) (by decide)) (by decide)]; done)
          rotate_right 1
          simp (maxDischargeDepth := 9) only [↓gB, gV, gT, reduceIte, reduceCtorEq, Nat.reduceEqDiff, Nat.reduceAdd, Nat.reduceSub, Nat.reduceLeDiff, Nat.reduceLT, Int.reduceEq, Nat.reduceMul, c0, c00, f18, f17, c1, f0, f16, e1, h1, c2, c3]
          refine Xdraw_intro [0, 1, 2, 3, 4, 5, 6, 7, 8, 9, 10, 11, 12, 13, 14, 15, 16, 17, 18, 19, 20, 21, 22] mixed (by kernel_rfl) (by decide +kernel) ?_
          simp (maxDischargeDepth := 9) only [↓gB, gV, gT, reduceIte, reduceCtorEq, Nat.reduceEqDiff, Nat.reduceAdd, Nat.reduceSub, Nat.reduceLeDiff, Nat.reduceLT, Int.reduceEq, Nat.reduceMul, c0, c00, f18, f17, c1, f0, f16, e1, h1, c2, c3]
          by_cases c4 : (↑i : Int) = 0
          rotate_left 1
          focus
            simp (maxDischargeDepth := 9) only [↓gB, gV, gT, reduceIte, reduceCtorEq, Nat.reduceEqDiff, Nat.reduceAdd, Nat.reduceSub, Nat.reduceLeDiff, Nat.reduceLT, Int.reduceEq, Nat.reduceMul, c0, c00, f18, f17, c1, f0, f16, e1, h1, c2, c3, c4]
            by_cases c5 : (0 : Int) < ↑i
            rotate_left 1
            focus
              simp (maxDischargeDepth := 9) only [↓gB, gV, gT, reduceIte, reduceCtorEq, Nat.reduceEqDiff, Nat.reduceAdd, Nat.reduceSub, Nat.reduceLeDiff, Nat.reduceLT, Int.reduceEq, Nat.reduceMul, c0, c00, f18, f17, c1, f0, f16, e1, h1, c2, c3, c4, c5]
              have q1 : Go.IntKind.i64.wrap (↑i + 1) = ↑i + 1 := wrap_id (by omega)
              simp (maxDischargeDepth := 9) only [↓gB, gV, gT, reduceIte, reduceCtorEq, Nat.reduceEqDiff, Nat.reduceAdd, Nat.reduceSub, Nat.reduceLeDiff, Nat.reduceLT, Int.reduceEq, Nat.reduceMul, c0, c00, f18, f17, c1, f0, f16, e1, h1, c2, c3, c4, c5, q1]
              rw [N_lp]
              refine ⟨_, ?_, _, sub_refl _, i + 1, rfl, ?_, ?_, ?_, ?_, by simp (maxDischargeDepth := 9) only [↓gB, gV, gT, reduceIte, reduceCtorEq, Nat.reduceEqDiff, Nat.reduceAdd, Nat.reduceSub, Nat.reduceLeDiff, Nat.reduceLT, Int.reduceEq, Nat.reduceMul, c0, c00, f18, f17, c1, f0, f16, e1, h1, c2, c3, c4, c5, q1, nat_succ, and_self]⟩
              · omega
              · omega
              · omega
              · omega
              · omega
            rotate_right 1
            simp (maxDischargeDepth := 9) only [↓gB, gV, gT, reduceIte, reduceCtorEq, Nat.reduceEqDiff, Nat.reduceAdd, Nat.reduceSub, Nat.reduceLeDiff, Nat.reduceLT, Int.reduceEq, Nat.reduceMul, c0, c00, f18, f17, c1, f0, f16, e1, h1, c2, c3, c4, c5]
            have q1 : Go.IntKind.i64.wrap (↑i - 1) = ↑i - 1 := wrap_id (by omega)
            simp (maxDischargeDepth := 9) only [↓gB, gV, gT, reduceIte, reduceCtorEq, Nat.reduceEqDiff, Nat.reduceAdd, Nat.reduceSub, Nat.reduceLeDiff, Nat.reduceLT, Int.reduceEq, Nat.reduceMul, c0, c00, f18, f17, c1, f0, f16, e1, h1, c2, c3, c4, c5, q1]
            refine vguard_intro (by omega) ?_
            obtain ⟨x2, s2, m2, rfl, e2⟩ := hv.at' (i - 1) (by omega) 2 rfl
            simp (maxDischargeDepth := 9) only [↓gB, gV, gT, reduceIte, reduceCtorEq, Nat.reduceEqDiff, Nat.reduceAdd, Nat.reduceSub, Nat.reduceLeDiff, Nat.reduceLT, Int.reduceEq, Nat.reduceMul, c0, c00, f18, f17, c1, f0, f16, e1, h1, c2, c3, c4, c5, q1, e2]
            refine Xc_split _ _ _ _ _ (fun c6 => ?_) (fun c6 => ?_)
            rotate_left 1
            focus
              simp (maxDischargeDepth := 9) only [↓gB, gV, gT, reduceIte, reduceCtorEq, Nat.reduceEqDiff, Nat.reduceAdd, Nat.reduceSub, Nat.reduceLeDiff, Nat.reduceLT, Int.reduceEq, Nat.reduceMul, c0, c00, f18, f17, c1, f0, f16, e1, h1, c2, c3, c4, c5, q1, e2, c6]
              have q2 : Go.IntKind.i64.wrap (↑i + 1) = ↑i + 1 := wrap_id (by omega)
              simp (maxDischargeDepth := 9) only [↓gB, gV, gT, reduceIte, reduceCtorEq, Nat.reduceEqDiff, Nat.reduceAdd, Nat.reduceSub, Nat.reduceLeDiff, Nat.reduceLT, Int.reduceEq, Nat.reduceMul, c0, c00, f18, f17, c1, f0, f16, e1, h1, c2, c3, c4, c5, q1, e2, c6, q2]
              rw [N_lp]
              refine ⟨_, ?_, _, sub_refl _, i + 1, rfl, ?_, ?_, ?_, ?_, by simp (maxDischargeDepth := 9) only [↓gB, gV, gT, reduceIte, reduceCtorEq, Nat.reduceEqDiff, Nat.reduceAdd, Nat.reduceSub, Nat.reduceLeDiff, Nat.reduceLT, Int.reduceEq, Nat.reduceMul, c0, c00, f18, f17, c1, f0, f16, e1, h1, c2, c3, c4, c5, q1, e2, c6, q2, nat_succ, and_self]⟩
              · omega
              · omega
              · (exact chk_next h m1 (kn0b (by assumption) (by assumption) (by assumption) m2 (by assumption)); done)
              · exact RSl.put _ (by assumption) (by assumption)
              · (simp (maxDischargeDepth := 9) only [le_self, le_puts, le_put0, sub_self, sub_puts, sub_put0, hle, h1]; done)
            rotate_right 1
            simp (maxDischargeDepth := 9) only [↓gB, gV, gT, reduceIte, reduceCtorEq, Nat.reduceEqDiff, Nat.reduceAdd, Nat.reduceSub, Nat.reduceLeDiff, Nat.reduceLT, Int.reduceEq, Nat.reduceMul, c0, c00, f18, f17, c1, f0, f16, e1, h1, c2, c3, c4, c5, q1, e2, c6]
            refine Kup_val (by simp (maxDischargeDepth := 9) only [le_self, le_puts, le_put0, hle, h1]) ?_
            focus (rw [kEbad c0 c00 (chk_bad h m1 (kn7b (by assumption) (by assumption) (by assumption) m2 (by assumption)) (by decide)) (by decide)]; done)
          rotate_right 1
          simp (maxDischargeDepth := 9) only [↓gB, gV, gT, reduceIte, reduceCtorEq, Nat.reduceEqDiff, Nat.reduceAdd, Nat.reduceSub, Nat.reduceLeDiff, Nat.reduceLT, Int.reduceEq, Nat.reduceMul, c0, c00, f18, f17, c1, f0, f16, e1, h1, c2, c3, c4]
          by_cases c5 : ¬x1.At = 0
          rotate_left 1
          focus
            simp (maxDischargeDepth := 9) only [↓gB, gV, gT, reduceIte, reduceCtorEq, Nat.reduceEqDiff, Nat.reduceAdd, Nat.reduceSub, Nat.reduceLeDiff, Nat.reduceLT, Int.reduceEq, Nat.reduceMul, c0, c00, f18, f17, c1, f0, f16, e1, h1, c2, c3, c4, c5]
            by_cases c6 : (0 : Int) < 0
            rotate_left 1
            focus
              simp (maxDischargeDepth := 9) only [↓gB, gV, gT, reduceIte, reduceCtorEq, Nat.reduceEqDiff, Nat.reduceAdd, Nat.reduceSub, Nat.reduceLeDiff, Nat.reduceLT, Int.reduceEq, Nat.reduceMul, c0, c00, f18, f17, c1, f0, f16, e1, h1, c2, c3, c4, c5, c6]
              have q1 : Go.IntKind.i64.wrap (0 + 1) = 0 + 1 := wrap_id (by omega)
              simp (maxDischargeDepth := 9) only [↓gB, gV, gT, reduceIte, reduceCtorEq, Nat.reduceEqDiff, Nat.reduceAdd, Nat.reduceSub, Nat.reduceLeDiff, Nat.reduceLT, Int.reduceEq, Nat.reduceMul, c0, c00, f18, f17, c1, f0, f16, e1, h1, c2, c3, c4, c5, c6, q1]
              rw [N_lp]
              refine ⟨_, ?_, _, sub_refl _, i + 1, rfl, ?_, ?_, ?_, ?_, by simp (maxDischargeDepth := 9) only [↓gB, gV, gT, reduceIte, reduceCtorEq, Nat.reduceEqDiff, Nat.reduceAdd, Nat.reduceSub, Nat.reduceLeDiff, Nat.reduceLT, Int.reduceEq, Nat.reduceMul, c0, c00, f18, f17, c1, f0, f16, e1, h1, c2, c3, c4, c5, c6, q1, nat_succ, and_self]⟩
              · omega
              · omega
              · (exact chk_next h m1 (kn0a (by assumption) (by assumption) (by omega) (by omega)); done)
              · exact RSl.put _ (by assumption) (by assumption)
              · (simp (maxDischargeDepth := 9) only [le_self, le_puts, le_put0, sub_self, sub_puts, sub_put0, hle, h1]; done)
            rotate_right 1
            simp (maxDischargeDepth := 9) only [↓gB, gV, gT, reduceIte, reduceCtorEq, Nat.reduceEqDiff, Nat.reduceAdd, Nat.reduceSub, Nat.reduceLeDiff, Nat.reduceLT, Int.reduceEq, Nat.reduceMul, c0, c00, f18, f17, c1, f0, f16, e1, h1, c2, c3, c4, c5, c6]
            refine vguard_intro (by omega) ?_
            obtain ⟨x2, s2, m2, rfl, e2⟩ := hv.at' ((Go.IntKind.i64.wrap (0 - 1)).toNat) (by omega) 2 rfl
            simp (maxDischargeDepth := 9) only [↓gB, gV, gT, reduceIte, reduceCtorEq, Nat.reduceEqDiff, Nat.reduceAdd, Nat.reduceSub, Nat.reduceLeDiff, Nat.reduceLT, Int.reduceEq, Nat.reduceMul, c0, c00, f18, f17, c1, f0, f16, e1, h1, c2, c3, c4, c5, c6, e2]
            refine Xc_pos _ _ _ _ _ (by omega) ?_
            simp (maxDischargeDepth := 9) only [↓gB, gV, gT, reduceIte, reduceCtorEq, Nat.reduceEqDiff, Nat.reduceAdd, Nat.reduceSub, Nat.reduceLeDiff, Nat.reduceLT, Int.reduceEq, Nat.reduceMul, c0, c00, f18, f17, c1, f0, f16, e1, h1, c2, c3, c4, c5, c6, e2]
            exact Kup_val (by simp (maxDischargeDepth := 9) only [le_self, le_puts, le_put0, hle, h1]) (by simp [*]; omega)
          rotate_right 1
          simp (maxDischargeDepth := 9) only [↓gB, gV, gT, reduceIte, reduceCtorEq, Nat.reduceEqDiff, Nat.reduceAdd, Nat.reduceSub, Nat.reduceLeDiff, Nat.reduceLT, Int.reduceEq, Nat.reduceMul, c0, c00, f18, f17, c1, f0, f16, e1, h1, c2, c3, c4, c5]
          refine Kup_val (by simp (maxDischargeDepth := 9) only [le_self, le_puts, le_put0, hle, h1]) ?_
          focus (rw [kEbad c0 c00 (chk_bad h m1 (kn7a (by assumption) (by assumption) (by omega) (by assumption)) (by decide)) (by decide)]; done)
      · have hc := chk_end h c1
        simp (maxDischargeDepth := 9) only [↓gB, gV, gT, reduceIte, reduceCtorEq, Nat.reduceEqDiff, Nat.reduceAdd, Nat.reduceSub, Nat.reduceLeDiff, Nat.reduceLT, Int.reduceEq, Nat.reduceMul, c0, c00, f18, f0, f16, f17, c1]
        focus
          refine Xloop_intro _ _ _ _ _ (fun k f G' => ∃ (i : Nat), k = l.length - i ∧ (i ≤ l.length) ∧ (∀ (j : Nat) k, j < i → l[j]? = some k → k.Time - (afterK l j).Time ≤ (afterK l j).At - k.At) ∧ (RSl rKnot G' (.slice a l.length c) l) ∧ (G.le G') ∧ f 58 = V i ∧ f 0 = Go.Value.slice a l.length c ∧ f 56 = Go.Value.slice a l.length c ∧ f 57 = Go.Value.int Go.IntKind.i64 ↑l.length) _ ⟨0, rfl, ?_, ?_, ?_, ?_, by simp (maxDischargeDepth := 9) only [↓gB, gV, gT, reduceIte, reduceCtorEq, Nat.reduceEqDiff, Nat.reduceAdd, Nat.reduceSub, Nat.reduceLeDiff, Nat.reduceLT, Int.reduceEq, Nat.reduceMul, c0, c00, f18, f0, f16, f17, c1, and_self]⟩ ?_
          · omega
          · omega
          · assumption
          · assumption
          rintro k f G' ⟨i, rfl, hi, h, hv, hle, f58, f0, f56, f57⟩
        simp (maxDischargeDepth := 9) only [↓gB, gV, gT, reduceIte, reduceCtorEq, Nat.reduceEqDiff, Nat.reduceAdd, Nat.reduceSub, Nat.reduceLeDiff, Nat.reduceLT, Int.reduceEq, Nat.reduceMul, c0, c00, f18, f0, f16, f17, c1, f58, f0, f56, f57]
        refine Xc_split _ _ _ _ _ (fun c2 => ?_) (fun c2 => ?_)
        · have hab := after_b hc (i := i) (by omega)
          obtain ⟨x, hx⟩ : ∃ x, l[i]? = some x := ⟨_, List.getElem?_eq_getElem (by omega)⟩
          have hxb := kn_b hc hx
          simp (maxDischargeDepth := 9) only [↓gB, gV, gT, reduceIte, reduceCtorEq, Nat.reduceEqDiff, Nat.reduceAdd, Nat.reduceSub, Nat.reduceLeDiff, Nat.reduceLT, Int.reduceEq, Nat.reduceMul, c0, c00, f18, f0, f16, f17, c1, f58, f0, f56, f57, c2]
          obtain ⟨x1, a1, s1, m1, rfl, rfl, e1⟩ := hv.at (i) (by omega) 2 rfl
          simp (maxDischargeDepth := 9) only [↓gB, gV, gT, reduceIte, reduceCtorEq, Nat.reduceEqDiff, Nat.reduceAdd, Nat.reduceSub, Nat.reduceLeDiff, Nat.reduceLT, Int.reduceEq, Nat.reduceMul, c0, c00, f18, f17, c1, f58, f57, c2, f0, f16, f0, f56, e1]
          refine vguard_intro (by simp) ?_
          refine Yn2 fun r1 h1 => ?_
          simp (maxDischargeDepth := 9) only [↓gB, gV, gT, reduceIte, reduceCtorEq, Nat.reduceEqDiff, Nat.reduceAdd, Nat.reduceSub, Nat.reduceLeDiff, Nat.reduceLT, Int.reduceEq, Nat.reduceMul, c0, c00, f18, f17, c1, f58, f57, c2, f0, f16, f0, f56, e1, h1]
          refine Ycp (p126 (by exact RSl.put _ (by assumption) (by assumption)) (by omega) (by assumption)) ?_
          simp (maxDischargeDepth := 9) only [↓gB, gV, gT, reduceIte, reduceCtorEq, Nat.reduceEqDiff, Nat.reduceAdd, Nat.reduceSub, Nat.reduceLeDiff, Nat.reduceLT, Int.reduceEq, Nat.reduceMul, c0, c00, f18, f17, c1, f58, f57, c2, f0, f16, f0, f56, e1, h1]
          refine Yn2 fun r2 h2 => ?_
          have n2 := h2
          simp only [put_none_eq, ne_eq] at n2
          simp (maxDischargeDepth := 9) only [↓gB, gV, gT, reduceIte, reduceCtorEq, Nat.reduceEqDiff, Nat.reduceAdd, Nat.reduceSub, Nat.reduceLeDiff, Nat.reduceLT, Int.reduceEq, Nat.reduceMul, c0, c00, f18, f17, c1, f58, f57, c2, f0, f16, f0, f56, e1, h1, h2, n2]
          obtain rfl : x = x1 := by rw [hx] at m1; cases m1; rfl
          focus
            have q1 : Go.IntKind.i64.wrap ((Go.Proofs.YtnlbapfbdabjaaaDoor.afterK l i).At - x.At) = (Go.Proofs.YtnlbapfbdabjaaaDoor.afterK l i).At - x.At := wrap_id (by omega)
            simp (maxDischargeDepth := 9) only [↓gB, gV, gT, reduceIte, reduceCtorEq, Nat.reduceEqDiff, Nat.reduceAdd, Nat.reduceSub, Nat.reduceLeDiff, Nat.reduceLT, Int.reduceEq, Nat.reduceMul, c0, c00, f18, f17, c1, f58, f57, c2, f0, f16, f0, f56, h1, n2, e1, h2, q1]
            have q2 : Go.IntKind.i64.wrap (x.Time - (Go.Proofs.YtnlbapfbdabjaaaDoor.afterK l i).Time) = x.Time - (Go.Proofs.YtnlbapfbdabjaaaDoor.afterK l i).Time := wrap_id (by omega)
            simp (maxDischargeDepth := 9) only [↓gB, gV, gT, reduceIte, reduceCtorEq, Nat.reduceEqDiff, Nat.reduceAdd, Nat.reduceSub, Nat.reduceLeDiff, Nat.reduceLT, Int.reduceEq, Nat.reduceMul, c0, c00, f18, f17, c1, f58, f57, c2, f0, f16, f0, f56, h1, n2, e1, h2, q1, q2]
            refine Xc_split _ _ _ _ _ (fun c3 => ?_) (fun c3 => ?_)
            rotate_left 1
            focus
              simp (maxDischargeDepth := 9) only [↓gB, gV, gT, reduceIte, reduceCtorEq, Nat.reduceEqDiff, Nat.reduceAdd, Nat.reduceSub, Nat.reduceLeDiff, Nat.reduceLT, Int.reduceEq, Nat.reduceMul, c0, c00, f18, f17, c1, f58, f57, c2, f0, f16, f0, f56, h1, n2, e1, h2, q1, q2, c3]
              have q3 : Go.IntKind.i64.wrap (↑i + 1) = ↑i + 1 := wrap_id (by omega)
              simp (maxDischargeDepth := 9) only [↓gB, gV, gT, reduceIte, reduceCtorEq, Nat.reduceEqDiff, Nat.reduceAdd, Nat.reduceSub, Nat.reduceLeDiff, Nat.reduceLT, Int.reduceEq, Nat.reduceMul, c0, c00, f18, f17, c1, f58, f57, c2, f0, f16, f0, f56, h1, n2, e1, h2, q1, q2, c3, q3]
              rw [N_lp]
              refine ⟨_, ?_, _, sub_refl _, i + 1, rfl, ?_, ?_, ?_, ?_, by simp (maxDischargeDepth := 9) only [↓gB, gV, gT, reduceIte, reduceCtorEq, Nat.reduceEqDiff, Nat.reduceAdd, Nat.reduceSub, Nat.reduceLeDiff, Nat.reduceLT, Int.reduceEq, Nat.reduceMul, c0, c00, f18, f17, c1, f58, f57, c2, f0, f16, f0, f56, h1, n2, e1, h2, q1, q2, c3, q3, nat_succ, and_self]⟩
              · omega
              · omega
              · (intro j k hj hk; by_cases e : j = i; (subst e; rw [hx] at hk; cases hk; omega); exact h j k (by omega) hk; done)
              · exact RSl.put _ (by assumption) (RSl.put _ (by assumption) (by assumption))
              · (simp (maxDischargeDepth := 9) only [le_self, le_puts, le_put0, sub_self, sub_puts, sub_put0, hle, hle, h1, n2, h2]; done)
            rotate_right 1
            simp (maxDischargeDepth := 9) only [↓gB, gV, gT, reduceIte, reduceCtorEq, Nat.reduceEqDiff, Nat.reduceAdd, Nat.reduceSub, Nat.reduceLeDiff, Nat.reduceLT, Int.reduceEq, Nat.reduceMul, c0, c00, f18, f17, c1, f58, f57, c2, f0, f16, f0, f56, h1, n2, e1, h2, q1, q2, c3]
            refine Kup_val (by simp (maxDischargeDepth := 9) only [le_self, le_puts, le_put0, hle, hle, h1, n2, h2]) ?_
            focus (rw [kE16 c0 c00 hc (rules_no hx (by omega))]; done)
        · simp (maxDischargeDepth := 9) only [↓gB, gV, gT, reduceIte, reduceCtorEq, Nat.reduceEqDiff, Nat.reduceAdd, Nat.reduceSub, Nat.reduceLeDiff, Nat.reduceLT, Int.reduceEq, Nat.reduceMul, c0, c00, f18, f0, f16, f17, c1, f58, f0, f56, f57, c2]
          refine Kup_val (by simp (maxDischargeDepth := 9) only [le_self, le_puts, le_put0, hle, hle]) ?_
          focus (rw [kE0 c0 c00 hc (rules_yes fun j k hj hk => h j k (by omega) hk)]; done)
theorem p99 {G0 : GH} {v : Value} {l : List SKnot} (hv : RSl rKnot G0 v l) (hn : (l.length : Int) ≤ 4611686018427387903) : Pure Tryd.prog G0 99 [v] (V (knotsE l)) := by
  intro G hG; replace hv := hv.le hG
  clear hG G0
  refine enter Tryd.func99 90 #[.tmp 2] rfl Tryd.ntmps99 rfl (by decide +kernel) rfl ?_
  obtain ⟨a, c, rfl⟩ := hv.val
  simp (maxDischargeDepth := 9) only [↓gB, gV, gT, reduceIte, reduceCtorEq, Nat.reduceEqDiff, Nat.reduceAdd, Nat.reduceSub, Nat.reduceLeDiff, Nat.reduceLT, Int.reduceEq, Nat.reduceMul]
  refine Xc_split _ _ _ _ _ (fun c0 => ?_) (fun c0 => ?_)
  · simp (maxDischargeDepth := 9) only [↓gB, gV, gT, reduceIte, reduceCtorEq, Nat.reduceEqDiff, Nat.reduceAdd, Nat.reduceSub, Nat.reduceLeDiff, Nat.reduceLT, Int.reduceEq, Nat.reduceMul, c0]
    refine Kup_val (le_refl _) ?_
    focus (rw [kE8 c0]; done)
  · simp (maxDischargeDepth := 9) only [↓gB, gV, gT, reduceIte, reduceCtorEq, Nat.reduceEqDiff, Nat.reduceAdd, Nat.reduceSub, Nat.reduceLeDiff, Nat.reduceLT, Int.reduceEq, Nat.reduceMul, c0]
    refine Xc_split _ _ _ _ _ (fun c00 => ?_) (fun c00 => ?_)
    · simp (maxDischargeDepth := 9) only [↓gB, gV, gT, reduceIte, reduceCtorEq, Nat.reduceEqDiff, Nat.reduceAdd, Nat.reduceSub, Nat.reduceLeDiff, Nat.reduceLT, Int.reduceEq, Nat.reduceMul, c0, c00]
      refine Kup_val (le_refl _) ?_
      focus (rw [kE2 c0 c00]; done)
    · simp (maxDischargeDepth := 9) only [↓gB, gV, gT, reduceIte, reduceCtorEq, Nat.reduceEqDiff, Nat.reduceAdd, Nat.reduceSub, Nat.reduceLeDiff, Nat.reduceLT, Int.reduceEq, Nat.reduceMul, c0, c00]
      focus
        refine Xloop_intro _ _ _ _ _ (fun k f G' => ∃ (i : Nat), k = l.length - i ∧ (i ≤ l.length) ∧ (chk knotBad none l = chk knotBad (prevOf l i) (l.drop i)) ∧ (RSl rKnot G' (.slice a l.length c) l) ∧ (G.le G') ∧ f 18 = V i ∧ f 0 = Go.Value.slice a l.length c ∧ f 16 = Go.Value.slice a l.length c ∧ f 17 = Go.Value.int Go.IntKind.i64 ↑l.length) _ ⟨0, rfl, ?_, ?_, ?_, ?_, by simp (maxDischargeDepth := 9) only [↓gB, gV, gT, reduceIte, reduceCtorEq, Nat.reduceEqDiff, Nat.reduceAdd, Nat.reduceSub, Nat.reduceLeDiff, Nat.reduceLT, Int.reduceEq, Nat.reduceMul, c0, c00, and_self]⟩ ?_
        · omega
        · rfl
        · assumption
        · exact le_refl _
        rintro k f G' ⟨i, rfl, hi, h, hv, hle, f18, f0, f16, f17⟩
      simp (maxDischargeDepth := 9) only [↓gB, gV, gT, reduceIte, reduceCtorEq, Nat.reduceEqDiff, Nat.reduceAdd, Nat.reduceSub, Nat.reduceLeDiff, Nat.reduceLT, Int.reduceEq, Nat.reduceMul, c0, c00, f18, f0, f16, f17]
      refine Xc_split _ _ _ _ _ (fun c1 => ?_) (fun c1 => ?_)
      · focus
          simp (maxDischargeDepth := 9) only [↓gB, gV, gT, reduceIte, reduceCtorEq, Nat.reduceEqDiff, Nat.reduceAdd, Nat.reduceSub, Nat.reduceLeDiff, Nat.reduceLT, Int.reduceEq, Nat.reduceMul, c0, c00, f18, f0, f16, f17, c1]
          obtain ⟨x1, a1, s1, m1, rfl, rfl, e1⟩ := hv.at (i) (by omega) 2 rfl
          simp (maxDischargeDepth := 9) only [↓gB, gV, gT, reduceIte, reduceCtorEq, Nat.reduceEqDiff, Nat.reduceAdd, Nat.reduceSub, Nat.reduceLeDiff, Nat.reduceLT, Int.reduceEq, Nat.reduceMul, c0, c00, f18, f17, c1, f0, f16, e1]
          refine vguard_intro (by simp) ?_
          refine Yn2 fun r1 h1 => ?_
          simp (maxDischargeDepth := 9) only [↓gB, gV, gT, reduceIte, reduceCtorEq, Nat.reduceEqDiff, Nat.reduceAdd, Nat.reduceSub, Nat.reduceLeDiff, Nat.reduceLT, Int.reduceEq, Nat.reduceMul, c0, c00, f18, f17, c1, f0, f16, e1, h1]
          refine Ycp (p68) ?_
          simp (maxDischargeDepth := 9) only [↓gB, gV, gT, reduceIte, reduceCtorEq, Nat.reduceEqDiff, Nat.reduceAdd, Nat.reduceSub, Nat.reduceLeDiff, Nat.reduceLT, Int.reduceEq, Nat.reduceMul, c0, c00, f18, f17, c1, f0, f16, e1, h1]
          rcases bool_tf (Go.Proofs.YtnlbapfbdabjaaaDoor.within x1.At 0 86399999) with c2 | c2
          rotate_left 1
          focus
            simp (maxDischargeDepth := 9) only [↓gB, gV, gT, reduceIte, reduceCtorEq, Nat.reduceEqDiff, Nat.reduceAdd, Nat.reduceSub, Nat.reduceLeDiff, Nat.reduceLT, Int.reduceEq, Nat.reduceMul, c0, c00, f18, f17, c1, f0, f16, e1, h1, c2]
            refine Kup_val (by simp (maxDischargeDepth := 9) only [le_self, le_puts, le_put0, hle, h1]) ?_
            focus (rw [kEbad c0 c00 (chk_bad h m1 (kn1a (by assumption)) (by decide)) (by decide)]; done)
          rotate_right 1
          simp (maxDischargeDepth := 9) only [↓gB, gV, gT, reduceIte, reduceCtorEq, Nat.reduceEqDiff, Nat.reduceAdd, Nat.reduceSub, Nat.reduceLeDiff, Nat.reduceLT, Int.reduceEq, Nat.reduceMul, c0, c00, f18, f17, c1, f0, f16, e1, h1, c2]
          refine Ycp (p68) ?_
          simp (maxDischargeDepth := 9) only [↓gB, gV, gT, reduceIte, reduceCtorEq, Nat.reduceEqDiff, Nat.reduceAdd, Nat.reduceSub, Nat.reduceLeDiff, Nat.reduceLT, Int.reduceEq, Nat.reduceMul, c0, c00, f18, f17, c1, f0, f16, e1, h1, c2]
          rcases bool_tf (Go.Proofs.YtnlbapfbdabjaaaDoor.within x1.Time 1 3600000) with c3 | c3
          rotate_left 1
          focus
            simp (maxDischargeDepth := 9) only [↓gB, gV, gT, reduceIte, reduceCtorEq, Nat.reduceEqDiff, Nat.reduceAdd, Nat.reduceSub, Nat.reduceLeDiff, Nat.reduceLT, Int.reduceEq, Nat.reduceMul, c0, c00, f18, f17, c1, f0, f16, e1, h1, c2, c3]
            refine Kup_val (by simp (maxDischargeDepth := 9) only [le_self, le_puts, le_put0, hle, h1]) ?_
            focus (rw [kEbad c0 c00 (chk_bad h m1 (kn1b (by assumption) (by assumption)) (by decide)) (by decide)]; done)
          rotate_right 1
          simp (maxDischargeDepth := 9) only [↓gB, gV, gT, reduceIte, reduceCtorEq, Nat.reduceEqDiff, Nat.reduceAdd, Nat.reduceSub, Nat.reduceLeDiff, Nat.reduceLT, Int.reduceEq, Nat.reduceMul, c0, c00, f18, f17, c1, f0, f16, e1, h1, c2, c3]
          by_cases c4 : (↑i : Int) = 0
          rotate_left 1
          focus
            simp (maxDischargeDepth := 9) only [↓gB, gV, gT, reduceIte, reduceCtorEq, Nat.reduceEqDiff, Nat.reduceAdd, Nat.reduceSub, Nat.reduceLeDiff, Nat.reduceLT, Int.reduceEq, Nat.reduceMul, c0, c00, f18, f17, c1, f0, f16, e1, h1, c2, c3, c4]
            refine Xdraw_intro [0, 1, 2, 3, 4, 5, 6, 7, 8, 9, 10, 11, 12, 13] mixed (by kernel_rfl) (by decide +kernel) ?_
            simp (maxDischargeDepth := 9) only [↓gB, gV, gT, reduceIte, reduceCtorEq, Nat.reduceEqDiff, Nat.reduceAdd, Nat.reduceSub, Nat.reduceLeDiff, Nat.reduceLT, Int.reduceEq, Nat.reduceMul, c0, c00, f18, f17, c1, f0, f16, e1, h1, c2, c3, c4]
            by_cases c5 : (0 : Int) < ↑i
            rotate_left 1
            focus
              simp (maxDischargeDepth := 9) only [↓gB, gV, gT, reduceIte, reduceCtorEq, Nat.reduceEqDiff, Nat.reduceAdd, Nat.reduceSub, Nat.reduceLeDiff, Nat.reduceLT, Int.reduceEq, Nat.reduceMul, c0, c00, f18, f17, c1, f0, f16, e1, h1, c2, c3, c4, c5]
              have q1 : Go.IntKind.i64.wrap (↑i + 1) = ↑i + 1 := wrap_id (by omega)
              simp (maxDischargeDepth := 9) only [↓gB, gV, gT, reduceIte, reduceCtorEq, Nat.reduceEqDiff, Nat.reduceAdd, Nat.reduceSub, Nat.reduceLeDiff, Nat.reduceLT, Int.reduceEq, Nat.reduceMul, c0, c00, f18, f17, c1, f0, f16, e1, h1, c2, c3, c4, c5, q1]
              rw [N_lp]
              refine ⟨_, ?_, _, sub_refl _, i + 1, rfl, ?_, ?_, ?_, ?_, by simp (maxDischargeDepth := 9) only [↓gB, gV, gT, reduceIte, reduceCtorEq, Nat.reduceEqDiff, Nat.reduceAdd, Nat.reduceSub, Nat.reduceLeDiff, Nat.reduceLT, Int.reduceEq, Nat.reduceMul, c0, c00, f18, f17, c1, f0, f16, e1, h1, c2, c3, c4, c5, q1, nat_succ, and_self]⟩
              · omega
              · omega
              · omega
              · omega
              · omega
            rotate_right 1
            simp (maxDischargeDepth := 9) only [↓gB, gV, gT, reduceIte, reduceCtorEq, Nat.reduceEqDiff, Nat.reduceAdd, Nat.reduceSub, Nat.reduceLeDiff, Nat.reduceLT, Int.reduceEq, Nat.reduceMul, c0, c00, f18, f17, c1, f0, f16, e1, h1, c2, c3, c4, c5]
            have q1 : Go.IntKind.i64.wrap (↑i - 1) = ↑i - 1 := wrap_id (by omega)
            simp (maxDischargeDepth := 9) only [↓gB, gV, gT, reduceIte, reduceCtorEq, Nat.reduceEqDiff, Nat.reduceAdd, Nat.reduceSub, Nat.reduceLeDiff, Nat.reduceLT, Int.reduceEq, Nat.reduceMul, c0, c00, f18, f17, c1, f0, f16, e1, h1, c2, c3, c4, c5, q1]
            refine vguard_intro (by omega) ?_
            obtain ⟨x2, s2, m2, rfl, e2⟩ := hv.at' (i - 1) (by omega) 2 rfl
            simp (maxDischargeDepth := 9) only [↓gB, gV, gT, reduceIte, reduceCtorEq, Nat.reduceEqDiff, Nat.reduceAdd, Nat.reduceSub, Nat.reduceLeDiff, Nat.reduceLT, Int.reduceEq, Nat.reduceMul, c0, c00, f18, f17, c1, f0, f16, e1, h1, c2, c3, c4, c5, q1, e2]
            refine Xc_split _ _ _ _ _ (fun c6 => ?_) (fun c6 => ?_)
            rotate_left 1
            focus
              simp (maxDischargeDepth := 9) only [↓gB, gV, gT, reduceIte, reduceCtorEq, Nat.reduceEqDiff, Nat.reduceAdd, Nat.reduceSub, Nat.reduceLeDiff, Nat.reduceLT, Int.reduceEq, Nat.reduceMul, c0, c00, f18, f17, c1, f0, f16, e1, h1, c2, c3, c4, c5, q1, e2, c6]
              have q2 : Go.IntKind.i64.wrap (↑i + 1) = ↑i + 1 := wrap_id (by omega)
              simp (maxDischargeDepth := 9) only [↓gB, gV, gT, reduceIte, reduceCtorEq, Nat.reduceEqDiff, Nat.reduceAdd, Nat.reduceSub, Nat.reduceLeDiff, Nat.reduceLT, Int.reduceEq, Nat.reduceMul, c0, c00, f18, f17, c1, f0, f16, e1, h1, c2, c3, c4, c5, q1, e2, c6, q2]
              rw [N_lp]
              refine ⟨_, ?_, _, sub_refl _, i + 1, rfl, ?_, ?_, ?_, ?_, by simp (maxDischargeDepth := 9) only [↓gB, gV, gT, reduceIte, reduceCtorEq, Nat.reduceEqDiff, Nat.reduceAdd, Nat.reduceSub, Nat.reduceLeDiff, Nat.reduceLT, Int.reduceEq, Nat.reduceMul, c0, c00, f18, f17, c1, f0, f16, e1, h1, c2, c3, c4, c5, q1, e2, c6, q2, nat_succ, and_self]⟩
              · omega
              · omega
              · (exact chk_next h m1 (kn0b (by assumption) (by assumption) (by assumption) m2 (by assumption)); done)
              · exact RSl.put _ (by assumption) (by assumption)
              · (simp (maxDischargeDepth := 9) only [le_self, le_puts, le_put0, sub_self, sub_puts, sub_put0, hle, h1]; done)
            rotate_right 1
            simp (maxDischargeDepth := 9) only [↓gB, gV, gT, reduceIte, reduceCtorEq, Nat.reduceEqDiff, Nat.reduceAdd, Nat.reduceSub, Nat.reduceLeDiff, Nat.reduceLT, Int.reduceEq, Nat.reduceMul, c0, c00, f18, f17, c1, f0, f16, e1, h1, c2, c3, c4, c5, q1, e2, c6]
            refine Kup_val (by simp (maxDischargeDepth := 9) only [le_self, le_puts, le_put0, hle, h1]) ?_
            focus (rw [kEbad c0 c00 (chk_bad h m1 (kn7b (by assumption) (by assumption) (by assumption) m2 (by assumption)) (by decide)) (by decide)]; done)
          rotate_right 1
          simp (maxDischargeDepth := 9) only [↓gB, gV, gT, reduceIte, reduceCtorEq, Nat.reduceEqDiff, Nat.reduceAdd, Nat.reduceSub, Nat.reduceLeDiff, Nat.reduceLT, Int.reduceEq, Nat.reduceMul, c0, c00, f18, f17, c1, f0, f16, e1, h1, c2, c3, c4]
          refine Xc_split _ _ _ _ _ (fun c5 => ?_) (fun c5 => ?_)
          rotate_left 1
          focus
            simp (maxDischargeDepth := 9) only [↓gB, gV, gT, reduceIte, reduceCtorEq, Nat.reduceEqDiff, Nat.reduceAdd, Nat.reduceSub, Nat.reduceLeDiff, Nat.reduceLT, Int.reduceEq, Nat.reduceMul, c0, c00, f18, f17, c1, f0, f16, e1, h1, c2, c3, c4, c5]
            refine Xdraw_intro [0, 1, 2, 3, 4, 5, 6, 7, 8, 9, 10, 11, 12, 13] mixed (by kernel_rfl) (by decide +kernel) ?_
            simp (maxDischargeDepth := 9) only [↓gB, gV, gT, reduceIte, reduceCtorEq, Nat.reduceEqDiff, Nat.reduceAdd, Nat.reduceSub, Nat.reduceLeDiff, Nat.reduceLT, Int.reduceEq, Nat.reduceMul, c0, c00, f18, f17, c1, f0, f16, e1, h1, c2, c3, c4, c5]
            by_cases c6 : (0 : Int) < 0
            rotate_left 1
            focus
              simp (maxDischargeDepth := 9) only [↓gB, gV, gT, reduceIte, reduceCtorEq, Nat.reduceEqDiff, Nat.reduceAdd, Nat.reduceSub, Nat.reduceLeDiff, Nat.reduceLT, Int.reduceEq, Nat.reduceMul, c0, c00, f18, f17, c1, f0, f16, e1, h1, c2, c3, c4, c5, c6]
              have q1 : Go.IntKind.i64.wrap (0 + 1) = 0 + 1 := wrap_id (by omega)
              simp (maxDischargeDepth := 9) only [↓gB, gV, gT, reduceIte, reduceCtorEq, Nat.reduceEqDiff, Nat.reduceAdd, Nat.reduceSub, Nat.reduceLeDiff, Nat.reduceLT, Int.reduceEq, Nat.reduceMul, c0, c00, f18, f17, c1, f0, f16, e1, h1, c2, c3, c4, c5, c6, q1]
              rw [N_lp]
              refine ⟨_, ?_, _, sub_refl _, i + 1, rfl, ?_, ?_, ?_, ?_, by simp (maxDischargeDepth := 9) only [↓gB, gV, gT, reduceIte, reduceCtorEq, Nat.reduceEqDiff, Nat.reduceAdd, Nat.reduceSub, Nat.reduceLeDiff, Nat.reduceLT, Int.reduceEq, Nat.reduceMul, c0, c00, f18, f17, c1, f0, f16, e1, h1, c2, c3, c4, c5, c6, q1, nat_succ, and_self]⟩
              · omega
              · omega
              · (exact chk_next h m1 (kn0a (by assumption) (by assumption) (by omega) (by omega)); done)
              · exact RSl.put _ (by assumption) (by assumption)
              · (simp (maxDischargeDepth := 9) only [le_self, le_puts, le_put0, sub_self, sub_puts, sub_put0, hle, h1]; done)
            rotate_right 1
            simp (maxDischargeDepth := 9) only [↓gB, gV, gT, reduceIte, reduceCtorEq, Nat.reduceEqDiff, Nat.reduceAdd, Nat.reduceSub, Nat.reduceLeDiff, Nat.reduceLT, Int.reduceEq, Nat.reduceMul, c0, c00, f18, f17, c1, f0, f16, e1, h1, c2, c3, c4, c5, c6]
            refine vguard_intro (by omega) ?_
            obtain ⟨x2, s2, m2, rfl, e2⟩ := hv.at' ((Go.IntKind.i64.wrap (0 - 1)).toNat) (by omega) 2 rfl
            simp (maxDischargeDepth := 9) only [↓gB, gV, gT, reduceIte, reduceCtorEq, Nat.reduceEqDiff, Nat.reduceAdd, Nat.reduceSub, Nat.reduceLeDiff, Nat.reduceLT, Int.reduceEq, Nat.reduceMul, c0, c00, f18, f17, c1, f0, f16, e1, h1, c2, c3, c4, c5, c6, e2]
            refine Xc_pos _ _ _ _ _ (by omega) ?_
            simp (maxDischargeDepth := 9) only [↓gB, gV, gT, reduceIte, reduceCtorEq, Nat.reduceEqDiff, Nat.reduceAdd, Nat.reduceSub, Nat.reduceLeDiff, Nat.reduceLT, Int.reduceEq, Nat.reduceMul, c0, c00, f18, f17, c1, f0, f16, e1, h1, c2, c3, c4, c5, c6, e2]
            exact Kup_val (by simp (maxDischargeDepth := 9) only [le_self, le_puts, le_put0, hle, h1]) (by simp [*]; omega)
          rotate_right 1
          simp (maxDischargeDepth := 9) only [↓gB, gV, gT, reduceIte, reduceCtorEq, Nat.reduceEqDiff, Nat.reduceAdd, Nat.reduceSub, Nat.reduceLeDiff, Nat.reduceLT, Int.reduceEq, Nat.reduceMul, c0, c00, f18, f17, c1, f0, f16, e1, h1, c2, c3, c4, c5]
          refine Kup_val (by simp (maxDischargeDepth := 9) only [le_self, le_puts, le_put0, hle, h1]) ?_
          focus (rw [kEbad c0 c00 (chk_bad h m1 (kn7a (by assumption) (by assumption) (by omega) (by assumption)) (by decide)) (by decide)]; done)
      · have hc := chk_end h c1
        simp (maxDischargeDepth := 9) only [↓gB, gV, gT, reduceIte, reduceCtorEq, Nat.reduceEqDiff, Nat.reduceAdd, Nat.reduceSub, Nat.reduceLeDiff, Nat.reduceLT, Int.reduceEq, Nat.reduceMul, c0, c00, f18, f0, f16, f17, c1]
        focus
          refine Xloop_intro _ _ _ _ _ (fun k f G' => ∃ (i : Nat), k = l.length - i ∧ (i ≤ l.length) ∧ (∀ (j : Nat) k, j < i → l[j]? = some k → k.Time - (afterK l j).Time ≤ (afterK l j).At - k.At) ∧ (RSl rKnot G' (.slice a l.length c) l) ∧ (G.le G') ∧ f 58 = V i ∧ f 0 = Go.Value.slice a l.length c ∧ f 56 = Go.Value.slice a l.length c ∧ f 57 = Go.Value.int Go.IntKind.i64 ↑l.length) _ ⟨0, rfl, ?_, ?_, ?_, ?_, by simp (maxDischargeDepth := 9) only [↓gB, gV, gT, reduceIte, reduceCtorEq, Nat.reduceEqDiff, Nat.reduceAdd, Nat.reduceSub, Nat.reduceLeDiff, Nat.reduceLT, Int.reduceEq, Nat.reduceMul, c0, c00, f18, f0, f16, f17, c1, and_self]⟩ ?_
          · omega
          · omega
          · assumption
          · assumption
          rintro k f G' ⟨i, rfl, hi, h, hv, hle, f58, f0, f56, f57⟩
        simp (maxDischargeDepth := 9) only [↓gB, gV, gT, reduceIte, reduceCtorEq, Nat.reduceEqDiff, Nat.reduceAdd, Nat.reduceSub, Nat.reduceLeDiff, Nat.reduceLT, Int.reduceEq, Nat.reduceMul, c0, c00, f18, f0, f16, f17, c1, f58, f0, f56, f57]
        refine Xc_split _ _ _ _ _ (fun c2 => ?_) (fun c2 => ?_)
        · have hab := after_b hc (i := i) (by omega)
          obtain ⟨x, hx⟩ : ∃ x, l[i]? = some x := ⟨_, List.getElem?_eq_getElem (by omega)⟩
          have hxb := kn_b hc hx
          simp (maxDischargeDepth := 9) only [↓gB, gV, gT, reduceIte, reduceCtorEq, Nat.reduceEqDiff, Nat.reduceAdd, Nat.reduceSub, Nat.reduceLeDiff, Nat.reduceLT, Int.reduceEq, Nat.reduceMul, c0, c00, f18, f0, f16, f17, c1, f58, f0, f56, f57, c2]
          obtain ⟨x1, a1, s1, m1, rfl, rfl, e1⟩ := hv.at (i) (by omega) 2 rfl
          simp (maxDischargeDepth := 9) only [↓gB, gV, gT, reduceIte, reduceCtorEq, Nat.reduceEqDiff, Nat.reduceAdd, Nat.reduceSub, Nat.reduceLeDiff, Nat.reduceLT, Int.reduceEq, Nat.reduceMul, c0, c00, f18, f17, c1, f58, f57, c2, f0, f16, f0, f56, e1]
          refine vguard_intro (by simp) ?_
          refine Yn2 fun r1 h1 => ?_
          simp (maxDischargeDepth := 9) only [↓gB, gV, gT, reduceIte, reduceCtorEq, Nat.reduceEqDiff, Nat.reduceAdd, Nat.reduceSub, Nat.reduceLeDiff, Nat.reduceLT, Int.reduceEq, Nat.reduceMul, c0, c00, f18, f17, c1, f58, f57, c2, f0, f16, f0, f56, e1, h1]
          refine vguard_intro (by omega) ?_
          obtain ⟨x2, s2, m2, rfl, e2⟩ := hv.at' (Int.toNat 0) (by omega) 2 rfl
          simp (maxDischargeDepth := 9) only [↓gB, gV, gT, reduceIte, reduceCtorEq, Nat.reduceEqDiff, Nat.reduceAdd, Nat.reduceSub, Nat.reduceLeDiff, Nat.reduceLT, Int.reduceEq, Nat.reduceMul, c0, c00, f18, f17, c1, f58, f57, c2, f0, f16, f0, f56, e1, h1, e2]
          refine Yn2 fun r2 h2 => ?_
          have n2 := h2
          simp only [put_none_eq, ne_eq] at n2
          simp (maxDischargeDepth := 9) only [↓gB, gV, gT, reduceIte, reduceCtorEq, Nat.reduceEqDiff, Nat.reduceAdd, Nat.reduceSub, Nat.reduceLeDiff, Nat.reduceLT, Int.reduceEq, Nat.reduceMul, c0, c00, f18, f17, c1, f58, f57, c2, f0, f16, f0, f56, e1, h1, e2, h2, n2]
          have q1 : Go.IntKind.i64.wrap (↑i + 1) = ↑i + 1 := wrap_id (by omega)
          simp (maxDischargeDepth := 9) only [↓gB, gV, gT, reduceIte, reduceCtorEq, Nat.reduceEqDiff, Nat.reduceAdd, Nat.reduceSub, Nat.reduceLeDiff, Nat.reduceLT, Int.reduceEq, Nat.reduceMul, c0, c00, f18, f17, c1, f58, f57, c2, f0, f16, f0, f56, e1, h1, e2, h2, n2, q1]
          obtain rfl : x = x1 := by rw [hx] at m1; cases m1; rfl
          have hx2 := kn_b hc (i := 0) m2
          by_cases c3 : (i : Int) + 1 < l.length
          · obtain ⟨y, hy⟩ : ∃ y, l[i + 1]? = some y := ⟨_, List.getElem?_eq_getElem (by omega)⟩
            have hyb := kn_b hc hy
            have hae := after_s hy
            simp (maxDischargeDepth := 9) only [↓gB, gV, gT, reduceIte, reduceCtorEq, Nat.reduceEqDiff, Nat.reduceAdd, Nat.reduceSub, Nat.reduceLeDiff, Nat.reduceLT, Int.reduceEq, Nat.reduceMul, c0, c00, f18, f17, c1, f58, f57, c2, f0, f16, f0, f56, h1, e2, n2, q1, e1, h2, c3]
            refine vguard_intro (by simp; omega) ?_
            obtain ⟨x3, s3, m3, rfl, e3⟩ := hv.at' (i + 1) (by omega) 2 rfl
            simp (maxDischargeDepth := 9) only [↓gB, gV, gT, reduceIte, reduceCtorEq, Nat.reduceEqDiff, Nat.reduceAdd, Nat.reduceSub, Nat.reduceLeDiff, Nat.reduceLT, Int.reduceEq, Nat.reduceMul, c0, c00, f18, f17, c1, f58, f57, c2, f0, f16, f0, f56, h1, e2, n2, q1, e1, h2, c3, e3]
            obtain rfl : y = x3 := by rw [hy] at m3; cases m3; rfl
            focus
              have q2 : Go.IntKind.i64.wrap (y.At - x.At) = y.At - x.At := wrap_id (by omega)
              simp (maxDischargeDepth := 9) only [↓gB, gV, gT, reduceIte, reduceCtorEq, Nat.reduceEqDiff, Nat.reduceAdd, Nat.reduceSub, Nat.reduceLeDiff, Nat.reduceLT, Int.reduceEq, Nat.reduceMul, c0, c00, f18, f17, c1, f58, f57, c2, f0, f16, f0, f56, h1, e2, n2, q1, e1, h2, c3, e3, q2]
              have q3 : Go.IntKind.i64.wrap (x.Time - y.Time) = x.Time - y.Time := wrap_id (by omega)
              simp (maxDischargeDepth := 9) only [↓gB, gV, gT, reduceIte, reduceCtorEq, Nat.reduceEqDiff, Nat.reduceAdd, Nat.reduceSub, Nat.reduceLeDiff, Nat.reduceLT, Int.reduceEq, Nat.reduceMul, c0, c00, f18, f17, c1, f58, f57, c2, f0, f16, f0, f56, h1, e2, n2, q1, e1, h2, c3, e3, q2, q3]
              refine Xc_split _ _ _ _ _ (fun c4 => ?_) (fun c4 => ?_)
              rotate_left 1
              focus
                simp (maxDischargeDepth := 9) only [↓gB, gV, gT, reduceIte, reduceCtorEq, Nat.reduceEqDiff, Nat.reduceAdd, Nat.reduceSub, Nat.reduceLeDiff, Nat.reduceLT, Int.reduceEq, Nat.reduceMul, c0, c00, f18, f17, c1, f58, f57, c2, f0, f16, f0, f56, h1, e2, n2, q1, e1, h2, c3, e3, q2, q3, c4]
                rw [N_lp]
                refine ⟨_, ?_, _, sub_refl _, i + 1, rfl, ?_, ?_, ?_, ?_, by simp (maxDischargeDepth := 9) only [↓gB, gV, gT, reduceIte, reduceCtorEq, Nat.reduceEqDiff, Nat.reduceAdd, Nat.reduceSub, Nat.reduceLeDiff, Nat.reduceLT, Int.reduceEq, Nat.reduceMul, c0, c00, f18, f17, c1, f58, f57, c2, f0, f16, f0, f56, h1, e2, n2, q1, e1, h2, c3, e3, q2, q3, c4, nat_succ, and_self]⟩
                · omega
                · omega
                · (intro j k hj hk; by_cases e : j = i; (subst e; rw [hx] at hk; cases hk; rw [hae]; omega); exact h j k (by omega) hk; done)
                · exact RSl.put _ (by assumption) (RSl.put _ (by assumption) (by assumption))
                · (simp (maxDischargeDepth := 9) only [le_self, le_puts, le_put0, sub_self, sub_puts, sub_put0, hle, hle, h1, n2, h2]; done)
              rotate_right 1
              simp (maxDischargeDepth := 9) only [↓gB, gV, gT, reduceIte, reduceCtorEq, Nat.reduceEqDiff, Nat.reduceAdd, Nat.reduceSub, Nat.reduceLeDiff, Nat.reduceLT, Int.reduceEq, Nat.reduceMul, c0, c00, f18, f17, c1, f58, f57, c2, f0, f16, f0, f56, h1, e2, n2, q1, e1, h2, c3, e3, q2, q3, c4]
              refine Kup_val (by simp (maxDischargeDepth := 9) only [le_self, le_puts, le_put0, hle, hle, h1, n2, h2]) ?_
              focus (rw [kE16 c0 c00 hc (rules_no hx (by rw [hae]; omega))]; done)
          · have hae := after_e c3 m2
            focus
              simp (maxDischargeDepth := 9) only [↓gB, gV, gT, reduceIte, reduceCtorEq, Nat.reduceEqDiff, Nat.reduceAdd, Nat.reduceSub, Nat.reduceLeDiff, Nat.reduceLT, Int.reduceEq, Nat.reduceMul, c0, c00, f18, f17, c1, f58, f57, c2, f0, f16, f0, f56, h1, e2, n2, q1, e1, h2, c3]
              have q2 : Go.IntKind.i64.wrap (86400000 - x.At) = 86400000 - x.At := wrap_id (by omega)
              simp (maxDischargeDepth := 9) only [↓gB, gV, gT, reduceIte, reduceCtorEq, Nat.reduceEqDiff, Nat.reduceAdd, Nat.reduceSub, Nat.reduceLeDiff, Nat.reduceLT, Int.reduceEq, Nat.reduceMul, c0, c00, f18, f17, c1, f58, f57, c2, f0, f16, f0, f56, h1, e2, n2, q1, e1, h2, c3, q2]
              have q3 : Go.IntKind.i64.wrap (x.Time - x2.Time) = x.Time - x2.Time := wrap_id (by omega)
              simp (maxDischargeDepth := 9) only [↓gB, gV, gT, reduceIte, reduceCtorEq, Nat.reduceEqDiff, Nat.reduceAdd, Nat.reduceSub, Nat.reduceLeDiff, Nat.reduceLT, Int.reduceEq, Nat.reduceMul, c0, c00, f18, f17, c1, f58, f57, c2, f0, f16, f0, f56, h1, e2, n2, q1, e1, h2, c3, q2, q3]
              refine Xc_split _ _ _ _ _ (fun c4 => ?_) (fun c4 => ?_)
              rotate_left 1
              focus
                simp (maxDischargeDepth := 9) only [↓gB, gV, gT, reduceIte, reduceCtorEq, Nat.reduceEqDiff, Nat.reduceAdd, Nat.reduceSub, Nat.reduceLeDiff, Nat.reduceLT, Int.reduceEq, Nat.reduceMul, c0, c00, f18, f17, c1, f58, f57, c2, f0, f16, f0, f56, h1, e2, n2, q1, e1, h2, c3, q2, q3, c4]
                rw [N_lp]
                refine ⟨_, ?_, _, sub_refl _, i + 1, rfl, ?_, ?_, ?_, ?_, by simp (maxDischargeDepth := 9) only [↓gB, gV, gT, reduceIte, reduceCtorEq, Nat.reduceEqDiff, Nat.reduceAdd, Nat.reduceSub, Nat.reduceLeDiff, Nat.reduceLT, Int.reduceEq, Nat.reduceMul, c0, c00, f18, f17, c1, f58, f57, c2, f0, f16, f0, f56, h1, e2, n2, q1, e1, h2, c3, q2, q3, c4, nat_succ, and_self]⟩
                · omega
                · omega
                · (intro j k hj hk; by_cases e : j = i; (subst e; rw [hx] at hk; cases hk; rw [hae]; simp only; omega); exact h j k (by omega) hk; done)
                · exact RSl.put _ (by assumption) (RSl.put _ (by assumption) (by assumption))
                · (simp (maxDischargeDepth := 9) only [le_self, le_puts, le_put0, sub_self, sub_puts, sub_put0, hle, hle, h1, n2, h2]; done)
              rotate_right 1
              simp (maxDischargeDepth := 9) only [↓gB, gV, gT, reduceIte, reduceCtorEq, Nat.reduceEqDiff, Nat.reduceAdd, Nat.reduceSub, Nat.reduceLeDiff, Nat.reduceLT, Int.reduceEq, Nat.reduceMul, c0, c00, f18, f17, c1, f58, f57, c2, f0, f16, f0, f56, h1, e2, n2, q1, e1, h2, c3, q2, q3, c4]
              refine Kup_val (by simp (maxDischargeDepth := 9) only [le_self, le_puts, le_put0, hle, hle, h1, n2, h2]) ?_
              focus (rw [kE16 c0 c00 hc (rules_no hx (by rw [hae]; simp only; omega))]; done)
        · simp (maxDischargeDepth := 9) only [↓gB, gV, gT, reduceIte, reduceCtorEq, Nat.reduceEqDiff, Nat.reduceAdd, Nat.reduceSub, Nat.reduceLeDiff, Nat.reduceLT, Int.reduceEq, Nat.reduceMul, c0, c00, f18, f0, f16, f17, c1, f58, f0, f56, f57, c2]
          refine Kup_val (by simp (maxDischargeDepth := 9) only [le_self, le_puts, le_put0, hle, hle]) ?_
          focus (rw [kE0 c0 c00 hc (rules_yes fun j k hj hk => h j k (by omega) hk)]; done)
end Go.Proofs.YtnlbapfbdabjaaaDoor
namespace Go.Proofs.YtnlbapfbdabjaaaDoor
open Go Go.GL
attribute [local irreducible] Ycall GCalls
set_option maxRecDepth 10000
set_option maxHeartbeats 0
def arcBad (ns : List SNode) (q : Option SArc) (x : SArc) : Int := if isKey x.Key = false then 5 else if q.any (fun q => !sLt q.Key x.Key) = true then 7 else if keyAt SNode.Key ns x.From < 0 then 8 else if keyAt SNode.Key ns x.To < 0 then 8 else if x.From = x.To then 6 else if within x.Long 1 1000000 = false then 1 else knotsE x.Knots
def toOf (ar : List SArc) (k : ByteArray) : ByteArray := match ar[(keyAt SArc.Key ar k).toNat]? with | some x => x.To | none => ⟨#[]⟩
def fromOf (ar : List SArc) (k : ByteArray) : ByteArray := match ar[(keyAt SArc.Key ar k).toNat]? with | some x => x.From | none => ⟨#[]⟩
def banBad (ar : List SArc) (q : Option SBan) (b : SBan) : Int := if keyAt SArc.Key ar b.From < 0 then 8 else if keyAt SArc.Key ar b.To < 0 then 8 else if ¬ toOf ar b.From = fromOf ar b.To then 3 else if q.any (fun q => decide (banCmp b.From b.To q.From q.To ≤ 0)) = true then 7 else 0
def roadsE (ns : List SNode) (ar : List SArc) (bs : List SBan) : Int := if ¬ nodesE ns = 0 then nodesE ns else if 2000 < ar.length then 2 else if ¬ chk (arcBad ns) none ar = 0 then chk (arcBad ns) none ar else if 1000 < bs.length then 2 else chk (banBad ar) none bs
section
variable {ns : List SNode} {ar : List SArc} {bs : List SBan} {q : Option SArc} {x : SArc} {p : Option SBan} {b : SBan} {i : Nat}
theorem ab5 (c : isKey x.Key = false) : arcBad ns q x = 5 := by simp [arcBad, c]
theorem ab7 (c : isKey x.Key = true) (c2 : q.any (fun q => !sLt q.Key x.Key) = true) : arcBad ns q x = 7 := by simp only [arcBad, c, c2, if_true]; rfl
theorem ab8 (c : isKey x.Key = true) (c2 : q.any (fun q => !sLt q.Key x.Key) = false) (c3 : keyAt SNode.Key ns x.From < 0 ∨ keyAt SNode.Key ns x.To < 0) : arcBad ns q x = 8 := by
  unfold arcBad; rw [if_neg (by simp [c]), if_neg (by simp [c2])]
  by_cases h : keyAt SNode.Key ns x.From < 0
  · rw [if_pos h]
  · rw [if_neg h, if_pos (c3.resolve_left h)]
theorem ab6 (c : isKey x.Key = true) (c2 : q.any (fun q => !sLt q.Key x.Key) = false) (c3 : ¬ keyAt SNode.Key ns x.From < 0) (c4 : ¬ keyAt SNode.Key ns x.To < 0) (c5 : x.From = x.To) : arcBad ns q x = 6 := by
  unfold arcBad; rw [if_neg (by simp [c]), if_neg (by simp [c2]), if_neg c3, if_neg c4, if_pos c5]
theorem ab1 (c : isKey x.Key = true) (c2 : q.any (fun q => !sLt q.Key x.Key) = false) (c3 : ¬ keyAt SNode.Key ns x.From < 0) (c4 : ¬ keyAt SNode.Key ns x.To < 0) (c5 : ¬ x.From = x.To) (c6 : within x.Long 1 1000000 = false) : arcBad ns q x = 1 := by
  unfold arcBad; rw [if_neg (by simp [c]), if_neg (by simp [c2]), if_neg c3, if_neg c4, if_neg c5, if_pos c6]
theorem abk (c : isKey x.Key = true) (c2 : q.any (fun q => !sLt q.Key x.Key) = false) (c3 : ¬ keyAt SNode.Key ns x.From < 0) (c4 : ¬ keyAt SNode.Key ns x.To < 0) (c5 : ¬ x.From = x.To) (c6 : within x.Long 1 1000000 = true) : arcBad ns q x = knotsE x.Knots := by
  unfold arcBad; rw [if_neg (by simp [c]), if_neg (by simp [c2]), if_neg c3, if_neg c4, if_neg c5, if_neg (by simp [c6])]
theorem ab_ok (h : arcBad ns q x = 0) : isKey x.Key = true ∧ q.any (fun q => !sLt q.Key x.Key) = false ∧ ¬ keyAt SNode.Key ns x.From < 0 ∧ ¬ keyAt SNode.Key ns x.To < 0 ∧ ¬ x.From = x.To ∧ within x.Long 1 1000000 = true ∧ knotsE x.Knots = 0 := by
  unfold arcBad at h
  split at h
  · cases h
  split at h
  · cases h
  split at h
  · cases h
  split at h
  · cases h
  split at h
  · cases h
  split at h
  · cases h
  rename_i h1 h2 h3 h4 h5 h6
  exact ⟨by simpa using h1, by simpa using h2, h3, h4, h5, by simpa using h6, h⟩
theorem arcs_rise (h : chk (arcBad ns) none ar = 0) : rising SArc.Key ar := rising_chk h fun p x hp => by
  have := (ab_ok hp).2.1
  simpa using this
theorem bb8 (c3 : keyAt SArc.Key ar b.From < 0 ∨ keyAt SArc.Key ar b.To < 0) : banBad ar p b = 8 := by
  unfold banBad
  by_cases h : keyAt SArc.Key ar b.From < 0
  · rw [if_pos h]
  · rw [if_neg h, if_pos (c3.resolve_left h)]
theorem to_at {k : ByteArray} (m : ar[(keyAt SArc.Key ar k).toNat]? = some x) : toOf ar k = x.To := by unfold toOf; rw [m]
theorem from_at {k : ByteArray} (m : ar[(keyAt SArc.Key ar k).toNat]? = some x) : fromOf ar k = x.From := by unfold fromOf; rw [m]
variable {x1 x2 : SArc}
theorem bb3 (c3 : ¬ keyAt SArc.Key ar b.From < 0) (c4 : ¬ keyAt SArc.Key ar b.To < 0) (m1 : ar[(keyAt SArc.Key ar b.From).toNat]? = some x1) (m2 : ar[(keyAt SArc.Key ar b.To).toNat]? = some x2) (c5 : ¬ x1.To = x2.From) : banBad ar p b = 3 := by
  unfold banBad; rw [if_neg c3, if_neg c4, to_at m1, from_at m2, if_pos c5]
theorem bb7 (c3 : ¬ keyAt SArc.Key ar b.From < 0) (c4 : ¬ keyAt SArc.Key ar b.To < 0) (m1 : ar[(keyAt SArc.Key ar b.From).toNat]? = some x1) (m2 : ar[(keyAt SArc.Key ar b.To).toNat]? = some x2) (c5 : x1.To = x2.From) (c6 : p.any (fun q => decide (banCmp b.From b.To q.From q.To ≤ 0)) = true) : banBad ar p b = 7 := by
  unfold banBad; rw [if_neg c3, if_neg c4, to_at m1, from_at m2, if_neg (by simpa using c5), if_pos c6]
theorem bb0 (c3 : ¬ keyAt SArc.Key ar b.From < 0) (c4 : ¬ keyAt SArc.Key ar b.To < 0) (m1 : ar[(keyAt SArc.Key ar b.From).toNat]? = some x1) (m2 : ar[(keyAt SArc.Key ar b.To).toNat]? = some x2) (c5 : x1.To = x2.From) (c6 : p.any (fun q => decide (banCmp b.From b.To q.From q.To ≤ 0)) = false) : banBad ar p b = 0 := by
  unfold banBad; rw [if_neg c3, if_neg c4, to_at m1, from_at m2, if_neg (by simpa using c5), if_neg (by simp [c6])]
theorem sCmp_flip (a b : ByteArray) : sCmp b a = - sCmp a b := by
  unfold sCmp
  cases h1 : sLt a b <;> cases h2 : sLt b a <;> simp
  have := sLt_trans h1 h2; rw [sLt_irrefl] at this; cases this
theorem ban_flip (a b c d : ByteArray) : banCmp c d a b = - banCmp a b c d := by
  unfold banCmp; rw [orOf2, orOf2, sCmp_flip a c, sCmp_flip b d]
  split <;> split <;> omega
theorem rE1 (h : ¬ nodesE ns = 0) : roadsE ns ar bs = nodesE ns := by unfold roadsE; rw [if_pos h]
theorem rE2 (h : nodesE ns = 0) (h2 : (2000 : Int) < ar.length) : roadsE ns ar bs = 2 := by unfold roadsE; rw [if_neg (by simpa using h), if_pos (by omega)]
theorem rE3 (h : nodesE ns = 0) (h2 : ¬ (2000 : Int) < ar.length) {e : Int} (hc : chk (arcBad ns) none ar = e) (he : e ≠ 0) : roadsE ns ar bs = e := by unfold roadsE; rw [if_neg (by simpa using h), if_neg (by omega), hc, if_pos he]
theorem rE4 (h : nodesE ns = 0) (h2 : ¬ (2000 : Int) < ar.length) (hc : chk (arcBad ns) none ar = 0) (hb : (1000 : Int) < bs.length) : roadsE ns ar bs = 2 := by unfold roadsE; rw [if_neg (by simpa using h), if_neg (by omega), if_neg (by simpa using hc), if_pos (by omega)]
theorem rE5 (h : nodesE ns = 0) (h2 : ¬ (2000 : Int) < ar.length) (hc : chk (arcBad ns) none ar = 0) (hb : ¬ (1000 : Int) < bs.length) : roadsE ns ar bs = chk (banBad ar) none bs := by unfold roadsE; rw [if_neg (by simpa using h), if_neg (by omega), if_neg (by simpa using hc), if_neg (by omega)]
end
end Go.Proofs.YtnlbapfbdabjaaaDoor
namespace Go.Proofs.YtnlbapfbdabjaaaDoor
open Go Go.GL
attribute [local irreducible] Ycall GCalls
set_option maxRecDepth 10000
set_option maxHeartbeats 0
theorem bfl1 {q b : SBan} (h : 0 ≤ orOf [sCmp q.From b.From, sCmp q.To b.To]) : decide (banCmp b.From b.To q.From q.To ≤ 0) = true := by
  have := ban_flip b.From b.To q.From q.To
  unfold banCmp at *
  rw [decide_eq_true_eq]; omega
theorem bfl0 {q b : SBan} (h : ¬ 0 ≤ orOf [sCmp q.From b.From, sCmp q.To b.To]) : decide (banCmp b.From b.To q.From q.To ≤ 0) = false := by
  have := ban_flip b.From b.To q.From q.To
  unfold banCmp at *
  rw [decide_eq_false_iff_not]; omega
def bansE (ar : List SArc) (bs : List SBan) : Int := if 1000 < bs.length then 2 else chk (banBad ar) none bs
theorem p100 {G0 : GH} {w u : Value} {ar : List SArc} {bs : List SBan} {va : Option Addr} {vn vc : Nat} (hw : RSl rArc G0 w ar) (hu : RSl rBan G0 u bs) (hm : ar.length ≤ 1000000000) (hb : bs.length ≤ 1000000000) : Pure Tryd.prog G0 100 [.agg #[.slice va vn vc, w, u]] (V (bansE ar bs)) := by
  intro G hG; replace hw := hw.le hG; replace hu := hu.le hG
  clear hG G0
  refine enter Tryd.func100 77 #[.tmp 2] rfl Tryd.ntmps100 rfl (by decide +kernel) rfl ?_
  obtain ⟨wa, wc, rfl⟩ := hw.val
  obtain ⟨ua, uc, rfl⟩ := hu.val
  simp (maxDischargeDepth := 9) only [↓gB, gV, gT, reduceIte, reduceCtorEq, Nat.reduceEqDiff, Nat.reduceAdd, Nat.reduceSub, Nat.reduceLeDiff, Nat.reduceLT, Int.reduceEq, Nat.reduceMul]
  refine Yn2 fun r1 h1 => ?_
  simp (maxDischargeDepth := 9) only [↓gB, gV, gT, reduceIte, reduceCtorEq, Nat.reduceEqDiff, Nat.reduceAdd, Nat.reduceSub, Nat.reduceLeDiff, Nat.reduceLT, Int.reduceEq, Nat.reduceMul, h1]
  refine Xc_split _ _ _ _ _ (fun c2 => ?_) (fun c2 => ?_)
  · simp (maxDischargeDepth := 9) only [↓gB, gV, gT, reduceIte, reduceCtorEq, Nat.reduceEqDiff, Nat.reduceAdd, Nat.reduceSub, Nat.reduceLeDiff, Nat.reduceLT, Int.reduceEq, Nat.reduceMul, h1, c2]
    refine Kup_val (by simp (maxDischargeDepth := 9) only [le_self, le_puts, le_put0, h1]) ?_
    focus ((have : 1000 < bs.length := by omega); simp [bansE, this]; done)
  · rw [show bansE ar bs = chk (banBad ar) none bs from if_neg (by omega)]
    simp (maxDischargeDepth := 9) only [↓gB, gV, gT, reduceIte, reduceCtorEq, Nat.reduceEqDiff, Nat.reduceAdd, Nat.reduceSub, Nat.reduceLeDiff, Nat.reduceLT, Int.reduceEq, Nat.reduceMul, h1, c2]
    focus
      refine Xloop_intro _ _ _ _ _ (fun k f G' => ∃ (i : Nat), k = bs.length - i ∧ (i ≤ bs.length) ∧ (chk (banBad ar) none bs = chk (banBad ar) (prevOf bs i) (bs.drop i)) ∧ (G' r1 = some (.cells [.slice va vn vc, .slice wa ar.length wc, .slice ua bs.length uc].toArray 84 (0, 0), true)) ∧ (RSl rArc G' (.slice wa ar.length wc) ar) ∧ (RSl rBan G' (.slice ua bs.length uc) bs) ∧ (G.le G') ∧ f 14 = V i ∧ f 1 = Go.Value.pointer (Option.some { block := r1, off := 0 }) ∧ f 12 = Go.Value.slice ua bs.length uc ∧ f 13 = Go.Value.int Go.IntKind.i64 ↑bs.length) _ ⟨0, rfl, ?_, ?_, ?_, ?_, ?_, ?_, by simp (maxDischargeDepth := 9) only [↓gB, gV, gT, reduceIte, reduceCtorEq, Nat.reduceEqDiff, Nat.reduceAdd, Nat.reduceSub, Nat.reduceLeDiff, Nat.reduceLT, Int.reduceEq, Nat.reduceMul, h1, c2, and_self]⟩ ?_
      · omega
      · rfl
      · exact put_self _ _ _
      · exact RSl.put _ (by assumption) (by assumption)
      · exact RSl.put _ (by assumption) (by assumption)
      · (simp (maxDischargeDepth := 9) only [le_self, le_puts, le_put0, sub_self, sub_puts, sub_put0, h1]; done)
      rintro k f G' ⟨i, rfl, hi, h, hr, hw, hu, hle, f14, f1, f12, f13⟩
    simp (maxDischargeDepth := 9) only [↓gB, gV, gT, reduceIte, reduceCtorEq, Nat.reduceEqDiff, Nat.reduceAdd, Nat.reduceSub, Nat.reduceLeDiff, Nat.reduceLT, Int.reduceEq, Nat.reduceMul, h1, c2, hr, f14, f1, f12, f13]
    refine Xc_split _ _ _ _ _ (fun c3 => ?_) (fun c3 => ?_)
    · obtain ⟨x, hx⟩ : ∃ x, bs[i]? = some x := ⟨_, List.getElem?_eq_getElem (by omega)⟩
      have k1 := keyAt_lt SArc.Key ar x.From
      have k2 := keyAt_lt SArc.Key ar x.To
      simp (maxDischargeDepth := 9) only [↓gB, gV, gT, reduceIte, reduceCtorEq, Nat.reduceEqDiff, Nat.reduceAdd, Nat.reduceSub, Nat.reduceLeDiff, Nat.reduceLT, Int.reduceEq, Nat.reduceMul, h1, c2, hr, f14, f1, f12, f13, c3]
      obtain ⟨x1, a1, s1, m1, rfl, rfl, e1⟩ := hu.at (i) (by omega) 2 rfl
      simp (maxDischargeDepth := 9) only [↓gB, gV, gT, reduceIte, reduceCtorEq, Nat.reduceEqDiff, Nat.reduceAdd, Nat.reduceSub, Nat.reduceLeDiff, Nat.reduceLT, Int.reduceEq, Nat.reduceMul, h1, c2, f14, f1, f13, c3, hr, f12, e1]
      refine vguard_intro (by simp) ?_
      refine Yn2 fun r2 h2 => ?_
      simp (maxDischargeDepth := 9) only [↓gB, gV, gT, reduceIte, reduceCtorEq, Nat.reduceEqDiff, Nat.reduceAdd, Nat.reduceSub, Nat.reduceLeDiff, Nat.reduceLT, Int.reduceEq, Nat.reduceMul, h1, c2, f14, f1, f13, c3, hr, f12, e1, h2]
      refine Xdraw_intro [0, 1, 2, 4, 5, 6, 3, 7, 8, 9] mixed (by kernel_rfl) (by decide +kernel) ?_
      simp (maxDischargeDepth := 9) only [↓gB, gV, gT, reduceIte, reduceCtorEq, Nat.reduceEqDiff, Nat.reduceAdd, Nat.reduceSub, Nat.reduceLeDiff, Nat.reduceLT, Int.reduceEq, Nat.reduceMul, h1, c2, f14, f1, f13, c3, hr, f12, e1, h2]
      obtain rfl : x = x1 := by rw [hx] at m1; cases m1; rfl
      have n2 : r1 ≠ r2 := ne_of_none hr h2
      focus
        simp (maxDischargeDepth := 9) only [↓gB, gV, gT, reduceIte, reduceCtorEq, Nat.reduceEqDiff, Nat.reduceAdd, Nat.reduceSub, Nat.reduceLeDiff, Nat.reduceLT, Int.reduceEq, Nat.reduceMul, h1, c2, f14, f1, f13, c3, hr, f12, h2, e1, n2]
        refine Ycp (p132 (by exact RSl.put _ (by assumption) (by assumption)) (by omega)) ?_
        simp (maxDischargeDepth := 9) only [↓gB, gV, gT, reduceIte, reduceCtorEq, Nat.reduceEqDiff, Nat.reduceAdd, Nat.reduceSub, Nat.reduceLeDiff, Nat.reduceLT, Int.reduceEq, Nat.reduceMul, h1, c2, f14, f1, f13, c3, hr, f12, h2, e1, n2]
        refine Ycp (p132 (by exact RSl.put _ (by assumption) (by assumption)) (by omega)) ?_
        simp (maxDischargeDepth := 9) only [↓gB, gV, gT, reduceIte, reduceCtorEq, Nat.reduceEqDiff, Nat.reduceAdd, Nat.reduceSub, Nat.reduceLeDiff, Nat.reduceLT, Int.reduceEq, Nat.reduceMul, h1, c2, f14, f1, f13, c3, hr, f12, h2, e1, n2]
        by_cases c1 : (Go.Proofs.YtnlbapfbdabjaaaDoor.keyAt Go.Proofs.YtnlbapfbdabjaaaDoor.SArc.Key ar x.From : Int) < 0
        rotate_left 1
        focus
          simp (maxDischargeDepth := 9) only [↓gB, gV, gT, reduceIte, reduceCtorEq, Nat.reduceEqDiff, Nat.reduceAdd, Nat.reduceSub, Nat.reduceLeDiff, Nat.reduceLT, Int.reduceEq, Nat.reduceMul, h1, c2, f14, f1, f13, c3, hr, f12, h2, e1, n2, c1]
          refine Xc_split _ _ _ _ _ (fun c4 => ?_) (fun c4 => ?_)
          rotate_left 1
          focus
            simp (maxDischargeDepth := 9) only [↓gB, gV, gT, reduceIte, reduceCtorEq, Nat.reduceEqDiff, Nat.reduceAdd, Nat.reduceSub, Nat.reduceLeDiff, Nat.reduceLT, Int.reduceEq, Nat.reduceMul, h1, c2, f14, f1, f13, c3, hr, f12, h2, e1, n2, c1, c4]
            refine Xdraw_intro [0, 1, 2, 3, 4, 5, 6, 7, 8, 9, 10, 11, 12, 13] mixed (by kernel_rfl) (by decide +kernel) ?_
            simp (maxDischargeDepth := 9) only [↓gB, gV, gT, reduceIte, reduceCtorEq, Nat.reduceEqDiff, Nat.reduceAdd, Nat.reduceSub, Nat.reduceLeDiff, Nat.reduceLT, Int.reduceEq, Nat.reduceMul, h1, c2, f14, f1, f13, c3, hr, f12, h2, e1, n2, c1, c4]
            obtain ⟨x2, a2, s2, m2, rfl, ⟨v2, rfl, w2⟩, e2⟩ := hw.at ((Int.toNat (Go.Proofs.YtnlbapfbdabjaaaDoor.keyAt Go.Proofs.YtnlbapfbdabjaaaDoor.SArc.Key ar x.From))) (by omega) 5 rfl
            obtain ⟨aw2, cw2, rfl⟩ := RSl.val w2
            simp (maxDischargeDepth := 9) only [↓gB, gV, gT, reduceIte, reduceCtorEq, Nat.reduceEqDiff, Nat.reduceAdd, Nat.reduceSub, Nat.reduceLeDiff, Nat.reduceLT, Int.reduceEq, Nat.reduceMul, h1, c2, f14, f1, f13, c3, f12, h2, e1, n2, c1, c4, hr, e2]
            refine vguard_intro (by omega) ?_
            refine vguard_intro (by omega) ?_
            obtain ⟨x3, s3, m3, ⟨v3, rfl, w3⟩, e3⟩ := hw.at' ((Go.Proofs.YtnlbapfbdabjaaaDoor.keyAt Go.Proofs.YtnlbapfbdabjaaaDoor.SArc.Key ar x.To).toNat) (by omega) 5 rfl
            obtain ⟨aw3, cw3, rfl⟩ := RSl.val w3
            simp (maxDischargeDepth := 9) only [↓gB, gV, gT, reduceIte, reduceCtorEq, Nat.reduceEqDiff, Nat.reduceAdd, Nat.reduceSub, Nat.reduceLeDiff, Nat.reduceLT, Int.reduceEq, Nat.reduceMul, h1, c2, f14, f1, f13, c3, f12, h2, e1, n2, c1, c4, hr, e2, e3]
            by_cases c5 : (x2.To : ByteArray) = x3.From
            rotate_left 1
            focus
              simp (maxDischargeDepth := 9) only [↓gB, gV, gT, reduceIte, reduceCtorEq, Nat.reduceEqDiff, Nat.reduceAdd, Nat.reduceSub, Nat.reduceLeDiff, Nat.reduceLT, Int.reduceEq, Nat.reduceMul, h1, c2, f14, f1, f13, c3, f12, h2, e1, n2, c1, c4, hr, e2, e3, c5]
              refine Kup_val (by simp (maxDischargeDepth := 9) only [le_self, le_puts, le_put0, h1, hle, h2]) ?_
              focus (rw [chk_bad h hx (bb3 (by assumption) (by assumption) m2 m3 (by assumption)) (by decide)]; done)
            rotate_right 1
            simp (maxDischargeDepth := 9) only [↓gB, gV, gT, reduceIte, reduceCtorEq, Nat.reduceEqDiff, Nat.reduceAdd, Nat.reduceSub, Nat.reduceLeDiff, Nat.reduceLT, Int.reduceEq, Nat.reduceMul, h1, c2, f14, f1, f13, c3, f12, h2, e1, n2, c1, c4, hr, e2, e3, c5]
            refine Xdraw_intro [0, 1, 2, 3, 4, 5, 6, 7, 8, 9, 10, 11, 13, 14, 15, 16, 17, 18, 19, 20, 21, 12, 22, 23, 24, 25, 26, 27] mixed (by kernel_rfl) (by decide +kernel) ?_
            simp (maxDischargeDepth := 9) only [↓gB, gV, gT, reduceIte, reduceCtorEq, Nat.reduceEqDiff, Nat.reduceAdd, Nat.reduceSub, Nat.reduceLeDiff, Nat.reduceLT, Int.reduceEq, Nat.reduceMul, h1, c2, f14, f1, f13, c3, f12, h2, e1, n2, c1, c4, hr, e2, e3, c5]
            by_cases c6 : (0 : Int) < ↑i
            rotate_left 1
            focus
              simp (maxDischargeDepth := 9) only [↓gB, gV, gT, reduceIte, reduceCtorEq, Nat.reduceEqDiff, Nat.reduceAdd, Nat.reduceSub, Nat.reduceLeDiff, Nat.reduceLT, Int.reduceEq, Nat.reduceMul, h1, c2, f14, f1, f13, c3, f12, h2, e1, n2, c1, c4, hr, e2, e3, c5, c6]
              have q1 : Go.IntKind.i64.wrap (↑i + 1) = ↑i + 1 := wrap_id (by omega)
              simp (maxDischargeDepth := 9) only [↓gB, gV, gT, reduceIte, reduceCtorEq, Nat.reduceEqDiff, Nat.reduceAdd, Nat.reduceSub, Nat.reduceLeDiff, Nat.reduceLT, Int.reduceEq, Nat.reduceMul, h1, c2, f14, f1, f13, c3, f12, h2, e1, n2, c1, c4, hr, e2, e3, c5, c6, q1]
              rw [N_lp]
              refine ⟨_, ?_, _, sub_refl _, i + 1, rfl, ?_, ?_, ?_, ?_, ?_, ?_, by simp (maxDischargeDepth := 9) only [↓gB, gV, gT, reduceIte, reduceCtorEq, Nat.reduceEqDiff, Nat.reduceAdd, Nat.reduceSub, Nat.reduceLeDiff, Nat.reduceLT, Int.reduceEq, Nat.reduceMul, h1, c2, f14, f1, f13, c3, f12, h2, e1, n2, c1, c4, hr, e2, e3, c5, c6, q1, nat_succ, and_self]⟩
              · omega
              · omega
              · (exact chk_next h hx (bb0 (by assumption) (by assumption) m2 m3 (by assumption) (by first | exact pvp (by assumption) m4 (bfl0 (by assumption)) | exact pvz (by assumption))); done)
              · exact (le_put (by assumption) _) _ _ (by assumption)
              · exact RSl.put _ (by assumption) (by assumption)
              · exact RSl.put _ (by assumption) (by assumption)
              · (simp (maxDischargeDepth := 9) only [le_self, le_puts, le_put0, sub_self, sub_puts, sub_put0, h1, hle, h2]; done)
            rotate_right 1
            simp (maxDischargeDepth := 9) only [↓gB, gV, gT, reduceIte, reduceCtorEq, Nat.reduceEqDiff, Nat.reduceAdd, Nat.reduceSub, Nat.reduceLeDiff, Nat.reduceLT, Int.reduceEq, Nat.reduceMul, h1, c2, f14, f1, f13, c3, f12, h2, e1, n2, c1, c4, hr, e2, e3, c5, c6]
            have q1 : Go.IntKind.i64.wrap (↑i - 1) = ↑i - 1 := wrap_id (by omega)
            simp (maxDischargeDepth := 9) only [↓gB, gV, gT, reduceIte, reduceCtorEq, Nat.reduceEqDiff, Nat.reduceAdd, Nat.reduceSub, Nat.reduceLeDiff, Nat.reduceLT, Int.reduceEq, Nat.reduceMul, h1, c2, f14, f1, f13, c3, f12, h2, e1, n2, c1, c4, hr, e2, e3, c5, c6, q1]
            refine vguard_intro (by omega) ?_
            obtain ⟨x4, s4, m4, rfl, e4⟩ := hu.at' (i - 1) (by omega) 2 rfl
            simp (maxDischargeDepth := 9) only [↓gB, gV, gT, reduceIte, reduceCtorEq, Nat.reduceEqDiff, Nat.reduceAdd, Nat.reduceSub, Nat.reduceLeDiff, Nat.reduceLT, Int.reduceEq, Nat.reduceMul, h1, c2, f14, f1, f13, c3, f12, h2, e1, n2, c1, c4, hr, e2, e3, c5, c6, q1, e4]
            refine vguard_intro (by omega) ?_
            refine Ycp (p125) ?_
            simp (maxDischargeDepth := 9) only [↓gB, gV, gT, reduceIte, reduceCtorEq, Nat.reduceEqDiff, Nat.reduceAdd, Nat.reduceSub, Nat.reduceLeDiff, Nat.reduceLT, Int.reduceEq, Nat.reduceMul, h1, c2, f14, f1, f13, c3, f12, h2, e1, n2, c1, c4, hr, e2, e3, c5, c6, q1, e4]
            refine Ycp (p125) ?_
            simp (maxDischargeDepth := 9) only [↓gB, gV, gT, reduceIte, reduceCtorEq, Nat.reduceEqDiff, Nat.reduceAdd, Nat.reduceSub, Nat.reduceLeDiff, Nat.reduceLT, Int.reduceEq, Nat.reduceMul, h1, c2, f14, f1, f13, c3, f12, h2, e1, n2, c1, c4, hr, e2, e3, c5, c6, q1, e4]
            refine Yn1 fun r3 h3 => ?_
            have n3 := h3
            simp only [put_none_eq, ne_eq] at n3
            have n30 := h3
            simp only [put_none_eq, ne_eq, @eq_comm Nat r3] at n30
            simp (maxDischargeDepth := 9) only [↓gB, gV, gT, reduceIte, reduceCtorEq, Nat.reduceEqDiff, Nat.reduceAdd, Nat.reduceSub, Nat.reduceLeDiff, Nat.reduceLT, Int.reduceEq, Nat.reduceMul, h1, c2, f14, f1, f13, c3, f12, h2, e1, n2, c1, c4, hr, e2, e3, c5, c6, q1, e4, h3, n3, n30]
            refine Ycp (p129 (by exact put_self _ _ _)) ?_
            simp (maxDischargeDepth := 9) only [↓gB, gV, gT, reduceIte, reduceCtorEq, Nat.reduceEqDiff, Nat.reduceAdd, Nat.reduceSub, Nat.reduceLeDiff, Nat.reduceLT, Int.reduceEq, Nat.reduceMul, h1, c2, f14, f1, f13, c3, f12, h2, e1, n2, c1, c4, hr, e2, e3, c5, c6, q1, e4, h3, n3, n30]
            refine Xc_split _ _ _ _ _ (fun c7 => ?_) (fun c7 => ?_)
            rotate_left 1
            focus
              simp (maxDischargeDepth := 9) only [↓gB, gV, gT, reduceIte, reduceCtorEq, Nat.reduceEqDiff, Nat.reduceAdd, Nat.reduceSub, Nat.reduceLeDiff, Nat.reduceLT, Int.reduceEq, Nat.reduceMul, h1, c2, f14, f1, f13, c3, f12, h2, e1, n2, c1, c4, hr, e2, e3, c5, c6, q1, e4, h3, n3, n30, c7]
              have q2 : Go.IntKind.i64.wrap (↑i + 1) = ↑i + 1 := wrap_id (by omega)
              simp (maxDischargeDepth := 9) only [↓gB, gV, gT, reduceIte, reduceCtorEq, Nat.reduceEqDiff, Nat.reduceAdd, Nat.reduceSub, Nat.reduceLeDiff, Nat.reduceLT, Int.reduceEq, Nat.reduceMul, h1, c2, f14, f1, f13, c3, f12, h2, e1, n2, c1, c4, hr, e2, e3, c5, c6, q1, e4, h3, n3, n30, c7, q2]
              rw [N_lp]
              refine ⟨_, ?_, _, sub_refl _, i + 1, rfl, ?_, ?_, ?_, ?_, ?_, ?_, by simp (maxDischargeDepth := 9) only [↓gB, gV, gT, reduceIte, reduceCtorEq, Nat.reduceEqDiff, Nat.reduceAdd, Nat.reduceSub, Nat.reduceLeDiff, Nat.reduceLT, Int.reduceEq, Nat.reduceMul, h1, c2, f14, f1, f13, c3, f12, h2, e1, n2, c1, c4, hr, e2, e3, c5, c6, q1, e4, h3, n3, n30, c7, q2, nat_succ, and_self]⟩
              · omega
              · omega
              · (exact chk_next h hx (bb0 (by assumption) (by assumption) m2 m3 (by assumption) (by first | exact pvp (by assumption) m4 (bfl0 (by assumption)) | exact pvz (by assumption))); done)
              · exact (le_put (by assumption) _) _ _ ((le_put (by assumption) _) _ _ (by assumption))
              · exact RSl.put _ (by assumption) (RSl.put _ (by assumption) (by assumption))
              · exact RSl.put _ (by assumption) (RSl.put _ (by assumption) (by assumption))
              · (simp (maxDischargeDepth := 9) only [le_self, le_puts, le_put0, sub_self, sub_puts, sub_put0, h1, hle, h2, h3, n3, n30]; done)
            rotate_right 1
            simp (maxDischargeDepth := 9) only [↓gB, gV, gT, reduceIte, reduceCtorEq, Nat.reduceEqDiff, Nat.reduceAdd, Nat.reduceSub, Nat.reduceLeDiff, Nat.reduceLT, Int.reduceEq, Nat.reduceMul, h1, c2, f14, f1, f13, c3, f12, h2, e1, n2, c1, c4, hr, e2, e3, c5, c6, q1, e4, h3, n3, n30, c7]
            refine Kup_val (by simp (maxDischargeDepth := 9) only [le_self, le_puts, le_put0, h1, hle, h2, h3, n3, n30]) ?_
            focus (rw [chk_bad h hx (bb7 (by assumption) (by assumption) m2 m3 (by assumption) (pvp (by assumption) m4 (bfl1 (by assumption)))) (by decide)]; done)
          rotate_right 1
          simp (maxDischargeDepth := 9) only [↓gB, gV, gT, reduceIte, reduceCtorEq, Nat.reduceEqDiff, Nat.reduceAdd, Nat.reduceSub, Nat.reduceLeDiff, Nat.reduceLT, Int.reduceEq, Nat.reduceMul, h1, c2, f14, f1, f13, c3, hr, f12, h2, e1, n2, c1, c4]
          refine Kup_val (by simp (maxDischargeDepth := 9) only [le_self, le_puts, le_put0, h1, hle, h2]) ?_
          focus (rw [chk_bad h hx (bb8 (by first | exact .inl (by assumption) | exact .inr (by assumption))) (by decide)]; done)
        rotate_right 1
        simp (maxDischargeDepth := 9) only [↓gB, gV, gT, reduceIte, reduceCtorEq, Nat.reduceEqDiff, Nat.reduceAdd, Nat.reduceSub, Nat.reduceLeDiff, Nat.reduceLT, Int.reduceEq, Nat.reduceMul, h1, c2, f14, f1, f13, c3, hr, f12, h2, e1, n2, c1]
        refine Kup_val (by simp (maxDischargeDepth := 9) only [le_self, le_puts, le_put0, h1, hle, h2]) ?_
        focus (rw [chk_bad h hx (bb8 (by first | exact .inl (by assumption) | exact .inr (by assumption))) (by decide)]; done)
    · simp (maxDischargeDepth := 9) only [↓gB, gV, gT, reduceIte, reduceCtorEq, Nat.reduceEqDiff, Nat.reduceAdd, Nat.reduceSub, Nat.reduceLeDiff, Nat.reduceLT, Int.reduceEq, Nat.reduceMul, h1, c2, hr, f14, f1, f12, f13, c3]
      refine Kup_val (by simp (maxDischargeDepth := 9) only [le_self, le_puts, le_put0, h1, hle]) ?_
      focus (rw [chk_end h c3]; done)
end Go.Proofs.YtnlbapfbdabjaaaDoor
namespace Go.Proofs.YtnlbapfbdabjaaaDoor
open Go Go.GL
attribute [local irreducible] Ycall GCalls
set_option maxRecDepth 10000
set_option maxHeartbeats 0
theorem rE0 {ns : List SNode} {ar : List SArc} {bs : List SBan} (h : nodesE ns = 0) (h2 : ¬ (2000 : Int) < ar.length) (hc : chk (arcBad ns) none ar = 0) : roadsE ns ar bs = bansE ar bs := by
  unfold roadsE bansE; rw [if_neg (by simpa using h), if_neg (by omega), if_neg (by simpa using hc)]
theorem om1 {a b : Int} (h : within a (-10000) 10000 = false) : onMap a b = false := by simp [onMap, h]
theorem om2 {a b : Int} (h : within b (-10000) 10000 = false) : onMap a b = false := by simp [onMap, h]
theorem om0 {a b : Int} (h : within a (-10000) 10000 = true) (h2 : within b (-10000) 10000 = true) : onMap a b = true := by simp [onMap, h, h2]
theorem nE2 {l : List SNode} (h : (500 : Int) < l.length) : nodesE l = 2 := if_pos (by omega)
theorem nEc {l : List SNode} (h : ¬ (500 : Int) < l.length) {e : Int} (hc : chk nodeBad none l = e) : nodesE l = e := (if_neg (by omega)).trans hc
theorem p45 {G0 : GH} {v w u : Value} {ns : List SNode} {ar : List SArc} {bs : List SBan} (hv : RSl rNode G0 v ns) (hw : RSl rArc G0 w ar) (hu : RSl rBan G0 u bs) (hn : ns.length ≤ 1000000000) (hm : ar.length ≤ 1000000000) (hk : ∀ x ∈ ar, x.Knots.length ≤ 1000000000) (hb : bs.length ≤ 1000000000) : Pure Tryd.prog G0 45 [.agg #[v, w, u]] (V (roadsE ns ar bs)) := by
  intro G hG; replace hv := hv.le hG; replace hw := hw.le hG; replace hu := hu.le hG
  clear hG G0
  refine enter Tryd.func45 117 #[.tmp 2] rfl Tryd.ntmps45 rfl (by decide +kernel) rfl ?_
  obtain ⟨va, vc, rfl⟩ := hv.val
  obtain ⟨wa, wc, rfl⟩ := hw.val
  obtain ⟨ua, uc, rfl⟩ := hu.val
  simp (maxDischargeDepth := 9) only [↓gB, gV, gT, reduceIte, reduceCtorEq, Nat.reduceEqDiff, Nat.reduceAdd, Nat.reduceSub, Nat.reduceLeDiff, Nat.reduceLT, Int.reduceEq, Nat.reduceMul]
  refine Yn2 fun r1 h1 => ?_
  simp (maxDischargeDepth := 9) only [↓gB, gV, gT, reduceIte, reduceCtorEq, Nat.reduceEqDiff, Nat.reduceAdd, Nat.reduceSub, Nat.reduceLeDiff, Nat.reduceLT, Int.reduceEq, Nat.reduceMul, h1]
  refine Xc_split _ _ _ _ _ (fun c00 => ?_) (fun c00 => ?_)
  · simp (maxDischargeDepth := 9) only [↓gB, gV, gT, reduceIte, reduceCtorEq, Nat.reduceEqDiff, Nat.reduceAdd, Nat.reduceSub, Nat.reduceLeDiff, Nat.reduceLT, Int.reduceEq, Nat.reduceMul, h1, c00]
    refine Kup_val (by simp (maxDischargeDepth := 9) only [le_self, le_puts, le_put0, h1]) ?_
    focus (rw [rE1 (by rw [nE2 c00]; decide), nE2 c00]; done)
  · simp (maxDischargeDepth := 9) only [↓gB, gV, gT, reduceIte, reduceCtorEq, Nat.reduceEqDiff, Nat.reduceAdd, Nat.reduceSub, Nat.reduceLeDiff, Nat.reduceLT, Int.reduceEq, Nat.reduceMul, h1, c00]
    focus
      refine Xloop_intro _ _ _ _ _ (fun k f G' => ∃ (i : Nat), k = ns.length - i ∧ (i ≤ ns.length) ∧ (chk nodeBad none ns = chk nodeBad (prevOf ns i) (ns.drop i)) ∧ (G' r1 = some (.cells [.slice va ns.length vc, .slice wa ar.length wc, .slice ua bs.length uc].toArray 84 (0, 0), true)) ∧ (RSl rNode G' (.slice va ns.length vc) ns) ∧ (RSl rArc G' (.slice wa ar.length wc) ar) ∧ (RSl rBan G' (.slice ua bs.length uc) bs) ∧ (G.le G') ∧ f 15 = V i ∧ f 1 = Go.Value.pointer (Option.some { block := r1, off := 0 }) ∧ f 13 = Go.Value.slice va ns.length vc ∧ f 14 = Go.Value.int Go.IntKind.i64 ↑ns.length) _ ⟨0, rfl, ?_, ?_, ?_, ?_, ?_, ?_, ?_, by simp (maxDischargeDepth := 9) only [↓gB, gV, gT, reduceIte, reduceCtorEq, Nat.reduceEqDiff, Nat.reduceAdd, Nat.reduceSub, Nat.reduceLeDiff, Nat.reduceLT, Int.reduceEq, Nat.reduceMul, h1, c00, and_self]⟩ ?_
      · omega
      · rfl
      · exact put_self _ _ _
      · exact RSl.put _ (by assumption) (by assumption)
      · exact RSl.put _ (by assumption) (by assumption)
      · exact RSl.put _ (by assumption) (by assumption)
      · (simp (maxDischargeDepth := 9) only [le_self, le_puts, le_put0, sub_self, sub_puts, sub_put0, h1]; done)
      rintro k f G' ⟨i, rfl, hi, h, hr, hv, hw, hu, hle, f15, f1, f13, f14⟩
    simp (maxDischargeDepth := 9) only [↓gB, gV, gT, reduceIte, reduceCtorEq, Nat.reduceEqDiff, Nat.reduceAdd, Nat.reduceSub, Nat.reduceLeDiff, Nat.reduceLT, Int.reduceEq, Nat.reduceMul, h1, c00, hr, f15, f1, f13, f14]
    refine Xc_split _ _ _ _ _ (fun c01 => ?_) (fun c01 => ?_)
    · obtain ⟨x, hx⟩ : ∃ x, ns[i]? = some x := ⟨_, List.getElem?_eq_getElem (by omega)⟩
      simp (maxDischargeDepth := 9) only [↓gB, gV, gT, reduceIte, reduceCtorEq, Nat.reduceEqDiff, Nat.reduceAdd, Nat.reduceSub, Nat.reduceLeDiff, Nat.reduceLT, Int.reduceEq, Nat.reduceMul, h1, c00, hr, f15, f1, f13, f14, c01]
      obtain ⟨x1, a1, s1, m1, rfl, rfl, e1⟩ := hv.at (i) (by omega) 3 rfl
      simp (maxDischargeDepth := 9) only [↓gB, gV, gT, reduceIte, reduceCtorEq, Nat.reduceEqDiff, Nat.reduceAdd, Nat.reduceSub, Nat.reduceLeDiff, Nat.reduceLT, Int.reduceEq, Nat.reduceMul, h1, c00, f15, f1, f14, c01, hr, f13, e1]
      refine vguard_intro (by simp) ?_
      refine Yn2 fun r2 h2 => ?_
      simp (maxDischargeDepth := 9) only [↓gB, gV, gT, reduceIte, reduceCtorEq, Nat.reduceEqDiff, Nat.reduceAdd, Nat.reduceSub, Nat.reduceLeDiff, Nat.reduceLT, Int.reduceEq, Nat.reduceMul, h1, c00, f15, f1, f14, c01, hr, f13, e1, h2]
      refine Ycp (p77) ?_
      simp (maxDischargeDepth := 9) only [↓gB, gV, gT, reduceIte, reduceCtorEq, Nat.reduceEqDiff, Nat.reduceAdd, Nat.reduceSub, Nat.reduceLeDiff, Nat.reduceLT, Int.reduceEq, Nat.reduceMul, h1, c00, f15, f1, f14, c01, hr, f13, e1, h2]
      obtain rfl : x = x1 := by rw [hx] at m1; cases m1; rfl
      have n2 : r1 ≠ r2 := ne_of_none hr h2
      focus
        rcases bool_tf (Go.Proofs.YtnlbapfbdabjaaaDoor.isKey x.Key) with c1 | c1
        rotate_left 1
        focus
          simp (maxDischargeDepth := 9) only [↓gB, gV, gT, reduceIte, reduceCtorEq, Nat.reduceEqDiff, Nat.reduceAdd, Nat.reduceSub, Nat.reduceLeDiff, Nat.reduceLT, Int.reduceEq, Nat.reduceMul, h1, c00, f15, f1, f14, c01, hr, f13, h2, e1, n2, c1]
          refine Kup_val (by simp (maxDischargeDepth := 9) only [le_self, le_puts, le_put0, h1, hle, h2]) ?_
          focus (have e := nEc c00 (chk_bad h hx (nb5 (by assumption)) (by decide)); rw [rE1 (by rw [e]; decide), e]; done)
        rotate_right 1
        simp (maxDischargeDepth := 9) only [↓gB, gV, gT, reduceIte, reduceCtorEq, Nat.reduceEqDiff, Nat.reduceAdd, Nat.reduceSub, Nat.reduceLeDiff, Nat.reduceLT, Int.reduceEq, Nat.reduceMul, h1, c00, f15, f1, f14, c01, hr, f13, h2, e1, n2, c1]
        refine Xdraw_intro [0, 1, 2, 3, 4, 5, 6, 7, 8, 9, 10, 11, 12, 13, 14] mixed (by kernel_rfl) (by decide +kernel) ?_
        simp (maxDischargeDepth := 9) only [↓gB, gV, gT, reduceIte, reduceCtorEq, Nat.reduceEqDiff, Nat.reduceAdd, Nat.reduceSub, Nat.reduceLeDiff, Nat.reduceLT, Int.reduceEq, Nat.reduceMul, h1, c00, f15, f1, f14, c01, hr, f13, h2, e1, n2, c1]
        by_cases c2 : (0 : Int) < ↑i
        rotate_left 1
        focus
          simp (maxDischargeDepth := 9) only [↓gB, gV, gT, reduceIte, reduceCtorEq, Nat.reduceEqDiff, Nat.reduceAdd, Nat.reduceSub, Nat.reduceLeDiff, Nat.reduceLT, Int.reduceEq, Nat.reduceMul, h1, c00, f15, f1, f14, c01, hr, f13, h2, e1, n2, c1, c2]
          refine Ycp (p68) ?_
          simp (maxDischargeDepth := 9) only [↓gB, gV, gT, reduceIte, reduceCtorEq, Nat.reduceEqDiff, Nat.reduceAdd, Nat.reduceSub, Nat.reduceLeDiff, Nat.reduceLT, Int.reduceEq, Nat.reduceMul, h1, c00, f15, f1, f14, c01, hr, f13, h2, e1, n2, c1, c2]
          rcases bool_tf (Go.Proofs.YtnlbapfbdabjaaaDoor.within x.X (-10000) 10000) with c3 | c3
          rotate_left 1
          focus
            simp (maxDischargeDepth := 9) only [↓gB, gV, gT, reduceIte, reduceCtorEq, Nat.reduceEqDiff, Nat.reduceAdd, Nat.reduceSub, Nat.reduceLeDiff, Nat.reduceLT, Int.reduceEq, Nat.reduceMul, h1, c00, f15, f1, f14, c01, hr, f13, h2, e1, n2, c1, c2, c3]
            refine Kup_val (by simp (maxDischargeDepth := 9) only [le_self, le_puts, le_put0, h1, hle, h2]) ?_
            focus (have e := nEc c00 (chk_bad h hx (nb1 (by assumption) (by first | exact pvp (by assumption) m2 (by simp [*]) | exact pvz (by assumption)) (by first | exact om1 (by assumption) | exact om2 (by assumption))) (by decide)); rw [rE1 (by rw [e]; decide), e]; done)
          rotate_right 1
          simp (maxDischargeDepth := 9) only [↓gB, gV, gT, reduceIte, reduceCtorEq, Nat.reduceEqDiff, Nat.reduceAdd, Nat.reduceSub, Nat.reduceLeDiff, Nat.reduceLT, Int.reduceEq, Nat.reduceMul, h1, c00, f15, f1, f14, c01, hr, f13, h2, e1, n2, c1, c2, c3]
          refine Ycp (p68) ?_
          simp (maxDischargeDepth := 9) only [↓gB, gV, gT, reduceIte, reduceCtorEq, Nat.reduceEqDiff, Nat.reduceAdd, Nat.reduceSub, Nat.reduceLeDiff, Nat.reduceLT, Int.reduceEq, Nat.reduceMul, h1, c00, f15, f1, f14, c01, hr, f13, h2, e1, n2, c1, c2, c3]
          rcases bool_tf (Go.Proofs.YtnlbapfbdabjaaaDoor.within x.Y (-10000) 10000) with c4 | c4
          rotate_left 1
          focus
            simp (maxDischargeDepth := 9) only [↓gB, gV, gT, reduceIte, reduceCtorEq, Nat.reduceEqDiff, Nat.reduceAdd, Nat.reduceSub, Nat.reduceLeDiff, Nat.reduceLT, Int.reduceEq, Nat.reduceMul, h1, c00, f15, f1, f14, c01, hr, f13, h2, e1, n2, c1, c2, c3, c4]
            refine Kup_val (by simp (maxDischargeDepth := 9) only [le_self, le_puts, le_put0, h1, hle, h2]) ?_
            focus (have e := nEc c00 (chk_bad h hx (nb1 (by assumption) (by first | exact pvp (by assumption) m2 (by simp [*]) | exact pvz (by assumption)) (by first | exact om1 (by assumption) | exact om2 (by assumption))) (by decide)); rw [rE1 (by rw [e]; decide), e]; done)
          rotate_right 1
          simp (maxDischargeDepth := 9) only [↓gB, gV, gT, reduceIte, reduceCtorEq, Nat.reduceEqDiff, Nat.reduceAdd, Nat.reduceSub, Nat.reduceLeDiff, Nat.reduceLT, Int.reduceEq, Nat.reduceMul, h1, c00, f15, f1, f14, c01, hr, f13, h2, e1, n2, c1, c2, c3, c4]
          have q1 : Go.IntKind.i64.wrap (↑i + 1) = ↑i + 1 := wrap_id (by omega)
          simp (maxDischargeDepth := 9) only [↓gB, gV, gT, reduceIte, reduceCtorEq, Nat.reduceEqDiff, Nat.reduceAdd, Nat.reduceSub, Nat.reduceLeDiff, Nat.reduceLT, Int.reduceEq, Nat.reduceMul, h1, c00, f15, f1, f14, c01, hr, f13, h2, e1, n2, c1, c2, c3, c4, q1]
          rw [N_lp]
          refine ⟨_, ?_, _, sub_refl _, i + 1, rfl, ?_, ?_, ?_, ?_, ?_, ?_, ?_, by simp (maxDischargeDepth := 9) only [↓gB, gV, gT, reduceIte, reduceCtorEq, Nat.reduceEqDiff, Nat.reduceAdd, Nat.reduceSub, Nat.reduceLeDiff, Nat.reduceLT, Int.reduceEq, Nat.reduceMul, h1, c00, f15, f1, f14, c01, hr, f13, h2, e1, n2, c1, c2, c3, c4, q1, nat_succ, and_self]⟩
          · omega
          · omega
          · (exact chk_next h hx (nb0 (by assumption) (by first | exact pvp (by assumption) m2 (by simp [*]) | exact pvz (by assumption)) (om0 (by assumption) (by assumption))); done)
          · exact (le_put (by assumption) _) _ _ (by assumption)
          · exact RSl.put _ (by assumption) (by assumption)
          · exact RSl.put _ (by assumption) (by assumption)
          · exact RSl.put _ (by assumption) (by assumption)
          · (simp (maxDischargeDepth := 9) only [le_self, le_puts, le_put0, sub_self, sub_puts, sub_put0, h1, hle, h2]; done)
        rotate_right 1
        simp (maxDischargeDepth := 9) only [↓gB, gV, gT, reduceIte, reduceCtorEq, Nat.reduceEqDiff, Nat.reduceAdd, Nat.reduceSub, Nat.reduceLeDiff, Nat.reduceLT, Int.reduceEq, Nat.reduceMul, h1, c00, f15, f1, f14, c01, hr, f13, h2, e1, n2, c1, c2]
        have q1 : Go.IntKind.i64.wrap (↑i - 1) = ↑i - 1 := wrap_id (by omega)
        simp (maxDischargeDepth := 9) only [↓gB, gV, gT, reduceIte, reduceCtorEq, Nat.reduceEqDiff, Nat.reduceAdd, Nat.reduceSub, Nat.reduceLeDiff, Nat.reduceLT, Int.reduceEq, Nat.reduceMul, h1, c00, f15, f1, f14, c01, hr, f13, h2, e1, n2, c1, c2, q1]
        refine vguard_intro (by omega) ?_
        obtain ⟨x2, s2, m2, rfl, e2⟩ := hv.at' (i - 1) (by omega) 3 rfl
        simp (maxDischargeDepth := 9) only [↓gB, gV, gT, reduceIte, reduceCtorEq, Nat.reduceEqDiff, Nat.reduceAdd, Nat.reduceSub, Nat.reduceLeDiff, Nat.reduceLT, Int.reduceEq, Nat.reduceMul, h1, c00, f15, f1, f14, c01, hr, f13, h2, e1, n2, c1, c2, q1, e2]
        rcases bool_tf (Go.GL.sLt x2.Key x.Key) with c3 | c3
        rotate_left 1
        focus
          simp (maxDischargeDepth := 9) only [↓gB, gV, gT, reduceIte, reduceCtorEq, Nat.reduceEqDiff, Nat.reduceAdd, Nat.reduceSub, Nat.reduceLeDiff, Nat.reduceLT, Int.reduceEq, Nat.reduceMul, h1, c00, f15, f1, f14, c01, hr, f13, h2, e1, n2, c1, c2, q1, e2, c3]
          refine Kup_val (by simp (maxDischargeDepth := 9) only [le_self, le_puts, le_put0, h1, hle, h2]) ?_
          focus (have e := nEc c00 (chk_bad h hx (nb7 (by assumption) (pvp (by assumption) m2 (by simp [*]))) (by decide)); rw [rE1 (by rw [e]; decide), e]; done)
        rotate_right 1
        simp (maxDischargeDepth := 9) only [↓gB, gV, gT, reduceIte, reduceCtorEq, Nat.reduceEqDiff, Nat.reduceAdd, Nat.reduceSub, Nat.reduceLeDiff, Nat.reduceLT, Int.reduceEq, Nat.reduceMul, h1, c00, f15, f1, f14, c01, hr, f13, h2, e1, n2, c1, c2, q1, e2, c3]
        refine Ycp (p68) ?_
        simp (maxDischargeDepth := 9) only [↓gB, gV, gT, reduceIte, reduceCtorEq, Nat.reduceEqDiff, Nat.reduceAdd, Nat.reduceSub, Nat.reduceLeDiff, Nat.reduceLT, Int.reduceEq, Nat.reduceMul, h1, c00, f15, f1, f14, c01, hr, f13, h2, e1, n2, c1, c2, q1, e2, c3]
        rcases bool_tf (Go.Proofs.YtnlbapfbdabjaaaDoor.within x.X (-10000) 10000) with c4 | c4
        rotate_left 1
        focus
          simp (maxDischargeDepth := 9) only [↓gB, gV, gT, reduceIte, reduceCtorEq, Nat.reduceEqDiff, Nat.reduceAdd, Nat.reduceSub, Nat.reduceLeDiff, Nat.reduceLT, Int.reduceEq, Nat.reduceMul, h1, c00, f15, f1, f14, c01, hr, f13, h2, e1, n2, c1, c2, q1, e2, c3, c4]
          refine Kup_val (by simp (maxDischargeDepth := 9) only [le_self, le_puts, le_put0, h1, hle, h2]) ?_
          focus (have e := nEc c00 (chk_bad h hx (nb1 (by assumption) (by first | exact pvp (by assumption) m2 (by simp [*]) | exact pvz (by assumption)) (by first | exact om1 (by assumption) | exact om2 (by assumption))) (by decide)); rw [rE1 (by rw [e]; decide), e]; done)
        rotate_right 1
        simp (maxDischargeDepth := 9) only [↓gB, gV, gT, reduceIte, reduceCtorEq, Nat.reduceEqDiff, Nat.reduceAdd, Nat.reduceSub, Nat.reduceLeDiff, Nat.reduceLT, Int.reduceEq, Nat.reduceMul, h1, c00, f15, f1, f14, c01, hr, f13, h2, e1, n2, c1, c2, q1, e2, c3, c4]
        refine Ycp (p68) ?_
        simp (maxDischargeDepth := 9) only [↓gB, gV, gT, reduceIte, reduceCtorEq, Nat.reduceEqDiff, Nat.reduceAdd, Nat.reduceSub, Nat.reduceLeDiff, Nat.reduceLT, Int.reduceEq, Nat.reduceMul, h1, c00, f15, f1, f14, c01, hr, f13, h2, e1, n2, c1, c2, q1, e2, c3, c4]
        rcases bool_tf (Go.Proofs.YtnlbapfbdabjaaaDoor.within x.Y (-10000) 10000) with c5 | c5
        rotate_left 1
        focus
          simp (maxDischargeDepth := 9) only [↓gB, gV, gT, reduceIte, reduceCtorEq, Nat.reduceEqDiff, Nat.reduceAdd, Nat.reduceSub, Nat.reduceLeDiff, Nat.reduceLT, Int.reduceEq, Nat.reduceMul, h1, c00, f15, f1, f14, c01, hr, f13, h2, e1, n2, c1, c2, q1, e2, c3, c4, c5]
          refine Kup_val (by simp (maxDischargeDepth := 9) only [le_self, le_puts, le_put0, h1, hle, h2]) ?_
          focus (have e := nEc c00 (chk_bad h hx (nb1 (by assumption) (by first | exact pvp (by assumption) m2 (by simp [*]) | exact pvz (by assumption)) (by first | exact om1 (by assumption) | exact om2 (by assumption))) (by decide)); rw [rE1 (by rw [e]; decide), e]; done)
        rotate_right 1
        simp (maxDischargeDepth := 9) only [↓gB, gV, gT, reduceIte, reduceCtorEq, Nat.reduceEqDiff, Nat.reduceAdd, Nat.reduceSub, Nat.reduceLeDiff, Nat.reduceLT, Int.reduceEq, Nat.reduceMul, h1, c00, f15, f1, f14, c01, hr, f13, h2, e1, n2, c1, c2, q1, e2, c3, c4, c5]
        have q2 : Go.IntKind.i64.wrap (↑i + 1) = ↑i + 1 := wrap_id (by omega)
        simp (maxDischargeDepth := 9) only [↓gB, gV, gT, reduceIte, reduceCtorEq, Nat.reduceEqDiff, Nat.reduceAdd, Nat.reduceSub, Nat.reduceLeDiff, Nat.reduceLT, Int.reduceEq, Nat.reduceMul, h1, c00, f15, f1, f14, c01, hr, f13, h2, e1, n2, c1, c2, q1, e2, c3, c4, c5, q2]
        rw [N_lp]
        refine ⟨_, ?_, _, sub_refl _, i + 1, rfl, ?_, ?_, ?_, ?_, ?_, ?_, ?_, by simp (maxDischargeDepth := 9) only [↓gB, gV, gT, reduceIte, reduceCtorEq, Nat.reduceEqDiff, Nat.reduceAdd, Nat.reduceSub, Nat.reduceLeDiff, Nat.reduceLT, Int.reduceEq, Nat.reduceMul, h1, c00, f15, f1, f14, c01, hr, f13, h2, e1, n2, c1, c2, q1, e2, c3, c4, c5, q2, nat_succ, and_self]⟩
        · omega
        · omega
        · (exact chk_next h hx (nb0 (by assumption) (by first | exact pvp (by assumption) m2 (by simp [*]) | exact pvz (by assumption)) (om0 (by assumption) (by assumption))); done)
        · exact (le_put (by assumption) _) _ _ (by assumption)
        · exact RSl.put _ (by assumption) (by assumption)
        · exact RSl.put _ (by assumption) (by assumption)
        · exact RSl.put _ (by assumption) (by assumption)
        · (simp (maxDischargeDepth := 9) only [le_self, le_puts, le_put0, sub_self, sub_puts, sub_put0, h1, hle, h2]; done)
    · have he := nEc c00 (chk_end h c01)
      obtain ⟨hnl, hnr⟩ := nodes_rise he
      simp (maxDischargeDepth := 9) only [↓gB, gV, gT, reduceIte, reduceCtorEq, Nat.reduceEqDiff, Nat.reduceAdd, Nat.reduceSub, Nat.reduceLeDiff, Nat.reduceLT, Int.reduceEq, Nat.reduceMul, h1, c00, hr, f15, f1, f13, f14, c01]
      refine Xc_split _ _ _ _ _ (fun c0 => ?_) (fun c0 => ?_)
      · simp (maxDischargeDepth := 9) only [↓gB, gV, gT, reduceIte, reduceCtorEq, Nat.reduceEqDiff, Nat.reduceAdd, Nat.reduceSub, Nat.reduceLeDiff, Nat.reduceLT, Int.reduceEq, Nat.reduceMul, h1, c00, hr, f15, f1, f13, f14, c01, c0]
        refine Kup_val (by simp (maxDischargeDepth := 9) only [le_self, le_puts, le_put0, h1, hle]) ?_
        focus (rw [rE2 he c0]; done)
      · simp (maxDischargeDepth := 9) only [↓gB, gV, gT, reduceIte, reduceCtorEq, Nat.reduceEqDiff, Nat.reduceAdd, Nat.reduceSub, Nat.reduceLeDiff, Nat.reduceLT, Int.reduceEq, Nat.reduceMul, h1, c00, hr, f15, f1, f13, f14, c01, c0]
        focus
          refine Xloop_intro _ _ _ _ _ (fun k f G' => ∃ (i : Nat), k = ar.length - i ∧ (i ≤ ar.length) ∧ (chk (arcBad ns) none ar = chk (arcBad ns) (prevOf ar i) (ar.drop i)) ∧ (G' r1 = some (.cells [.slice va ns.length vc, .slice wa ar.length wc, .slice ua bs.length uc].toArray 84 (0, 0), true)) ∧ (RSl rNode G' (.slice va ns.length vc) ns) ∧ (RSl rArc G' (.slice wa ar.length wc) ar) ∧ (RSl rBan G' (.slice ua bs.length uc) bs) ∧ (G.le G') ∧ f 59 = V i ∧ f 1 = Go.Value.pointer (Option.some { block := r1, off := 0 }) ∧ f 57 = Go.Value.slice wa ar.length wc ∧ f 58 = Go.Value.int Go.IntKind.i64 ↑ar.length) _ ⟨0, rfl, ?_, ?_, ?_, ?_, ?_, ?_, ?_, by simp (maxDischargeDepth := 9) only [↓gB, gV, gT, reduceIte, reduceCtorEq, Nat.reduceEqDiff, Nat.reduceAdd, Nat.reduceSub, Nat.reduceLeDiff, Nat.reduceLT, Int.reduceEq, Nat.reduceMul, h1, c00, hr, f15, f1, f13, f14, c01, c0, and_self]⟩ ?_
          · omega
          · rfl
          · assumption
          · assumption
          · assumption
          · assumption
          · assumption
          rintro k f G' ⟨i, rfl, hi, h, hr, hv, hw, hu, hle, f59, f1, f57, f58⟩
        simp (maxDischargeDepth := 9) only [↓gB, gV, gT, reduceIte, reduceCtorEq, Nat.reduceEqDiff, Nat.reduceAdd, Nat.reduceSub, Nat.reduceLeDiff, Nat.reduceLT, Int.reduceEq, Nat.reduceMul, h1, c00, hr, f15, f1, f13, f14, c01, c0, hr, f59, f1, f57, f58]
        refine Xc_split _ _ _ _ _ (fun c1 => ?_) (fun c1 => ?_)
        · obtain ⟨x, hx⟩ : ∃ x, ar[i]? = some x := ⟨_, List.getElem?_eq_getElem (by omega)⟩
          have hxk := hk x (List.mem_of_getElem? hx)
          simp (maxDischargeDepth := 9) only [↓gB, gV, gT, reduceIte, reduceCtorEq, Nat.reduceEqDiff, Nat.reduceAdd, Nat.reduceSub, Nat.reduceLeDiff, Nat.reduceLT, Int.reduceEq, Nat.reduceMul, h1, c00, hr, f15, f1, f13, f14, c01, c0, hr, f59, f1, f57, f58, c1]
          obtain ⟨x1, a1, s1, m1, rfl, ⟨v1, rfl, w1⟩, e1⟩ := hw.at (i) (by omega) 5 rfl
          obtain ⟨aw1, cw1, rfl⟩ := RSl.val w1
          simp (maxDischargeDepth := 9) only [↓gB, gV, gT, reduceIte, reduceCtorEq, Nat.reduceEqDiff, Nat.reduceAdd, Nat.reduceSub, Nat.reduceLeDiff, Nat.reduceLT, Int.reduceEq, Nat.reduceMul, h1, c00, f15, f1, f13, f14, c01, c0, f59, f1, f58, c1, hr, hr, f57, e1]
          refine vguard_intro (by simp) ?_
          refine Yn2 fun r2 h2 => ?_
          simp (maxDischargeDepth := 9) only [↓gB, gV, gT, reduceIte, reduceCtorEq, Nat.reduceEqDiff, Nat.reduceAdd, Nat.reduceSub, Nat.reduceLeDiff, Nat.reduceLT, Int.reduceEq, Nat.reduceMul, h1, c00, f15, f1, f13, f14, c01, c0, f59, f1, f58, c1, hr, hr, f57, e1, h2]
          refine Ycp (p77) ?_
          simp (maxDischargeDepth := 9) only [↓gB, gV, gT, reduceIte, reduceCtorEq, Nat.reduceEqDiff, Nat.reduceAdd, Nat.reduceSub, Nat.reduceLeDiff, Nat.reduceLT, Int.reduceEq, Nat.reduceMul, h1, c00, f15, f1, f13, f14, c01, c0, f59, f1, f58, c1, hr, hr, f57, e1, h2]
          obtain rfl : x = x1 := by rw [hx] at m1; cases m1; rfl
          have n2 : r1 ≠ r2 := ne_of_none hr h2
          have hpz : ¬ (0 : Int) < i → (prevOf ar i).any (fun q => !sLt q.Key x.Key) = false := fun q => pvz q
          focus
            rcases bool_tf (Go.Proofs.YtnlbapfbdabjaaaDoor.isKey x.Key) with c2 | c2
            rotate_left 1
            focus
              simp (maxDischargeDepth := 9) only [↓gB, gV, gT, reduceIte, reduceCtorEq, Nat.reduceEqDiff, Nat.reduceAdd, Nat.reduceSub, Nat.reduceLeDiff, Nat.reduceLT, Int.reduceEq, Nat.reduceMul, h1, c00, f15, f1, f13, f14, c01, c0, f59, f1, f58, c1, hr, hr, f57, h2, e1, n2, c2]
              refine Kup_val (by simp (maxDischargeDepth := 9) only [le_self, le_puts, le_put0, h1, hle, hle, h2]) ?_
              focus (rw [rE3 he c0 (chk_bad h hx (ab5 (by assumption)) (by decide)) (by decide)]; done)
            rotate_right 1
            simp (maxDischargeDepth := 9) only [↓gB, gV, gT, reduceIte, reduceCtorEq, Nat.reduceEqDiff, Nat.reduceAdd, Nat.reduceSub, Nat.reduceLeDiff, Nat.reduceLT, Int.reduceEq, Nat.reduceMul, h1, c00, f15, f1, f13, f14, c01, c0, f59, f1, f58, c1, hr, hr, f57, h2, e1, n2, c2]
            refine Xdraw_intro [0, 1, 2, 3, 4, 5, 6, 7, 8, 9, 10, 11, 12, 13, 14] mixed (by kernel_rfl) (by decide +kernel) ?_
            simp (maxDischargeDepth := 9) only [↓gB, gV, gT, reduceIte, reduceCtorEq, Nat.reduceEqDiff, Nat.reduceAdd, Nat.reduceSub, Nat.reduceLeDiff, Nat.reduceLT, Int.reduceEq, Nat.reduceMul, h1, c00, f15, f1, f13, f14, c01, c0, f59, f1, f58, c1, hr, hr, f57, h2, e1, n2, c2]
            by_cases c3 : (0 : Int) < ↑i
            rotate_left 1
            focus
              simp (maxDischargeDepth := 9) only [↓gB, gV, gT, reduceIte, reduceCtorEq, Nat.reduceEqDiff, Nat.reduceAdd, Nat.reduceSub, Nat.reduceLeDiff, Nat.reduceLT, Int.reduceEq, Nat.reduceMul, h1, c00, f15, f1, f13, f14, c01, c0, f59, f1, f58, c1, hr, hr, f57, h2, e1, n2, c2, c3]
              refine Ycp (p98 (by exact RSl.put _ (by assumption) (by assumption)) (by omega)) ?_
              simp (maxDischargeDepth := 9) only [↓gB, gV, gT, reduceIte, reduceCtorEq, Nat.reduceEqDiff, Nat.reduceAdd, Nat.reduceSub, Nat.reduceLeDiff, Nat.reduceLT, Int.reduceEq, Nat.reduceMul, h1, c00, f15, f1, f13, f14, c01, c0, f59, f1, f58, c1, hr, hr, f57, h2, e1, n2, c2, c3]
              by_cases c4 : (Go.Proofs.YtnlbapfbdabjaaaDoor.keyAt Go.Proofs.YtnlbapfbdabjaaaDoor.SNode.Key ns x.From : Int) < 0
              rotate_left 1
              focus
                simp (maxDischargeDepth := 9) only [↓gB, gV, gT, reduceIte, reduceCtorEq, Nat.reduceEqDiff, Nat.reduceAdd, Nat.reduceSub, Nat.reduceLeDiff, Nat.reduceLT, Int.reduceEq, Nat.reduceMul, h1, c00, f15, f1, f13, f14, c01, c0, f59, f1, f58, c1, hr, hr, f57, h2, e1, n2, c2, c3, c4]
                refine Ycp (p98 (by exact RSl.put _ (by assumption) (by assumption)) (by omega)) ?_
                simp (maxDischargeDepth := 9) only [↓gB, gV, gT, reduceIte, reduceCtorEq, Nat.reduceEqDiff, Nat.reduceAdd, Nat.reduceSub, Nat.reduceLeDiff, Nat.reduceLT, Int.reduceEq, Nat.reduceMul, h1, c00, f15, f1, f13, f14, c01, c0, f59, f1, f58, c1, hr, hr, f57, h2, e1, n2, c2, c3, c4]
                refine Xc_split _ _ _ _ _ (fun c5 => ?_) (fun c5 => ?_)
                rotate_left 1
                focus
                  simp (maxDischargeDepth := 9) only [↓gB, gV, gT, reduceIte, reduceCtorEq, Nat.reduceEqDiff, Nat.reduceAdd, Nat.reduceSub, Nat.reduceLeDiff, Nat.reduceLT, Int.reduceEq, Nat.reduceMul, h1, c00, f15, f1, f13, f14, c01, c0, f59, f1, f58, c1, hr, hr, f57, h2, e1, n2, c2, c3, c4, c5]
                  refine Xc_split _ _ _ _ _ (fun c6 => ?_) (fun c6 => ?_)
                  rotate_left 1
                  focus
                    simp (maxDischargeDepth := 9) only [↓gB, gV, gT, reduceIte, reduceCtorEq, Nat.reduceEqDiff, Nat.reduceAdd, Nat.reduceSub, Nat.reduceLeDiff, Nat.reduceLT, Int.reduceEq, Nat.reduceMul, h1, c00, f15, f1, f13, f14, c01, c0, f59, f1, f58, c1, hr, hr, f57, h2, e1, n2, c2, c3, c4, c5, c6]
                    refine Ycp (p68) ?_
                    simp (maxDischargeDepth := 9) only [↓gB, gV, gT, reduceIte, reduceCtorEq, Nat.reduceEqDiff, Nat.reduceAdd, Nat.reduceSub, Nat.reduceLeDiff, Nat.reduceLT, Int.reduceEq, Nat.reduceMul, h1, c00, f15, f1, f13, f14, c01, c0, f59, f1, f58, c1, hr, hr, f57, h2, e1, n2, c2, c3, c4, c5, c6]
                    rcases bool_tf (Go.Proofs.YtnlbapfbdabjaaaDoor.within x.Long 1 1000000) with c7 | c7
                    rotate_left 1
                    focus
                      simp (maxDischargeDepth := 9) only [↓gB, gV, gT, reduceIte, reduceCtorEq, Nat.reduceEqDiff, Nat.reduceAdd, Nat.reduceSub, Nat.reduceLeDiff, Nat.reduceLT, Int.reduceEq, Nat.reduceMul, h1, c00, f15, f1, f13, f14, c01, c0, f59, f1, f58, c1, hr, hr, f57, h2, e1, n2, c2, c3, c4, c5, c6, c7]
                      refine Kup_val (by simp (maxDischargeDepth := 9) only [le_self, le_puts, le_put0, h1, hle, hle, h2]) ?_
                      focus (rw [rE3 he c0 (chk_bad h hx (ab1 (by assumption) (by first | exact pvp (by assumption) m2 (by simp [*]) | exact hpz (by assumption)) (by assumption) (by assumption) (by assumption) (by assumption)) (by decide)) (by decide)]; done)
                    rotate_right 1
                    simp (maxDischargeDepth := 9) only [↓gB, gV, gT, reduceIte, reduceCtorEq, Nat.reduceEqDiff, Nat.reduceAdd, Nat.reduceSub, Nat.reduceLeDiff, Nat.reduceLT, Int.reduceEq, Nat.reduceMul, h1, c00, f15, f1, f13, f14, c01, c0, f59, f1, f58, c1, hr, hr, f57, h2, e1, n2, c2, c3, c4, c5, c6, c7]
                    refine Ycp (p99 (by exact RSl.put _ (by assumption) (by assumption)) (by omega)) ?_
                    simp (maxDischargeDepth := 9) only [↓gB, gV, gT, reduceIte, reduceCtorEq, Nat.reduceEqDiff, Nat.reduceAdd, Nat.reduceSub, Nat.reduceLeDiff, Nat.reduceLT, Int.reduceEq, Nat.reduceMul, h1, c00, f15, f1, f13, f14, c01, c0, f59, f1, f58, c1, hr, hr, f57, h2, e1, n2, c2, c3, c4, c5, c6, c7]
                    refine Xc_split _ _ _ _ _ (fun c8 => ?_) (fun c8 => ?_)
                    rotate_left 1
                    focus
                      simp (maxDischargeDepth := 9) only [↓gB, gV, gT, reduceIte, reduceCtorEq, Nat.reduceEqDiff, Nat.reduceAdd, Nat.reduceSub, Nat.reduceLeDiff, Nat.reduceLT, Int.reduceEq, Nat.reduceMul, h1, c00, f15, f1, f13, f14, c01, c0, f59, f1, f58, c1, hr, hr, f57, h2, e1, n2, c2, c3, c4, c5, c6, c7, c8]
                      have q1 : Go.IntKind.i64.wrap (↑i + 1) = ↑i + 1 := wrap_id (by omega)
                      simp (maxDischargeDepth := 9) only [↓gB, gV, gT, reduceIte, reduceCtorEq, Nat.reduceEqDiff, Nat.reduceAdd, Nat.reduceSub, Nat.reduceLeDiff, Nat.reduceLT, Int.reduceEq, Nat.reduceMul, h1, c00, f15, f1, f13, f14, c01, c0, f59, f1, f58, c1, hr, hr, f57, h2, e1, n2, c2, c3, c4, c5, c6, c7, c8, q1]
                      rw [N_lp]
                      refine ⟨_, ?_, _, sub_refl _, i + 1, rfl, ?_, ?_, ?_, ?_, ?_, ?_, ?_, by simp (maxDischargeDepth := 9) only [↓gB, gV, gT, reduceIte, reduceCtorEq, Nat.reduceEqDiff, Nat.reduceAdd, Nat.reduceSub, Nat.reduceLeDiff, Nat.reduceLT, Int.reduceEq, Nat.reduceMul, h1, c00, f15, f1, f13, f14, c01, c0, f59, f1, f58, c1, hr, hr, f57, h2, e1, n2, c2, c3, c4, c5, c6, c7, c8, q1, nat_succ, and_self]⟩
                      · omega
                      · omega
                      · (exact chk_next h hx ((abk (by assumption) (by first | exact pvp (by assumption) m2 (by simp [*]) | exact hpz (by assumption)) (by assumption) (by assumption) (by assumption) (by assumption)).trans (by omega)); done)
                      · exact (le_put (by assumption) _) _ _ (by assumption)
                      · exact RSl.put _ (by assumption) (by assumption)
                      · exact RSl.put _ (by assumption) (by assumption)
                      · exact RSl.put _ (by assumption) (by assumption)
                      · (simp (maxDischargeDepth := 9) only [le_self, le_puts, le_put0, sub_self, sub_puts, sub_put0, h1, hle, hle, h2]; done)
                    rotate_right 1
                    simp (maxDischargeDepth := 9) only [↓gB, gV, gT, reduceIte, reduceCtorEq, Nat.reduceEqDiff, Nat.reduceAdd, Nat.reduceSub, Nat.reduceLeDiff, Nat.reduceLT, Int.reduceEq, Nat.reduceMul, h1, c00, f15, f1, f13, f14, c01, c0, f59, f1, f58, c1, hr, hr, f57, h2, e1, n2, c2, c3, c4, c5, c6, c7, c8]
                    refine Kup_val (by simp (maxDischargeDepth := 9) only [le_self, le_puts, le_put0, h1, hle, hle, h2]) ?_
                    focus (rw [rE3 he c0 (chk_bad h hx (abk (by assumption) (by first | exact pvp (by assumption) m2 (by simp [*]) | exact hpz (by assumption)) (by assumption) (by assumption) (by assumption) (by assumption)) (by assumption)) (by assumption)]; done)
                  rotate_right 1
                  simp (maxDischargeDepth := 9) only [↓gB, gV, gT, reduceIte, reduceCtorEq, Nat.reduceEqDiff, Nat.reduceAdd, Nat.reduceSub, Nat.reduceLeDiff, Nat.reduceLT, Int.reduceEq, Nat.reduceMul, h1, c00, f15, f1, f13, f14, c01, c0, f59, f1, f58, c1, hr, hr, f57, h2, e1, n2, c2, c3, c4, c5, c6]
                  refine Kup_val (by simp (maxDischargeDepth := 9) only [le_self, le_puts, le_put0, h1, hle, hle, h2]) ?_
                  focus (rw [rE3 he c0 (chk_bad h hx (ab6 (by assumption) (by first | exact pvp (by assumption) m2 (by simp [*]) | exact hpz (by assumption)) (by assumption) (by assumption) (by assumption)) (by decide)) (by decide)]; done)
                rotate_right 1
                simp (maxDischargeDepth := 9) only [↓gB, gV, gT, reduceIte, reduceCtorEq, Nat.reduceEqDiff, Nat.reduceAdd, Nat.reduceSub, Nat.reduceLeDiff, Nat.reduceLT, Int.reduceEq, Nat.reduceMul, h1, c00, f15, f1, f13, f14, c01, c0, f59, f1, f58, c1, hr, hr, f57, h2, e1, n2, c2, c3, c4, c5]
                refine Kup_val (by simp (maxDischargeDepth := 9) only [le_self, le_puts, le_put0, h1, hle, hle, h2]) ?_
                focus (rw [rE3 he c0 (chk_bad h hx (ab8 (by assumption) (by first | exact pvp (by assumption) m2 (by simp [*]) | exact hpz (by assumption)) (by first | exact .inl (by assumption) | exact .inr (by assumption))) (by decide)) (by decide)]; done)
              rotate_right 1
              simp (maxDischargeDepth := 9) only [↓gB, gV, gT, reduceIte, reduceCtorEq, Nat.reduceEqDiff, Nat.reduceAdd, Nat.reduceSub, Nat.reduceLeDiff, Nat.reduceLT, Int.reduceEq, Nat.reduceMul, h1, c00, f15, f1, f13, f14, c01, c0, f59, f1, f58, c1, hr, hr, f57, h2, e1, n2, c2, c3, c4]
              refine Kup_val (by simp (maxDischargeDepth := 9) only [le_self, le_puts, le_put0, h1, hle, hle, h2]) ?_
              focus (rw [rE3 he c0 (chk_bad h hx (ab8 (by assumption) (by first | exact pvp (by assumption) m2 (by simp [*]) | exact hpz (by assumption)) (by first | exact .inl (by assumption) | exact .inr (by assumption))) (by decide)) (by decide)]; done)
            rotate_right 1
            simp (maxDischargeDepth := 9) only [↓gB, gV, gT, reduceIte, reduceCtorEq, Nat.reduceEqDiff, Nat.reduceAdd, Nat.reduceSub, Nat.reduceLeDiff, Nat.reduceLT, Int.reduceEq, Nat.reduceMul, h1, c00, f15, f1, f13, f14, c01, c0, f59, f1, f58, c1, hr, hr, f57, h2, e1, n2, c2, c3]
            have q1 : Go.IntKind.i64.wrap (↑i - 1) = ↑i - 1 := wrap_id (by omega)
            simp (maxDischargeDepth := 9) only [↓gB, gV, gT, reduceIte, reduceCtorEq, Nat.reduceEqDiff, Nat.reduceAdd, Nat.reduceSub, Nat.reduceLeDiff, Nat.reduceLT, Int.reduceEq, Nat.reduceMul, h1, c00, f15, f1, f13, f14, c01, c0, f59, f1, f58, c1, hr, hr, f57, h2, e1, n2, c2, c3, q1]
            refine vguard_intro (by omega) ?_
            obtain ⟨x2, s2, m2, ⟨v2, rfl, w2⟩, e2⟩ := hw.at' (i - 1) (by omega) 5 rfl
            obtain ⟨aw2, cw2, rfl⟩ := RSl.val w2
            simp (maxDischargeDepth := 9) only [↓gB, gV, gT, reduceIte, reduceCtorEq, Nat.reduceEqDiff, Nat.reduceAdd, Nat.reduceSub, Nat.reduceLeDiff, Nat.reduceLT, Int.reduceEq, Nat.reduceMul, h1, c00, f15, f1, f13, f14, c01, c0, f59, f1, f58, c1, hr, hr, f57, h2, e1, n2, c2, c3, q1, e2]
            rcases bool_tf (Go.GL.sLt x2.Key x.Key) with c4 | c4
            rotate_left 1
            focus
              simp (maxDischargeDepth := 9) only [↓gB, gV, gT, reduceIte, reduceCtorEq, Nat.reduceEqDiff, Nat.reduceAdd, Nat.reduceSub, Nat.reduceLeDiff, Nat.reduceLT, Int.reduceEq, Nat.reduceMul, h1, c00, f15, f1, f13, f14, c01, c0, f59, f1, f58, c1, hr, hr, f57, h2, e1, n2, c2, c3, q1, e2, c4]
              refine Kup_val (by simp (maxDischargeDepth := 9) only [le_self, le_puts, le_put0, h1, hle, hle, h2]) ?_
              focus (rw [rE3 he c0 (chk_bad h hx (ab7 (by assumption) (pvp (by assumption) m2 (by simp [*]))) (by decide)) (by decide)]; done)
            rotate_right 1
            simp (maxDischargeDepth := 9) only [↓gB, gV, gT, reduceIte, reduceCtorEq, Nat.reduceEqDiff, Nat.reduceAdd, Nat.reduceSub, Nat.reduceLeDiff, Nat.reduceLT, Int.reduceEq, Nat.reduceMul, h1, c00, f15, f1, f13, f14, c01, c0, f59, f1, f58, c1, hr, hr, f57, h2, e1, n2, c2, c3, q1, e2, c4]
            refine Ycp (p98 (by exact RSl.put _ (by assumption) (by assumption)) (by omega)) ?_
            simp (maxDischargeDepth := 9) only [↓gB, gV, gT, reduceIte, reduceCtorEq, Nat.reduceEqDiff, Nat.reduceAdd, Nat.reduceSub, Nat.reduceLeDiff, Nat.reduceLT, Int.reduceEq, Nat.reduceMul, h1, c00, f15, f1, f13, f14, c01, c0, f59, f1, f58, c1, hr, hr, f57, h2, e1, n2, c2, c3, q1, e2, c4]
            by_cases c5 : (Go.Proofs.YtnlbapfbdabjaaaDoor.keyAt Go.Proofs.YtnlbapfbdabjaaaDoor.SNode.Key ns x.From : Int) < 0
            rotate_left 1
            focus
              simp (maxDischargeDepth := 9) only [↓gB, gV, gT, reduceIte, reduceCtorEq, Nat.reduceEqDiff, Nat.reduceAdd, Nat.reduceSub, Nat.reduceLeDiff, Nat.reduceLT, Int.reduceEq, Nat.reduceMul, h1, c00, f15, f1, f13, f14, c01, c0, f59, f1, f58, c1, hr, hr, f57, h2, e1, n2, c2, c3, q1, e2, c4, c5]
              refine Ycp (p98 (by exact RSl.put _ (by assumption) (by assumption)) (by omega)) ?_
              simp (maxDischargeDepth := 9) only [↓gB, gV, gT, reduceIte, reduceCtorEq, Nat.reduceEqDiff, Nat.reduceAdd, Nat.reduceSub, Nat.reduceLeDiff, Nat.reduceLT, Int.reduceEq, Nat.reduceMul, h1, c00, f15, f1, f13, f14, c01, c0, f59, f1, f58, c1, hr, hr, f57, h2, e1, n2, c2, c3, q1, e2, c4, c5]
              refine Xc_split _ _ _ _ _ (fun c6 => ?_) (fun c6 => ?_)
              rotate_left 1
              focus
                simp (maxDischargeDepth := 9) only [↓gB, gV, gT, reduceIte, reduceCtorEq, Nat.reduceEqDiff, Nat.reduceAdd, Nat.reduceSub, Nat.reduceLeDiff, Nat.reduceLT, Int.reduceEq, Nat.reduceMul, h1, c00, f15, f1, f13, f14, c01, c0, f59, f1, f58, c1, hr, hr, f57, h2, e1, n2, c2, c3, q1, e2, c4, c5, c6]
                refine Xc_split _ _ _ _ _ (fun c7 => ?_) (fun c7 => ?_)
                rotate_left 1
                focus
                  simp (maxDischargeDepth := 9) only [↓gB, gV, gT, reduceIte, reduceCtorEq, Nat.reduceEqDiff, Nat.reduceAdd, Nat.reduceSub, Nat.reduceLeDiff, Nat.reduceLT, Int.reduceEq, Nat.reduceMul, h1, c00, f15, f1, f13, f14, c01, c0, f59, f1, f58, c1, hr, hr, f57, h2, e1, n2, c2, c3, q1, e2, c4, c5, c6, c7]
                  refine Ycp (p68) ?_
                  simp (maxDischargeDepth := 9) only [↓gB, gV, gT, reduceIte, reduceCtorEq, Nat.reduceEqDiff, Nat.reduceAdd, Nat.reduceSub, Nat.reduceLeDiff, Nat.reduceLT, Int.reduceEq, Nat.reduceMul, h1, c00, f15, f1, f13, f14, c01, c0, f59, f1, f58, c1, hr, hr, f57, h2, e1, n2, c2, c3, q1, e2, c4, c5, c6, c7]
                  rcases bool_tf (Go.Proofs.YtnlbapfbdabjaaaDoor.within x.Long 1 1000000) with c8 | c8
                  rotate_left 1
                  focus
                    simp (maxDischargeDepth := 9) only [↓gB, gV, gT, reduceIte, reduceCtorEq, Nat.reduceEqDiff, Nat.reduceAdd, Nat.reduceSub, Nat.reduceLeDiff, Nat.reduceLT, Int.reduceEq, Nat.reduceMul, h1, c00, f15, f1, f13, f14, c01, c0, f59, f1, f58, c1, hr, hr, f57, h2, e1, n2, c2, c3, q1, e2, c4, c5, c6, c7, c8]
                    refine Kup_val (by simp (maxDischargeDepth := 9) only [le_self, le_puts, le_put0, h1, hle, hle, h2]) ?_
                    focus (rw [rE3 he c0 (chk_bad h hx (ab1 (by assumption) (by first | exact pvp (by assumption) m2 (by simp [*]) | exact hpz (by assumption)) (by assumption) (by assumption) (by assumption) (by assumption)) (by decide)) (by decide)]; done)
                  rotate_right 1
                  simp (maxDischargeDepth := 9) only [↓gB, gV, gT, reduceIte, reduceCtorEq, Nat.reduceEqDiff, Nat.reduceAdd, Nat.reduceSub, Nat.reduceLeDiff, Nat.reduceLT, Int.reduceEq, Nat.reduceMul, h1, c00, f15, f1, f13, f14, c01, c0, f59, f1, f58, c1, hr, hr, f57, h2, e1, n2, c2, c3, q1, e2, c4, c5, c6, c7, c8]
                  refine Ycp (p99 (by exact RSl.put _ (by assumption) (by assumption)) (by omega)) ?_
                  simp (maxDischargeDepth := 9) only [↓gB, gV, gT, reduceIte, reduceCtorEq, Nat.reduceEqDiff, Nat.reduceAdd, Nat.reduceSub, Nat.reduceLeDiff, Nat.reduceLT, Int.reduceEq, Nat.reduceMul, h1, c00, f15, f1, f13, f14, c01, c0, f59, f1, f58, c1, hr, hr, f57, h2, e1, n2, c2, c3, q1, e2, c4, c5, c6, c7, c8]
                  refine Xc_split _ _ _ _ _ (fun c9 => ?_) (fun c9 => ?_)
                  rotate_left 1
                  focus
                    simp (maxDischargeDepth := 9) only [↓gB, gV, gT, reduceIte, reduceCtorEq, Nat.reduceEqDiff, Nat.reduceAdd, Nat.reduceSub, Nat.reduceLeDiff, Nat.reduceLT, Int.reduceEq, Nat.reduceMul, h1, c00, f15, f1, f13, f14, c01, c0, f59, f1, f58, c1, hr, hr, f57, h2, e1, n2, c2, c3, q1, e2, c4, c5, c6, c7, c8, c9]
                    have q2 : Go.IntKind.i64.wrap (↑i + 1) = ↑i + 1 := wrap_id (by omega)
                    simp (maxDischargeDepth := 9) only [↓gB, gV, gT, reduceIte, reduceCtorEq, Nat.reduceEqDiff, Nat.reduceAdd, Nat.reduceSub, Nat.reduceLeDiff, Nat.reduceLT, Int.reduceEq, Nat.reduceMul, h1, c00, f15, f1, f13, f14, c01, c0, f59, f1, f58, c1, hr, hr, f57, h2, e1, n2, c2, c3, q1, e2, c4, c5, c6, c7, c8, c9, q2]
                    rw [N_lp]
                    refine ⟨_, ?_, _, sub_refl _, i + 1, rfl, ?_, ?_, ?_, ?_, ?_, ?_, ?_, by simp (maxDischargeDepth := 9) only [↓gB, gV, gT, reduceIte, reduceCtorEq, Nat.reduceEqDiff, Nat.reduceAdd, Nat.reduceSub, Nat.reduceLeDiff, Nat.reduceLT, Int.reduceEq, Nat.reduceMul, h1, c00, f15, f1, f13, f14, c01, c0, f59, f1, f58, c1, hr, hr, f57, h2, e1, n2, c2, c3, q1, e2, c4, c5, c6, c7, c8, c9, q2, nat_succ, and_self]⟩
                    · omega
                    · omega
                    · (exact chk_next h hx ((abk (by assumption) (by first | exact pvp (by assumption) m2 (by simp [*]) | exact hpz (by assumption)) (by assumption) (by assumption) (by assumption) (by assumption)).trans (by omega)); done)
                    · exact (le_put (by assumption) _) _ _ (by assumption)
                    · exact RSl.put _ (by assumption) (by assumption)
                    · exact RSl.put _ (by assumption) (by assumption)
                    · exact RSl.put _ (by assumption) (by assumption)
                    · (simp (maxDischargeDepth := 9) only [le_self, le_puts, le_put0, sub_self, sub_puts, sub_put0, h1, hle, hle, h2]; done)
                  rotate_right 1
                  simp (maxDischargeDepth := 9) only [↓gB, gV, gT, reduceIte, reduceCtorEq, Nat.reduceEqDiff, Nat.reduceAdd, Nat.reduceSub, Nat.reduceLeDiff, Nat.reduceLT, Int.reduceEq, Nat.reduceMul, h1, c00, f15, f1, f13, f14, c01, c0, f59, f1, f58, c1, hr, hr, f57, h2, e1, n2, c2, c3, q1, e2, c4, c5, c6, c7, c8, c9]
                  refine Kup_val (by simp (maxDischargeDepth := 9) only [le_self, le_puts, le_put0, h1, hle, hle, h2]) ?_
                  focus (rw [rE3 he c0 (chk_bad h hx (abk (by assumption) (by first | exact pvp (by assumption) m2 (by simp [*]) | exact hpz (by assumption)) (by assumption) (by assumption) (by assumption) (by assumption)) (by assumption)) (by assumption)]; done)
                rotate_right 1
                simp (maxDischargeDepth := 9) only [↓gB, gV, gT, reduceIte, reduceCtorEq, Nat.reduceEqDiff, Nat.reduceAdd, Nat.reduceSub, Nat.reduceLeDiff, Nat.reduceLT, Int.reduceEq, Nat.reduceMul, h1, c00, f15, f1, f13, f14, c01, c0, f59, f1, f58, c1, hr, hr, f57, h2, e1, n2, c2, c3, q1, e2, c4, c5, c6, c7]
                refine Kup_val (by simp (maxDischargeDepth := 9) only [le_self, le_puts, le_put0, h1, hle, hle, h2]) ?_
                focus (rw [rE3 he c0 (chk_bad h hx (ab6 (by assumption) (by first | exact pvp (by assumption) m2 (by simp [*]) | exact hpz (by assumption)) (by assumption) (by assumption) (by assumption)) (by decide)) (by decide)]; done)
              rotate_right 1
              simp (maxDischargeDepth := 9) only [↓gB, gV, gT, reduceIte, reduceCtorEq, Nat.reduceEqDiff, Nat.reduceAdd, Nat.reduceSub, Nat.reduceLeDiff, Nat.reduceLT, Int.reduceEq, Nat.reduceMul, h1, c00, f15, f1, f13, f14, c01, c0, f59, f1, f58, c1, hr, hr, f57, h2, e1, n2, c2, c3, q1, e2, c4, c5, c6]
              refine Kup_val (by simp (maxDischargeDepth := 9) only [le_self, le_puts, le_put0, h1, hle, hle, h2]) ?_
              focus (rw [rE3 he c0 (chk_bad h hx (ab8 (by assumption) (by first | exact pvp (by assumption) m2 (by simp [*]) | exact hpz (by assumption)) (by first | exact .inl (by assumption) | exact .inr (by assumption))) (by decide)) (by decide)]; done)
            rotate_right 1
            simp (maxDischargeDepth := 9) only [↓gB, gV, gT, reduceIte, reduceCtorEq, Nat.reduceEqDiff, Nat.reduceAdd, Nat.reduceSub, Nat.reduceLeDiff, Nat.reduceLT, Int.reduceEq, Nat.reduceMul, h1, c00, f15, f1, f13, f14, c01, c0, f59, f1, f58, c1, hr, hr, f57, h2, e1, n2, c2, c3, q1, e2, c4, c5]
            refine Kup_val (by simp (maxDischargeDepth := 9) only [le_self, le_puts, le_put0, h1, hle, hle, h2]) ?_
            focus (rw [rE3 he c0 (chk_bad h hx (ab8 (by assumption) (by first | exact pvp (by assumption) m2 (by simp [*]) | exact hpz (by assumption)) (by first | exact .inl (by assumption) | exact .inr (by assumption))) (by decide)) (by decide)]; done)
        · have hc := chk_end h c1
          simp (maxDischargeDepth := 9) only [↓gB, gV, gT, reduceIte, reduceCtorEq, Nat.reduceEqDiff, Nat.reduceAdd, Nat.reduceSub, Nat.reduceLeDiff, Nat.reduceLT, Int.reduceEq, Nat.reduceMul, h1, c00, hr, f15, f1, f13, f14, c01, c0, hr, f59, f1, f57, f58, c1]
          refine Ycp (p100 (by assumption) (by assumption) (by assumption) (by assumption)) ?_
          simp (maxDischargeDepth := 9) only [↓gB, gV, gT, reduceIte, reduceCtorEq, Nat.reduceEqDiff, Nat.reduceAdd, Nat.reduceSub, Nat.reduceLeDiff, Nat.reduceLT, Int.reduceEq, Nat.reduceMul, h1, c00, hr, f15, f1, f13, f14, c01, c0, hr, f59, f1, f57, f58, c1]
          refine Kup_val (by simp (maxDischargeDepth := 9) only [le_self, le_puts, le_put0, h1, hle, hle]) ?_
          focus (rw [rE0 he c0 hc]; done)
end Go.Proofs.YtnlbapfbdabjaaaDoor
namespace Go.Proofs.YtnlbapfbdabjaaaDoor
open Go Go.GL
attribute [local irreducible] Ycall GCalls
set_option maxRecDepth 10000
set_option maxHeartbeats 0
structure SZone where
  Key : ByteArray
  Nodes : List ByteArray
deriving DecidableEq
def rZone : Rp SZone where
  sz := 2
  R G x cs := ∃ v1, cs = [.string x.Key, v1] ∧ RSl Rp.str G v1 x.Nodes
  len := by rintro G x cs ⟨v1, rfl, h0⟩; rfl
  ile := by rintro G G' x cs hl ⟨v1, rfl, h0⟩; exact ⟨v1, rfl, h0.ile hl⟩
  one := by rintro G x cs ⟨v1, rfl, h0⟩; obtain ⟨a0, c0, rfl⟩ := h0.val; rfl
theorem mt120 : MapTy Tryd.prog 120 Value.string Value.bool false := MapTy.str Tryd.underlying120 Tryd.underlying9 zv4
abbrev Seen := List (ByteArray × Bool)
def nodesF : Option ByteArray → List ByteArray → Seen → Int × Seen
  | _, [], m => (0, m)
  | p, n :: l, m => if isKey n = false then (5, m) else if p.any (fun q => !sLt q n) then (7, m) else if mget false n m then (6, m) else nodesF (some n) l (mset n true m)
def zonesF : Option SZone → List SZone → Seen → Int
  | _, [], _ => 0
  | p, z :: l, m => if isKey z.Key = false then 5 else if p.any (fun q => !sLt q.Key z.Key) then 7 else if 500 < z.Nodes.length then 2 else if (nodesF none z.Nodes m).1 ≠ 0 then (nodesF none z.Nodes m).1 else zonesF (some z) l (nodesF none z.Nodes m).2
def checkZones (l : List SZone) : Int := if 100 < l.length then 2 else zonesF none l []
theorem pv_p {α : Type} {l : List α} {k : Nat} {z : α} {f : α → Bool} {b : Bool} (h : (0:Int) < k) (hz : l[k-1]? = some z) (hf : f z = b) : (prevOf l k).any f = b := by rw [prevOf_p h, hz]; exact hf
theorem pv_z {α : Type} {l : List α} {k : Nat} {f : α → Bool} (h : ¬ (0:Int) < k) : (prevOf l k).any f = false := by rw [prevOf_z h]; rfl
theorem nf5 {ns : List ByteArray} {k : Nat} {y : ByteArray} {m mm : Seen} (hh : nodesF none ns m = nodesF (prevOf ns k) (ns.drop k) mm) (m2 : ns[k]? = some y) (c : isKey y = false) : nodesF none ns m = (5, mm) := by rw [hh, drop_at m2]; simp [nodesF, c]
theorem nf7 {ns : List ByteArray} {k : Nat} {y : ByteArray} {m mm : Seen} (hh : nodesF none ns m = nodesF (prevOf ns k) (ns.drop k) mm) (m2 : ns[k]? = some y) (c : isKey y = true) (c2 : (prevOf ns k).any (fun q => !sLt q y) = true) : nodesF none ns m = (7, mm) := by rw [hh, drop_at m2]; simp only [nodesF, c, c2, if_true]; rfl
theorem nf6 {ns : List ByteArray} {k : Nat} {y : ByteArray} {m mm : Seen} (hh : nodesF none ns m = nodesF (prevOf ns k) (ns.drop k) mm) (m2 : ns[k]? = some y) (c : isKey y = true) (c2 : (prevOf ns k).any (fun q => !sLt q y) = false) (c3 : mget false y mm = true) : nodesF none ns m = (6, mm) := by rw [hh, drop_at m2]; simp only [nodesF, c, c2, c3, if_true]; rfl
theorem nf0 {ns : List ByteArray} {k : Nat} {y : ByteArray} {m mm : Seen} (hh : nodesF none ns m = nodesF (prevOf ns k) (ns.drop k) mm) (m2 : ns[k]? = some y) (c : isKey y = true) (c2 : (prevOf ns k).any (fun q => !sLt q y) = false) (c3 : mget false y mm = false) : nodesF none ns m = nodesF (prevOf ns (k + 1)) (ns.drop (k + 1)) (mset y true mm) := by
  rw [hh, drop_at m2, prevOf_s, m2]; simp only [nodesF, c, c2, c3]; rfl
theorem nf_end {ns : List ByteArray} {k : Nat} {m mm : Seen} (hh : nodesF none ns m = nodesF (prevOf ns k) (ns.drop k) mm) (hk : ¬ (k : Int) < ns.length) : nodesF none ns m = (0, mm) := by rw [hh, List.drop_eq_nil_of_le (by omega)]; rfl
theorem zf_bad {l : List SZone} {i : Nat} {x : SZone} {m mm : Seen} {e : Int} (h : zonesF none l [] = zonesF (prevOf l i) (l.drop i) m) (m1 : l[i]? = some x) (c2 : isKey x.Key = true) (c4 : (prevOf l i).any (fun q => !sLt q.Key x.Key) = false) (c5 : x.Nodes.length ≤ 500) (h0 : ¬ 100 < l.length) (hn : nodesF none x.Nodes m = (e, mm)) (he : e ≠ 0) : checkZones l = e := by
  unfold checkZones
  rw [if_neg h0, h, drop_at m1]
  simp only [zonesF, c2, c4, hn, if_neg (show ¬ 500 < x.Nodes.length by omega), if_pos he]; rfl
theorem zf_next {l : List SZone} {i : Nat} {x : SZone} {m mm : Seen} (h : zonesF none l [] = zonesF (prevOf l i) (l.drop i) m) (m1 : l[i]? = some x) (c2 : isKey x.Key = true) (c4 : (prevOf l i).any (fun q => !sLt q.Key x.Key) = false) (c5 : x.Nodes.length ≤ 500) (hn : nodesF none x.Nodes m = (0, mm)) : zonesF none l [] = zonesF (prevOf l (i + 1)) (l.drop (i + 1)) mm := by
  rw [h, drop_at m1, prevOf_s, m1]
  simp only [zonesF, c2, c4, hn, if_neg (show ¬ 500 < x.Nodes.length by omega)]; rfl
theorem p26 {G0 : GH} {v : Value} {l : List SZone} (hv : RSl rZone G0 v l) (hn : (l.length : Int) ≤ 9223372036854775807) : Pure Tryd.prog G0 26 [v] (V (checkZones l)) := by
  intro G hG; replace hv := hv.le hG
  clear hG G0
  refine enter Tryd.func26 76 #[.tmp 2] rfl Tryd.ntmps26 rfl (by decide +kernel) rfl ?_
  obtain ⟨a, c, rfl⟩ := hv.val
  simp (maxDischargeDepth := 9) only [↓gB, gV, gT, reduceIte, reduceCtorEq, Nat.reduceEqDiff, Nat.reduceAdd, Nat.reduceSub, Nat.reduceLeDiff, Nat.reduceLT, Int.reduceEq, Nat.reduceMul]
  refine Xc_split _ _ _ _ _ (fun h0 => ?_) (fun h0 => ?_)
  · simp (maxDischargeDepth := 9) only [↓gB, gV, gT, reduceIte, reduceCtorEq, Nat.reduceEqDiff, Nat.reduceAdd, Nat.reduceSub, Nat.reduceLeDiff, Nat.reduceLT, Int.reduceEq, Nat.reduceMul]
    refine Kup_val (le_refl _) ?_
    focus ((have : 100 < l.length := by omega); simp [checkZones, this]; done)
  · have h0' : ¬ 100 < l.length := by omega
    simp (maxDischargeDepth := 9) only [↓gB, gV, gT, reduceIte, reduceCtorEq, Nat.reduceEqDiff, Nat.reduceAdd, Nat.reduceSub, Nat.reduceLeDiff, Nat.reduceLT, Int.reduceEq, Nat.reduceMul]
    refine Yn1 fun r1 h1 => ?_
    simp (maxDischargeDepth := 9) only [↓gB, gV, gT, reduceIte, reduceCtorEq, Nat.reduceEqDiff, Nat.reduceAdd, Nat.reduceSub, Nat.reduceLeDiff, Nat.reduceLT, Int.reduceEq, Nat.reduceMul, h1]
    focus
      refine Xloop_intro _ _ _ _ _ (fun k f G' => ∃ (i : Nat) (m : Seen), k = l.length - i ∧ (i ≤ l.length) ∧ (zonesF none l [] = zonesF (prevOf l i) (l.drop i) m) ∧ (G' r1 = some (mapO Value.string Value.bool m, true)) ∧ (RSl rZone G' (.slice a l.length c) l) ∧ (G.le G') ∧ f 14 = V i ∧ f 0 = Go.Value.slice a l.length c ∧ f 3 = Go.Value.map (Option.some r1) ∧ f 12 = Go.Value.slice a l.length c ∧ f 13 = Go.Value.int Go.IntKind.i64 ↑l.length) _ ⟨0, [], rfl, ?_, ?_, ?_, ?_, ?_, by simp (maxDischargeDepth := 9) only [↓gB, gV, gT, reduceIte, reduceCtorEq, Nat.reduceEqDiff, Nat.reduceAdd, Nat.reduceSub, Nat.reduceLeDiff, Nat.reduceLT, Int.reduceEq, Nat.reduceMul, h1, and_self]⟩ ?_
      · omega
      · rfl
      · exact put_self _ _ _
      · exact RSl.put _ (by assumption) (by assumption)
      · (simp (maxDischargeDepth := 9) only [le_self, le_puts, le_put0, sub_self, sub_puts, sub_put0, h1]; done)
      rintro k f G' ⟨i, m, rfl, hi, h, hm, hv, hle, f14, f0, f3, f12, f13⟩
    simp (maxDischargeDepth := 9) only [↓gB, gV, gT, reduceIte, reduceCtorEq, Nat.reduceEqDiff, Nat.reduceAdd, Nat.reduceSub, Nat.reduceLeDiff, Nat.reduceLT, Int.reduceEq, Nat.reduceMul, h1, hm, f14, f0, f3, f12, f13]
    refine Xc_split _ _ _ _ _ (fun c1 => ?_) (fun c1 => ?_)
    · rw [X_skip, N_code, X_seq, X_block, X_assoc, X_seq]
      focus
        refine Xcut _ _ _ _ _ (J := fun f G' => ∃ (x1 : SZone) (aw : Option Addr) (cw : Nat) (r2 : Nat), (l[i]? = some x1) ∧ (isKey x1.Key = true) ∧ ((prevOf l i).any (fun q => !sLt q.Key x1.Key) = false) ∧ (x1.Nodes.length ≤ 500) ∧ (r1 ≠ r2) ∧ (G' r1 = some (mapO Value.string Value.bool m, true)) ∧ (G' r2 = some (.cells [.string x1.Key, .slice aw x1.Nodes.length cw].toArray 122 (0, 0), true)) ∧ (RSl Rp.str G' (.slice aw x1.Nodes.length cw) x1.Nodes) ∧ (RSl rZone G' (.slice a l.length c) l) ∧ (G.le G') ∧ f 5 = .pointer (some ⟨r2, 0, none⟩) ∧ f 0 = Go.Value.slice a l.length c ∧ f 3 = Go.Value.map (Option.some r1) ∧ f 12 = Go.Value.slice a l.length c ∧ f 13 = Go.Value.int Go.IntKind.i64 ↑l.length ∧ f 14 = Go.GL.V ↑i) ?_ ?_
        rotate_left 1
        rintro f G' ⟨x1, aw, cw, r2, m1, c2, c4, c5, n2, hm, hz, w1, hv, hle, f5, f0, f3, f12, f13, f14⟩
        rotate_right 1
      · focus
          simp (maxDischargeDepth := 9) only [↓gB, gV, gT, reduceIte, reduceCtorEq, Nat.reduceEqDiff, Nat.reduceAdd, Nat.reduceSub, Nat.reduceLeDiff, Nat.reduceLT, Int.reduceEq, Nat.reduceMul, h1, hm, f14, f0, f3, f12, f13, c1]
          obtain ⟨x1, a1, s1, m1, rfl, ⟨v1, rfl, w1⟩, e1⟩ := hv.at (i) (by omega) 2 rfl
          obtain ⟨aw1, cw1, rfl⟩ := RSl.val w1
          simp (maxDischargeDepth := 9) only [↓gB, gV, gT, reduceIte, reduceCtorEq, Nat.reduceEqDiff, Nat.reduceAdd, Nat.reduceSub, Nat.reduceLeDiff, Nat.reduceLT, Int.reduceEq, Nat.reduceMul, h1, hm, f14, f3, f13, c1, f0, f12, e1]
          refine vguard_intro (by simp) ?_
          refine Yn2 fun r2 h2 => ?_
          simp (maxDischargeDepth := 9) only [↓gB, gV, gT, reduceIte, reduceCtorEq, Nat.reduceEqDiff, Nat.reduceAdd, Nat.reduceSub, Nat.reduceLeDiff, Nat.reduceLT, Int.reduceEq, Nat.reduceMul, h1, hm, f14, f3, f13, c1, f0, f12, e1, h2]
          refine Ycp (p78) ?_
          simp (maxDischargeDepth := 9) only [↓gB, gV, gT, reduceIte, reduceCtorEq, Nat.reduceEqDiff, Nat.reduceAdd, Nat.reduceSub, Nat.reduceLeDiff, Nat.reduceLT, Int.reduceEq, Nat.reduceMul, h1, hm, f14, f3, f13, c1, f0, f12, e1, h2]
          rcases bool_tf (Go.Proofs.YtnlbapfbdabjaaaDoor.isKey x1.Key) with c2 | c2
          rotate_left 1
          focus
            simp (maxDischargeDepth := 9) only [↓gB, gV, gT, reduceIte, reduceCtorEq, Nat.reduceEqDiff, Nat.reduceAdd, Nat.reduceSub, Nat.reduceLeDiff, Nat.reduceLT, Int.reduceEq, Nat.reduceMul, h1, hm, f14, f3, f13, c1, f0, f12, e1, h2, c2]
            refine Kup_val (by simp (maxDischargeDepth := 9) only [le_self, le_puts, le_put0, h1, hle, h2]) ?_
            focus ((have e : zonesF none l [] = 5 := by (rw [h, drop_at m1]; simp [zonesF, *])); simp [checkZones, h0', e]; done)
          rotate_right 1
          simp (maxDischargeDepth := 9) only [↓gB, gV, gT, reduceIte, reduceCtorEq, Nat.reduceEqDiff, Nat.reduceAdd, Nat.reduceSub, Nat.reduceLeDiff, Nat.reduceLT, Int.reduceEq, Nat.reduceMul, h1, hm, f14, f3, f13, c1, f0, f12, e1, h2, c2]
          refine Xdraw_intro [0, 1, 2, 3, 4, 5, 6, 7, 8, 9, 10, 11, 12, 13] mixed (by kernel_rfl) (by decide +kernel) ?_
          simp (maxDischargeDepth := 9) only [↓gB, gV, gT, reduceIte, reduceCtorEq, Nat.reduceEqDiff, Nat.reduceAdd, Nat.reduceSub, Nat.reduceLeDiff, Nat.reduceLT, Int.reduceEq, Nat.reduceMul, h1, hm, f14, f3, f13, c1, f0, f12, e1, h2, c2]
          by_cases c3 : (0 : Int) < ↑i
          rotate_left 1
          focus
            simp (maxDischargeDepth := 9) only [↓gB, gV, gT, reduceIte, reduceCtorEq, Nat.reduceEqDiff, Nat.reduceAdd, Nat.reduceSub, Nat.reduceLeDiff, Nat.reduceLT, Int.reduceEq, Nat.reduceMul, h1, hm, f14, f3, f13, c1, f0, f12, e1, h2, c2, c3]
            refine Xc_split _ _ _ _ _ (fun c4 => ?_) (fun c4 => ?_)
            rotate_left 1
            focus
              simp (maxDischargeDepth := 9) only [↓gB, gV, gT, reduceIte, reduceCtorEq, Nat.reduceEqDiff, Nat.reduceAdd, Nat.reduceSub, Nat.reduceLeDiff, Nat.reduceLT, Int.reduceEq, Nat.reduceMul, h1, hm, f14, f3, f13, c1, f0, f12, e1, h2, c2, c3, c4]
              rw [N_cut]
              refine ⟨_, sub_refl _, x1, aw1, cw1, r2, ?_, ?_, ?_, ?_, ?_, ?_, ?_, ?_, ?_, ?_, by simp (maxDischargeDepth := 9) only [↓gB, gV, gT, reduceIte, reduceCtorEq, Nat.reduceEqDiff, Nat.reduceAdd, Nat.reduceSub, Nat.reduceLeDiff, Nat.reduceLT, Int.reduceEq, Nat.reduceMul, h1, hm, f14, f3, f13, c1, f0, f12, e1, h2, c2, c3, c4, nat_succ, and_self]⟩
              · assumption
              · assumption
              · (rw [prevOf_z (by omega)]; rfl; done)
              · omega
              · exact ne_of_none (by assumption) (by assumption)
              · exact (le_put (by assumption) _) _ _ (by assumption)
              · exact put_self _ _ _
              · exact RSl.put _ (by assumption) (by assumption)
              · exact RSl.put _ (by assumption) (by assumption)
              · (simp (maxDischargeDepth := 9) only [le_self, le_puts, le_put0, sub_self, sub_puts, sub_put0, h1, hle, h2]; done)
            rotate_right 1
            simp (maxDischargeDepth := 9) only [↓gB, gV, gT, reduceIte, reduceCtorEq, Nat.reduceEqDiff, Nat.reduceAdd, Nat.reduceSub, Nat.reduceLeDiff, Nat.reduceLT, Int.reduceEq, Nat.reduceMul, h1, hm, f14, f3, f13, c1, f0, f12, e1, h2, c2, c3, c4]
            refine Kup_val (by simp (maxDischargeDepth := 9) only [le_self, le_puts, le_put0, h1, hle, h2]) ?_
            focus ((have e : zonesF none l [] = 2 := by (rw [h, drop_at m1, prevOf_z (by omega)]; simp [zonesF, *]; omega)); simp [checkZones, h0', e]; done)
          rotate_right 1
          simp (maxDischargeDepth := 9) only [↓gB, gV, gT, reduceIte, reduceCtorEq, Nat.reduceEqDiff, Nat.reduceAdd, Nat.reduceSub, Nat.reduceLeDiff, Nat.reduceLT, Int.reduceEq, Nat.reduceMul, h1, hm, f14, f3, f13, c1, f0, f12, e1, h2, c2, c3]
          have q1 : Go.IntKind.i64.wrap (↑i - 1) = ↑i - 1 := wrap_id (by omega)
          simp (maxDischargeDepth := 9) only [↓gB, gV, gT, reduceIte, reduceCtorEq, Nat.reduceEqDiff, Nat.reduceAdd, Nat.reduceSub, Nat.reduceLeDiff, Nat.reduceLT, Int.reduceEq, Nat.reduceMul, h1, hm, f14, f3, f13, c1, f0, f12, e1, h2, c2, c3, q1]
          refine vguard_intro (by omega) ?_
          obtain ⟨x2, s2, m2, ⟨v2, rfl, w2⟩, e2⟩ := hv.at' (i - 1) (by omega) 2 rfl
          obtain ⟨aw2, cw2, rfl⟩ := RSl.val w2
          simp (maxDischargeDepth := 9) only [↓gB, gV, gT, reduceIte, reduceCtorEq, Nat.reduceEqDiff, Nat.reduceAdd, Nat.reduceSub, Nat.reduceLeDiff, Nat.reduceLT, Int.reduceEq, Nat.reduceMul, h1, hm, f14, f3, f13, c1, f0, f12, e1, h2, c2, c3, q1, e2]
          rcases bool_tf (Go.GL.sLt x2.Key x1.Key) with c4 | c4
          rotate_left 1
          focus
            simp (maxDischargeDepth := 9) only [↓gB, gV, gT, reduceIte, reduceCtorEq, Nat.reduceEqDiff, Nat.reduceAdd, Nat.reduceSub, Nat.reduceLeDiff, Nat.reduceLT, Int.reduceEq, Nat.reduceMul, h1, hm, f14, f3, f13, c1, f0, f12, e1, h2, c2, c3, q1, e2, c4]
            refine Kup_val (by simp (maxDischargeDepth := 9) only [le_self, le_puts, le_put0, h1, hle, h2]) ?_
            focus ((have e : zonesF none l [] = 7 := by (rw [h, drop_at m1, prevOf_p (by omega), m2]; simp [zonesF, *])); simp [checkZones, h0', e]; done)
          rotate_right 1
          simp (maxDischargeDepth := 9) only [↓gB, gV, gT, reduceIte, reduceCtorEq, Nat.reduceEqDiff, Nat.reduceAdd, Nat.reduceSub, Nat.reduceLeDiff, Nat.reduceLT, Int.reduceEq, Nat.reduceMul, h1, hm, f14, f3, f13, c1, f0, f12, e1, h2, c2, c3, q1, e2, c4]
          refine Xc_split _ _ _ _ _ (fun c5 => ?_) (fun c5 => ?_)
          rotate_left 1
          focus
            simp (maxDischargeDepth := 9) only [↓gB, gV, gT, reduceIte, reduceCtorEq, Nat.reduceEqDiff, Nat.reduceAdd, Nat.reduceSub, Nat.reduceLeDiff, Nat.reduceLT, Int.reduceEq, Nat.reduceMul, h1, hm, f14, f3, f13, c1, f0, f12, e1, h2, c2, c3, q1, e2, c4, c5]
            rw [N_cut]
            refine ⟨_, sub_refl _, x1, aw1, cw1, r2, ?_, ?_, ?_, ?_, ?_, ?_, ?_, ?_, ?_, ?_, by simp (maxDischargeDepth := 9) only [↓gB, gV, gT, reduceIte, reduceCtorEq, Nat.reduceEqDiff, Nat.reduceAdd, Nat.reduceSub, Nat.reduceLeDiff, Nat.reduceLT, Int.reduceEq, Nat.reduceMul, h1, hm, f14, f3, f13, c1, f0, f12, e1, h2, c2, c3, q1, e2, c4, c5, nat_succ, and_self]⟩
            · assumption
            · assumption
            · (rw [prevOf_p (by omega), m2]; simp [c4]; done)
            · omega
            · exact ne_of_none (by assumption) (by assumption)
            · exact (le_put (by assumption) _) _ _ (by assumption)
            · exact put_self _ _ _
            · exact RSl.put _ (by assumption) (by assumption)
            · exact RSl.put _ (by assumption) (by assumption)
            · (simp (maxDischargeDepth := 9) only [le_self, le_puts, le_put0, sub_self, sub_puts, sub_put0, h1, hle, h2]; done)
          rotate_right 1
          simp (maxDischargeDepth := 9) only [↓gB, gV, gT, reduceIte, reduceCtorEq, Nat.reduceEqDiff, Nat.reduceAdd, Nat.reduceSub, Nat.reduceLeDiff, Nat.reduceLT, Int.reduceEq, Nat.reduceMul, h1, hm, f14, f3, f13, c1, f0, f12, e1, h2, c2, c3, q1, e2, c4, c5]
          refine Kup_val (by simp (maxDischargeDepth := 9) only [le_self, le_puts, le_put0, h1, hle, h2]) ?_
          focus ((have e : zonesF none l [] = 2 := by (rw [h, drop_at m1, prevOf_p (by omega), m2]; simp [zonesF, *]; omega)); simp [checkZones, h0', e]; done)
      · simp (maxDischargeDepth := 9) only [↓gB, gV, gT, reduceIte, reduceCtorEq, Nat.reduceEqDiff, Nat.reduceAdd, Nat.reduceSub, Nat.reduceLeDiff, Nat.reduceLT, Int.reduceEq, Nat.reduceMul, h1, hm, f14, f0, f3, f12, f13, c1, c2, c4, c5, n2, hm, hz, f5, f0, f3, f12, f13, f14]
        focus
          refine Xloop_intro _ _ _ _ _ (fun k f G' => ∃ (j : Nat) (mm : Seen), k = x1.Nodes.length - j ∧ (j ≤ x1.Nodes.length) ∧ (nodesF none x1.Nodes m = nodesF (prevOf x1.Nodes j) (x1.Nodes.drop j) mm) ∧ (G' r1 = some (mapO Value.string Value.bool mm, true)) ∧ (G' r2 = some (.cells [.string x1.Key, .slice aw x1.Nodes.length cw].toArray 122 (0, 0), true)) ∧ (RSl Rp.str G' (.slice aw x1.Nodes.length cw) x1.Nodes) ∧ (RSl rZone G' (.slice a l.length c) l) ∧ (G.le G') ∧ f 46 = V j ∧ f 0 = Go.Value.slice a l.length c ∧ f 3 = Go.Value.map (Option.some r1) ∧ f 5 = Go.Value.pointer (Option.some { block := r2, off := 0 }) ∧ f 12 = Go.Value.slice a l.length c ∧ f 13 = Go.Value.int Go.IntKind.i64 ↑l.length ∧ f 14 = Go.GL.V ↑i ∧ f 44 = Go.Value.slice aw x1.Nodes.length cw ∧ f 45 = Go.Value.int Go.IntKind.i64 ↑x1.Nodes.length) _ ⟨0, m, rfl, ?_, ?_, ?_, ?_, ?_, ?_, ?_, by simp (maxDischargeDepth := 9) only [↓gB, gV, gT, reduceIte, reduceCtorEq, Nat.reduceEqDiff, Nat.reduceAdd, Nat.reduceSub, Nat.reduceLeDiff, Nat.reduceLT, Int.reduceEq, Nat.reduceMul, h1, hm, f14, f0, f3, f12, f13, c1, c2, c4, c5, n2, hm, hz, f5, f0, f3, f12, f13, f14, and_self]⟩ ?_
          · omega
          · rfl
          · assumption
          · assumption
          · assumption
          · assumption
          · assumption
          rintro k f G' ⟨j, mm, rfl, hj, hh, hm, hz, w1, hv, hle, f46, f0, f3, f5, f12, f13, f14, f44, f45⟩
        focus
          simp (maxDischargeDepth := 9) only [↓gB, gV, gT, reduceIte, reduceCtorEq, Nat.reduceEqDiff, Nat.reduceAdd, Nat.reduceSub, Nat.reduceLeDiff, Nat.reduceLT, Int.reduceEq, Nat.reduceMul, h1, hm, f14, f0, f3, f12, f13, c1, c2, c4, c5, n2, hm, hz, f5, f0, f3, f12, f13, f14, hm, hz, f46, f0, f3, f5, f12, f13, f14, f44, f45]
          refine Xc_split _ _ _ _ _ (fun c3 => ?_) (fun c3 => ?_)
          rotate_left 1
          focus
            simp (maxDischargeDepth := 9) only [↓gB, gV, gT, reduceIte, reduceCtorEq, Nat.reduceEqDiff, Nat.reduceAdd, Nat.reduceSub, Nat.reduceLeDiff, Nat.reduceLT, Int.reduceEq, Nat.reduceMul, h1, hm, f14, f0, f3, f12, f13, c1, c2, c4, c5, n2, hm, hz, f5, f0, f3, f12, f13, f14, hm, hz, f46, f0, f3, f5, f12, f13, f14, f44, f45, c3]
            have q1 : Go.IntKind.i64.wrap (↑i + 1) = ↑i + 1 := wrap_id (by omega)
            simp (maxDischargeDepth := 9) only [↓gB, gV, gT, reduceIte, reduceCtorEq, Nat.reduceEqDiff, Nat.reduceAdd, Nat.reduceSub, Nat.reduceLeDiff, Nat.reduceLT, Int.reduceEq, Nat.reduceMul, h1, hm, f14, f0, f3, f12, f13, c1, c2, c4, c5, n2, hm, hz, f5, f0, f3, f12, f13, f14, hm, hz, f46, f0, f3, f5, f12, f13, f14, f44, f45, c3, q1]
            rw [N_lp]
            refine ⟨_, ?_, _, sub_refl _, i + 1, mm, rfl, ?_, ?_, ?_, ?_, ?_, by simp (maxDischargeDepth := 9) only [↓gB, gV, gT, reduceIte, reduceCtorEq, Nat.reduceEqDiff, Nat.reduceAdd, Nat.reduceSub, Nat.reduceLeDiff, Nat.reduceLT, Int.reduceEq, Nat.reduceMul, h1, hm, f14, f0, f3, f12, f13, c1, c2, c4, c5, n2, hm, hz, f5, f0, f3, f12, f13, f14, hm, hz, f46, f0, f3, f5, f12, f13, f14, f44, f45, c3, q1, nat_succ, and_self]⟩
            · omega
            · omega
            · (exact zf_next h m1 c2 c4 c5 (nf_end hh (by assumption)); done)
            · assumption
            · assumption
            · assumption
          rotate_right 1
          simp (maxDischargeDepth := 9) only [↓gB, gV, gT, reduceIte, reduceCtorEq, Nat.reduceEqDiff, Nat.reduceAdd, Nat.reduceSub, Nat.reduceLeDiff, Nat.reduceLT, Int.reduceEq, Nat.reduceMul, h1, hm, f14, f0, f3, f12, f13, c1, c2, c4, c5, n2, hm, hz, f5, f0, f3, f12, f13, f14, hm, hz, f46, f0, f3, f5, f12, f13, f14, f44, f45, c3]
          obtain ⟨x2, a2, s2, m2, rfl, rfl, e2⟩ := w1.at1 (j) (by omega) rfl
          simp (maxDischargeDepth := 9) only [↓gB, gV, gT, reduceIte, reduceCtorEq, Nat.reduceEqDiff, Nat.reduceAdd, Nat.reduceSub, Nat.reduceLeDiff, Nat.reduceLT, Int.reduceEq, Nat.reduceMul, h1, hm, f14, f0, f3, f12, f13, c1, c2, c4, c5, n2, hm, f5, f0, f3, f12, f13, f14, hm, f46, f0, f3, f5, f12, f13, f14, f45, c3, hz, hz, f44, e2]
          refine vguard_intro (by simp) ?_
          refine Ycp (p78) ?_
          simp (maxDischargeDepth := 9) only [↓gB, gV, gT, reduceIte, reduceCtorEq, Nat.reduceEqDiff, Nat.reduceAdd, Nat.reduceSub, Nat.reduceLeDiff, Nat.reduceLT, Int.reduceEq, Nat.reduceMul, h1, hm, f14, f0, f3, f12, f13, c1, c2, c4, c5, n2, hm, f5, f0, f3, f12, f13, f14, hm, f46, f0, f3, f5, f12, f13, f14, f45, c3, hz, hz, f44, e2]
          rcases bool_tf (Go.Proofs.YtnlbapfbdabjaaaDoor.isKey x2) with c6 | c6
          rotate_left 1
          focus
            simp (maxDischargeDepth := 9) only [↓gB, gV, gT, reduceIte, reduceCtorEq, Nat.reduceEqDiff, Nat.reduceAdd, Nat.reduceSub, Nat.reduceLeDiff, Nat.reduceLT, Int.reduceEq, Nat.reduceMul, h1, hm, f14, f0, f3, f12, f13, c1, c2, c4, c5, n2, hm, f5, f0, f3, f12, f13, f14, hm, f46, f0, f3, f5, f12, f13, f14, f45, c3, hz, hz, f44, e2, c6]
            refine Kup_val (by simp (maxDischargeDepth := 9) only [le_self, le_puts, le_put0, h1, hle, hle, hle]) ?_
            focus (rw [zf_bad h m1 c2 c4 c5 h0' (nf5 hh m2 (by assumption)) (by decide)]; done)
          rotate_right 1
          simp (maxDischargeDepth := 9) only [↓gB, gV, gT, reduceIte, reduceCtorEq, Nat.reduceEqDiff, Nat.reduceAdd, Nat.reduceSub, Nat.reduceLeDiff, Nat.reduceLT, Int.reduceEq, Nat.reduceMul, h1, hm, f14, f0, f3, f12, f13, c1, c2, c4, c5, n2, hm, f5, f0, f3, f12, f13, f14, hm, f46, f0, f3, f5, f12, f13, f14, f45, c3, hz, hz, f44, e2, c6]
          by_cases c7 : (0 : Int) < ↑j
          rotate_left 1
          focus
            simp (maxDischargeDepth := 9) only [↓gB, gV, gT, reduceIte, reduceCtorEq, Nat.reduceEqDiff, Nat.reduceAdd, Nat.reduceSub, Nat.reduceLeDiff, Nat.reduceLT, Int.reduceEq, Nat.reduceMul, h1, hm, f14, f0, f3, f12, f13, c1, c2, c4, c5, n2, hm, f5, f0, f3, f12, f13, f14, hm, f46, f0, f3, f5, f12, f13, f14, f45, c3, hz, hz, f44, e2, c6, c7]
            have p1 := mt120.look (kv := Go.Value.string x2) (G := G') (by assumption) _ rfl
            simp (maxDischargeDepth := 9) only [↓gB, gV, gT, reduceIte, reduceCtorEq, Nat.reduceEqDiff, Nat.reduceAdd, Nat.reduceSub, Nat.reduceLeDiff, Nat.reduceLT, Int.reduceEq, Nat.reduceMul, h1, hm, f14, f0, f3, f12, f13, c1, c2, c4, c5, n2, hm, f5, f0, f3, f12, f13, f14, hm, f46, f0, f3, f5, f12, f13, f14, f45, c3, hz, hz, f44, e2, c6, c7, p1]
            rcases bool_tf (Go.GL.mget Bool.false x2 mm) with c8 | c8
            rotate_left 1
            focus
              simp (maxDischargeDepth := 9) only [↓gB, gV, gT, reduceIte, reduceCtorEq, Nat.reduceEqDiff, Nat.reduceAdd, Nat.reduceSub, Nat.reduceLeDiff, Nat.reduceLT, Int.reduceEq, Nat.reduceMul, h1, hm, f14, f0, f3, f12, f13, c1, c2, c4, c5, n2, hm, f5, f0, f3, f12, f13, f14, hm, f46, f0, f3, f5, f12, f13, f14, f45, c3, hz, hz, f44, e2, c6, c7, p1, c8]
              refine mt120.upd (by assumption) _ rfl _ rfl ?_
              simp (maxDischargeDepth := 9) only [↓gB, gV, gT, reduceIte, reduceCtorEq, Nat.reduceEqDiff, Nat.reduceAdd, Nat.reduceSub, Nat.reduceLeDiff, Nat.reduceLT, Int.reduceEq, Nat.reduceMul, h1, hm, f14, f0, f3, f12, f13, c1, c2, c4, c5, n2, hm, f5, f0, f3, f12, f13, f14, hm, f46, f0, f3, f5, f12, f13, f14, f45, c3, hz, hz, f44, e2, c6, c7, p1, c8]
              have q1 : Go.IntKind.i64.wrap (↑j + 1) = ↑j + 1 := wrap_id (by omega)
              simp (maxDischargeDepth := 9) only [↓gB, gV, gT, reduceIte, reduceCtorEq, Nat.reduceEqDiff, Nat.reduceAdd, Nat.reduceSub, Nat.reduceLeDiff, Nat.reduceLT, Int.reduceEq, Nat.reduceMul, h1, hm, f14, f0, f3, f12, f13, c1, c2, c4, c5, n2, hm, f5, f0, f3, f12, f13, f14, hm, f46, f0, f3, f5, f12, f13, f14, f45, c3, hz, hz, f44, e2, c6, c7, p1, c8, q1]
              rw [N_lp]
              refine ⟨_, ?_, _, sub_refl _, j + 1, mset x2 true mm, rfl, ?_, ?_, ?_, ?_, ?_, ?_, ?_, by simp (maxDischargeDepth := 9) only [↓gB, gV, gT, reduceIte, reduceCtorEq, Nat.reduceEqDiff, Nat.reduceAdd, Nat.reduceSub, Nat.reduceLeDiff, Nat.reduceLT, Int.reduceEq, Nat.reduceMul, h1, hm, f14, f0, f3, f12, f13, c1, c2, c4, c5, n2, hm, f5, f0, f3, f12, f13, f14, hm, f46, f0, f3, f5, f12, f13, f14, f45, c3, hz, hz, f44, e2, c6, c7, p1, c8, q1, nat_succ, and_self]⟩
              · omega
              · omega
              · (exact nf0 hh m2 (by assumption) (pv_z (by assumption)) (by assumption); done)
              · exact put_self _ _ _
              · exact (put_not _ _ (Ne.symm (by assumption))).trans (by assumption)
              · exact RSl.ile (by assumption) (ile_put (by assumption) _)
              · exact RSl.ile (by assumption) (ile_put (by assumption) _)
              · exact le_put_new (by assumption) (by assumption) _
            rotate_right 1
            simp (maxDischargeDepth := 9) only [↓gB, gV, gT, reduceIte, reduceCtorEq, Nat.reduceEqDiff, Nat.reduceAdd, Nat.reduceSub, Nat.reduceLeDiff, Nat.reduceLT, Int.reduceEq, Nat.reduceMul, h1, hm, f14, f0, f3, f12, f13, c1, c2, c4, c5, n2, hm, f5, f0, f3, f12, f13, f14, hm, f46, f0, f3, f5, f12, f13, f14, f45, c3, hz, hz, f44, e2, c6, c7, p1, c8]
            refine Kup_val (by simp (maxDischargeDepth := 9) only [le_self, le_puts, le_put0, h1, hle, hle, hle]) ?_
            focus (rw [zf_bad h m1 c2 c4 c5 h0' (nf6 hh m2 (by assumption) (pv_z (by assumption)) (by assumption)) (by decide)]; done)
          rotate_right 1
          simp (maxDischargeDepth := 9) only [↓gB, gV, gT, reduceIte, reduceCtorEq, Nat.reduceEqDiff, Nat.reduceAdd, Nat.reduceSub, Nat.reduceLeDiff, Nat.reduceLT, Int.reduceEq, Nat.reduceMul, h1, hm, f14, f0, f3, f12, f13, c1, c2, c4, c5, n2, hm, f5, f0, f3, f12, f13, f14, hm, f46, f0, f3, f5, f12, f13, f14, f45, c3, hz, hz, f44, e2, c6, c7]
          have q1 : Go.IntKind.i64.wrap (↑j - 1) = ↑j - 1 := wrap_id (by omega)
          simp (maxDischargeDepth := 9) only [↓gB, gV, gT, reduceIte, reduceCtorEq, Nat.reduceEqDiff, Nat.reduceAdd, Nat.reduceSub, Nat.reduceLeDiff, Nat.reduceLT, Int.reduceEq, Nat.reduceMul, h1, hm, f14, f0, f3, f12, f13, c1, c2, c4, c5, n2, hm, f5, f0, f3, f12, f13, f14, hm, f46, f0, f3, f5, f12, f13, f14, f45, c3, hz, hz, f44, e2, c6, c7, q1]
          refine vguard_intro (by omega) ?_
          obtain ⟨x3, s3, m3, rfl, e3⟩ := w1.at1' (j - 1) (by omega) rfl
          simp (maxDischargeDepth := 9) only [↓gB, gV, gT, reduceIte, reduceCtorEq, Nat.reduceEqDiff, Nat.reduceAdd, Nat.reduceSub, Nat.reduceLeDiff, Nat.reduceLT, Int.reduceEq, Nat.reduceMul, h1, hm, f14, f0, f3, f12, f13, c1, c2, c4, c5, n2, hm, f5, f0, f3, f12, f13, f14, hm, f46, f0, f3, f5, f12, f13, f14, f45, c3, hz, hz, f44, e2, c6, c7, q1, e3]
          rcases bool_tf (Go.GL.sLt x3 x2) with c8 | c8
          rotate_left 1
          focus
            simp (maxDischargeDepth := 9) only [↓gB, gV, gT, reduceIte, reduceCtorEq, Nat.reduceEqDiff, Nat.reduceAdd, Nat.reduceSub, Nat.reduceLeDiff, Nat.reduceLT, Int.reduceEq, Nat.reduceMul, h1, hm, f14, f0, f3, f12, f13, c1, c2, c4, c5, n2, hm, f5, f0, f3, f12, f13, f14, hm, f46, f0, f3, f5, f12, f13, f14, f45, c3, hz, hz, f44, e2, c6, c7, q1, e3, c8]
            refine Kup_val (by simp (maxDischargeDepth := 9) only [le_self, le_puts, le_put0, h1, hle, hle, hle]) ?_
            focus (rw [zf_bad h m1 c2 c4 c5 h0' (nf7 hh m2 (by assumption) (pv_p (by assumption) m3 (by simp [*]))) (by decide)]; done)
          rotate_right 1
          simp (maxDischargeDepth := 9) only [↓gB, gV, gT, reduceIte, reduceCtorEq, Nat.reduceEqDiff, Nat.reduceAdd, Nat.reduceSub, Nat.reduceLeDiff, Nat.reduceLT, Int.reduceEq, Nat.reduceMul, h1, hm, f14, f0, f3, f12, f13, c1, c2, c4, c5, n2, hm, f5, f0, f3, f12, f13, f14, hm, f46, f0, f3, f5, f12, f13, f14, f45, c3, hz, hz, f44, e2, c6, c7, q1, e3, c8]
          have p1 := mt120.look (kv := Go.Value.string x2) (G := G') (by assumption) _ rfl
          simp (maxDischargeDepth := 9) only [↓gB, gV, gT, reduceIte, reduceCtorEq, Nat.reduceEqDiff, Nat.reduceAdd, Nat.reduceSub, Nat.reduceLeDiff, Nat.reduceLT, Int.reduceEq, Nat.reduceMul, h1, hm, f14, f0, f3, f12, f13, c1, c2, c4, c5, n2, hm, f5, f0, f3, f12, f13, f14, hm, f46, f0, f3, f5, f12, f13, f14, f45, c3, hz, hz, f44, e2, c6, c7, q1, e3, c8, p1]
          rcases bool_tf (Go.GL.mget Bool.false x2 mm) with c9 | c9
          rotate_left 1
          focus
            simp (maxDischargeDepth := 9) only [↓gB, gV, gT, reduceIte, reduceCtorEq, Nat.reduceEqDiff, Nat.reduceAdd, Nat.reduceSub, Nat.reduceLeDiff, Nat.reduceLT, Int.reduceEq, Nat.reduceMul, h1, hm, f14, f0, f3, f12, f13, c1, c2, c4, c5, n2, hm, f5, f0, f3, f12, f13, f14, hm, f46, f0, f3, f5, f12, f13, f14, f45, c3, hz, hz, f44, e2, c6, c7, q1, e3, c8, p1, c9]
            refine mt120.upd (by assumption) _ rfl _ rfl ?_
            simp (maxDischargeDepth := 9) only [↓gB, gV, gT, reduceIte, reduceCtorEq, Nat.reduceEqDiff, Nat.reduceAdd, Nat.reduceSub, Nat.reduceLeDiff, Nat.reduceLT, Int.reduceEq, Nat.reduceMul, h1, hm, f14, f0, f3, f12, f13, c1, c2, c4, c5, n2, hm, f5, f0, f3, f12, f13, f14, hm, f46, f0, f3, f5, f12, f13, f14, f45, c3, hz, hz, f44, e2, c6, c7, q1, e3, c8, p1, c9]
            have q2 : Go.IntKind.i64.wrap (↑j + 1) = ↑j + 1 := wrap_id (by omega)
            simp (maxDischargeDepth := 9) only [↓gB, gV, gT, reduceIte, reduceCtorEq, Nat.reduceEqDiff, Nat.reduceAdd, Nat.reduceSub, Nat.reduceLeDiff, Nat.reduceLT, Int.reduceEq, Nat.reduceMul, h1, hm, f14, f0, f3, f12, f13, c1, c2, c4, c5, n2, hm, f5, f0, f3, f12, f13, f14, hm, f46, f0, f3, f5, f12, f13, f14, f45, c3, hz, hz, f44, e2, c6, c7, q1, e3, c8, p1, c9, q2]
            rw [N_lp]
            refine ⟨_, ?_, _, sub_refl _, j + 1, mset x2 true mm, rfl, ?_, ?_, ?_, ?_, ?_, ?_, ?_, by simp (maxDischargeDepth := 9) only [↓gB, gV, gT, reduceIte, reduceCtorEq, Nat.reduceEqDiff, Nat.reduceAdd, Nat.reduceSub, Nat.reduceLeDiff, Nat.reduceLT, Int.reduceEq, Nat.reduceMul, h1, hm, f14, f0, f3, f12, f13, c1, c2, c4, c5, n2, hm, f5, f0, f3, f12, f13, f14, hm, f46, f0, f3, f5, f12, f13, f14, f45, c3, hz, hz, f44, e2, c6, c7, q1, e3, c8, p1, c9, q2, nat_succ, and_self]⟩
            · omega
            · omega
            · (exact nf0 hh m2 (by assumption) (pv_p (by assumption) m3 (by simp [*])) (by assumption); done)
            · exact put_self _ _ _
            · exact (put_not _ _ (Ne.symm (by assumption))).trans (by assumption)
            · exact RSl.ile (by assumption) (ile_put (by assumption) _)
            · exact RSl.ile (by assumption) (ile_put (by assumption) _)
            · exact le_put_new (by assumption) (by assumption) _
          rotate_right 1
          simp (maxDischargeDepth := 9) only [↓gB, gV, gT, reduceIte, reduceCtorEq, Nat.reduceEqDiff, Nat.reduceAdd, Nat.reduceSub, Nat.reduceLeDiff, Nat.reduceLT, Int.reduceEq, Nat.reduceMul, h1, hm, f14, f0, f3, f12, f13, c1, c2, c4, c5, n2, hm, f5, f0, f3, f12, f13, f14, hm, f46, f0, f3, f5, f12, f13, f14, f45, c3, hz, hz, f44, e2, c6, c7, q1, e3, c8, p1, c9]
          refine Kup_val (by simp (maxDischargeDepth := 9) only [le_self, le_puts, le_put0, h1, hle, hle, hle]) ?_
          focus (rw [zf_bad h m1 c2 c4 c5 h0' (nf6 hh m2 (by assumption) (pv_p (by assumption) m3 (by simp [*])) (by assumption)) (by decide)]; done)
    · simp (maxDischargeDepth := 9) only [↓gB, gV, gT, reduceIte, reduceCtorEq, Nat.reduceEqDiff, Nat.reduceAdd, Nat.reduceSub, Nat.reduceLeDiff, Nat.reduceLT, Int.reduceEq, Nat.reduceMul, h1, hm, f14, f0, f3, f12, f13, c1]
      refine Kup_val (by simp (maxDischargeDepth := 9) only [le_self, le_puts, le_put0, h1, hle]) ?_
      focus ((have e : zonesF none l [] = 0 := by (rw [h, List.drop_eq_nil_of_le (by omega)]; rfl)); simp [checkZones, h0', e]; done)
end Go.Proofs.YtnlbapfbdabjaaaDoor
namespace Go.Proofs.YtnlbapfbdabjaaaDoor
open Go Go.GL
attribute [local irreducible] Ycall GCalls
set_option maxRecDepth 10000
set_option maxHeartbeats 0
theorem p25 {G0 : GH} {v : Value} {l : List SZone} (hv : RSl rZone G0 v l) (hn : (l.length : Int) ≤ 9223372036854775807) : Pure Tryd.prog G0 25 [v] (V (checkZones l)) := by
  intro G hG; replace hv := hv.le hG
  clear hG G0
  refine enter Tryd.func25 76 #[.tmp 2] rfl Tryd.ntmps25 rfl (by decide +kernel) rfl ?_
  obtain ⟨a, c, rfl⟩ := hv.val
  simp (maxDischargeDepth := 9) only [↓gB, gV, gT, reduceIte, reduceCtorEq, Nat.reduceEqDiff, Nat.reduceAdd, Nat.reduceSub, Nat.reduceLeDiff, Nat.reduceLT, Int.reduceEq, Nat.reduceMul]
  refine Xc_split _ _ _ _ _ (fun h0 => ?_) (fun h0 => ?_)
  · simp (maxDischargeDepth := 9) only [↓gB, gV, gT, reduceIte, reduceCtorEq, Nat.reduceEqDiff, Nat.reduceAdd, Nat.reduceSub, Nat.reduceLeDiff, Nat.reduceLT, Int.reduceEq, Nat.reduceMul]
    refine Kup_val (le_refl _) ?_
    focus ((have : 100 < l.length := by omega); simp [checkZones, this]; done)
  · have h0' : ¬ 100 < l.length := by omega
    simp (maxDischargeDepth := 9) only [↓gB, gV, gT, reduceIte, reduceCtorEq, Nat.reduceEqDiff, Nat.reduceAdd, Nat.reduceSub, Nat.reduceLeDiff, Nat.reduceLT, Int.reduceEq, Nat.reduceMul]
    refine Yn1 fun r1 h1 => ?_
    simp (maxDischargeDepth := 9) only [↓gB, gV, gT, reduceIte, reduceCtorEq, Nat.reduceEqDiff, Nat.reduceAdd, Nat.reduceSub, Nat.reduceLeDiff, Nat.reduceLT, Int.reduceEq, Nat.reduceMul, h1]
    focus
      refine Xloop_intro _ _ _ _ _ (fun k f G' => ∃ (i : Nat) (m : Seen), k = l.length - i ∧ (i ≤ l.length) ∧ (zonesF none l [] = zonesF (prevOf l i) (l.drop i) m) ∧ (G' r1 = some (mapO Value.string Value.bool m, true)) ∧ (RSl rZone G' (.slice a l.length c) l) ∧ (G.le G') ∧ f 14 = V i ∧ f 0 = Go.Value.slice a l.length c ∧ f 3 = Go.Value.map (Option.some r1) ∧ f 12 = Go.Value.slice a l.length c ∧ f 13 = Go.Value.int Go.IntKind.i64 ↑l.length) _ ⟨0, [], rfl, ?_, ?_, ?_, ?_, ?_, by simp (maxDischargeDepth := 9) only [↓gB, gV, gT, reduceIte, reduceCtorEq, Nat.reduceEqDiff, Nat.reduceAdd, Nat.reduceSub, Nat.reduceLeDiff, Nat.reduceLT, Int.reduceEq, Nat.reduceMul, h1, and_self]⟩ ?_
      · omega
      · rfl
      · exact put_self _ _ _
      · exact RSl.put _ (by assumption) (by assumption)
      · (simp (maxDischargeDepth := 9) only [le_self, le_puts, le_put0, sub_self, sub_puts, sub_put0, h1]; done)
      rintro k f G' ⟨i, m, rfl, hi, h, hm, hv, hle, f14, f0, f3, f12, f13⟩
    simp (maxDischargeDepth := 9) only [↓gB, gV, gT, reduceIte, reduceCtorEq, Nat.reduceEqDiff, Nat.reduceAdd, Nat.reduceSub, Nat.reduceLeDiff, Nat.reduceLT, Int.reduceEq, Nat.reduceMul, h1, hm, f14, f0, f3, f12, f13]
    refine Xc_split _ _ _ _ _ (fun c1 => ?_) (fun c1 => ?_)
    · rw [X_skip, N_code, X_seq, X_block, X_assoc, X_seq]
      focus
        refine Xcut _ _ _ _ _ (J := fun f G' => ∃ (x1 : SZone) (aw : Option Addr) (cw : Nat) (r2 : Nat), (l[i]? = some x1) ∧ (isKey x1.Key = true) ∧ ((prevOf l i).any (fun q => !sLt q.Key x1.Key) = false) ∧ (x1.Nodes.length ≤ 500) ∧ (r1 ≠ r2) ∧ (G' r1 = some (mapO Value.string Value.bool m, true)) ∧ (G' r2 = some (.cells [.string x1.Key, .slice aw x1.Nodes.length cw].toArray 122 (0, 0), true)) ∧ (RSl Rp.str G' (.slice aw x1.Nodes.length cw) x1.Nodes) ∧ (RSl rZone G' (.slice a l.length c) l) ∧ (G.le G') ∧ f 5 = .pointer (some ⟨r2, 0, none⟩) ∧ f 0 = Go.Value.slice a l.length c ∧ f 3 = Go.Value.map (Option.some r1) ∧ f 12 = Go.Value.slice a l.length c ∧ f 13 = Go.Value.int Go.IntKind.i64 ↑l.length ∧ f 14 = Go.GL.V ↑i) ?_ ?_
        rotate_left 1
        rintro f G' ⟨x1, aw, cw, r2, m1, c2, c4, c5, n2, hm, hz, w1, hv, hle, f5, f0, f3, f12, f13, f14⟩
        rotate_right 1
      · focus
          simp (maxDischargeDepth := 9) only [↓gB, gV, gT, reduceIte, reduceCtorEq, Nat.reduceEqDiff, Nat.reduceAdd, Nat.reduceSub, Nat.reduceLeDiff, Nat.reduceLT, Int.reduceEq, Nat.reduceMul, h1, hm, f14, f0, f3, f12, f13, c1]
          obtain ⟨x1, a1, s1, m1, rfl, ⟨v1, rfl, w1⟩, e1⟩ := hv.at (i) (by omega) 2 rfl
          obtain ⟨aw1, cw1, rfl⟩ := RSl.val w1
          simp (maxDischargeDepth := 9) only [↓gB, gV, gT, reduceIte, reduceCtorEq, Nat.reduceEqDiff, Nat.reduceAdd, Nat.reduceSub, Nat.reduceLeDiff, Nat.reduceLT, Int.reduceEq, Nat.reduceMul, h1, hm, f14, f3, f13, c1, f0, f12, e1]
          refine vguard_intro (by simp) ?_
          refine Yn2 fun r2 h2 => ?_
          simp (maxDischargeDepth := 9) only [↓gB, gV, gT, reduceIte, reduceCtorEq, Nat.reduceEqDiff, Nat.reduceAdd, Nat.reduceSub, Nat.reduceLeDiff, Nat.reduceLT, Int.reduceEq, Nat.reduceMul, h1, hm, f14, f3, f13, c1, f0, f12, e1, h2]
          refine Ycp (p77) ?_
          simp (maxDischargeDepth := 9) only [↓gB, gV, gT, reduceIte, reduceCtorEq, Nat.reduceEqDiff, Nat.reduceAdd, Nat.reduceSub, Nat.reduceLeDiff, Nat.reduceLT, Int.reduceEq, Nat.reduceMul, h1, hm, f14, f3, f13, c1, f0, f12, e1, h2]
          rcases bool_tf (Go.Proofs.YtnlbapfbdabjaaaDoor.isKey x1.Key) with c2 | c2
          rotate_left 1
          focus
            simp (maxDischargeDepth := 9) only [↓gB, gV, gT, reduceIte, reduceCtorEq, Nat.reduceEqDiff, Nat.reduceAdd, Nat.reduceSub, Nat.reduceLeDiff, Nat.reduceLT, Int.reduceEq, Nat.reduceMul, h1, hm, f14, f3, f13, c1, f0, f12, e1, h2, c2]
            refine Kup_val (by simp (maxDischargeDepth := 9) only [le_self, le_puts, le_put0, h1, hle, h2]) ?_
            focus ((have e : zonesF none l [] = 5 := by (rw [h, drop_at m1]; simp [zonesF, *])); simp [checkZones, h0', e]; done)
          rotate_right 1
          simp (maxDischargeDepth := 9) only [↓gB, gV, gT, reduceIte, reduceCtorEq, Nat.reduceEqDiff, Nat.reduceAdd, Nat.reduceSub, Nat.reduceLeDiff, Nat.reduceLT, Int.reduceEq, Nat.reduceMul, h1, hm, f14, f3, f13, c1, f0, f12, e1, h2, c2]
          refine Xdraw_intro [0, 1, 2, 3, 4, 5, 6, 7, 8, 9, 10, 11, 12, 13] mixed (by kernel_rfl) (by decide +kernel) ?_
          simp (maxDischargeDepth := 9) only [↓gB, gV, gT, reduceIte, reduceCtorEq, Nat.reduceEqDiff, Nat.reduceAdd, Nat.reduceSub, Nat.reduceLeDiff, Nat.reduceLT, Int.reduceEq, Nat.reduceMul, h1, hm, f14, f3, f13, c1, f0, f12, e1, h2, c2]
          by_cases c3 : (0 : Int) < ↑i
          rotate_left 1
          focus
            simp (maxDischargeDepth := 9) only [↓gB, gV, gT, reduceIte, reduceCtorEq, Nat.reduceEqDiff, Nat.reduceAdd, Nat.reduceSub, Nat.reduceLeDiff, Nat.reduceLT, Int.reduceEq, Nat.reduceMul, h1, hm, f14, f3, f13, c1, f0, f12, e1, h2, c2, c3]
            refine Xc_split _ _ _ _ _ (fun c4 => ?_) (fun c4 => ?_)
            rotate_left 1
            focus
              simp (maxDischargeDepth := 9) only [↓gB, gV, gT, reduceIte, reduceCtorEq, Nat.reduceEqDiff, Nat.reduceAdd, Nat.reduceSub, Nat.reduceLeDiff, Nat.reduceLT, Int.reduceEq, Nat.reduceMul, h1, hm, f14, f3, f13, c1, f0, f12, e1, h2, c2, c3, c4]
              rw [N_cut]
              refine ⟨_, sub_refl _, x1, aw1, cw1, r2, ?_, ?_, ?_, ?_, ?_, ?_, ?_, ?_, ?_, ?_, by simp (maxDischargeDepth := 9) only [↓gB, gV, gT, reduceIte, reduceCtorEq, Nat.reduceEqDiff, Nat.reduceAdd, Nat.reduceSub, Nat.reduceLeDiff, Nat.reduceLT, Int.reduceEq, Nat.reduceMul, h1, hm, f14, f3, f13, c1, f0, f12, e1, h2, c2, c3, c4, nat_succ, and_self]⟩
              · assumption
              · assumption
              · (rw [prevOf_z (by omega)]; rfl; done)
              · omega
              · exact ne_of_none (by assumption) (by assumption)
              · exact (le_put (by assumption) _) _ _ (by assumption)
              · exact put_self _ _ _
              · exact RSl.put _ (by assumption) (by assumption)
              · exact RSl.put _ (by assumption) (by assumption)
              · (simp (maxDischargeDepth := 9) only [le_self, le_puts, le_put0, sub_self, sub_puts, sub_put0, h1, hle, h2]; done)
            rotate_right 1
            simp (maxDischargeDepth := 9) only [↓gB, gV, gT, reduceIte, reduceCtorEq, Nat.reduceEqDiff, Nat.reduceAdd, Nat.reduceSub, Nat.reduceLeDiff, Nat.reduceLT, Int.reduceEq, Nat.reduceMul, h1, hm, f14, f3, f13, c1, f0, f12, e1, h2, c2, c3, c4]
            refine Kup_val (by simp (maxDischargeDepth := 9) only [le_self, le_puts, le_put0, h1, hle, h2]) ?_
            focus ((have e : zonesF none l [] = 2 := by (rw [h, drop_at m1, prevOf_z (by omega)]; simp [zonesF, *]; omega)); simp [checkZones, h0', e]; done)
          rotate_right 1
          simp (maxDischargeDepth := 9) only [↓gB, gV, gT, reduceIte, reduceCtorEq, Nat.reduceEqDiff, Nat.reduceAdd, Nat.reduceSub, Nat.reduceLeDiff, Nat.reduceLT, Int.reduceEq, Nat.reduceMul, h1, hm, f14, f3, f13, c1, f0, f12, e1, h2, c2, c3]
          have q1 : Go.IntKind.i64.wrap (↑i - 1) = ↑i - 1 := wrap_id (by omega)
          simp (maxDischargeDepth := 9) only [↓gB, gV, gT, reduceIte, reduceCtorEq, Nat.reduceEqDiff, Nat.reduceAdd, Nat.reduceSub, Nat.reduceLeDiff, Nat.reduceLT, Int.reduceEq, Nat.reduceMul, h1, hm, f14, f3, f13, c1, f0, f12, e1, h2, c2, c3, q1]
          refine vguard_intro (by omega) ?_
          obtain ⟨x2, s2, m2, ⟨v2, rfl, w2⟩, e2⟩ := hv.at' (i - 1) (by omega) 2 rfl
          obtain ⟨aw2, cw2, rfl⟩ := RSl.val w2
          simp (maxDischargeDepth := 9) only [↓gB, gV, gT, reduceIte, reduceCtorEq, Nat.reduceEqDiff, Nat.reduceAdd, Nat.reduceSub, Nat.reduceLeDiff, Nat.reduceLT, Int.reduceEq, Nat.reduceMul, h1, hm, f14, f3, f13, c1, f0, f12, e1, h2, c2, c3, q1, e2]
          rcases bool_tf (Go.GL.sLt x2.Key x1.Key) with c4 | c4
          rotate_left 1
          focus
            simp (maxDischargeDepth := 9) only [↓gB, gV, gT, reduceIte, reduceCtorEq, Nat.reduceEqDiff, Nat.reduceAdd, Nat.reduceSub, Nat.reduceLeDiff, Nat.reduceLT, Int.reduceEq, Nat.reduceMul, h1, hm, f14, f3, f13, c1, f0, f12, e1, h2, c2, c3, q1, e2, c4]
            refine Kup_val (by simp (maxDischargeDepth := 9) only [le_self, le_puts, le_put0, h1, hle, h2]) ?_
            focus ((have e : zonesF none l [] = 7 := by (rw [h, drop_at m1, prevOf_p (by omega), m2]; simp [zonesF, *])); simp [checkZones, h0', e]; done)
          rotate_right 1
          simp (maxDischargeDepth := 9) only [↓gB, gV, gT, reduceIte, reduceCtorEq, Nat.reduceEqDiff, Nat.reduceAdd, Nat.reduceSub, Nat.reduceLeDiff, Nat.reduceLT, Int.reduceEq, Nat.reduceMul, h1, hm, f14, f3, f13, c1, f0, f12, e1, h2, c2, c3, q1, e2, c4]
          refine Xc_split _ _ _ _ _ (fun c5 => ?_) (fun c5 => ?_)
          rotate_left 1
          focus
            simp (maxDischargeDepth := 9) only [↓gB, gV, gT, reduceIte, reduceCtorEq, Nat.reduceEqDiff, Nat.reduceAdd, Nat.reduceSub, Nat.reduceLeDiff, Nat.reduceLT, Int.reduceEq, Nat.reduceMul, h1, hm, f14, f3, f13, c1, f0, f12, e1, h2, c2, c3, q1, e2, c4, c5]
            rw [N_cut]
            refine ⟨_, sub_refl _, x1, aw1, cw1, r2, ?_, ?_, ?_, ?_, ?_, ?_, ?_, ?_, ?_, ?_, by simp (maxDischargeDepth := 9) only [↓gB, gV, gT, reduceIte, reduceCtorEq, Nat.reduceEqDiff, Nat.reduceAdd, Nat.reduceSub, Nat.reduceLeDiff, Nat.reduceLT, Int.reduceEq, Nat.reduceMul, h1, hm, f14, f3, f13, c1, f0, f12, e1, h2, c2, c3, q1, e2, c4, c5, nat_succ, and_self]⟩
            · assumption
            · assumption
            · (rw [prevOf_p (by omega), m2]; simp [c4]; done)
            · omega
            · exact ne_of_none (by assumption) (by assumption)
            · exact (le_put (by assumption) _) _ _ (by assumption)
            · exact put_self _ _ _
            · exact RSl.put _ (by assumption) (by assumption)
            · exact RSl.put _ (by assumption) (by assumption)
            · (simp (maxDischargeDepth := 9) only [le_self, le_puts, le_put0, sub_self, sub_puts, sub_put0, h1, hle, h2]; done)
          rotate_right 1
          simp (maxDischargeDepth := 9) only [↓gB, gV, gT, reduceIte, reduceCtorEq, Nat.reduceEqDiff, Nat.reduceAdd, Nat.reduceSub, Nat.reduceLeDiff, Nat.reduceLT, Int.reduceEq, Nat.reduceMul, h1, hm, f14, f3, f13, c1, f0, f12, e1, h2, c2, c3, q1, e2, c4, c5]
          refine Kup_val (by simp (maxDischargeDepth := 9) only [le_self, le_puts, le_put0, h1, hle, h2]) ?_
          focus ((have e : zonesF none l [] = 2 := by (rw [h, drop_at m1, prevOf_p (by omega), m2]; simp [zonesF, *]; omega)); simp [checkZones, h0', e]; done)
      · simp (maxDischargeDepth := 9) only [↓gB, gV, gT, reduceIte, reduceCtorEq, Nat.reduceEqDiff, Nat.reduceAdd, Nat.reduceSub, Nat.reduceLeDiff, Nat.reduceLT, Int.reduceEq, Nat.reduceMul, h1, hm, f14, f0, f3, f12, f13, c1, c2, c4, c5, n2, hm, hz, f5, f0, f3, f12, f13, f14]
        focus
          refine Xloop_intro _ _ _ _ _ (fun k f G' => ∃ (j : Nat) (mm : Seen), k = x1.Nodes.length - j ∧ (j ≤ x1.Nodes.length) ∧ (nodesF none x1.Nodes m = nodesF (prevOf x1.Nodes j) (x1.Nodes.drop j) mm) ∧ (G' r1 = some (mapO Value.string Value.bool mm, true)) ∧ (G' r2 = some (.cells [.string x1.Key, .slice aw x1.Nodes.length cw].toArray 122 (0, 0), true)) ∧ (RSl Rp.str G' (.slice aw x1.Nodes.length cw) x1.Nodes) ∧ (RSl rZone G' (.slice a l.length c) l) ∧ (G.le G') ∧ f 46 = V j ∧ f 0 = Go.Value.slice a l.length c ∧ f 3 = Go.Value.map (Option.some r1) ∧ f 5 = Go.Value.pointer (Option.some { block := r2, off := 0 }) ∧ f 12 = Go.Value.slice a l.length c ∧ f 13 = Go.Value.int Go.IntKind.i64 ↑l.length ∧ f 14 = Go.GL.V ↑i ∧ f 44 = Go.Value.slice aw x1.Nodes.length cw ∧ f 45 = Go.Value.int Go.IntKind.i64 ↑x1.Nodes.length) _ ⟨0, m, rfl, ?_, ?_, ?_, ?_, ?_, ?_, ?_, by simp (maxDischargeDepth := 9) only [↓gB, gV, gT, reduceIte, reduceCtorEq, Nat.reduceEqDiff, Nat.reduceAdd, Nat.reduceSub, Nat.reduceLeDiff, Nat.reduceLT, Int.reduceEq, Nat.reduceMul, h1, hm, f14, f0, f3, f12, f13, c1, c2, c4, c5, n2, hm, hz, f5, f0, f3, f12, f13, f14, and_self]⟩ ?_
          · omega
          · rfl
          · assumption
          · assumption
          · assumption
          · assumption
          · assumption
          rintro k f G' ⟨j, mm, rfl, hj, hh, hm, hz, w1, hv, hle, f46, f0, f3, f5, f12, f13, f14, f44, f45⟩
        focus
          simp (maxDischargeDepth := 9) only [↓gB, gV, gT, reduceIte, reduceCtorEq, Nat.reduceEqDiff, Nat.reduceAdd, Nat.reduceSub, Nat.reduceLeDiff, Nat.reduceLT, Int.reduceEq, Nat.reduceMul, h1, hm, f14, f0, f3, f12, f13, c1, c2, c4, c5, n2, hm, hz, f5, f0, f3, f12, f13, f14, hm, hz, f46, f0, f3, f5, f12, f13, f14, f44, f45]
          refine Xc_split _ _ _ _ _ (fun c3 => ?_) (fun c3 => ?_)
          rotate_left 1
          focus
            simp (maxDischargeDepth := 9) only [↓gB, gV, gT, reduceIte, reduceCtorEq, Nat.reduceEqDiff, Nat.reduceAdd, Nat.reduceSub, Nat.reduceLeDiff, Nat.reduceLT, Int.reduceEq, Nat.reduceMul, h1, hm, f14, f0, f3, f12, f13, c1, c2, c4, c5, n2, hm, hz, f5, f0, f3, f12, f13, f14, hm, hz, f46, f0, f3, f5, f12, f13, f14, f44, f45, c3]
            have q1 : Go.IntKind.i64.wrap (↑i + 1) = ↑i + 1 := wrap_id (by omega)
            simp (maxDischargeDepth := 9) only [↓gB, gV, gT, reduceIte, reduceCtorEq, Nat.reduceEqDiff, Nat.reduceAdd, Nat.reduceSub, Nat.reduceLeDiff, Nat.reduceLT, Int.reduceEq, Nat.reduceMul, h1, hm, f14, f0, f3, f12, f13, c1, c2, c4, c5, n2, hm, hz, f5, f0, f3, f12, f13, f14, hm, hz, f46, f0, f3, f5, f12, f13, f14, f44, f45, c3, q1]
            rw [N_lp]
            refine ⟨_, ?_, _, sub_refl _, i + 1, mm, rfl, ?_, ?_, ?_, ?_, ?_, by simp (maxDischargeDepth := 9) only [↓gB, gV, gT, reduceIte, reduceCtorEq, Nat.reduceEqDiff, Nat.reduceAdd, Nat.reduceSub, Nat.reduceLeDiff, Nat.reduceLT, Int.reduceEq, Nat.reduceMul, h1, hm, f14, f0, f3, f12, f13, c1, c2, c4, c5, n2, hm, hz, f5, f0, f3, f12, f13, f14, hm, hz, f46, f0, f3, f5, f12, f13, f14, f44, f45, c3, q1, nat_succ, and_self]⟩
            · omega
            · omega
            · (exact zf_next h m1 c2 c4 c5 (nf_end hh (by assumption)); done)
            · assumption
            · assumption
            · assumption
          rotate_right 1
          simp (maxDischargeDepth := 9) only [↓gB, gV, gT, reduceIte, reduceCtorEq, Nat.reduceEqDiff, Nat.reduceAdd, Nat.reduceSub, Nat.reduceLeDiff, Nat.reduceLT, Int.reduceEq, Nat.reduceMul, h1, hm, f14, f0, f3, f12, f13, c1, c2, c4, c5, n2, hm, hz, f5, f0, f3, f12, f13, f14, hm, hz, f46, f0, f3, f5, f12, f13, f14, f44, f45, c3]
          obtain ⟨x2, a2, s2, m2, rfl, rfl, e2⟩ := w1.at1 (j) (by omega) rfl
          simp (maxDischargeDepth := 9) only [↓gB, gV, gT, reduceIte, reduceCtorEq, Nat.reduceEqDiff, Nat.reduceAdd, Nat.reduceSub, Nat.reduceLeDiff, Nat.reduceLT, Int.reduceEq, Nat.reduceMul, h1, hm, f14, f0, f3, f12, f13, c1, c2, c4, c5, n2, hm, f5, f0, f3, f12, f13, f14, hm, f46, f0, f3, f5, f12, f13, f14, f45, c3, hz, hz, f44, e2]
          refine vguard_intro (by simp) ?_
          refine Ycp (p77) ?_
          simp (maxDischargeDepth := 9) only [↓gB, gV, gT, reduceIte, reduceCtorEq, Nat.reduceEqDiff, Nat.reduceAdd, Nat.reduceSub, Nat.reduceLeDiff, Nat.reduceLT, Int.reduceEq, Nat.reduceMul, h1, hm, f14, f0, f3, f12, f13, c1, c2, c4, c5, n2, hm, f5, f0, f3, f12, f13, f14, hm, f46, f0, f3, f5, f12, f13, f14, f45, c3, hz, hz, f44, e2]
          rcases bool_tf (Go.Proofs.YtnlbapfbdabjaaaDoor.isKey x2) with c6 | c6
          rotate_left 1
          focus
            simp (maxDischargeDepth := 9) only [↓gB, gV, gT, reduceIte, reduceCtorEq, Nat.reduceEqDiff, Nat.reduceAdd, Nat.reduceSub, Nat.reduceLeDiff, Nat.reduceLT, Int.reduceEq, Nat.reduceMul, h1, hm, f14, f0, f3, f12, f13, c1, c2, c4, c5, n2, hm, f5, f0, f3, f12, f13, f14, hm, f46, f0, f3, f5, f12, f13, f14, f45, c3, hz, hz, f44, e2, c6]
            refine Kup_val (by simp (maxDischargeDepth := 9) only [le_self, le_puts, le_put0, h1, hle, hle, hle]) ?_
            focus (rw [zf_bad h m1 c2 c4 c5 h0' (nf5 hh m2 (by assumption)) (by decide)]; done)
          rotate_right 1
          simp (maxDischargeDepth := 9) only [↓gB, gV, gT, reduceIte, reduceCtorEq, Nat.reduceEqDiff, Nat.reduceAdd, Nat.reduceSub, Nat.reduceLeDiff, Nat.reduceLT, Int.reduceEq, Nat.reduceMul, h1, hm, f14, f0, f3, f12, f13, c1, c2, c4, c5, n2, hm, f5, f0, f3, f12, f13, f14, hm, f46, f0, f3, f5, f12, f13, f14, f45, c3, hz, hz, f44, e2, c6]
          by_cases c7 : (0 : Int) < ↑j
          rotate_left 1
          focus
            simp (maxDischargeDepth := 9) only [↓gB, gV, gT, reduceIte, reduceCtorEq, Nat.reduceEqDiff, Nat.reduceAdd, Nat.reduceSub, Nat.reduceLeDiff, Nat.reduceLT, Int.reduceEq, Nat.reduceMul, h1, hm, f14, f0, f3, f12, f13, c1, c2, c4, c5, n2, hm, f5, f0, f3, f12, f13, f14, hm, f46, f0, f3, f5, f12, f13, f14, f45, c3, hz, hz, f44, e2, c6, c7]
            have p1 := mt120.look (kv := Go.Value.string x2) (G := G') (by assumption) _ rfl
            simp (maxDischargeDepth := 9) only [↓gB, gV, gT, reduceIte, reduceCtorEq, Nat.reduceEqDiff, Nat.reduceAdd, Nat.reduceSub, Nat.reduceLeDiff, Nat.reduceLT, Int.reduceEq, Nat.reduceMul, h1, hm, f14, f0, f3, f12, f13, c1, c2, c4, c5, n2, hm, f5, f0, f3, f12, f13, f14, hm, f46, f0, f3, f5, f12, f13, f14, f45, c3, hz, hz, f44, e2, c6, c7, p1]
            rcases bool_tf (Go.GL.mget Bool.false x2 mm) with c8 | c8
            rotate_left 1
            focus
              simp (maxDischargeDepth := 9) only [↓gB, gV, gT, reduceIte, reduceCtorEq, Nat.reduceEqDiff, Nat.reduceAdd, Nat.reduceSub, Nat.reduceLeDiff, Nat.reduceLT, Int.reduceEq, Nat.reduceMul, h1, hm, f14, f0, f3, f12, f13, c1, c2, c4, c5, n2, hm, f5, f0, f3, f12, f13, f14, hm, f46, f0, f3, f5, f12, f13, f14, f45, c3, hz, hz, f44, e2, c6, c7, p1, c8]
              refine mt120.upd (by assumption) _ rfl _ rfl ?_
              simp (maxDischargeDepth := 9) only [↓gB, gV, gT, reduceIte, reduceCtorEq, Nat.reduceEqDiff, Nat.reduceAdd, Nat.reduceSub, Nat.reduceLeDiff, Nat.reduceLT, Int.reduceEq, Nat.reduceMul, h1, hm, f14, f0, f3, f12, f13, c1, c2, c4, c5, n2, hm, f5, f0, f3, f12, f13, f14, hm, f46, f0, f3, f5, f12, f13, f14, f45, c3, hz, hz, f44, e2, c6, c7, p1, c8]
              have q1 : Go.IntKind.i64.wrap (↑j + 1) = ↑j + 1 := wrap_id (by omega)
              simp (maxDischargeDepth := 9) only [↓gB, gV, gT, reduceIte, reduceCtorEq, Nat.reduceEqDiff, Nat.reduceAdd, Nat.reduceSub, Nat.reduceLeDiff, Nat.reduceLT, Int.reduceEq, Nat.reduceMul, h1, hm, f14, f0, f3, f12, f13, c1, c2, c4, c5, n2, hm, f5, f0, f3, f12, f13, f14, hm, f46, f0, f3, f5, f12, f13, f14, f45, c3, hz, hz, f44, e2, c6, c7, p1, c8, q1]
              rw [N_lp]
              refine ⟨_, ?_, _, sub_refl _, j + 1, mset x2 true mm, rfl, ?_, ?_, ?_, ?_, ?_, ?_, ?_, by simp (maxDischargeDepth := 9) only [↓gB, gV, gT, reduceIte, reduceCtorEq, Nat.reduceEqDiff, Nat.reduceAdd, Nat.reduceSub, Nat.reduceLeDiff, Nat.reduceLT, Int.reduceEq, Nat.reduceMul, h1, hm, f14, f0, f3, f12, f13, c1, c2, c4, c5, n2, hm, f5, f0, f3, f12, f13, f14, hm, f46, f0, f3, f5, f12, f13, f14, f45, c3, hz, hz, f44, e2, c6, c7, p1, c8, q1, nat_succ, and_self]⟩
              · omega
              · omega
              · (exact nf0 hh m2 (by assumption) (pv_z (by assumption)) (by assumption); done)
              · exact put_self _ _ _
              · exact (put_not _ _ (Ne.symm (by assumption))).trans (by assumption)
              · exact RSl.ile (by assumption) (ile_put (by assumption) _)
              · exact RSl.ile (by assumption) (ile_put (by assumption) _)
              · exact le_put_new (by assumption) (by assumption) _
            rotate_right 1
            simp (maxDischargeDepth := 9) only [↓gB, gV, gT, reduceIte, reduceCtorEq, Nat.reduceEqDiff, Nat.reduceAdd, Nat.reduceSub, Nat.reduceLeDiff, Nat.reduceLT, Int.reduceEq, Nat.reduceMul, h1, hm, f14, f0, f3, f12, f13, c1, c2, c4, c5, n2, hm, f5, f0, f3, f12, f13, f14, hm, f46, f0, f3, f5, f12, f13, f14, f45, c3, hz, hz, f44, e2, c6, c7, p1, c8]
            refine Kup_val (by simp (maxDischargeDepth := 9) only [le_self, le_puts, le_put0, h1, hle, hle, hle]) ?_
            focus (rw [zf_bad h m1 c2 c4 c5 h0' (nf6 hh m2 (by assumption) (pv_z (by assumption)) (by assumption)) (by decide)]; done)
          rotate_right 1
          simp (maxDischargeDepth := 9) only [↓gB, gV, gT, reduceIte, reduceCtorEq, Nat.reduceEqDiff, Nat.reduceAdd, Nat.reduceSub, Nat.reduceLeDiff, Nat.reduceLT, Int.reduceEq, Nat.reduceMul, h1, hm, f14, f0, f3, f12, f13, c1, c2, c4, c5, n2, hm, f5, f0, f3, f12, f13, f14, hm, f46, f0, f3, f5, f12, f13, f14, f45, c3, hz, hz, f44, e2, c6, c7]
          have q1 : Go.IntKind.i64.wrap (↑j - 1) = ↑j - 1 := wrap_id (by omega)
          simp (maxDischargeDepth := 9) only [↓gB, gV, gT, reduceIte, reduceCtorEq, Nat.reduceEqDiff, Nat.reduceAdd, Nat.reduceSub, Nat.reduceLeDiff, Nat.reduceLT, Int.reduceEq, Nat.reduceMul, h1, hm, f14, f0, f3, f12, f13, c1, c2, c4, c5, n2, hm, f5, f0, f3, f12, f13, f14, hm, f46, f0, f3, f5, f12, f13, f14, f45, c3, hz, hz, f44, e2, c6, c7, q1]
          refine vguard_intro (by omega) ?_
          obtain ⟨x3, s3, m3, rfl, e3⟩ := w1.at1' (j - 1) (by omega) rfl
          simp (maxDischargeDepth := 9) only [↓gB, gV, gT, reduceIte, reduceCtorEq, Nat.reduceEqDiff, Nat.reduceAdd, Nat.reduceSub, Nat.reduceLeDiff, Nat.reduceLT, Int.reduceEq, Nat.reduceMul, h1, hm, f14, f0, f3, f12, f13, c1, c2, c4, c5, n2, hm, f5, f0, f3, f12, f13, f14, hm, f46, f0, f3, f5, f12, f13, f14, f45, c3, hz, hz, f44, e2, c6, c7, q1, e3]
          rcases bool_tf (Go.GL.sLt x3 x2) with c8 | c8
          rotate_left 1
          focus
            simp (maxDischargeDepth := 9) only [↓gB, gV, gT, reduceIte, reduceCtorEq, Nat.reduceEqDiff, Nat.reduceAdd, Nat.reduceSub, Nat.reduceLeDiff, Nat.reduceLT, Int.reduceEq, Nat.reduceMul, h1, hm, f14, f0, f3, f12, f13, c1, c2, c4, c5, n2, hm, f5, f0, f3, f12, f13, f14, hm, f46, f0, f3, f5, f12, f13, f14, f45, c3, hz, hz, f44, e2, c6, c7, q1, e3, c8]
            refine Kup_val (by simp (maxDischargeDepth := 9) only [le_self, le_puts, le_put0, h1, hle, hle, hle]) ?_
            focus (rw [zf_bad h m1 c2 c4 c5 h0' (nf7 hh m2 (by assumption) (pv_p (by assumption) m3 (by simp [*]))) (by decide)]; done)
          rotate_right 1
          simp (maxDischargeDepth := 9) only [↓gB, gV, gT, reduceIte, reduceCtorEq, Nat.reduceEqDiff, Nat.reduceAdd, Nat.reduceSub, Nat.reduceLeDiff, Nat.reduceLT, Int.reduceEq, Nat.reduceMul, h1, hm, f14, f0, f3, f12, f13, c1, c2, c4, c5, n2, hm, f5, f0, f3, f12, f13, f14, hm, f46, f0, f3, f5, f12, f13, f14, f45, c3, hz, hz, f44, e2, c6, c7, q1, e3, c8]
          have p1 := mt120.look (kv := Go.Value.string x2) (G := G') (by assumption) _ rfl
          simp (maxDischargeDepth := 9) only [↓gB, gV, gT, reduceIte, reduceCtorEq, Nat.reduceEqDiff, Nat.reduceAdd, Nat.reduceSub, Nat.reduceLeDiff, Nat.reduceLT, Int.reduceEq, Nat.reduceMul, h1, hm, f14, f0, f3, f12, f13, c1, c2, c4, c5, n2, hm, f5, f0, f3, f12, f13, f14, hm, f46, f0, f3, f5, f12, f13, f14, f45, c3, hz, hz, f44, e2, c6, c7, q1, e3, c8, p1]
          rcases bool_tf (Go.GL.mget Bool.false x2 mm) with c9 | c9
          rotate_left 1
          focus
            simp (maxDischargeDepth := 9) only [↓gB, gV, gT, reduceIte, reduceCtorEq, Nat.reduceEqDiff, Nat.reduceAdd, Nat.reduceSub, Nat.reduceLeDiff, Nat.reduceLT, Int.reduceEq, Nat.reduceMul, h1, hm, f14, f0, f3, f12, f13, c1, c2, c4, c5, n2, hm, f5, f0, f3, f12, f13, f14, hm, f46, f0, f3, f5, f12, f13, f14, f45, c3, hz, hz, f44, e2, c6, c7, q1, e3, c8, p1, c9]
            refine mt120.upd (by assumption) _ rfl _ rfl ?_
            simp (maxDischargeDepth := 9) only [↓gB, gV, gT, reduceIte, reduceCtorEq, Nat.reduceEqDiff, Nat.reduceAdd, Nat.reduceSub, Nat.reduceLeDiff, Nat.reduceLT, Int.reduceEq, Nat.reduceMul, h1, hm, f14, f0, f3, f12, f13, c1, c2, c4, c5, n2, hm, f5, f0, f3, f12, f13, f14, hm, f46, f0, f3, f5, f12, f13, f14, f45, c3, hz, hz, f44, e2, c6, c7, q1, e3, c8, p1, c9]
            have q2 : Go.IntKind.i64.wrap (↑j + 1) = ↑j + 1 := wrap_id (by omega)
            simp (maxDischargeDepth := 9) only [↓gB, gV, gT, reduceIte, reduceCtorEq, Nat.reduceEqDiff, Nat.reduceAdd, Nat.reduceSub, Nat.reduceLeDiff, Nat.reduceLT, Int.reduceEq, Nat.reduceMul, h1, hm, f14, f0, f3, f12, f13, c1, c2, c4, c5, n2, hm, f5, f0, f3, f12, f13, f14, hm, f46, f0, f3, f5, f12, f13, f14, f45, c3, hz, hz, f44, e2, c6, c7, q1, e3, c8, p1, c9, q2]
            rw [N_lp]
            refine ⟨_, ?_, _, sub_refl _, j + 1, mset x2 true mm, rfl, ?_, ?_, ?_, ?_, ?_, ?_, ?_, by simp (maxDischargeDepth := 9) only [↓gB, gV, gT, reduceIte, reduceCtorEq, Nat.reduceEqDiff, Nat.reduceAdd, Nat.reduceSub, Nat.reduceLeDiff, Nat.reduceLT, Int.reduceEq, Nat.reduceMul, h1, hm, f14, f0, f3, f12, f13, c1, c2, c4, c5, n2, hm, f5, f0, f3, f12, f13, f14, hm, f46, f0, f3, f5, f12, f13, f14, f45, c3, hz, hz, f44, e2, c6, c7, q1, e3, c8, p1, c9, q2, nat_succ, and_self]⟩
            · omega
            · omega
            · (exact nf0 hh m2 (by assumption) (pv_p (by assumption) m3 (by simp [*])) (by assumption); done)
            · exact put_self _ _ _
            · exact (put_not _ _ (Ne.symm (by assumption))).trans (by assumption)
            · exact RSl.ile (by assumption) (ile_put (by assumption) _)
            · exact RSl.ile (by assumption) (ile_put (by assumption) _)
            · exact le_put_new (by assumption) (by assumption) _
          rotate_right 1
          simp (maxDischargeDepth := 9) only [↓gB, gV, gT, reduceIte, reduceCtorEq, Nat.reduceEqDiff, Nat.reduceAdd, Nat.reduceSub, Nat.reduceLeDiff, Nat.reduceLT, Int.reduceEq, Nat.reduceMul, h1, hm, f14, f0, f3, f12, f13, c1, c2, c4, c5, n2, hm, f5, f0, f3, f12, f13, f14, hm, f46, f0, f3, f5, f12, f13, f14, f45, c3, hz, hz, f44, e2, c6, c7, q1, e3, c8, p1, c9]
          refine Kup_val (by simp (maxDischargeDepth := 9) only [le_self, le_puts, le_put0, h1, hle, hle, hle]) ?_
          focus (rw [zf_bad h m1 c2 c4 c5 h0' (nf6 hh m2 (by assumption) (pv_p (by assumption) m3 (by simp [*])) (by assumption)) (by decide)]; done)
    · simp (maxDischargeDepth := 9) only [↓gB, gV, gT, reduceIte, reduceCtorEq, Nat.reduceEqDiff, Nat.reduceAdd, Nat.reduceSub, Nat.reduceLeDiff, Nat.reduceLT, Int.reduceEq, Nat.reduceMul, h1, hm, f14, f0, f3, f12, f13, c1]
      refine Kup_val (by simp (maxDischargeDepth := 9) only [le_self, le_puts, le_put0, h1, hle]) ?_
      focus ((have e : zonesF none l [] = 0 := by (rw [h, List.drop_eq_nil_of_le (by omega)]; rfl)); simp [checkZones, h0', e]; done)
end Go.Proofs.YtnlbapfbdabjaaaDoor
namespace Go.Proofs.YtnlbapfbdabjaaaDoor
open Go Go.GL
attribute [local irreducible] Ycall GCalls
set_option maxRecDepth 10000
set_option maxHeartbeats 0
theorem p119 {G0 : GH} {v : Value} {l : List ByteArray} {t : ByteArray} (hv : RSl Rp.str G0 v l) (hn : (l.length : Int) ≤ 9223372036854775807) : Pure Tryd.prog G0 119 [v, .string t] (V (match l.findIdx? (fun x => decide (x = t)) with | some i => (i : Int) | none => -1)) := by
  intro G hG; replace hv := hv.le hG
  clear hG G0
  refine enter Tryd.func119 19 #[.tmp 4] rfl Tryd.ntmps119 rfl (by decide +kernel) rfl ?_
  obtain ⟨a, c, rfl⟩ := hv.val
  simp (maxDischargeDepth := 9) only [↓gB, gV, gT, reduceIte, reduceCtorEq, Nat.reduceEqDiff, Nat.reduceAdd, Nat.reduceSub, Nat.reduceLeDiff, Nat.reduceLT, Int.reduceEq, Nat.reduceMul]
  focus
    refine Xloop_intro _ _ _ _ _ (fun k f G' => ∃ (i : Nat), k = l.length - i ∧ (i ≤ l.length) ∧ ((l.take i).findIdx? (fun x => decide (x = t)) = none) ∧ (G = G') ∧ f 8 = V i ∧ f 0 = Go.Value.slice a l.length c ∧ f 1 = Go.Value.string t ∧ f 7 = Go.Value.int Go.IntKind.i64 ↑l.length) _ ⟨0, rfl, ?_, ?_, rfl, by simp (maxDischargeDepth := 9) only [↓gB, gV, gT, reduceIte, reduceCtorEq, Nat.reduceEqDiff, Nat.reduceAdd, Nat.reduceSub, Nat.reduceLeDiff, Nat.reduceLT, Int.reduceEq, Nat.reduceMul, and_self]⟩ ?_
    · omega
    · rfl
    rintro k f G' ⟨i, rfl, hi, h, rfl, f8, f0, f1, f7⟩
  simp (maxDischargeDepth := 9) only [↓gB, gV, gT, reduceIte, reduceCtorEq, Nat.reduceEqDiff, Nat.reduceAdd, Nat.reduceSub, Nat.reduceLeDiff, Nat.reduceLT, Int.reduceEq, Nat.reduceMul, f8, f0, f1, f7]
  refine Xc_split _ _ _ _ _ (fun c1 => ?_) (fun c1 => ?_)
  · simp (maxDischargeDepth := 9) only [↓gB, gV, gT, reduceIte, reduceCtorEq, Nat.reduceEqDiff, Nat.reduceAdd, Nat.reduceSub, Nat.reduceLeDiff, Nat.reduceLT, Int.reduceEq, Nat.reduceMul, f8, f0, f1, f7, c1]
    obtain ⟨x1, a1, s1, m1, rfl, rfl, e1⟩ := hv.at1 (i) (by omega) rfl
    simp (maxDischargeDepth := 9) only [↓gB, gV, gT, reduceIte, reduceCtorEq, Nat.reduceEqDiff, Nat.reduceAdd, Nat.reduceSub, Nat.reduceLeDiff, Nat.reduceLT, Int.reduceEq, Nat.reduceMul, f8, f1, f7, c1, f0, e1]
    refine vguard_intro (by simp) ?_
    by_cases hq : t = x1
    · have e := drop_at m1
      have e2 : l.findIdx? (fun x => decide (x = t)) = some i := by
        rw [← List.take_append_drop i l, List.findIdx?_append, h, e, List.findIdx?_cons, hq]; simp; omega
      simp (maxDischargeDepth := 9) only [↓gB, gV, gT, reduceIte, reduceCtorEq, Nat.reduceEqDiff, Nat.reduceAdd, Nat.reduceSub, Nat.reduceLeDiff, Nat.reduceLT, Int.reduceEq, Nat.reduceMul, f8, f1, f7, c1, f0, e1, hq]
      refine Kup_val (le_refl _) ?_
      focus (simp [← hq, e2]; done)
    · focus
        simp (maxDischargeDepth := 9) only [↓gB, gV, gT, reduceIte, reduceCtorEq, Nat.reduceEqDiff, Nat.reduceAdd, Nat.reduceSub, Nat.reduceLeDiff, Nat.reduceLT, Int.reduceEq, Nat.reduceMul, f8, f1, f7, c1, f0, e1, hq]
        have q1 : Go.IntKind.i64.wrap (↑i + 1) = ↑i + 1 := wrap_id (by omega)
        simp (maxDischargeDepth := 9) only [↓gB, gV, gT, reduceIte, reduceCtorEq, Nat.reduceEqDiff, Nat.reduceAdd, Nat.reduceSub, Nat.reduceLeDiff, Nat.reduceLT, Int.reduceEq, Nat.reduceMul, f8, f1, f7, c1, f0, e1, q1, hq]
        rw [N_lp]
        refine ⟨_, ?_, _, ?_, i + 1, rfl, ?_, ?_, rfl, by simp (maxDischargeDepth := 9) only [↓gB, gV, gT, reduceIte, reduceCtorEq, Nat.reduceEqDiff, Nat.reduceAdd, Nat.reduceSub, Nat.reduceLeDiff, Nat.reduceLT, Int.reduceEq, Nat.reduceMul, f8, f1, f7, c1, f0, e1, q1, hq, nat_succ, and_self]⟩
        · omega
        · exact sub_refl _
        · omega
        · ((rw [take_at m1, List.findIdx?_append, h]; simp [Ne.symm hq]); done)
  · have e : l.findIdx? (fun x => decide (x = t)) = none := by rw [← List.take_of_length_le (l := l) (i := i) (by omega), h]
    simp (maxDischargeDepth := 9) only [↓gB, gV, gT, reduceIte, reduceCtorEq, Nat.reduceEqDiff, Nat.reduceAdd, Nat.reduceSub, Nat.reduceLeDiff, Nat.reduceLT, Int.reduceEq, Nat.reduceMul, f8, f0, f1, f7, c1]
    exact Kup_val (le_refl _) (by simp [*])
theorem idx_has (l : List ByteArray) (t : ByteArray) : decide (0 ≤ (match l.findIdx? (fun x => decide (x = t)) with | some i => (i : Int) | none => -1)) = has t l := by
  cases h : l.findIdx? (fun x => decide (x = t)) with
  | none =>
    rw [List.findIdx?_eq_none_iff] at h
    have : has t l = false := by unfold has; rw [List.any_eq_false]; intro x hx; have := h x hx; simp at this ⊢; exact this
    rw [this]; rfl
  | some i =>
    rw [List.findIdx?_eq_some_iff_getElem] at h
    obtain ⟨hi, h1, _⟩ := h
    have : has t l = true := by unfold has; exact List.any_eq_true.2 ⟨l[i], by simp, h1⟩
    rw [this]; simp
theorem p80 {G0 : GH} {v : Value} {l : List ByteArray} {t : ByteArray} (hv : RSl Rp.str G0 v l) (hn : (l.length : Int) ≤ 9223372036854775807) : Pure Tryd.prog G0 80 [v, .string t] (.bool (has t l)) := by
  intro G hG; replace hv := hv.le hG
  clear hG G0
  refine enter Tryd.func80 9 #[.tmp 4] rfl Tryd.ntmps80 rfl (by decide +kernel) rfl ?_
  have e := idx_has l t
  simp (maxDischargeDepth := 9) only [↓gB, gV, gT, reduceIte, reduceCtorEq, Nat.reduceEqDiff, Nat.reduceAdd, Nat.reduceSub, Nat.reduceLeDiff, Nat.reduceLT, Int.reduceEq, Nat.reduceMul, e]
  refine Ycp (p119 (by assumption) (by assumption)) ?_
  simp (maxDischargeDepth := 9) only [↓gB, gV, gT, reduceIte, reduceCtorEq, Nat.reduceEqDiff, Nat.reduceAdd, Nat.reduceSub, Nat.reduceLeDiff, Nat.reduceLT, Int.reduceEq, Nat.reduceMul, e]
  exact Kup_val (le_refl _) rfl
end Go.Proofs.YtnlbapfbdabjaaaDoor
namespace Go.Proofs.YtnlbapfbdabjaaaDoor
open Go Go.GL
attribute [local irreducible] Ycall GCalls
set_option maxRecDepth 10000
set_option maxHeartbeats 0
def keyF (s : ByteArray) : Int := if isKey s then 0 else 5
def namesF (l : List ByteArray) (n : Int) : Int := if n < l.length then 2 else if l.any (fun s => !isKey s) then 5 else 0
theorem p29 {G0 : GH} {s : ByteArray}  : Pure Tryd.prog G0 29 [.string s] (V (keyF s)) := by
  intro G hG
  clear hG G0
  refine enter Tryd.func29 6 #[.tmp 2] rfl Tryd.ntmps29 rfl (by decide +kernel) rfl ?_
  focus
    simp (maxDischargeDepth := 9) only [↓gB, gV, gT, reduceIte, reduceCtorEq, Nat.reduceEqDiff, Nat.reduceAdd, Nat.reduceSub, Nat.reduceLeDiff, Nat.reduceLT, Int.reduceEq, Nat.reduceMul, keyF]
    refine Ycp (p77) ?_
    simp (maxDischargeDepth := 9) only [↓gB, gV, gT, reduceIte, reduceCtorEq, Nat.reduceEqDiff, Nat.reduceAdd, Nat.reduceSub, Nat.reduceLeDiff, Nat.reduceLT, Int.reduceEq, Nat.reduceMul, keyF]
    rcases bool_tf (Go.Proofs.YtnlbapfbdabjaaaDoor.isKey s) with c1 | c1
    rotate_left 1
    focus
      simp (maxDischargeDepth := 9) only [↓gB, gV, gT, reduceIte, reduceCtorEq, Nat.reduceEqDiff, Nat.reduceAdd, Nat.reduceSub, Nat.reduceLeDiff, Nat.reduceLT, Int.reduceEq, Nat.reduceMul, c1, keyF]
      exact Kup_val (le_refl _) rfl
    rotate_right 1
    simp (maxDischargeDepth := 9) only [↓gB, gV, gT, reduceIte, reduceCtorEq, Nat.reduceEqDiff, Nat.reduceAdd, Nat.reduceSub, Nat.reduceLeDiff, Nat.reduceLT, Int.reduceEq, Nat.reduceMul, c1, keyF]
    exact Kup_val (le_refl _) rfl
theorem p85 {G0 : GH} {s : ByteArray}  : Pure Tryd.prog G0 85 [.string s] (.bool (!isKey s)) := by
  intro G hG
  clear hG G0
  refine enter Tryd.func85 6 #[.tmp 2] rfl Tryd.ntmps85 rfl (by decide +kernel) rfl ?_
  simp (maxDischargeDepth := 9) only [↓gB, gV, gT, reduceIte, reduceCtorEq, Nat.reduceEqDiff, Nat.reduceAdd, Nat.reduceSub, Nat.reduceLeDiff, Nat.reduceLT, Int.reduceEq, Nat.reduceMul]
  refine Ycp (p77) ?_
  simp (maxDischargeDepth := 9) only [↓gB, gV, gT, reduceIte, reduceCtorEq, Nat.reduceEqDiff, Nat.reduceAdd, Nat.reduceSub, Nat.reduceLeDiff, Nat.reduceLT, Int.reduceEq, Nat.reduceMul]
  exact Kup_val (le_refl _) rfl
theorem p120 {G0 : GH} {s : ByteArray}  : Pure Tryd.prog G0 120 [.string s] (.bool (!isKey s)) := by
  intro G hG
  clear hG G0
  refine enter Tryd.func120 6 #[.tmp 2] rfl Tryd.ntmps120 rfl (by decide +kernel) rfl ?_
  simp (maxDischargeDepth := 9) only [↓gB, gV, gT, reduceIte, reduceCtorEq, Nat.reduceEqDiff, Nat.reduceAdd, Nat.reduceSub, Nat.reduceLeDiff, Nat.reduceLT, Int.reduceEq, Nat.reduceMul]
  refine Ycp (p78) ?_
  simp (maxDischargeDepth := 9) only [↓gB, gV, gT, reduceIte, reduceCtorEq, Nat.reduceEqDiff, Nat.reduceAdd, Nat.reduceSub, Nat.reduceLeDiff, Nat.reduceLT, Int.reduceEq, Nat.reduceMul]
  exact Kup_val (le_refl _) rfl
theorem enA : GL.Enters Tryd.prog 85 := of_eq_true en85
theorem enB : GL.Enters Tryd.prog 120 := of_eq_true en120
theorem conA {G0 : GH} {v : Value} {l : List ByteArray} (hn : (l.length : Int) ≤ 9223372036854775807) (hv : RSl Rp.str G0 v l) : Pure Tryd.prog G0 84 [v, .func (.func 85) #[] #[]] (.bool (l.any fun s => !isKey s)) :=
  p84 (q := fun s => !isKey s) (fa := []) (fb := []) hv enA hn (fun G' h x cs hx => p85)
theorem conB {G0 : GH} {v : Value} {l : List ByteArray} (hn : (l.length : Int) ≤ 9223372036854775807) (hv : RSl Rp.str G0 v l) : Pure Tryd.prog G0 84 [v, .func (.func 120) #[] #[]] (.bool (l.any fun s => !isKey s)) :=
  p84 (q := fun s => !isKey s) (fa := []) (fb := []) hv enB hn (fun G' h x cs hx => p120)
theorem p32 {G0 : GH} {v : Value} {l : List ByteArray} {n : Int} (hv : RSl Rp.str G0 v l) (hn : (l.length : Int) ≤ 9223372036854775807) : Pure Tryd.prog G0 32 [v, V n] (V (namesF l n)) := by
  intro G hG; replace hv := hv.le hG
  clear hG G0
  refine enter Tryd.func32 11 #[.tmp 4] rfl Tryd.ntmps32 rfl (by decide +kernel) rfl ?_
  obtain ⟨a, c, rfl⟩ := hv.val
  focus
    simp (maxDischargeDepth := 9) only [↓gB, gV, gT, reduceIte, reduceCtorEq, Nat.reduceEqDiff, Nat.reduceAdd, Nat.reduceSub, Nat.reduceLeDiff, Nat.reduceLT, Int.reduceEq, Nat.reduceMul]
    refine Xc_split _ _ _ _ _ (fun c1 => ?_) (fun c1 => ?_)
    rotate_left 1
    focus
      simp (maxDischargeDepth := 9) only [↓gB, gV, gT, reduceIte, reduceCtorEq, Nat.reduceEqDiff, Nat.reduceAdd, Nat.reduceSub, Nat.reduceLeDiff, Nat.reduceLT, Int.reduceEq, Nat.reduceMul, c1]
    rotate_right 1
    simp (maxDischargeDepth := 9) only [↓gB, gV, gT, reduceIte, reduceCtorEq, Nat.reduceEqDiff, Nat.reduceAdd, Nat.reduceSub, Nat.reduceLeDiff, Nat.reduceLT, Int.reduceEq, Nat.reduceMul, c1]
    refine Kup_val (le_refl _) ?_
    focus ((have q : n < l.length := by omega); simp [namesF, q]; done)
  refine Ycp (conA (by omega) hv) ?_
  focus
    simp (maxDischargeDepth := 9) only [↓gB, gV, gT, reduceIte, reduceCtorEq, Nat.reduceEqDiff, Nat.reduceAdd, Nat.reduceSub, Nat.reduceLeDiff, Nat.reduceLT, Int.reduceEq, Nat.reduceMul, c1]
    rcases bool_tf (l.any fun s ↦ !Go.Proofs.YtnlbapfbdabjaaaDoor.isKey s) with c2 | c2
    rotate_left 1
    focus
      simp (maxDischargeDepth := 9) only [↓gB, gV, gT, reduceIte, reduceCtorEq, Nat.reduceEqDiff, Nat.reduceAdd, Nat.reduceSub, Nat.reduceLeDiff, Nat.reduceLT, Int.reduceEq, Nat.reduceMul, c1, c2]
      refine Kup_val (le_refl _) ?_
      focus ((have q : ¬ n < l.length := by omega); simp [namesF, q, *]; done)
    rotate_right 1
    simp (maxDischargeDepth := 9) only [↓gB, gV, gT, reduceIte, reduceCtorEq, Nat.reduceEqDiff, Nat.reduceAdd, Nat.reduceSub, Nat.reduceLeDiff, Nat.reduceLT, Int.reduceEq, Nat.reduceMul, c1, c2]
    refine Kup_val (le_refl _) ?_
    focus ((have q : ¬ n < l.length := by omega); simp [namesF, q, *]; done)
theorem p82 {G0 : GH} {v : Value} {l : List ByteArray} (hv : RSl Rp.str G0 v l) (hn : (l.length : Int) ≤ 9223372036854775807) : Pure Tryd.prog G0 82 [v] (V (namesF l 2000)) := by
  intro G hG; replace hv := hv.le hG
  clear hG G0
  refine enter Tryd.func82 8 #[.tmp 2] rfl Tryd.ntmps82 rfl (by decide +kernel) rfl ?_
  obtain ⟨a, c, rfl⟩ := hv.val
  focus
    simp (maxDischargeDepth := 9) only [↓gB, gV, gT, reduceIte, reduceCtorEq, Nat.reduceEqDiff, Nat.reduceAdd, Nat.reduceSub, Nat.reduceLeDiff, Nat.reduceLT, Int.reduceEq, Nat.reduceMul]
    refine Xc_split _ _ _ _ _ (fun c1 => ?_) (fun c1 => ?_)
    rotate_left 1
    focus
      simp (maxDischargeDepth := 9) only [↓gB, gV, gT, reduceIte, reduceCtorEq, Nat.reduceEqDiff, Nat.reduceAdd, Nat.reduceSub, Nat.reduceLeDiff, Nat.reduceLT, Int.reduceEq, Nat.reduceMul, c1]
    rotate_right 1
    simp (maxDischargeDepth := 9) only [↓gB, gV, gT, reduceIte, reduceCtorEq, Nat.reduceEqDiff, Nat.reduceAdd, Nat.reduceSub, Nat.reduceLeDiff, Nat.reduceLT, Int.reduceEq, Nat.reduceMul, c1]
    refine Kup_val (le_refl _) ?_
    focus ((have q : (2000 : Int) < l.length := by omega); simp [namesF, q]; done)
  refine Ycp (conB (by omega) hv) ?_
  focus
    simp (maxDischargeDepth := 9) only [↓gB, gV, gT, reduceIte, reduceCtorEq, Nat.reduceEqDiff, Nat.reduceAdd, Nat.reduceSub, Nat.reduceLeDiff, Nat.reduceLT, Int.reduceEq, Nat.reduceMul, c1]
    rcases bool_tf (l.any fun s ↦ !Go.Proofs.YtnlbapfbdabjaaaDoor.isKey s) with c2 | c2
    rotate_left 1
    focus
      simp (maxDischargeDepth := 9) only [↓gB, gV, gT, reduceIte, reduceCtorEq, Nat.reduceEqDiff, Nat.reduceAdd, Nat.reduceSub, Nat.reduceLeDiff, Nat.reduceLT, Int.reduceEq, Nat.reduceMul, c1, c2]
      refine Kup_val (le_refl _) ?_
      focus ((have q : ¬ (2000 : Int) < l.length := by omega); simp [namesF, q, *]; done)
    rotate_right 1
    simp (maxDischargeDepth := 9) only [↓gB, gV, gT, reduceIte, reduceCtorEq, Nat.reduceEqDiff, Nat.reduceAdd, Nat.reduceSub, Nat.reduceLeDiff, Nat.reduceLT, Int.reduceEq, Nat.reduceMul, c1, c2]
    refine Kup_val (le_refl _) ?_
    focus ((have q : ¬ (2000 : Int) < l.length := by omega); simp [namesF, q, *]; done)
def zoneFor (l : List SZone) (n : ByteArray) : ByteArray := match l.find? (fun z => has n z.Nodes) with | some z => z.Key | none => ⟨#[]⟩
theorem zoneFor_step {l : List SZone} {i : Nat} {n : ByteArray} {z : SZone} (h : zoneFor l n = zoneFor (l.drop i) n) (m : l[i]? = some z) : (has n z.Nodes = true → zoneFor l n = z.Key) ∧ (has n z.Nodes = false → zoneFor l n = zoneFor (l.drop (i + 1)) n) := by
  rw [h, drop_at m]
  constructor <;> intro q <;> simp [zoneFor, List.find?_cons, q]
theorem zoneFor_end {l : List SZone} {i : Nat} {n : ByteArray} (h : zoneFor l n = zoneFor (l.drop i) n) (hi : ¬ (i : Int) < l.length) : zoneFor l n = ⟨#[]⟩ := by
  rw [h, List.drop_eq_nil_of_le (by omega)]; rfl
theorem p30 {G0 : GH} {v : Value} {l : List SZone} {n : ByteArray} (hv : RSl rZone G0 v l) (hn : (l.length : Int) ≤ 9223372036854775807) (hz : ∀ z ∈ l, z.Nodes.length ≤ 500 ∧ sorted z.Nodes) : Pure Tryd.prog G0 30 [v, .string n] (.string (zoneFor l n)) := by
  intro G hG; replace hv := hv.le hG
  clear hG G0
  refine enter Tryd.func30 20 #[.tmp 4] rfl Tryd.ntmps30 rfl (by decide +kernel) rfl ?_
  obtain ⟨a, c, rfl⟩ := hv.val
  simp (maxDischargeDepth := 9) only [↓gB, gV, gT, reduceIte, reduceCtorEq, Nat.reduceEqDiff, Nat.reduceAdd, Nat.reduceSub, Nat.reduceLeDiff, Nat.reduceLT, Int.reduceEq, Nat.reduceMul]
  focus
    refine Xloop_intro _ _ _ _ _ (fun k f G' => ∃ (i : Nat), k = l.length - i ∧ (i ≤ l.length) ∧ (zoneFor l n = zoneFor (l.drop i) n) ∧ (RSl rZone G' (.slice a l.length c) l) ∧ (G.le G') ∧ f 9 = V i ∧ f 1 = Go.Value.string n ∧ f 7 = Go.Value.slice a l.length c ∧ f 8 = Go.Value.int Go.IntKind.i64 ↑l.length) _ ⟨0, rfl, ?_, ?_, ?_, ?_, by simp (maxDischargeDepth := 9) only [↓gB, gV, gT, reduceIte, reduceCtorEq, Nat.reduceEqDiff, Nat.reduceAdd, Nat.reduceSub, Nat.reduceLeDiff, Nat.reduceLT, Int.reduceEq, Nat.reduceMul, and_self]⟩ ?_
    · omega
    · rfl
    · assumption
    · exact le_refl _
    rintro k f G' ⟨i, rfl, hi, h, hv, hle, f9, f1, f7, f8⟩
  simp (maxDischargeDepth := 9) only [↓gB, gV, gT, reduceIte, reduceCtorEq, Nat.reduceEqDiff, Nat.reduceAdd, Nat.reduceSub, Nat.reduceLeDiff, Nat.reduceLT, Int.reduceEq, Nat.reduceMul, f9, f1, f7, f8]
  refine Xc_split _ _ _ _ _ (fun c1 => ?_) (fun c1 => ?_)
  · obtain ⟨z, hzi⟩ : ∃ z, l[i]? = some z := ⟨_, List.getElem?_eq_getElem (by omega)⟩
    have hz1 := (hz z (List.mem_of_getElem? hzi)).1
    have hz2 := (hz z (List.mem_of_getElem? hzi)).2
    simp (maxDischargeDepth := 9) only [↓gB, gV, gT, reduceIte, reduceCtorEq, Nat.reduceEqDiff, Nat.reduceAdd, Nat.reduceSub, Nat.reduceLeDiff, Nat.reduceLT, Int.reduceEq, Nat.reduceMul, f9, f1, f7, f8, c1]
    obtain ⟨x1, a1, s1, m1, rfl, ⟨v1, rfl, w1⟩, e1⟩ := hv.at (i) (by omega) 2 rfl
    obtain ⟨aw1, cw1, rfl⟩ := RSl.val w1
    simp (maxDischargeDepth := 9) only [↓gB, gV, gT, reduceIte, reduceCtorEq, Nat.reduceEqDiff, Nat.reduceAdd, Nat.reduceSub, Nat.reduceLeDiff, Nat.reduceLT, Int.reduceEq, Nat.reduceMul, f9, f1, f8, c1, f7, e1]
    refine vguard_intro (by simp) ?_
    refine Yn2 fun r1 h1 => ?_
    simp (maxDischargeDepth := 9) only [↓gB, gV, gT, reduceIte, reduceCtorEq, Nat.reduceEqDiff, Nat.reduceAdd, Nat.reduceSub, Nat.reduceLeDiff, Nat.reduceLT, Int.reduceEq, Nat.reduceMul, f9, f1, f8, c1, f7, e1, h1]
    obtain rfl : z = x1 := by rw [hzi] at m1; cases m1; rfl
    focus
      refine Ycp (p80 (by exact RSl.put _ (by assumption) (by assumption)) (by omega)) ?_
      simp (maxDischargeDepth := 9) only [↓gB, gV, gT, reduceIte, reduceCtorEq, Nat.reduceEqDiff, Nat.reduceAdd, Nat.reduceSub, Nat.reduceLeDiff, Nat.reduceLT, Int.reduceEq, Nat.reduceMul, f9, f1, f8, c1, f7, h1, e1]
      rcases bool_tf (Go.Proofs.YtnlbapfbdabjaaaDoor.has n z.Nodes) with c2 | c2
      rotate_left 1
      focus
        simp (maxDischargeDepth := 9) only [↓gB, gV, gT, reduceIte, reduceCtorEq, Nat.reduceEqDiff, Nat.reduceAdd, Nat.reduceSub, Nat.reduceLeDiff, Nat.reduceLT, Int.reduceEq, Nat.reduceMul, f9, f1, f8, c1, f7, h1, e1, c2]
        have q1 : Go.IntKind.i64.wrap (↑i + 1) = ↑i + 1 := wrap_id (by omega)
        simp (maxDischargeDepth := 9) only [↓gB, gV, gT, reduceIte, reduceCtorEq, Nat.reduceEqDiff, Nat.reduceAdd, Nat.reduceSub, Nat.reduceLeDiff, Nat.reduceLT, Int.reduceEq, Nat.reduceMul, f9, f1, f8, c1, f7, h1, e1, c2, q1]
        rw [N_lp]
        refine ⟨_, ?_, _, sub_refl _, i + 1, rfl, ?_, ?_, ?_, ?_, by simp (maxDischargeDepth := 9) only [↓gB, gV, gT, reduceIte, reduceCtorEq, Nat.reduceEqDiff, Nat.reduceAdd, Nat.reduceSub, Nat.reduceLeDiff, Nat.reduceLT, Int.reduceEq, Nat.reduceMul, f9, f1, f8, c1, f7, h1, e1, c2, q1, nat_succ, and_self]⟩
        · omega
        · omega
        · (exact (zoneFor_step h hzi).2 (by assumption); done)
        · exact RSl.put _ (by assumption) (by assumption)
        · (simp (maxDischargeDepth := 9) only [le_self, le_puts, le_put0, sub_self, sub_puts, sub_put0, hle, h1]; done)
      rotate_right 1
      simp (maxDischargeDepth := 9) only [↓gB, gV, gT, reduceIte, reduceCtorEq, Nat.reduceEqDiff, Nat.reduceAdd, Nat.reduceSub, Nat.reduceLeDiff, Nat.reduceLT, Int.reduceEq, Nat.reduceMul, f9, f1, f8, c1, f7, h1, e1, c2]
      refine Kup_val (by simp (maxDischargeDepth := 9) only [le_self, le_puts, le_put0, hle, h1]) ?_
      focus (rw [(zoneFor_step h hzi).1 (by assumption)]; done)
  · simp (maxDischargeDepth := 9) only [↓gB, gV, gT, reduceIte, reduceCtorEq, Nat.reduceEqDiff, Nat.reduceAdd, Nat.reduceSub, Nat.reduceLeDiff, Nat.reduceLT, Int.reduceEq, Nat.reduceMul, f9, f1, f7, f8, c1]
    refine Kup_val (by simp (maxDischargeDepth := 9) only [le_self, le_puts, le_put0, hle]) ?_
    focus (rw [zoneFor_end h c1]; done)
theorem p79 {G0 : GH} {v : Value} {l : List SZone} {n : ByteArray} (hv : RSl rZone G0 v l) (hn : (l.length : Int) ≤ 9223372036854775807) (hz : ∀ z ∈ l, z.Nodes.length ≤ 500 ∧ sorted z.Nodes) : Pure Tryd.prog G0 79 [v, .string n] (.string (zoneFor l n)) := by
  intro G hG; replace hv := hv.le hG
  clear hG G0
  refine enter Tryd.func79 26 #[.tmp 4] rfl Tryd.ntmps79 rfl (by decide +kernel) rfl ?_
  obtain ⟨a, c, rfl⟩ := hv.val
  simp (maxDischargeDepth := 9) only [↓gB, gV, gT, reduceIte, reduceCtorEq, Nat.reduceEqDiff, Nat.reduceAdd, Nat.reduceSub, Nat.reduceLeDiff, Nat.reduceLT, Int.reduceEq, Nat.reduceMul]
  focus
    refine Xloop_intro _ _ _ _ _ (fun k f G' => ∃ (i : Nat), k = l.length - i ∧ (i ≤ l.length) ∧ (zoneFor l n = zoneFor (l.drop i) n) ∧ (RSl rZone G' (.slice a l.length c) l) ∧ (G.le G') ∧ f 11 = V i ∧ f 1 = Go.Value.string n ∧ f 9 = Go.Value.slice a l.length c ∧ f 10 = Go.Value.int Go.IntKind.i64 ↑l.length) _ ⟨0, rfl, ?_, ?_, ?_, ?_, by simp (maxDischargeDepth := 9) only [↓gB, gV, gT, reduceIte, reduceCtorEq, Nat.reduceEqDiff, Nat.reduceAdd, Nat.reduceSub, Nat.reduceLeDiff, Nat.reduceLT, Int.reduceEq, Nat.reduceMul, and_self]⟩ ?_
    · omega
    · rfl
    · assumption
    · exact le_refl _
    rintro k f G' ⟨i, rfl, hi, h, hv, hle, f11, f1, f9, f10⟩
  simp (maxDischargeDepth := 9) only [↓gB, gV, gT, reduceIte, reduceCtorEq, Nat.reduceEqDiff, Nat.reduceAdd, Nat.reduceSub, Nat.reduceLeDiff, Nat.reduceLT, Int.reduceEq, Nat.reduceMul, f11, f1, f9, f10]
  refine Xc_split _ _ _ _ _ (fun c1 => ?_) (fun c1 => ?_)
  · obtain ⟨z, hzi⟩ : ∃ z, l[i]? = some z := ⟨_, List.getElem?_eq_getElem (by omega)⟩
    have hz1 := (hz z (List.mem_of_getElem? hzi)).1
    have hz2 := (hz z (List.mem_of_getElem? hzi)).2
    simp (maxDischargeDepth := 9) only [↓gB, gV, gT, reduceIte, reduceCtorEq, Nat.reduceEqDiff, Nat.reduceAdd, Nat.reduceSub, Nat.reduceLeDiff, Nat.reduceLT, Int.reduceEq, Nat.reduceMul, f11, f1, f9, f10, c1]
    obtain ⟨x1, a1, s1, m1, rfl, ⟨v1, rfl, w1⟩, e1⟩ := hv.at (i) (by omega) 2 rfl
    obtain ⟨aw1, cw1, rfl⟩ := RSl.val w1
    simp (maxDischargeDepth := 9) only [↓gB, gV, gT, reduceIte, reduceCtorEq, Nat.reduceEqDiff, Nat.reduceAdd, Nat.reduceSub, Nat.reduceLeDiff, Nat.reduceLT, Int.reduceEq, Nat.reduceMul, f11, f1, f10, c1, f9, e1]
    refine vguard_intro (by simp) ?_
    refine Yn2 fun r1 h1 => ?_
    simp (maxDischargeDepth := 9) only [↓gB, gV, gT, reduceIte, reduceCtorEq, Nat.reduceEqDiff, Nat.reduceAdd, Nat.reduceSub, Nat.reduceLeDiff, Nat.reduceLT, Int.reduceEq, Nat.reduceMul, f11, f1, f10, c1, f9, e1, h1]
    obtain rfl : z = x1 := by rw [hzi] at m1; cases m1; rfl
    focus
      refine Ycp (p118 (by exact RSl.put _ (by assumption) (by assumption)) (by omega) (by assumption)) ?_
      simp (maxDischargeDepth := 9) only [↓gB, gV, gT, reduceIte, reduceCtorEq, Nat.reduceEqDiff, Nat.reduceAdd, Nat.reduceSub, Nat.reduceLeDiff, Nat.reduceLT, Int.reduceEq, Nat.reduceMul, f11, f1, f10, c1, f9, h1, e1]
      rcases bool_tf (Go.Proofs.YtnlbapfbdabjaaaDoor.has n z.Nodes) with c2 | c2
      rotate_left 1
      focus
        simp (maxDischargeDepth := 9) only [↓gB, gV, gT, reduceIte, reduceCtorEq, Nat.reduceEqDiff, Nat.reduceAdd, Nat.reduceSub, Nat.reduceLeDiff, Nat.reduceLT, Int.reduceEq, Nat.reduceMul, f11, f1, f10, c1, f9, h1, e1, c2]
        have q1 : Go.IntKind.i64.wrap (↑i + 1) = ↑i + 1 := wrap_id (by omega)
        simp (maxDischargeDepth := 9) only [↓gB, gV, gT, reduceIte, reduceCtorEq, Nat.reduceEqDiff, Nat.reduceAdd, Nat.reduceSub, Nat.reduceLeDiff, Nat.reduceLT, Int.reduceEq, Nat.reduceMul, f11, f1, f10, c1, f9, h1, e1, c2, q1]
        rw [N_lp]
        refine ⟨_, ?_, _, sub_refl _, i + 1, rfl, ?_, ?_, ?_, ?_, by simp (maxDischargeDepth := 9) only [↓gB, gV, gT, reduceIte, reduceCtorEq, Nat.reduceEqDiff, Nat.reduceAdd, Nat.reduceSub, Nat.reduceLeDiff, Nat.reduceLT, Int.reduceEq, Nat.reduceMul, f11, f1, f10, c1, f9, h1, e1, c2, q1, nat_succ, and_self]⟩
        · omega
        · omega
        · (exact (zoneFor_step h hzi).2 (by assumption); done)
        · exact RSl.put _ (by assumption) (by assumption)
        · (simp (maxDischargeDepth := 9) only [le_self, le_puts, le_put0, sub_self, sub_puts, sub_put0, hle, h1]; done)
      rotate_right 1
      simp (maxDischargeDepth := 9) only [↓gB, gV, gT, reduceIte, reduceCtorEq, Nat.reduceEqDiff, Nat.reduceAdd, Nat.reduceSub, Nat.reduceLeDiff, Nat.reduceLT, Int.reduceEq, Nat.reduceMul, f11, f1, f10, c1, f9, h1, e1, c2]
      refine Kup_val (by simp (maxDischargeDepth := 9) only [le_self, le_puts, le_put0, hle, h1]) ?_
      focus (rw [(zoneFor_step h hzi).1 (by assumption)]; done)
  · simp (maxDischargeDepth := 9) only [↓gB, gV, gT, reduceIte, reduceCtorEq, Nat.reduceEqDiff, Nat.reduceAdd, Nat.reduceSub, Nat.reduceLeDiff, Nat.reduceLT, Int.reduceEq, Nat.reduceMul, f11, f1, f9, f10, c1]
    refine Kup_val (by simp (maxDischargeDepth := 9) only [le_self, le_puts, le_put0, hle]) ?_
    focus (rw [zoneFor_end h c1]; done)
end Go.Proofs.YtnlbapfbdabjaaaDoor
namespace Go.Proofs.YtnlbapfbdabjaaaDoor
open Go Go.GL
attribute [local irreducible] Ycall GCalls
set_option maxRecDepth 10000
set_option maxHeartbeats 0
theorem nodes_ok : ∀ {p : Option ByteArray} {l : List ByteArray} {m : Seen}, (nodesF p l m).1 = 0 → sorted l ∧ (∀ q, p = some q → ∀ x ∈ l, sLt q x = true) ∧ ∀ x ∈ l, isKey x = true
  | _, [], _, _ => ⟨List.Pairwise.nil, by simp, by simp⟩
  | p, n :: l, m, h => by
    unfold nodesF at h
    split at h
    · cases h
    · rename_i hk
      split at h
      · cases h
      · rename_i hp
        split at h
        · cases h
        · obtain ⟨h1, h2, h3⟩ := nodes_ok h
          refine ⟨List.pairwise_cons.2 ⟨fun y hy => h2 n rfl y hy, h1⟩, ?_, ?_⟩
          · rintro q rfl x hx
            have hq : sLt q n = true := by simpa using hp
            rcases List.mem_cons.1 hx with rfl | hx
            · exact hq
            · exact sLt_trans hq (h2 n rfl x hx)
          · intro x hx
            rcases List.mem_cons.1 hx with rfl | hx
            · simpa using hk
            · exact h3 x hx
theorem zones_ok : ∀ {p : Option SZone} {l : List SZone} {m : Seen}, zonesF p l m = 0 → (∀ z ∈ l, isKey z.Key = true ∧ z.Nodes.length ≤ 500 ∧ sorted z.Nodes ∧ ∀ x ∈ z.Nodes, isKey x = true)
  | _, [], _, _ => by simp
  | p, z :: l, m, h => by
    unfold zonesF at h
    split at h
    · cases h
    · rename_i hk
      split at h
      · cases h
      · split at h
        · cases h
        · rename_i hn
          split at h
          · rename_i h1; exact absurd h h1
          · rename_i h1
            have h1 : (nodesF none z.Nodes m).1 = 0 := by omega
            obtain ⟨a1, _, a3⟩ := nodes_ok h1
            intro y hy
            rcases List.mem_cons.1 hy with rfl | hy
            · exact ⟨by simpa using hk, by omega, a1, a3⟩
            · exact zones_ok h y hy
theorem cz_ok {l : List SZone} (h : checkZones l = 0) : l.length ≤ 100 ∧ ∀ z ∈ l, isKey z.Key = true ∧ z.Nodes.length ≤ 500 ∧ sorted z.Nodes ∧ ∀ x ∈ z.Nodes, isKey x = true := by
  unfold checkZones at h
  split at h
  · cases h
  · exact ⟨by omega, zones_ok h⟩
theorem cz_z {l : List SZone} (h : checkZones l = 0) : ∀ z ∈ l, z.Nodes.length ≤ 500 ∧ sorted z.Nodes := fun z hz => ⟨((cz_ok h).2 z hz).2.1, ((cz_ok h).2 z hz).2.2.1⟩
def zoneOfF (l : List SZone) (n : ByteArray) : Int := orOf [checkZones l, keyF n]
theorem p28 {G0 : GH} {v : Value} {l : List SZone} {n : ByteArray} (hv : RSl rZone G0 v l) (hn : (l.length : Int) ≤ 9223372036854775807) : Pure Tryd.prog G0 28 [v, .string n] (if zoneOfF l n = 0 then .tuple #[.string (zoneFor l n), .bool (!decide (zoneFor l n = ⟨#[]⟩)), V 0] else .tuple #[.string ⟨#[]⟩, .bool false, V (zoneOfF l n)]) := by
  intro G hG; replace hv := hv.le hG
  clear hG G0
  refine enter Tryd.func28 23 #[.tmp 4, .tmp 5, .tmp 6] rfl Tryd.ntmps28 rfl (by decide +kernel) rfl ?_
  by_cases hz : checkZones l = 0
  · have hzz := cz_z hz
    cases hk : isKey n
    · have e : zoneOfF l n = 5 := by simp [zoneOfF, orOf, keyF, hz, hk]
      simp (maxDischargeDepth := 9) only [↓gB, gV, gT, reduceIte, reduceCtorEq, Nat.reduceEqDiff, Nat.reduceAdd, Nat.reduceSub, Nat.reduceLeDiff, Nat.reduceLT, Int.reduceEq, Nat.reduceMul, hk, hz, e]
      refine Ycp (p26 (by assumption) (by assumption)) ?_
      simp (maxDischargeDepth := 9) only [↓gB, gV, gT, reduceIte, reduceCtorEq, Nat.reduceEqDiff, Nat.reduceAdd, Nat.reduceSub, Nat.reduceLeDiff, Nat.reduceLT, Int.reduceEq, Nat.reduceMul, hk, hz, e]
      refine Ycp (p78) ?_
      simp (maxDischargeDepth := 9) only [↓gB, gV, gT, reduceIte, reduceCtorEq, Nat.reduceEqDiff, Nat.reduceAdd, Nat.reduceSub, Nat.reduceLeDiff, Nat.reduceLT, Int.reduceEq, Nat.reduceMul, hk, hz, e]
      exact Kup_val (le_refl _) rfl
    · have e : zoneOfF l n = 0 := by simp [zoneOfF, orOf, keyF, hz, hk]
      simp (maxDischargeDepth := 9) only [↓gB, gV, gT, reduceIte, reduceCtorEq, Nat.reduceEqDiff, Nat.reduceAdd, Nat.reduceSub, Nat.reduceLeDiff, Nat.reduceLT, Int.reduceEq, Nat.reduceMul, hk, hz, e]
      refine Ycp (p26 (by assumption) (by assumption)) ?_
      simp (maxDischargeDepth := 9) only [↓gB, gV, gT, reduceIte, reduceCtorEq, Nat.reduceEqDiff, Nat.reduceAdd, Nat.reduceSub, Nat.reduceLeDiff, Nat.reduceLT, Int.reduceEq, Nat.reduceMul, hk, hz, e]
      refine Ycp (p78) ?_
      simp (maxDischargeDepth := 9) only [↓gB, gV, gT, reduceIte, reduceCtorEq, Nat.reduceEqDiff, Nat.reduceAdd, Nat.reduceSub, Nat.reduceLeDiff, Nat.reduceLT, Int.reduceEq, Nat.reduceMul, hk, hz, e]
      refine Ycp (p79 (by assumption) (by assumption) (by assumption)) ?_
      simp (maxDischargeDepth := 9) only [↓gB, gV, gT, reduceIte, reduceCtorEq, Nat.reduceEqDiff, Nat.reduceAdd, Nat.reduceSub, Nat.reduceLeDiff, Nat.reduceLT, Int.reduceEq, Nat.reduceMul, hk, hz, e]
      exact Kup_val (le_refl _) rfl
  · have e : zoneOfF l n = checkZones l := by simp [zoneOfF, orOf, hz]
    simp (maxDischargeDepth := 9) only [↓gB, gV, gT, reduceIte, reduceCtorEq, Nat.reduceEqDiff, Nat.reduceAdd, Nat.reduceSub, Nat.reduceLeDiff, Nat.reduceLT, Int.reduceEq, Nat.reduceMul, hz, e]
    refine Ycp (p26 (by assumption) (by assumption)) ?_
    simp (maxDischargeDepth := 9) only [↓gB, gV, gT, reduceIte, reduceCtorEq, Nat.reduceEqDiff, Nat.reduceAdd, Nat.reduceSub, Nat.reduceLeDiff, Nat.reduceLT, Int.reduceEq, Nat.reduceMul, hz, e]
    exact Kup_val (le_refl _) rfl
end Go.Proofs.YtnlbapfbdabjaaaDoor
namespace Go.Proofs.YtnlbapfbdabjaaaDoor
open Go Go.GL
attribute [local irreducible] Ycall GCalls
set_option maxRecDepth 10000
set_option maxHeartbeats 0
def crossF (l : List SZone) (ns : List ByteArray) : List ByteArray := compF none ((ns.map (zoneFor l)).filter fun z => !decide (z = ⟨#[]⟩))
theorem lastOr_get {α : Type} : ∀ (l : List α) (p : Option α), lastOr p l = if l = [] then p else l[l.length - 1]?
  | [], _ => by simp [lastOr]
  | [x], _ => by simp [lastOr]
  | x :: y :: l, p => by
    have := lastOr_get (y :: l) (some x)
    simp only [lastOr] at this ⊢
    rw [this]
    simp
theorem cross_take {l : List SZone} {ns : List ByteArray} {i : Nat} {x : ByteArray} (h : ns[i]? = some x) : crossF l (ns.take (i + 1)) = if zoneFor l x = ⟨#[]⟩ then crossF l (ns.take i) else crossF l (ns.take i) ++ (if lastOr none (crossF l (ns.take i)) = some (zoneFor l x) then [] else [zoneFor l x]) := by
  unfold crossF
  rw [take_at h, List.map_append, List.filter_append, List.map_cons, List.map_nil, List.filter_cons, List.filter_nil]
  split
  · rename_i q
    rw [if_neg (by simpa using q), compF_snoc, compF_last]
  · rename_i q
    have q : zoneFor l x = ⟨#[]⟩ := by simpa using q
    rw [if_pos q, List.append_nil]
theorem cross0 {l : List SZone} {ns : List ByteArray} {i : Nat} {x : ByteArray} (h : ns[i]? = some x) (hz : zoneFor l x = ⟨#[]⟩) : crossF l (ns.take (i + 1)) = crossF l (ns.take i) := by rw [cross_take h, if_pos hz]
theorem cross1 {l : List SZone} {ns : List ByteArray} {i : Nat} {x : ByteArray} (h : ns[i]? = some x) (hz : ¬ zoneFor l x = ⟨#[]⟩) (h0 : ((crossF l (ns.take i)).length : Int) = 0) : crossF l (ns.take (i + 1)) = crossF l (ns.take i) ++ [zoneFor l x] := by
  have : crossF l (ns.take i) = [] := List.eq_nil_of_length_eq_zero (by omega)
  rw [cross_take h, if_neg hz, this]; rfl
theorem cross2 {l : List SZone} {ns : List ByteArray} {i : Nat} {x y : ByteArray} (h : ns[i]? = some x) (hz : ¬ zoneFor l x = ⟨#[]⟩) (hy : (crossF l (ns.take i))[(crossF l (ns.take i)).length - 1]? = some y) : crossF l (ns.take (i + 1)) = if y = zoneFor l x then crossF l (ns.take i) else crossF l (ns.take i) ++ [zoneFor l x] := by
  have hne : ¬ crossF l (ns.take i) = [] := by intro q; rw [q] at hy; cases hy
  rw [cross_take h, if_neg hz, lastOr_get, if_neg hne, hy]
  by_cases q : y = zoneFor l x
  · simp [q]
  · simp [q]
theorem cross_len (l : List SZone) (ns : List ByteArray) (i : Nat) : (crossF l (ns.take i)).length ≤ i := by
  unfold crossF
  have h1 := compF_len ((List.map (zoneFor l) (ns.take i)).filter fun z => !decide (z = ⟨#[]⟩)) none
  have h2 := List.length_filter_le (fun z : ByteArray => !decide (z = ⟨#[]⟩)) (List.map (zoneFor l) (ns.take i))
  rw [List.length_map, List.length_take] at h2
  omega
theorem g83 {G0 : GH} {v w : Value} {l : List SZone} {ns : List ByteArray} (hv : RSl rZone G0 v l) (hw : RSl Rp.str G0 w ns) (hn : (l.length : Int) ≤ 9223372036854775807) (hm : ns.length ≤ 1000000000) (hz : ∀ z ∈ l, z.Nodes.length ≤ 500 ∧ sorted z.Nodes) : Gives Tryd.prog G0 83 [v, w] (fun u G' => RSl Rp.str G' u (crossF l ns)) := by
  intro G hG; replace hv := hv.le hG; replace hw := hw.le hG
  clear hG G0
  refine enter Tryd.func83 41 #[.tmp 4] rfl Tryd.ntmps83 rfl (by decide +kernel) rfl ?_
  obtain ⟨a, c, rfl⟩ := hv.val
  obtain ⟨b, d, rfl⟩ := hw.val
  simp (maxDischargeDepth := 9) only [↓gB, gV, gT, reduceIte, reduceCtorEq, Nat.reduceEqDiff, Nat.reduceAdd, Nat.reduceSub, Nat.reduceLeDiff, Nat.reduceLT, Int.reduceEq, Nat.reduceMul]
  focus
    refine Xloop_intro _ _ _ _ _ (fun k f G' => ∃ (i : Nat) (o : Value), k = ns.length - i ∧ (i ≤ ns.length) ∧ (Row Rp.str 9 G G' o (crossF l (ns.take i))) ∧ (RSl rZone G' (.slice a l.length c) l) ∧ (RSl Rp.str G' (.slice b ns.length d) ns) ∧ (G.le G') ∧ f 11 = V i ∧ f 5 = o ∧ f 0 = Go.Value.slice a l.length c ∧ f 9 = Go.Value.slice b ns.length d ∧ f 10 = Go.Value.int Go.IntKind.i64 ↑ns.length) _ ⟨0, .slice none 0 0, rfl, ?_, ?_, ?_, ?_, ?_, by simp (maxDischargeDepth := 9) only [↓gB, gV, gT, reduceIte, reduceCtorEq, Nat.reduceEqDiff, Nat.reduceAdd, Nat.reduceSub, Nat.reduceLeDiff, Nat.reduceLT, Int.reduceEq, Nat.reduceMul, and_self]⟩ ?_
    · omega
    · (exact Row.nil; done)
    · assumption
    · assumption
    · exact le_refl _
    rintro k f G' ⟨i, o, rfl, hi, hrow, hv, hw, hle, f11, f5, f0, f9, f10⟩
  obtain ⟨ao, co, rfl⟩ := hrow.val
  simp (maxDischargeDepth := 9) only [↓gB, gV, gT, reduceIte, reduceCtorEq, Nat.reduceEqDiff, Nat.reduceAdd, Nat.reduceSub, Nat.reduceLeDiff, Nat.reduceLT, Int.reduceEq, Nat.reduceMul, f11, f0, f9, f10, f5]
  have hlen := cross_len l ns i
  refine Xc_split _ _ _ _ _ (fun c1 => ?_) (fun c1 => ?_)
  · focus
      simp (maxDischargeDepth := 9) only [↓gB, gV, gT, reduceIte, reduceCtorEq, Nat.reduceEqDiff, Nat.reduceAdd, Nat.reduceSub, Nat.reduceLeDiff, Nat.reduceLT, Int.reduceEq, Nat.reduceMul, f11, f0, f9, f10, f5, c1]
      obtain ⟨x1, a1, s1, m1, rfl, rfl, e1⟩ := hw.at1 (i) (by omega) rfl
      simp (maxDischargeDepth := 9) only [↓gB, gV, gT, reduceIte, reduceCtorEq, Nat.reduceEqDiff, Nat.reduceAdd, Nat.reduceSub, Nat.reduceLeDiff, Nat.reduceLT, Int.reduceEq, Nat.reduceMul, f11, f0, f10, f5, c1, f9, e1]
      refine vguard_intro (by simp) ?_
      refine Ycp (p79 (by assumption) (by assumption) (by assumption)) ?_
      simp (maxDischargeDepth := 9) only [↓gB, gV, gT, reduceIte, reduceCtorEq, Nat.reduceEqDiff, Nat.reduceAdd, Nat.reduceSub, Nat.reduceLeDiff, Nat.reduceLT, Int.reduceEq, Nat.reduceMul, f11, f0, f10, f5, c1, f9, e1]
      by_cases c2 : (Go.Proofs.YtnlbapfbdabjaaaDoor.zoneFor l x1 : ByteArray) = { data := #[] }
      rotate_left 1
      focus
        simp (maxDischargeDepth := 9) only [↓gB, gV, gT, reduceIte, reduceCtorEq, Nat.reduceEqDiff, Nat.reduceAdd, Nat.reduceSub, Nat.reduceLeDiff, Nat.reduceLT, Int.reduceEq, Nat.reduceMul, f11, f0, f10, f5, c1, f9, e1, c2]
        by_cases c3 : (↑(Go.Proofs.YtnlbapfbdabjaaaDoor.crossF l (List.take i ns)).length : Int) = 0
        rotate_left 1
        focus
          simp (maxDischargeDepth := 9) only [↓gB, gV, gT, reduceIte, reduceCtorEq, Nat.reduceEqDiff, Nat.reduceAdd, Nat.reduceSub, Nat.reduceLeDiff, Nat.reduceLT, Int.reduceEq, Nat.reduceMul, f11, f0, f10, f5, c1, f9, e1, c2, c3]
          have q1 : Go.IntKind.i64.wrap (↑(Go.Proofs.YtnlbapfbdabjaaaDoor.crossF l (List.take i ns)).length - 1) = ↑(Go.Proofs.YtnlbapfbdabjaaaDoor.crossF l (List.take i ns)).length - 1 := wrap_id (by omega)
          simp (maxDischargeDepth := 9) only [↓gB, gV, gT, reduceIte, reduceCtorEq, Nat.reduceEqDiff, Nat.reduceAdd, Nat.reduceSub, Nat.reduceLeDiff, Nat.reduceLT, Int.reduceEq, Nat.reduceMul, f11, f0, f10, f5, c1, f9, e1, c2, c3, q1]
          obtain ⟨x2, a2, s2, m2, rfl, rfl, e2⟩ := hrow.at1 ((Go.Proofs.YtnlbapfbdabjaaaDoor.crossF l (List.take i ns)).length - 1) (by omega) rfl
          simp (maxDischargeDepth := 9) only [↓gB, gV, gT, reduceIte, reduceCtorEq, Nat.reduceEqDiff, Nat.reduceAdd, Nat.reduceSub, Nat.reduceLeDiff, Nat.reduceLT, Int.reduceEq, Nat.reduceMul, f11, f0, f10, c1, f9, e1, c2, c3, q1, f5, e2]
          refine vguard_intro (by omega) ?_
          by_cases c4 : (x2 : ByteArray) = Go.Proofs.YtnlbapfbdabjaaaDoor.zoneFor l x1
          rotate_left 1
          focus
            simp (maxDischargeDepth := 9) only [↓gB, gV, gT, reduceIte, reduceCtorEq, Nat.reduceEqDiff, Nat.reduceAdd, Nat.reduceSub, Nat.reduceLeDiff, Nat.reduceLT, Int.reduceEq, Nat.reduceMul, f11, f0, f10, c1, f9, e1, c2, c3, q1, f5, e2, c4]
            refine Yn2 fun r1 h1 => ?_
            simp (maxDischargeDepth := 9) only [↓gB, gV, gT, reduceIte, reduceCtorEq, Nat.reduceEqDiff, Nat.reduceAdd, Nat.reduceSub, Nat.reduceLeDiff, Nat.reduceLT, Int.reduceEq, Nat.reduceMul, f11, f0, f10, c1, f9, e1, c2, c3, q1, f5, e2, c4, h1]
            refine Row.app1 sl22 (Row.put _ h1 hrow) (by exact put_self _ _ _) (y := _) rfl (by omega) (GH.le.trans hle (le_put h1 _)) fun v1 G1 w1 k1 l1 => ?_
            replace hv := RSl.appd (RSl.put _ h1 hv) (Row.put _ h1 hrow) k1
            replace hw := RSl.appd (RSl.put _ h1 hw) (Row.put _ h1 hrow) k1
            simp (maxDischargeDepth := 9) only [↓gB, gV, gT, reduceIte, reduceCtorEq, Nat.reduceEqDiff, Nat.reduceAdd, Nat.reduceSub, Nat.reduceLeDiff, Nat.reduceLT, Int.reduceEq, Nat.reduceMul, f11, f0, f10, c1, f9, e1, c2, c3, q1, f5, e2, c4, h1]
            have q2 : Go.IntKind.i64.wrap (↑i + 1) = ↑i + 1 := wrap_id (by omega)
            simp (maxDischargeDepth := 9) only [↓gB, gV, gT, reduceIte, reduceCtorEq, Nat.reduceEqDiff, Nat.reduceAdd, Nat.reduceSub, Nat.reduceLeDiff, Nat.reduceLT, Int.reduceEq, Nat.reduceMul, f11, f0, f10, c1, f9, e1, c2, c3, q1, f5, e2, c4, h1, q2]
            rw [N_lp]
            refine ⟨_, ?_, _, sub_refl _, i + 1, v1, rfl, ?_, ?_, ?_, ?_, ?_, by simp (maxDischargeDepth := 9) only [↓gB, gV, gT, reduceIte, reduceCtorEq, Nat.reduceEqDiff, Nat.reduceAdd, Nat.reduceSub, Nat.reduceLeDiff, Nat.reduceLT, Int.reduceEq, Nat.reduceMul, f11, f0, f10, c1, f9, e1, c2, c3, q1, f5, e2, c4, h1, q2, nat_succ, and_self]⟩
            · omega
            · omega
            · (rw [cross2 m1 c2 m2, if_neg (by assumption)]; exact w1; done)
            · assumption
            · assumption
            · assumption
          rotate_right 1
          simp (maxDischargeDepth := 9) only [↓gB, gV, gT, reduceIte, reduceCtorEq, Nat.reduceEqDiff, Nat.reduceAdd, Nat.reduceSub, Nat.reduceLeDiff, Nat.reduceLT, Int.reduceEq, Nat.reduceMul, f11, f0, f10, c1, f9, e1, c2, c3, q1, f5, e2, c4]
          have q2 : Go.IntKind.i64.wrap (↑i + 1) = ↑i + 1 := wrap_id (by omega)
          simp (maxDischargeDepth := 9) only [↓gB, gV, gT, reduceIte, reduceCtorEq, Nat.reduceEqDiff, Nat.reduceAdd, Nat.reduceSub, Nat.reduceLeDiff, Nat.reduceLT, Int.reduceEq, Nat.reduceMul, f11, f0, f10, c1, f9, e1, c2, c3, q1, f5, e2, c4, q2]
          rw [N_lp]
          refine ⟨_, ?_, _, sub_refl _, i + 1, .slice (some a2) (crossF l (ns.take i)).length co, rfl, ?_, ?_, ?_, ?_, ?_, by simp (maxDischargeDepth := 9) only [↓gB, gV, gT, reduceIte, reduceCtorEq, Nat.reduceEqDiff, Nat.reduceAdd, Nat.reduceSub, Nat.reduceLeDiff, Nat.reduceLT, Int.reduceEq, Nat.reduceMul, f11, f0, f10, c1, f9, e1, c2, c3, q1, f5, e2, c4, q2, nat_succ, and_self]⟩
          · omega
          · omega
          · (rw [cross2 m1 c2 m2, if_pos (by assumption)]; exact hrow; done)
          · assumption
          · assumption
          · assumption
        rotate_right 1
        simp (maxDischargeDepth := 9) only [↓gB, gV, gT, reduceIte, reduceCtorEq, Nat.reduceEqDiff, Nat.reduceAdd, Nat.reduceSub, Nat.reduceLeDiff, Nat.reduceLT, Int.reduceEq, Nat.reduceMul, f11, f0, f10, f5, c1, f9, e1, c2, c3]
        refine Yn2 fun r1 h1 => ?_
        simp (maxDischargeDepth := 9) only [↓gB, gV, gT, reduceIte, reduceCtorEq, Nat.reduceEqDiff, Nat.reduceAdd, Nat.reduceSub, Nat.reduceLeDiff, Nat.reduceLT, Int.reduceEq, Nat.reduceMul, f11, f0, f10, f5, c1, f9, e1, c2, c3, h1]
        refine Row.app1 sl22 (Row.put _ h1 hrow) (by exact put_self _ _ _) (y := _) rfl (by omega) (GH.le.trans hle (le_put h1 _)) fun v1 G1 w1 k1 l1 => ?_
        replace hv := RSl.appd (RSl.put _ h1 hv) (Row.put _ h1 hrow) k1
        replace hw := RSl.appd (RSl.put _ h1 hw) (Row.put _ h1 hrow) k1
        simp (maxDischargeDepth := 9) only [↓gB, gV, gT, reduceIte, reduceCtorEq, Nat.reduceEqDiff, Nat.reduceAdd, Nat.reduceSub, Nat.reduceLeDiff, Nat.reduceLT, Int.reduceEq, Nat.reduceMul, f11, f0, f10, f5, c1, f9, e1, c2, c3, h1]
        have q1 : Go.IntKind.i64.wrap (↑i + 1) = ↑i + 1 := wrap_id (by omega)
        simp (maxDischargeDepth := 9) only [↓gB, gV, gT, reduceIte, reduceCtorEq, Nat.reduceEqDiff, Nat.reduceAdd, Nat.reduceSub, Nat.reduceLeDiff, Nat.reduceLT, Int.reduceEq, Nat.reduceMul, f11, f0, f10, f5, c1, f9, e1, c2, c3, h1, q1]
        rw [N_lp]
        refine ⟨_, ?_, _, sub_refl _, i + 1, v1, rfl, ?_, ?_, ?_, ?_, ?_, by simp (maxDischargeDepth := 9) only [↓gB, gV, gT, reduceIte, reduceCtorEq, Nat.reduceEqDiff, Nat.reduceAdd, Nat.reduceSub, Nat.reduceLeDiff, Nat.reduceLT, Int.reduceEq, Nat.reduceMul, f11, f0, f10, f5, c1, f9, e1, c2, c3, h1, q1, nat_succ, and_self]⟩
        · omega
        · omega
        · (rw [cross1 m1 c2 c3]; exact w1; done)
        · assumption
        · assumption
        · assumption
      rotate_right 1
      simp (maxDischargeDepth := 9) only [↓gB, gV, gT, reduceIte, reduceCtorEq, Nat.reduceEqDiff, Nat.reduceAdd, Nat.reduceSub, Nat.reduceLeDiff, Nat.reduceLT, Int.reduceEq, Nat.reduceMul, f11, f0, f10, f5, c1, f9, e1, c2]
      have q1 : Go.IntKind.i64.wrap (↑i + 1) = ↑i + 1 := wrap_id (by omega)
      simp (maxDischargeDepth := 9) only [↓gB, gV, gT, reduceIte, reduceCtorEq, Nat.reduceEqDiff, Nat.reduceAdd, Nat.reduceSub, Nat.reduceLeDiff, Nat.reduceLT, Int.reduceEq, Nat.reduceMul, f11, f0, f10, f5, c1, f9, e1, c2, q1]
      rw [N_lp]
      refine ⟨_, ?_, _, sub_refl _, i + 1, .slice ao (crossF l (ns.take i)).length co, rfl, ?_, ?_, ?_, ?_, ?_, by simp (maxDischargeDepth := 9) only [↓gB, gV, gT, reduceIte, reduceCtorEq, Nat.reduceEqDiff, Nat.reduceAdd, Nat.reduceSub, Nat.reduceLeDiff, Nat.reduceLT, Int.reduceEq, Nat.reduceMul, f11, f0, f10, f5, c1, f9, e1, c2, q1, nat_succ, and_self]⟩
      · omega
      · omega
      · (rw [cross0 m1 c2]; exact hrow; done)
      · assumption
      · assumption
      · assumption
  · simp (maxDischargeDepth := 9) only [↓gB, gV, gT, reduceIte, reduceCtorEq, Nat.reduceEqDiff, Nat.reduceAdd, Nat.reduceSub, Nat.reduceLeDiff, Nat.reduceLT, Int.reduceEq, Nat.reduceMul, f11, f0, f9, f10, f5, c1]
    obtain ⟨G2, hs, hl, hr⟩ := hrow.fin hle
    rw [List.take_of_length_le (by omega)] at hr ⊢
    exact Kup_gives hs hl hr
def crossR (l : List SZone) (ns : List ByteArray) : List ByteArray := (ns.map (zoneFor l)).filter fun z => !decide (z = ⟨#[]⟩)
theorem crossR_take {l : List SZone} {ns : List ByteArray} {i : Nat} {x : ByteArray} (h : ns[i]? = some x) : crossR l (ns.take (i + 1)) = crossR l (ns.take i) ++ (if zoneFor l x = ⟨#[]⟩ then [] else [zoneFor l x]) := by
  unfold crossR
  rw [take_at h, List.map_append, List.filter_append, List.map_cons, List.map_nil, List.filter_cons, List.filter_nil]
  by_cases q : zoneFor l x = ⟨#[]⟩ <;> simp [q]
theorem crossR_len (l : List SZone) (ns : List ByteArray) (i : Nat) : (crossR l (ns.take i)).length ≤ i := by
  unfold crossR
  have h2 := List.length_filter_le (fun z : ByteArray => !decide (z = ⟨#[]⟩)) (List.map (zoneFor l) (ns.take i))
  rw [List.length_map, List.length_take] at h2
  omega
theorem compCalls {e : TypeId} {G0 G : GH} {v : Value} {xs : List ByteArray} (hr : Row Rp.str e G0 G v xs) (hn : xs.length ≤ 1000000000) (hl : G0.le G) : GCalls Tryd.prog 86 [v].toArray G (fun u G' => Row Rp.str e G0 G' u (compF none xs) ∧ G0.le G') :=
  gcompact (fun blk cap zs w hH h1 h2 => Any.slices_Compact_string Tryd.layComp blk 0 cap zs w hH h1 h2) (fun a cap w => Any.slices_Compact_string_empty Tryd.layComp a cap w) hr hn hl
theorem g33 {G0 : GH} {v w : Value} {l : List SZone} {ns : List ByteArray} (hv : RSl rZone G0 v l) (hw : RSl Rp.str G0 w ns) (hn : (l.length : Int) ≤ 9223372036854775807) (hm : ns.length ≤ 1000000000) (hz : ∀ z ∈ l, z.Nodes.length ≤ 500 ∧ sorted z.Nodes) : Gives Tryd.prog G0 33 [v, w] (fun u G' => RSl Rp.str G' u (crossF l ns)) := by
  intro G hG; replace hv := hv.le hG; replace hw := hw.le hG
  clear hG G0
  refine enter Tryd.func33 27 #[.tmp 4] rfl Tryd.ntmps33 rfl (by decide +kernel) rfl ?_
  obtain ⟨a, c, rfl⟩ := hv.val
  obtain ⟨b, d, rfl⟩ := hw.val
  simp (maxDischargeDepth := 9) only [↓gB, gV, gT, reduceIte, reduceCtorEq, Nat.reduceEqDiff, Nat.reduceAdd, Nat.reduceSub, Nat.reduceLeDiff, Nat.reduceLT, Int.reduceEq, Nat.reduceMul]
  focus
    refine Xloop_intro _ _ _ _ _ (fun k f G' => ∃ (i : Nat) (o : Value), k = ns.length - i ∧ (i ≤ ns.length) ∧ (Row Rp.str 9 G G' o (crossR l (ns.take i))) ∧ (RSl rZone G' (.slice a l.length c) l) ∧ (RSl Rp.str G' (.slice b ns.length d) ns) ∧ (G.le G') ∧ f 11 = V i ∧ f 5 = o ∧ f 0 = Go.Value.slice a l.length c ∧ f 9 = Go.Value.slice b ns.length d ∧ f 10 = Go.Value.int Go.IntKind.i64 ↑ns.length) _ ⟨0, .slice none 0 0, rfl, ?_, ?_, ?_, ?_, ?_, by simp (maxDischargeDepth := 9) only [↓gB, gV, gT, reduceIte, reduceCtorEq, Nat.reduceEqDiff, Nat.reduceAdd, Nat.reduceSub, Nat.reduceLeDiff, Nat.reduceLT, Int.reduceEq, Nat.reduceMul, and_self]⟩ ?_
    · omega
    · (exact Row.nil; done)
    · assumption
    · assumption
    · exact le_refl _
    rintro k f G' ⟨i, o, rfl, hi, hrow, hv, hw, hle, f11, f5, f0, f9, f10⟩
  have hlen := crossR_len l ns i
  simp (maxDischargeDepth := 9) only [↓gB, gV, gT, reduceIte, reduceCtorEq, Nat.reduceEqDiff, Nat.reduceAdd, Nat.reduceSub, Nat.reduceLeDiff, Nat.reduceLT, Int.reduceEq, Nat.reduceMul, f11, f5, f0, f9, f10]
  refine Xc_split _ _ _ _ _ (fun c1 => ?_) (fun c1 => ?_)
  · focus
      simp (maxDischargeDepth := 9) only [↓gB, gV, gT, reduceIte, reduceCtorEq, Nat.reduceEqDiff, Nat.reduceAdd, Nat.reduceSub, Nat.reduceLeDiff, Nat.reduceLT, Int.reduceEq, Nat.reduceMul, f11, f5, f0, f9, f10, c1]
      obtain ⟨x1, a1, s1, m1, rfl, rfl, e1⟩ := hw.at1 (i) (by omega) rfl
      simp (maxDischargeDepth := 9) only [↓gB, gV, gT, reduceIte, reduceCtorEq, Nat.reduceEqDiff, Nat.reduceAdd, Nat.reduceSub, Nat.reduceLeDiff, Nat.reduceLT, Int.reduceEq, Nat.reduceMul, f11, f5, f0, f10, c1, f9, e1]
      refine vguard_intro (by simp) ?_
      refine Ycp (p30 (by assumption) (by assumption) (by assumption)) ?_
      simp (maxDischargeDepth := 9) only [↓gB, gV, gT, reduceIte, reduceCtorEq, Nat.reduceEqDiff, Nat.reduceAdd, Nat.reduceSub, Nat.reduceLeDiff, Nat.reduceLT, Int.reduceEq, Nat.reduceMul, f11, f5, f0, f10, c1, f9, e1]
      by_cases c2 : (Go.Proofs.YtnlbapfbdabjaaaDoor.zoneFor l x1 : ByteArray) = { data := #[] }
      rotate_left 1
      focus
        simp (maxDischargeDepth := 9) only [↓gB, gV, gT, reduceIte, reduceCtorEq, Nat.reduceEqDiff, Nat.reduceAdd, Nat.reduceSub, Nat.reduceLeDiff, Nat.reduceLT, Int.reduceEq, Nat.reduceMul, f11, f5, f0, f10, c1, f9, e1, c2]
        refine Yn2 fun r1 h1 => ?_
        simp (maxDischargeDepth := 9) only [↓gB, gV, gT, reduceIte, reduceCtorEq, Nat.reduceEqDiff, Nat.reduceAdd, Nat.reduceSub, Nat.reduceLeDiff, Nat.reduceLT, Int.reduceEq, Nat.reduceMul, f11, f5, f0, f10, c1, f9, e1, c2, h1]
        refine Row.app1 sl22 (Row.put _ h1 hrow) (by exact put_self _ _ _) (y := _) rfl (by omega) (GH.le.trans hle (le_put h1 _)) fun v1 G1 w1 k1 l1 => ?_
        replace hv := RSl.appd (RSl.put _ h1 hv) (Row.put _ h1 hrow) k1
        replace hw := RSl.appd (RSl.put _ h1 hw) (Row.put _ h1 hrow) k1
        simp (maxDischargeDepth := 9) only [↓gB, gV, gT, reduceIte, reduceCtorEq, Nat.reduceEqDiff, Nat.reduceAdd, Nat.reduceSub, Nat.reduceLeDiff, Nat.reduceLT, Int.reduceEq, Nat.reduceMul, f11, f5, f0, f10, c1, f9, e1, c2, h1]
        have q1 : Go.IntKind.i64.wrap (↑i + 1) = ↑i + 1 := wrap_id (by omega)
        simp (maxDischargeDepth := 9) only [↓gB, gV, gT, reduceIte, reduceCtorEq, Nat.reduceEqDiff, Nat.reduceAdd, Nat.reduceSub, Nat.reduceLeDiff, Nat.reduceLT, Int.reduceEq, Nat.reduceMul, f11, f5, f0, f10, c1, f9, e1, c2, h1, q1]
        rw [N_lp]
        refine ⟨_, ?_, _, sub_refl _, i + 1, v1, rfl, ?_, ?_, ?_, ?_, ?_, by simp (maxDischargeDepth := 9) only [↓gB, gV, gT, reduceIte, reduceCtorEq, Nat.reduceEqDiff, Nat.reduceAdd, Nat.reduceSub, Nat.reduceLeDiff, Nat.reduceLT, Int.reduceEq, Nat.reduceMul, f11, f5, f0, f10, c1, f9, e1, c2, h1, q1, nat_succ, and_self]⟩
        · omega
        · omega
        · (rw [crossR_take m1, if_neg c2]; exact w1; done)
        · assumption
        · assumption
        · assumption
      rotate_right 1
      simp (maxDischargeDepth := 9) only [↓gB, gV, gT, reduceIte, reduceCtorEq, Nat.reduceEqDiff, Nat.reduceAdd, Nat.reduceSub, Nat.reduceLeDiff, Nat.reduceLT, Int.reduceEq, Nat.reduceMul, f11, f5, f0, f10, c1, f9, e1, c2]
      have q1 : Go.IntKind.i64.wrap (↑i + 1) = ↑i + 1 := wrap_id (by omega)
      simp (maxDischargeDepth := 9) only [↓gB, gV, gT, reduceIte, reduceCtorEq, Nat.reduceEqDiff, Nat.reduceAdd, Nat.reduceSub, Nat.reduceLeDiff, Nat.reduceLT, Int.reduceEq, Nat.reduceMul, f11, f5, f0, f10, c1, f9, e1, c2, q1]
      rw [N_lp]
      refine ⟨_, ?_, _, sub_refl _, i + 1, o, rfl, ?_, ?_, ?_, ?_, ?_, by simp (maxDischargeDepth := 9) only [↓gB, gV, gT, reduceIte, reduceCtorEq, Nat.reduceEqDiff, Nat.reduceAdd, Nat.reduceSub, Nat.reduceLeDiff, Nat.reduceLT, Int.reduceEq, Nat.reduceMul, f11, f5, f0, f10, c1, f9, e1, c2, q1, nat_succ, and_self]⟩
      · omega
      · omega
      · (rw [crossR_take m1, if_pos c2, List.append_nil]; exact hrow; done)
      · assumption
      · assumption
      · assumption
  · simp (maxDischargeDepth := 9) only [↓gB, gV, gT, reduceIte, reduceCtorEq, Nat.reduceEqDiff, Nat.reduceAdd, Nat.reduceSub, Nat.reduceLeDiff, Nat.reduceLT, Int.reduceEq, Nat.reduceMul, f11, f5, f0, f9, f10, c1]
    refine Ycall_intro (md := none) (compCalls hrow (by omega) hle) ?_
    rintro u G1 ⟨hrow, hle⟩
    simp (maxDischargeDepth := 9) only [↓gB, gV, gT, reduceIte, reduceCtorEq, Nat.reduceEqDiff, Nat.reduceAdd, Nat.reduceSub, Nat.reduceLeDiff, Nat.reduceLT, Int.reduceEq, Nat.reduceMul, f11, f5, f0, f9, f10, c1]
    obtain ⟨G2, hs, hl, hr⟩ := hrow.fin hle
    rw [List.take_of_length_le (by omega)] at hr
    exact Kup_gives hs hl hr
end Go.Proofs.YtnlbapfbdabjaaaDoor
