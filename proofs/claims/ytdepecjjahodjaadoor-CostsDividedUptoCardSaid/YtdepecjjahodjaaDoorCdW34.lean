/- Proved: CostsDivided: a card of costs, parts and legs: what Divide, CheckLegs and ByLegs give is what their simple ones give -/
import Derived.Test.YtdepecjjahodjaaDoorRows
import Derived.WalkKit
import Derived.ProofKit
import Derived.OpenShut
import Derived.ChangeOld
import Derived.Below
import Derived.Carry
import Derived.ChangeArms
import Derived.JoinedCond
import Derived.Test.YtdepecjjahodjaaDoorCards
import Derived.Test.YtdepecjjahodjaaDoorTie
import Derived.Deep.DeepHandedRow
import Derived.Test.YtdepecjjahodjaaDoorCdGlCp
import Derived.Test.YtdepecjjahodjaaDoorCdSh
import Derived.Test.YtdepecjjahodjaaDoorCdW30
import Derived.Test.YtdepecjjahodjaaDoorCdW31
import Derived.Test.YtdepecjjahodjaaDoorCdW32
import Derived.Test.YtdepecjjahodjaaDoorCdW33
set_option linter.unusedSimpArgs false
set_option linter.unusedVariables false
set_option linter.unusedSectionVars false
namespace Go.Proofs.YtdepecjjahodjaaDoor
open Go Go.GL
attribute [local irreducible] Ycall GCalls
set_option maxRecDepth 10000
set_option maxHeartbeats 0
theorem lt10 {q : Option SLeg} {x : SLeg} (h : ¬ x.Rides.length = 0) (h2 : 10 < x.Rides.length) : legBad q x = 2 := by
  have e : keysE 10 x.Rides = 2 := if_pos h2
  rw [lgk h (by rw [e]; decide), e]
theorem ltr {q : Option SLeg} {x : SLeg} (h : ¬ x.Rides.length = 0) (h2 : ¬ 10 < x.Rides.length) (h3 : ¬ chk strBad none x.Rides = 0) : legBad q x = chk strBad none x.Rides := by
  have e : keysE 10 x.Rides = chk strBad none x.Rides := if_neg h2
  rw [lgk h (by rw [e]; exact h3), e]
theorem ke0 {l : List ByteArray} (h2 : ¬ 10 < l.length) (h3 : chk strBad none l = 0) : keysE 10 l = 0 := by
  unfold keysE; rw [if_neg h2, h3]
theorem p26 {G0 : GH} {v : Value} {l : List SLeg} (hv : RSl rLeg G0 v l) (hn : l.length ≤ 1000000000) (hr : ∀ x ∈ l, x.Rides.length ≤ 1000000000) : Pure Tryd.prog G0 26 [v] (V (legsE l)) := by
  intro G hG; replace hv := hv.le hG
  clear hG G0
  refine enter Tryd.func26 36 #[.tmp 2] rfl Tryd.ntmps26 rfl (by decide +kernel) rfl ?_
  obtain ⟨a, c, rfl⟩ := hv.val
  simp (maxDischargeDepth := 9) only [↓gB, gV, gT, reduceIte, reduceCtorEq, Nat.reduceEqDiff, Nat.reduceAdd, Nat.reduceSub, Nat.reduceLeDiff, Nat.reduceLT, Int.reduceEq, Nat.reduceMul]
  refine Xc_split _ _ _ _ _ (fun c0 => ?_) (fun c0 => ?_)
  · have e : legsE l = 2 := if_pos (by omega)
    simp (maxDischargeDepth := 9) only [↓gB, gV, gT, reduceIte, reduceCtorEq, Nat.reduceEqDiff, Nat.reduceAdd, Nat.reduceSub, Nat.reduceLeDiff, Nat.reduceLT, Int.reduceEq, Nat.reduceMul, c0, e]
    exact Kup_val (le_refl _) rfl
  · have e : legsE l = chk legBad none l := if_neg (by omega)
    rw [e]
    simp (maxDischargeDepth := 9) only [↓gB, gV, gT, reduceIte, reduceCtorEq, Nat.reduceEqDiff, Nat.reduceAdd, Nat.reduceSub, Nat.reduceLeDiff, Nat.reduceLT, Int.reduceEq, Nat.reduceMul, c0]
    focus
      refine Xloop_intro _ _ _ _ _ (fun k f G' => ∃ (i : Nat), k = l.length - i ∧ (i ≤ l.length) ∧ (chk legBad none l = chk legBad (prevOf l i) (l.drop i)) ∧ (RSl rLeg G' (.slice a l.length c) l) ∧ (G.le G') ∧ f 11 = V i ∧ f 9 = Go.Value.slice a l.length c ∧ f 10 = Go.Value.int Go.IntKind.i64 ↑l.length) _ ⟨0, rfl, ?_, ?_, ?_, ?_, by simp (maxDischargeDepth := 9) only [↓gB, gV, gT, reduceIte, reduceCtorEq, Nat.reduceEqDiff, Nat.reduceAdd, Nat.reduceSub, Nat.reduceLeDiff, Nat.reduceLT, Int.reduceEq, Nat.reduceMul, c0, and_self]⟩ ?_
      · omega
      · rfl
      · assumption
      · exact le_refl _
      rintro k f G' ⟨i, rfl, hi, h, hv, hle, f11, f9, f10⟩
    simp (maxDischargeDepth := 9) only [↓gB, gV, gT, reduceIte, reduceCtorEq, Nat.reduceEqDiff, Nat.reduceAdd, Nat.reduceSub, Nat.reduceLeDiff, Nat.reduceLT, Int.reduceEq, Nat.reduceMul, c0, f11, f9, f10]
    refine Xc_split _ _ _ _ _ (fun c1 => ?_) (fun c1 => ?_)
    · obtain ⟨x, helx⟩ : ∃ x, l[i]? = some x := ⟨_, List.getElem?_eq_getElem (by omega)⟩
      have hxr := hr x (List.mem_of_getElem? helx)
      by_cases h0 : x.Rides.length = 0
      · have ee := chk_bad h helx (lg8 h0) (by decide)
        simp (maxDischargeDepth := 9) only [↓gB, gV, gT, reduceIte, reduceCtorEq, Nat.reduceEqDiff, Nat.reduceAdd, Nat.reduceSub, Nat.reduceLeDiff, Nat.reduceLT, Int.reduceEq, Nat.reduceMul, c0, f11, f9, f10, c1, h0, ee]
        obtain ⟨x1, a1, s1, m1, rfl, ⟨v1, rfl, w1⟩, e1⟩ := hv.at (i) (by omega) 2 rfl
        obtain rfl := el_eq helx m1
        obtain ⟨aw1, cw1, rfl⟩ := RSl.val w1
        simp (maxDischargeDepth := 9) only [↓gB, gV, gT, reduceIte, reduceCtorEq, Nat.reduceEqDiff, Nat.reduceAdd, Nat.reduceSub, Nat.reduceLeDiff, Nat.reduceLT, Int.reduceEq, Nat.reduceMul, c0, f11, f10, c1, f9, e1, h0, ee]
        refine vguard_intro (by simp) ?_
        refine Yn2 fun r1 h1 => ?_
        simp (maxDischargeDepth := 9) only [↓gB, gV, gT, reduceIte, reduceCtorEq, Nat.reduceEqDiff, Nat.reduceAdd, Nat.reduceSub, Nat.reduceLeDiff, Nat.reduceLT, Int.reduceEq, Nat.reduceMul, c0, f11, f10, c1, f9, e1, h1, h0, ee]
        exact Kup_val (by simp (maxDischargeDepth := 9) only [le_self, le_puts, le_put0, hle, h1]) rfl
      · have h0' : ¬ (x.Rides.length : Int) = 0 := by omega
        by_cases h10 : 10 < x.Rides.length
        · have h10' : (10 : Int) < x.Rides.length := by omega
          have ee := chk_bad h helx (lt10 h0 h10) (by decide)
          simp (maxDischargeDepth := 9) only [↓gB, gV, gT, reduceIte, reduceCtorEq, Nat.reduceEqDiff, Nat.reduceAdd, Nat.reduceSub, Nat.reduceLeDiff, Nat.reduceLT, Int.reduceEq, Nat.reduceMul, c0, f11, f9, f10, c1, h0', h10', ee]
          obtain ⟨x1, a1, s1, m1, rfl, ⟨v1, rfl, w1⟩, e1⟩ := hv.at (i) (by omega) 2 rfl
          obtain rfl := el_eq helx m1
          obtain ⟨aw1, cw1, rfl⟩ := RSl.val w1
          simp (maxDischargeDepth := 9) only [↓gB, gV, gT, reduceIte, reduceCtorEq, Nat.reduceEqDiff, Nat.reduceAdd, Nat.reduceSub, Nat.reduceLeDiff, Nat.reduceLT, Int.reduceEq, Nat.reduceMul, c0, f11, f10, c1, f9, e1, h0', h10', ee]
          refine vguard_intro (by simp) ?_
          refine Yn2 fun r1 h1 => ?_
          simp (maxDischargeDepth := 9) only [↓gB, gV, gT, reduceIte, reduceCtorEq, Nat.reduceEqDiff, Nat.reduceAdd, Nat.reduceSub, Nat.reduceLeDiff, Nat.reduceLT, Int.reduceEq, Nat.reduceMul, c0, f11, f10, c1, f9, e1, h1, h0', h10', ee]
          exact Kup_val (by simp (maxDischargeDepth := 9) only [le_self, le_puts, le_put0, hle, h1]) rfl
        · have h10' : ¬ (10 : Int) < x.Rides.length := by omega
          by_cases hk : chk strBad none x.Rides = 0
          · have hk' := ke0 h10 hk
            cases hw : within x.Cents 0 1000000000
            · have ee := chk_bad h helx (lg1 h0 hk' hw) (by decide)
              simp (maxDischargeDepth := 9) only [↓gB, gV, gT, reduceIte, reduceCtorEq, Nat.reduceEqDiff, Nat.reduceAdd, Nat.reduceSub, Nat.reduceLeDiff, Nat.reduceLT, Int.reduceEq, Nat.reduceMul, c0, f11, f9, f10, c1, hw, h0', h10', hk, ee]
              obtain ⟨x1, a1, s1, m1, rfl, ⟨v1, rfl, w1⟩, e1⟩ := hv.at (i) (by omega) 2 rfl
              obtain rfl := el_eq helx m1
              obtain ⟨aw1, cw1, rfl⟩ := RSl.val w1
              simp (maxDischargeDepth := 9) only [↓gB, gV, gT, reduceIte, reduceCtorEq, Nat.reduceEqDiff, Nat.reduceAdd, Nat.reduceSub, Nat.reduceLeDiff, Nat.reduceLT, Int.reduceEq, Nat.reduceMul, c0, f11, f10, c1, hw, f9, e1, h0', h10', hk, ee]
              refine vguard_intro (by simp) ?_
              refine Yn2 fun r1 h1 => ?_
              simp (maxDischargeDepth := 9) only [↓gB, gV, gT, reduceIte, reduceCtorEq, Nat.reduceEqDiff, Nat.reduceAdd, Nat.reduceSub, Nat.reduceLeDiff, Nat.reduceLT, Int.reduceEq, Nat.reduceMul, c0, f11, f10, c1, hw, f9, e1, h1, h0', h10', hk, ee]
              refine Ycp (p36 (by exact RSl.put _ (by assumption) (by assumption)) (by omega)) ?_
              simp (maxDischargeDepth := 9) only [↓gB, gV, gT, reduceIte, reduceCtorEq, Nat.reduceEqDiff, Nat.reduceAdd, Nat.reduceSub, Nat.reduceLeDiff, Nat.reduceLT, Int.reduceEq, Nat.reduceMul, c0, f11, f10, c1, hw, f9, e1, h1, h0', h10', hk, ee]
              refine Ycp (p39) ?_
              simp (maxDischargeDepth := 9) only [↓gB, gV, gT, reduceIte, reduceCtorEq, Nat.reduceEqDiff, Nat.reduceAdd, Nat.reduceSub, Nat.reduceLeDiff, Nat.reduceLT, Int.reduceEq, Nat.reduceMul, c0, f11, f10, c1, hw, f9, e1, h1, h0', h10', hk, ee]
              exact Kup_val (by simp (maxDischargeDepth := 9) only [le_self, le_puts, le_put0, hle, h1]) rfl
            · have ee := chk_next h helx (lg0 h0 hk' hw)
              focus
                simp (maxDischargeDepth := 9) only [↓gB, gV, gT, reduceIte, reduceCtorEq, Nat.reduceEqDiff, Nat.reduceAdd, Nat.reduceSub, Nat.reduceLeDiff, Nat.reduceLT, Int.reduceEq, Nat.reduceMul, c0, f11, f9, f10, c1, hw, h0', h10', hk]
                obtain ⟨x1, a1, s1, m1, rfl, ⟨v1, rfl, w1⟩, e1⟩ := hv.at (i) (by omega) 2 rfl
                obtain rfl := el_eq helx m1
                obtain ⟨aw1, cw1, rfl⟩ := RSl.val w1
                simp (maxDischargeDepth := 9) only [↓gB, gV, gT, reduceIte, reduceCtorEq, Nat.reduceEqDiff, Nat.reduceAdd, Nat.reduceSub, Nat.reduceLeDiff, Nat.reduceLT, Int.reduceEq, Nat.reduceMul, c0, f11, f10, c1, hw, f9, e1, h0', h10', hk]
                refine vguard_intro (by simp) ?_
                refine Yn2 fun r1 h1 => ?_
                simp (maxDischargeDepth := 9) only [↓gB, gV, gT, reduceIte, reduceCtorEq, Nat.reduceEqDiff, Nat.reduceAdd, Nat.reduceSub, Nat.reduceLeDiff, Nat.reduceLT, Int.reduceEq, Nat.reduceMul, c0, f11, f10, c1, hw, f9, e1, h1, h0', h10', hk]
                refine Ycp (p36 (by exact RSl.put _ (by assumption) (by assumption)) (by omega)) ?_
                simp (maxDischargeDepth := 9) only [↓gB, gV, gT, reduceIte, reduceCtorEq, Nat.reduceEqDiff, Nat.reduceAdd, Nat.reduceSub, Nat.reduceLeDiff, Nat.reduceLT, Int.reduceEq, Nat.reduceMul, c0, f11, f10, c1, hw, f9, e1, h1, h0', h10', hk]
                refine Ycp (p39) ?_
                simp (maxDischargeDepth := 9) only [↓gB, gV, gT, reduceIte, reduceCtorEq, Nat.reduceEqDiff, Nat.reduceAdd, Nat.reduceSub, Nat.reduceLeDiff, Nat.reduceLT, Int.reduceEq, Nat.reduceMul, c0, f11, f10, c1, hw, f9, e1, h1, h0', h10', hk]
                have q1 : Go.IntKind.i64.wrap (↑i + 1) = ↑i + 1 := wrap_id (by omega)
                simp (maxDischargeDepth := 9) only [↓gB, gV, gT, reduceIte, reduceCtorEq, Nat.reduceEqDiff, Nat.reduceAdd, Nat.reduceSub, Nat.reduceLeDiff, Nat.reduceLT, Int.reduceEq, Nat.reduceMul, c0, f11, f10, c1, hw, f9, e1, h1, q1, h0', h10', hk]
                rw [N_lp]
                refine ⟨_, ?_, _, sub_refl _, i + 1, rfl, ?_, ?_, ?_, ?_, by simp (maxDischargeDepth := 9) only [↓gB, gV, gT, reduceIte, reduceCtorEq, Nat.reduceEqDiff, Nat.reduceAdd, Nat.reduceSub, Nat.reduceLeDiff, Nat.reduceLT, Int.reduceEq, Nat.reduceMul, c0, f11, f10, c1, hw, f9, e1, h1, q1, h0', h10', hk, nat_succ, and_self]⟩
                · omega
                · omega
                · assumption
                · exact RSl.put _ (by assumption) (by assumption)
                · (simp (maxDischargeDepth := 9) only [le_self, le_puts, le_put0, sub_self, sub_puts, sub_put0, hle, h1]; done)
          · have ee := chk_bad h helx (ltr h0 h10 hk) hk
            simp (maxDischargeDepth := 9) only [↓gB, gV, gT, reduceIte, reduceCtorEq, Nat.reduceEqDiff, Nat.reduceAdd, Nat.reduceSub, Nat.reduceLeDiff, Nat.reduceLT, Int.reduceEq, Nat.reduceMul, c0, f11, f9, f10, c1, h0', h10', hk, ee]
            obtain ⟨x1, a1, s1, m1, rfl, ⟨v1, rfl, w1⟩, e1⟩ := hv.at (i) (by omega) 2 rfl
            obtain rfl := el_eq helx m1
            obtain ⟨aw1, cw1, rfl⟩ := RSl.val w1
            simp (maxDischargeDepth := 9) only [↓gB, gV, gT, reduceIte, reduceCtorEq, Nat.reduceEqDiff, Nat.reduceAdd, Nat.reduceSub, Nat.reduceLeDiff, Nat.reduceLT, Int.reduceEq, Nat.reduceMul, c0, f11, f10, c1, f9, e1, h0', h10', hk, ee]
            refine vguard_intro (by simp) ?_
            refine Yn2 fun r1 h1 => ?_
            simp (maxDischargeDepth := 9) only [↓gB, gV, gT, reduceIte, reduceCtorEq, Nat.reduceEqDiff, Nat.reduceAdd, Nat.reduceSub, Nat.reduceLeDiff, Nat.reduceLT, Int.reduceEq, Nat.reduceMul, c0, f11, f10, c1, f9, e1, h1, h0', h10', hk, ee]
            refine Ycp (p36 (by exact RSl.put _ (by assumption) (by assumption)) (by omega)) ?_
            simp (maxDischargeDepth := 9) only [↓gB, gV, gT, reduceIte, reduceCtorEq, Nat.reduceEqDiff, Nat.reduceAdd, Nat.reduceSub, Nat.reduceLeDiff, Nat.reduceLT, Int.reduceEq, Nat.reduceMul, c0, f11, f10, c1, f9, e1, h1, h0', h10', hk, ee]
            exact Kup_val (by simp (maxDischargeDepth := 9) only [le_self, le_puts, le_put0, hle, h1]) rfl
    · have e0 := chk_end h c1
      simp (maxDischargeDepth := 9) only [↓gB, gV, gT, reduceIte, reduceCtorEq, Nat.reduceEqDiff, Nat.reduceAdd, Nat.reduceSub, Nat.reduceLeDiff, Nat.reduceLT, Int.reduceEq, Nat.reduceMul, c0, f11, f9, f10, c1, e0]
      exact Kup_val (by simp (maxDischargeDepth := 9) only [le_self, le_puts, le_put0, hle]) rfl
theorem g28 {G0 : GH} {v : Value} {l : List SLeg} (hv : RSl rLeg G0 v l) (hn : l.length ≤ 1000000000) (hz : ∀ x ∈ l, x.Rides.length ≤ 1000000000) : Gives Tryd.prog G0 28 [v] (fun u G' => RSl rLeg G' u l) := by
  intro G hG; replace hv := hv.le hG
  clear hG G0
  refine enter Tryd.func28 22 #[.tmp 2] rfl Tryd.ntmps28 rfl (by decide +kernel) rfl ?_
  obtain ⟨a, c, rfl⟩ := hv.val
  simp (maxDischargeDepth := 9) only [↓gB, gV, gT, reduceIte, reduceCtorEq, Nat.reduceEqDiff, Nat.reduceAdd, Nat.reduceSub, Nat.reduceLeDiff, Nat.reduceLT, Int.reduceEq, Nat.reduceMul]
  focus
    refine Xloop_intro _ _ _ _ _ (fun k f G' => ∃ (i : Nat) (o : Value), k = l.length - i ∧ (i ≤ l.length) ∧ (Row rLeg 76 G G' o (l.take i)) ∧ (RSl rLeg G' (.slice a l.length c) l) ∧ (G.le G') ∧ f 8 = V i ∧ f 3 = o ∧ f 6 = Go.Value.slice a l.length c ∧ f 7 = Go.Value.int Go.IntKind.i64 ↑l.length) _ ⟨0, .slice none 0 0, rfl, ?_, ?_, ?_, ?_, by simp (maxDischargeDepth := 9) only [↓gB, gV, gT, reduceIte, reduceCtorEq, Nat.reduceEqDiff, Nat.reduceAdd, Nat.reduceSub, Nat.reduceLeDiff, Nat.reduceLT, Int.reduceEq, Nat.reduceMul, and_self]⟩ ?_
    · omega
    · (exact Row.nil; done)
    · assumption
    · exact le_refl _
    rintro k f G' ⟨i, o, rfl, hi, hrow, hv, hle, f8, f3, f6, f7⟩
  simp (maxDischargeDepth := 9) only [↓gB, gV, gT, reduceIte, reduceCtorEq, Nat.reduceEqDiff, Nat.reduceAdd, Nat.reduceSub, Nat.reduceLeDiff, Nat.reduceLT, Int.reduceEq, Nat.reduceMul, f8, f3, f6, f7]
  refine Xc_split _ _ _ _ _ (fun c1 => ?_) (fun c1 => ?_)
  · obtain ⟨z, hzi⟩ : ∃ z, l[i]? = some z := ⟨_, List.getElem?_eq_getElem (by omega)⟩
    have hz1 := hz z (List.mem_of_getElem? hzi)
    simp (maxDischargeDepth := 9) only [↓gB, gV, gT, reduceIte, reduceCtorEq, Nat.reduceEqDiff, Nat.reduceAdd, Nat.reduceSub, Nat.reduceLeDiff, Nat.reduceLT, Int.reduceEq, Nat.reduceMul, f8, f3, f6, f7, c1]
    obtain ⟨x1, a1, s1, m1, rfl, ⟨v1, rfl, w1⟩, e1⟩ := hv.at (i) (by omega) 2 rfl
    obtain ⟨aw1, cw1, rfl⟩ := RSl.val w1
    simp (maxDischargeDepth := 9) only [↓gB, gV, gT, reduceIte, reduceCtorEq, Nat.reduceEqDiff, Nat.reduceAdd, Nat.reduceSub, Nat.reduceLeDiff, Nat.reduceLT, Int.reduceEq, Nat.reduceMul, f8, f3, f7, c1, f6, e1]
    refine vguard_intro (by simp) ?_
    refine Yn2 fun r1 h1 => ?_
    simp (maxDischargeDepth := 9) only [↓gB, gV, gT, reduceIte, reduceCtorEq, Nat.reduceEqDiff, Nat.reduceAdd, Nat.reduceSub, Nat.reduceLeDiff, Nat.reduceLT, Int.reduceEq, Nat.reduceMul, f8, f3, f7, c1, f6, e1, h1]
    obtain rfl : z = x1 := by rw [hzi] at m1; cases m1; rfl
    focus
      have q1_0 := Row.fresh hrow h1
      have q1_1 := GH.le.none hle h1
      have l1 := le_put h1 ((Go.Obj.cells #[Go.Value.slice aw1 z.Rides.length cw1, Go.Value.int Go.IntKind.i64 z.Cents] 76, Bool.true))
      have y1 := put_self G' r1 ((Go.Obj.cells #[Go.Value.slice aw1 z.Rides.length cw1, Go.Value.int Go.IntKind.i64 z.Cents] 76, Bool.true))
      generalize GH.put G' r1 ((Go.Obj.cells #[Go.Value.slice aw1 z.Rides.length cw1, Go.Value.int Go.IntKind.i64 z.Cents] 76, Bool.true)) = G1 at *
      replace hrow := Row.le hrow l1
      replace hle := GH.le.trans hle l1
      replace hv := RSl.le hv l1
      replace w1 := RSl.le w1 l1
      refine Ycg (g6 (by assumption) (by assumption)) ?_ ?_
      · exact upRSl _ _
      intro u2 G2 l2 w2
      replace l1 := GH.le.trans l1 l2
      replace y1 := l2 _ _ y1
      replace hrow := Row.le hrow l2
      replace hle := GH.le.trans hle l2
      replace hv := RSl.le hv l2
      replace w1 := RSl.le w1 l2
      obtain ⟨aw2, cw2, rfl⟩ := RSl.val w2
      simp (maxDischargeDepth := 9) only [↓gB, gV, gT, reduceIte, reduceCtorEq, Nat.reduceEqDiff, Nat.reduceAdd, Nat.reduceSub, Nat.reduceLeDiff, Nat.reduceLT, Int.reduceEq, Nat.reduceMul, f8, f3, f7, c1, f6, h1, e1, q1_1, y1]
      refine Yn2 fun r2 h2 => ?_
      have n2 := h2
      simp only [put_none_eq, ne_eq] at n2
      simp (maxDischargeDepth := 9) only [↓gB, gV, gT, reduceIte, reduceCtorEq, Nat.reduceEqDiff, Nat.reduceAdd, Nat.reduceSub, Nat.reduceLeDiff, Nat.reduceLT, Int.reduceEq, Nat.reduceMul, f8, f3, f7, c1, f6, h1, e1, q1_1, y1, h2, n2]
      refine Row.app1 sl52 (Row.put _ h2 (Row.over _ hrow y1 (by assumption))) (by exact put_self _ _ _) (y := ⟨_, _⟩) ⟨_, rfl, (by first | exact (RSl.put _ h2 (RSl.over _ hv y1)) | exact (RSl.put _ h2 (RSl.over _ w1 y1)) | exact (RSl.put _ h2 (RSl.over _ w2 y1)) | omega | decide | assumption | (unfold i64; omega) | (unfold i64 at *; omega) | (constructor <;> omega))⟩ (by (simp; omega)) (GH.le.trans (le_put_new hle (by assumption) _) (le_put h2 _)) fun v3 G3 w3 k3 l3 => ?_
      replace hv := RSl.appd (RSl.put _ h2 (RSl.over _ hv y1)) (Row.put _ h2 (Row.over _ hrow y1 (by assumption))) k3
      replace w1 := RSl.appd (RSl.put _ h2 (RSl.over _ w1 y1)) (Row.put _ h2 (Row.over _ hrow y1 (by assumption))) k3
      replace w2 := RSl.appd (RSl.put _ h2 (RSl.over _ w2 y1)) (Row.put _ h2 (Row.over _ hrow y1 (by assumption))) k3
      simp (maxDischargeDepth := 9) only [↓gB, gV, gT, reduceIte, reduceCtorEq, Nat.reduceEqDiff, Nat.reduceAdd, Nat.reduceSub, Nat.reduceLeDiff, Nat.reduceLT, Int.reduceEq, Nat.reduceMul, f8, f3, f7, c1, f6, h1, e1, q1_1, y1, h2, n2, k3]
      have q1 : Go.IntKind.i64.wrap (↑i + 1) = ↑i + 1 := wrap_id (by omega)
      simp (maxDischargeDepth := 9) only [↓gB, gV, gT, reduceIte, reduceCtorEq, Nat.reduceEqDiff, Nat.reduceAdd, Nat.reduceSub, Nat.reduceLeDiff, Nat.reduceLT, Int.reduceEq, Nat.reduceMul, f8, f3, f7, c1, f6, h1, e1, q1_1, y1, h2, n2, k3, q1]
      rw [N_lp]
      refine ⟨_, ?_, _, sub_refl _, i + 1, v3, rfl, ?_, ?_, ?_, ?_, by simp (maxDischargeDepth := 9) only [↓gB, gV, gT, reduceIte, reduceCtorEq, Nat.reduceEqDiff, Nat.reduceAdd, Nat.reduceSub, Nat.reduceLeDiff, Nat.reduceLT, Int.reduceEq, Nat.reduceMul, f8, f3, f7, c1, f6, h1, e1, q1_1, y1, h2, n2, k3, q1, nat_succ, and_self]⟩
      · omega
      · omega
      · (rw [take_at m1]; exact w3; done)
      · assumption
      · assumption
  · simp (maxDischargeDepth := 9) only [↓gB, gV, gT, reduceIte, reduceCtorEq, Nat.reduceEqDiff, Nat.reduceAdd, Nat.reduceSub, Nat.reduceLeDiff, Nat.reduceLT, Int.reduceEq, Nat.reduceMul, f8, f3, f6, f7, c1]
    obtain ⟨G2, hs, hl, hr⟩ := hrow.fin hle
    rw [List.take_of_length_le (by omega)] at hr
    exact Kup_gives hs hl hr
end Go.Proofs.YtdepecjjahodjaaDoor
namespace Go.Proofs.YtdepecjjahodjaaDoor
open Go Go.GL
attribute [local irreducible] Ycall GCalls
set_option maxRecDepth 10000
set_option maxHeartbeats 0
theorem p66 {G0 : GH} {x y : Int} (hx : 0 ≤ x) (hx2 : x ≤ 1000000000) (hy : 0 ≤ y) (hy2 : y ≤ 1000000000) : Pure Tryd.prog G0 66 [.int .u64 x, .int .u64 y] (.tuple #[.int .u64 0, .int .u64 (x * y)]) := by
  intro G hG
  clear hG G0
  refine enter Tryd.func66 30 #[.tmp 4, .tmp 5] rfl Tryd.ntmps66 rfl (by decide +kernel) rfl ?_
  simp (maxDischargeDepth := 9) only [↓gB, gV, gT, reduceIte, reduceCtorEq, Nat.reduceEqDiff, Nat.reduceAdd, Nat.reduceSub, Nat.reduceLeDiff, Nat.reduceLT, Int.reduceEq, Nat.reduceMul]
  refine Ycp (p60 (by assumption) (by assumption) (by assumption) (by assumption)) ?_
  simp (maxDischargeDepth := 9) only [↓gB, gV, gT, reduceIte, reduceCtorEq, Nat.reduceEqDiff, Nat.reduceAdd, Nat.reduceSub, Nat.reduceLeDiff, Nat.reduceLT, Int.reduceEq, Nat.reduceMul]
  exact Kup_val (le_refl _) rfl
def repL (n k : Nat) : List Int := List.replicate k 1 ++ List.replicate (n - k) 0
theorem g50 {G0 : GH} {r : Nat} {n : Nat} (hx : G0 r = some (.cells [V 1].toArray 3 (0, 0), true)) (hn : 1 ≤ n) (hn2 : n ≤ 1000) : Gives Tryd.prog G0 50 [.slice (some ⟨r, 0, none⟩) 1 1, V n] (fun u G' => RSl Rp.int G' u (List.replicate n 1)) := by
  intro G hG; replace hx := hG _ _ hx
  clear hG G0
  refine enter Tryd.func50 48 #[.tmp 4] rfl Tryd.ntmps50 rfl (by decide +kernel) rfl ?_
  have hw1 : IntKind.u64.wrap ((1 : Nat) : Int) = 1 := u64_id (by omega) (by omega)
  have hw2 : IntKind.u64.wrap (n : Int) = n := u64_id (by omega) (by omega)
  have hw3 : IntKind.i64.wrap (n : Int) = n := wrap_id (by omega)
  have hc1 : ¬ (0 : Int) < 0 := by omega
  have hc2 : ¬ (9223372036854775807 : Int) < n := by omega
  have hc3 : ¬ (n : Int) < 0 := by omega
  simp (maxDischargeDepth := 9) only [↓gB, gV, gT, reduceIte, reduceCtorEq, Nat.reduceEqDiff, Nat.reduceAdd, Nat.reduceSub, Nat.reduceLeDiff, Nat.reduceLT, Int.reduceEq, Nat.reduceMul, hx, hw1, hw2, hw3, hc1, hc2, hc3, Int.one_mul]
  refine Ycp (p66 (by omega) (by omega) (by omega) (by omega)) ?_
  simp (maxDischargeDepth := 9) only [↓gB, gV, gT, reduceIte, reduceCtorEq, Nat.reduceEqDiff, Nat.reduceAdd, Nat.reduceSub, Nat.reduceLeDiff, Nat.reduceLT, Int.reduceEq, Nat.reduceMul, hx, hw1, hw2, hw3, hc1, hc2, hc3, Int.one_mul]
  refine Yms_row sl23 (ρ := Rp.int) (x0 := (0 : Int)) zv3 (fun _ => ⟨rfl, by unfold i64; omega⟩) (by omega) fun ad1 G1 h1 l1 wm1 => ?_
  replace hx := l1 _ _ hx
  simp (maxDischargeDepth := 9) only [↓gB, gV, gT, reduceIte, reduceCtorEq, Nat.reduceEqDiff, Nat.reduceAdd, Nat.reduceSub, Nat.reduceLeDiff, Nat.reduceLT, Int.reduceEq, Nat.reduceMul, hw1, hw2, hw3, h1, hx, hc1, hc2, hc3, Int.one_mul]
  obtain ⟨b, cells, hbb, hrest⟩ := wm1.open (by simp; omega)
  cases hbb
  have hL : ∀ k, k ≤ n → (repL n k).length = n := by intro k hk; unfold repL; simp; omega
  have wm : Row Rp.int 3 G G1 (.slice (some ⟨b, 0, none⟩) (repL n 0).length n) (repL n 0) := by rw [hL 0 (by omega)]; unfold repL; simpa using wm1
  have hcx : gcells G1 ⟨r, 0, none⟩ 1 = some [V 1] := gcells_at (cs := [V 1]) hx (by simp)
  refine Yg_copyI (i := 0) (n := n) (sn := 1) (ys := [1]) sl23.1 sl23.size wm (by rw [hL 0 (by omega)]; omega) rfl rfl rfl (by rw [hL 0 (by omega)]; omega) (by intro y hy; simp at hy; subst hy; unfold i64; omega) (by simp; omega) hcx l1 ?_
  intro G2 wc hkeep hle2
  rw [hL 0 (by omega), show (repL n 0).take 0 ++ [1] ++ (repL n 0).drop (0 + [(1 : Int)].length) = repL n 1 by unfold repL; simp] at wc
  simp (maxDischargeDepth := 9) only [↓gB, gV, gT, reduceIte, reduceCtorEq, Nat.reduceEqDiff, Nat.reduceAdd, Nat.reduceSub, Nat.reduceLeDiff, Nat.reduceLT, Int.reduceEq, Nat.reduceMul, hw1, hw2, hw3, hx, h1, hcx, hkeep]
  focus
    refine Xloop_intro _ _ _ _ _ (fun k f G' => ∃ (j : Nat), k = n - j ∧ (1 ≤ j) ∧ (j ≤ n) ∧ (Row Rp.int 3 G G' (.slice (some ⟨b, 0, none⟩) n n) (repL n j)) ∧ (G.le G') ∧ f 8 = V j ∧ f 7 = Go.Value.slice (Option.some { block := b, off := 0 }) n n) _ ⟨1, rfl, ?_, ?_, ?_, ?_, by simp (maxDischargeDepth := 9) only [↓gB, gV, gT, reduceIte, reduceCtorEq, Nat.reduceEqDiff, Nat.reduceAdd, Nat.reduceSub, Nat.reduceLeDiff, Nat.reduceLT, Int.reduceEq, Nat.reduceMul, hw1, hw2, hw3, hx, h1, hcx, hkeep, and_self]⟩ ?_
    · omega
    · assumption
    · assumption
    · assumption
    rintro k f G' ⟨j, rfl, hj, hjn, hrow, hle, f8, f7⟩
  simp (maxDischargeDepth := 9) only [↓gB, gV, gT, reduceIte, reduceCtorEq, Nat.reduceEqDiff, Nat.reduceAdd, Nat.reduceSub, Nat.reduceLeDiff, Nat.reduceLT, Int.reduceEq, Nat.reduceMul, hw1, hw2, hw3, hx, h1, hcx, hkeep, f8, f7]
  refine Xc_split _ _ _ _ _ (fun c1 => ?_) (fun c1 => ?_)
  · have hcj : ¬ n = j := by omega
    simp (maxDischargeDepth := 9) only [↓gB, gV, gT, reduceIte, reduceCtorEq, Nat.reduceEqDiff, Nat.reduceAdd, Nat.reduceSub, Nat.reduceLeDiff, Nat.reduceLT, Int.reduceEq, Nat.reduceMul, hw1, hw2, hw3, hx, h1, hcx, hkeep, f8, f7, c1, hcj]
    refine Xdraw_intro [0, 1, 2, 3, 4, 5, 6, 7, 8, 9] mixed (by kernel_rfl) (by decide +kernel) ?_
    simp (maxDischargeDepth := 9) only [↓gB, gV, gT, reduceIte, reduceCtorEq, Nat.reduceEqDiff, Nat.reduceAdd, Nat.reduceSub, Nat.reduceLeDiff, Nat.reduceLT, Int.reduceEq, Nat.reduceMul, hw1, hw2, hw3, hx, h1, hcx, hkeep, f8, f7, c1, hcj]
    refine vguard_intro (by omega) ?_
    refine vguard_intro (by omega) ?_
    obtain ⟨m, hm⟩ : ∃ m, m = min j (n - j) := ⟨_, rfl⟩
    have hml : (List.replicate m (1 : Int)).length = m := by simp
    have hm1 : 1 ≤ m ∧ j + m ≤ n := by omega
    have hrow' : Row Rp.int 3 G G' (.slice (some ⟨b, 0, none⟩) (repL n j).length n) (repL n j) := by rw [hL j hjn]; exact hrow
    have hcl := (hrow.cellsI (k := m) (by rw [hL j hjn]; omega) (by rw [hL j hjn]; omega))
    rw [show (repL n j).take m = List.replicate m 1 by unfold repL; rw [List.take_append_of_le_length (by simp; omega), List.take_replicate]; congr 1; omega] at hcl
    refine Yg_copyI (i := j) (n := n - j) (sn := j) (ys := List.replicate m 1) sl23.ty sl23.size hrow' (by rw [hL j hjn]; omega) rfl rfl rfl (by rw [hL j hjn]; omega) (by intro y hy; rw [List.eq_of_mem_replicate hy]; unfold i64; omega) (by rw [hml]; exact hm) (by rw [hml]; exact hcl) hle ?_
    intro G2 wc hkeep hle2
    rw [hml, hL j hjn, show (repL n j).take j ++ List.replicate m 1 ++ (repL n j).drop (j + m) = repL n (j + m) by
      unfold repL
      rw [List.take_left' (by simp), List.replicate_append_replicate, List.drop_append, List.drop_replicate, List.drop_replicate]
      rw [List.length_replicate, show j - (j + m) = 0 by omega, show n - j - (j + m - j) = n - (j + m) by omega, List.replicate_zero, List.nil_append]] at wc
    rw [hml]
    have hwj : IntKind.i64.wrap ((j : Int) + m) = ((j + m : Nat) : Int) := by rw [wrap_id (by omega)]; omega
    focus
      simp (maxDischargeDepth := 9) only [↓gB, gV, gT, reduceIte, reduceCtorEq, Nat.reduceEqDiff, Nat.reduceAdd, Nat.reduceSub, Nat.reduceLeDiff, Nat.reduceLT, Int.reduceEq, Nat.reduceMul, hw1, hw2, hw3, hx, h1, hcx, hkeep, f8, f7, c1, hcl, hkeep, hwj]
      rw [N_lp]
      refine ⟨_, ?_, _, sub_refl _, j + m, rfl, ?_, ?_, ?_, ?_, by simp (maxDischargeDepth := 9) only [↓gB, gV, gT, reduceIte, reduceCtorEq, Nat.reduceEqDiff, Nat.reduceAdd, Nat.reduceSub, Nat.reduceLeDiff, Nat.reduceLT, Int.reduceEq, Nat.reduceMul, hw1, hw2, hw3, hx, h1, hcx, hkeep, f8, f7, c1, hcl, hkeep, hwj, nat_succ, and_self]⟩
      · omega
      · omega
      · omega
      · assumption
      · assumption
  · obtain rfl : j = n := by omega
    simp (maxDischargeDepth := 9) only [↓gB, gV, gT, reduceIte, reduceCtorEq, Nat.reduceEqDiff, Nat.reduceAdd, Nat.reduceSub, Nat.reduceLeDiff, Nat.reduceLT, Int.reduceEq, Nat.reduceMul, hw1, hx, h1, hcx, hkeep, f8, hw2, hw3, f7, c1]
    obtain ⟨G3, hs, hl, hr⟩ := hrow.fin hle
    have e : repL j j = List.replicate j 1 := by unfold repL; simp
    rw [e] at hr
    exact Kup_gives hs hl hr
end Go.Proofs.YtdepecjjahodjaaDoor
namespace Go.Proofs.YtdepecjjahodjaaDoor
open Go Go.GL
attribute [local irreducible] Ycall GCalls
set_option maxRecDepth 10000
set_option maxHeartbeats 0
def addI (id : ByteArray) (v : Int) (m : List (ByteArray × Int)) : List (ByteArray × Int) := mset id (IntKind.i64.wrap (mget 0 id m + v)) m
def shr (c : Int) (n i : Nat) : Int := c / n + if (i : Int) < c % n then 1 else 0
def legTo (x : SLeg) (m : List (ByteArray × Int)) : Nat → List (ByteArray × Int)
  | 0 => m
  | j + 1 => match x.Rides[j]? with
    | some id => addI id (shr x.Cents x.Rides.length j) (legTo x m j)
    | none => legTo x m j
def legsTo (l : List SLeg) : Nat → List (ByteArray × Int)
  | 0 => []
  | i + 1 => match l[i]? with
    | some x => legTo x (legsTo l i) x.Rides.length
    | none => legsTo l i
theorem legTo_next {x : SLeg} {m : List (ByteArray × Int)} {j : Nat} {id : ByteArray} (h : x.Rides[j]? = some id) : legTo x m (j + 1) = mset id (IntKind.i64.wrap (mget 0 id (legTo x m j) + shr x.Cents x.Rides.length j)) (legTo x m j) := by
  conv => lhs; unfold legTo
  rw [h]; rfl
theorem legsTo_next {l : List SLeg} {i : Nat} {x : SLeg} (h : l[i]? = some x) : legsTo l (i + 1) = legTo x (legsTo l i) x.Rides.length := by
  conv => lhs; unfold legsTo
  rw [h]
theorem wrap_wrap (a b : Int) : IntKind.i64.wrap (IntKind.i64.wrap a + b) = IntKind.i64.wrap (a + b) := by
  rw [IntKind.wrap_i64, IntKind.wrap_i64, IntKind.wrap_i64]; omega
theorem wrap_b (a : Int) : i64 (IntKind.i64.wrap a) := by
  rw [IntKind.wrap_i64]; unfold i64; omega
theorem mset_mset {κ β : Type} [DecidableEq κ] (k : κ) (v w : β) : ∀ l : List (κ × β), mset k w (mset k v l) = mset k w l
  | [] => by simp [mset]
  | (q, x) :: l => by
    by_cases h : q = k
    · simp [mset, h]
    · have ih := mset_mset k v w l
      have e : ∀ y : β, ∀ L : List (κ × β), mset k y ((q, x) :: L) = (q, x) :: mset k y L := fun y L => by
        conv => lhs; unfold mset
        first | rw [if_neg h] | rw [if_neg (fun e => h e.symm)] | simp [h]
      rw [e, e, e, ih]
theorem add2 (id : ByteArray) (v : Int) (m : List (ByteArray × Int)) : mset id (IntKind.i64.wrap (mget 0 id (mset id (IntKind.i64.wrap (mget 0 id m + v)) m) + 1)) (mset id (IntKind.i64.wrap (mget 0 id m + v)) m) = mset id (IntKind.i64.wrap (mget 0 id m + (v + 1))) m := by
  rw [mset_mset, mget_mset, if_pos rfl, wrap_wrap, Int.add_assoc]
theorem legTo_len (x : SLeg) (m : List (ByteArray × Int)) : ∀ j, (legTo x m j).length ≤ m.length + j
  | 0 => Nat.le_refl _
  | j + 1 => by
    have h := legTo_len x m j
    unfold legTo
    split
    · rename_i id hid
      have := (mset_len id (IntKind.i64.wrap (mget 0 id (legTo x m j) + shr x.Cents x.Rides.length j)) (legTo x m j)).2
      unfold addI; omega
    · omega
theorem legTo_nodup (x : SLeg) {m : List (ByteArray × Int)} (h : (m.map (·.1)).Nodup) : ∀ j, ((legTo x m j).map (·.1)).Nodup
  | 0 => h
  | j + 1 => by
    have ih := legTo_nodup x h j
    unfold legTo
    split
    · exact mset_nodup _ _ ih
    · exact ih
theorem mset_i64 {id : ByteArray} {a : Int} : ∀ {m : List (ByteArray × Int)}, (∀ p ∈ m, i64 p.2) → i64 a → ∀ p ∈ mset id a m, i64 p.2
  | [], _, ha => by intro p hp; simp [mset] at hp; subst hp; exact ha
  | q :: m, h, ha => by
    intro p hp
    unfold mset at hp
    split at hp
    · rcases List.mem_cons.1 hp with rfl | hp
      · exact ha
      · exact h p (by simp [hp])
    · rcases List.mem_cons.1 hp with rfl | hp
      · exact h _ (by simp)
      · exact mset_i64 (fun p hp => h p (by simp [hp])) ha p hp
theorem legTo_i64 (x : SLeg) {m : List (ByteArray × Int)} (h : ∀ p ∈ m, i64 p.2) : ∀ j, ∀ p ∈ legTo x m j, i64 p.2
  | 0 => h
  | j + 1 => by
    have ih := legTo_i64 x h j
    unfold legTo
    split
    · exact mset_i64 ih (wrap_b _)
    · exact ih
theorem legsTo_nodup (l : List SLeg) : ∀ i, ((legsTo l i).map (·.1)).Nodup
  | 0 => by simp [legsTo]
  | i + 1 => by
    unfold legsTo
    split
    · exact legTo_nodup _ (legsTo_nodup l i) _
    · exact legsTo_nodup l i
theorem legsTo_i64 (l : List SLeg) : ∀ i, ∀ p ∈ legsTo l i, i64 p.2
  | 0 => by simp [legsTo]
  | i + 1 => by
    unfold legsTo
    split
    · exact legTo_i64 _ (legsTo_i64 l i) _
    · exact legsTo_i64 l i
theorem legsTo_len {l : List SLeg} (h : ∀ x ∈ l, x.Rides.length ≤ 10) : ∀ i, (legsTo l i).length ≤ 10 * i
  | 0 => by simp [legsTo]
  | i + 1 => by
    have ih := legsTo_len h i
    unfold legsTo
    split
    · rename_i x hx
      have := legTo_len x (legsTo l i) x.Rides.length
      have := h x (List.mem_of_getElem? hx)
      omega
    · omega
theorem incP_range (o : List Int) : ∀ k : Nat, ∀ i, (incP (List.range k) o)[i]? = o[i]?.map fun x => if i < k then x + 1 else x
  | 0 => by intro i; simp [incP]
  | k + 1 => by
    intro i
    have ih := incP_range o k i
    have e : incP (List.range (k + 1)) o = (incP (List.range k) o).modify k (· + 1) := by unfold incP; rw [List.range_succ, List.foldl_append]; rfl
    rw [e, List.getElem?_modify, ih]
    cases o[i]? with
    | none => simp
    | some x =>
      simp only [Option.map_some]
      by_cases h : k = i
      · subst h; simp
      · by_cases h2 : i < k
        · have : i < k + 1 := by omega
          simp [h, h2, this]
        · have : ¬ i < k + 1 := by omega
          simp [h, h2, this]
theorem sum_rep (n : Nat) (a : Int) : (List.replicate n a).sum = n * a := by
  induction n with
  | zero => simp
  | succ n ih => rw [List.replicate_succ, List.sum_cons, ih, Int.natCast_add, Int.add_mul]; omega
theorem divide_ones {c : Int} {n : Nat} (hn : 1 ≤ n) : (divideF c (List.replicate n 1)).length = n ∧ ∀ i, i < n → (divideF c (List.replicate n 1))[i]? = some (shr c n i) := by
  have hs : (List.replicate n (1 : Int)).sum = n := by rw [sum_rep]; omega
  have hc : c * 1 = c := Int.mul_one c
  have h1 : ((List.replicate n (1 : Int)).map (c * ·)).map (· / (n : Int)) = List.replicate n (c / n) := by simp
  have h2 : ((List.replicate n (1 : Int)).map (c * ·)).map (· % (n : Int)) = List.replicate n (c % n) := by simp
  have hm0 := Int.emod_nonneg c (b := (n : Int)) (by omega)
  have hm1 := Int.emod_lt_of_pos c (b := (n : Int)) (by omega)
  have hkk : c - (List.replicate n (c / (n : Int))).sum = c % n := by rw [sum_rep]; have := Int.mul_ediv_add_emod c n; omega
  rw [divide_hand (by omega), hs]
  unfold handF
  rw [h1, h2, hkk]
  have hg : ∀ p, p < n → (List.replicate n (c % (n : Int))).getD p 0 = c % n := by
    intro p hp; rw [List.getD_eq_getElem?_getD, List.getElem?_replicate, if_pos hp]; rfl
  rw [hand_eq (c % (n : Int)).toNat (List.range n) _ _ List.nodup_range (fun p hp => by
    rw [List.mem_range] at hp; rw [List.length_replicate, hg p hp]; exact ⟨hp, hm0⟩) (fun p hp hq => by
    rw [List.length_replicate] at hp; exact absurd (List.mem_range.2 hp) hq) (by
    refine List.pairwise_lt_range.imp_of_mem ?_
    intro a b ha hb hab
    rw [List.mem_range] at ha hb
    unfold Bef; right
    exact ⟨(hg b hb).trans (hg a ha).symm, by show (a : Int) < b; omega⟩) (by rw [List.length_range]; omega)]
  rw [List.take_range]
  have hmin : min (c % (n : Int)).toNat n = (c % (n : Int)).toNat := by omega
  rw [hmin]
  have hat := incP_range (List.replicate n (c / (n : Int))) (c % (n : Int)).toNat
  have hi : ∀ i, i < n → (incP (List.range (c % (n : Int)).toNat) (List.replicate n (c / (n : Int))))[i]? = some (shr c n i) := by
    intro i hi
    rw [hat i, List.getElem?_replicate, if_pos hi, Option.map_some]
    unfold shr
    congr 1
    by_cases h : i < (c % (n : Int)).toNat
    · rw [if_pos h, if_pos (by omega)]
    · rw [if_neg h, if_neg (by omega)]; omega
  refine ⟨?_, hi⟩
  have hn' := hat n
  rw [List.getElem?_replicate, if_neg (by omega), Option.map_none, List.getElem?_eq_none_iff] at hn'
  have hlast := hi (n - 1) (by omega)
  have := (List.getElem?_eq_some_iff.1 hlast).1
  omega
theorem due_inj {l : List (ByteArray × Int)} (h : (l.map (·.1)).Nodup) {x y : SDue} (hx : x ∈ duesP l) (hy : y ∈ duesP l) (hk : x.Key = y.Key) : x = y := by
  unfold duesP at hx hy
  obtain ⟨p, hp, rfl⟩ := List.mem_map.1 hx
  obtain ⟨q, hq, rfl⟩ := List.mem_map.1 hy
  have hk' : p.1 = q.1 := hk
  have : p = q := by
    clear hx hy hk
    induction l with
    | nil => cases hp
    | cons z l ih =>
      rw [List.map_cons, List.nodup_cons] at h
      rcases List.mem_cons.1 hp with e1 | hp' <;> rcases List.mem_cons.1 hq with e2 | hq'
      · rw [e1, e2]
      · exact absurd (List.mem_map.2 ⟨q, hq', by rw [← hk', e1]⟩) h.1
      · exact absurd (List.mem_map.2 ⟨p, hp', by rw [hk', e2]⟩) h.1
      · exact ih h.2 hp' hq'
  rw [this]
theorem sorted_one {α : Type} {r : α → α → Prop} : ∀ {l m : List α}, (∀ x ∈ l, ∀ y ∈ l, r x y → r y x → x = y) → l.Perm m → l.Pairwise r → m.Pairwise r → l = m
  | [], m, _, h, _, _ => (List.nil_perm.1 h).symm
  | x :: l, [], _, h, _, _ => absurd h (by simp)
  | x :: l, y :: m, hr, h, h1, h2 => by
    have hy : y ∈ x :: l := h.mem_iff.2 (by simp)
    have e : x = y := by
      have hx : x ∈ y :: m := h.mem_iff.1 (by simp)
      rcases List.mem_cons.1 hx with e | hx
      · exact e
      rcases List.mem_cons.1 hy with e | hy'
      · exact e.symm
      exact hr x (by simp) y hy ((List.pairwise_cons.1 h1).1 y hy') ((List.pairwise_cons.1 h2).1 x hx)
    subst e
    rw [sorted_one (fun a ha b hb => hr a (by simp [ha]) b (by simp [hb])) ((List.perm_cons x).1 h) (List.pairwise_cons.1 h1).2 (List.pairwise_cons.1 h2).2]
theorem dues_one {l : List (ByteArray × Int)} (h : (l.map (·.1)).Nodup) {m m' : List SDue} (h1 : m.Perm (duesP l)) (h2 : m'.Perm (duesP l)) (s1 : sortedDue m) (s2 : sortedDue m') : m = m' := by
  refine sorted_one ?_ (h1.trans h2.symm) s1 s2
  intro x hx y hy a b
  have hx := h1.mem_iff.1 hx
  have hy := h1.mem_iff.1 hy
  refine due_inj h hx hy ?_
  have a' : sLt y.Key x.Key = false := by cases c : sLt y.Key x.Key with | false => rfl | true => exact absurd ((sCmp_lt _ _).2 c) a
  have b' : sLt x.Key y.Key = false := by cases c : sLt x.Key y.Key with | false => rfl | true => exact absurd ((sCmp_lt _ _).2 c) b
  exact sLt_tri b' a'
end Go.Proofs.YtdepecjjahodjaaDoor
namespace Go.Proofs.YtdepecjjahodjaaDoor
open Go Go.GL
attribute [local irreducible] Ycall GCalls
set_option maxRecDepth 10000
set_option maxHeartbeats 0
theorem shr_y {c : Int} {n i : Nat} (h : (i : Int) < c % n) : shr c n i = c / n + 1 := by unfold shr; rw [if_pos h]
theorem shr_n {c : Int} {n i : Nat} (h : ¬ (i : Int) < c % n) : shr c n i = c / n := by unfold shr; rw [if_neg h]; omega
theorem g30 {G0 : GH} {v : Value} {l : List SLeg} (hv : RSl rLeg G0 v l) (hn : l.length ≤ 2000) (hr : ∀ x ∈ l, 1 ≤ x.Rides.length ∧ x.Rides.length ≤ 10) (hc : ∀ x ∈ l, 0 ≤ x.Cents ∧ x.Cents ≤ 1000000000) : Gives Tryd.prog G0 30 [v] (fun u G' => ∃ m : List SDue, m.Perm (duesP (legsTo l l.length)) ∧ sortedDue m ∧ RSl rDue G' u m) := by
  intro G hG; replace hv := hv.le hG
  clear hG G0
  refine enter Tryd.func30 49 #[.tmp 2] rfl Tryd.ntmps30 rfl (by decide +kernel) rfl ?_
  obtain ⟨a, c, rfl⟩ := hv.val
  have hll := legsTo_len (l := l) (fun x hx => (hr x hx).2)
  simp (maxDischargeDepth := 9) only [↓gB, gV, gT, reduceIte, reduceCtorEq, Nat.reduceEqDiff, Nat.reduceAdd, Nat.reduceSub, Nat.reduceLeDiff, Nat.reduceLT, Int.reduceEq, Nat.reduceMul]
  refine Yn1 fun r1 h1 => ?_
  simp (maxDischargeDepth := 9) only [↓gB, gV, gT, reduceIte, reduceCtorEq, Nat.reduceEqDiff, Nat.reduceAdd, Nat.reduceSub, Nat.reduceLeDiff, Nat.reduceLT, Int.reduceEq, Nat.reduceMul, h1]
  focus
    refine Xloop_intro _ _ _ _ _ (fun k f G' => ∃ (i : Nat), k = l.length - i ∧ (i ≤ l.length) ∧ (G' r1 = some (mapO Value.string V (legsTo l i), true)) ∧ (RSl rLeg G' (.slice a l.length c) l) ∧ (G.le G') ∧ f 12 = V i ∧ f 3 = Go.Value.map (Option.some r1) ∧ f 10 = Go.Value.slice a l.length c ∧ f 11 = Go.Value.int Go.IntKind.i64 ↑l.length) _ ⟨0, rfl, ?_, ?_, ?_, ?_, by simp (maxDischargeDepth := 9) only [↓gB, gV, gT, reduceIte, reduceCtorEq, Nat.reduceEqDiff, Nat.reduceAdd, Nat.reduceSub, Nat.reduceLeDiff, Nat.reduceLT, Int.reduceEq, Nat.reduceMul, h1, and_self]⟩ ?_
    · omega
    · exact put_self _ _ _
    · exact RSl.put _ (by assumption) (by assumption)
    · (simp (maxDischargeDepth := 9) only [le_self, le_puts, le_put0, sub_self, sub_puts, sub_put0, h1]; done)
    rintro k f G' ⟨i, rfl, hi, hm, hv, hle, f12, f3, f10, f11⟩
  simp (maxDischargeDepth := 9) only [↓gB, gV, gT, reduceIte, reduceCtorEq, Nat.reduceEqDiff, Nat.reduceAdd, Nat.reduceSub, Nat.reduceLeDiff, Nat.reduceLT, Int.reduceEq, Nat.reduceMul, h1, hm, f12, f3, f10, f11]
  refine Xc_split _ _ _ _ _ (fun c1 => ?_) (fun c1 => ?_)
  · obtain ⟨x, helx⟩ : ∃ x, l[i]? = some x := ⟨_, List.getElem?_eq_getElem (by omega)⟩
    have hxr := hr x (List.mem_of_getElem? helx)
    have hxc := hc x (List.mem_of_getElem? helx)
    have hnx := legsTo_next helx
    simp (maxDischargeDepth := 9) only [↓gB, gV, gT, reduceIte, reduceCtorEq, Nat.reduceEqDiff, Nat.reduceAdd, Nat.reduceSub, Nat.reduceLeDiff, Nat.reduceLT, Int.reduceEq, Nat.reduceMul, h1, hm, f12, f3, f10, f11, c1]
    obtain ⟨x1, a1, s1, m1, rfl, ⟨v1, rfl, w1⟩, e1⟩ := hv.at (i) (by omega) 2 rfl
    obtain rfl := el_eq helx m1
    obtain ⟨aw1, cw1, rfl⟩ := RSl.val w1
    simp (maxDischargeDepth := 9) only [↓gB, gV, gT, reduceIte, reduceCtorEq, Nat.reduceEqDiff, Nat.reduceAdd, Nat.reduceSub, Nat.reduceLeDiff, Nat.reduceLT, Int.reduceEq, Nat.reduceMul, h1, hm, f12, f3, f11, c1, f10, e1]
    refine vguard_intro (by simp) ?_
    refine Yn2 fun r2 h2 => ?_
    simp (maxDischargeDepth := 9) only [↓gB, gV, gT, reduceIte, reduceCtorEq, Nat.reduceEqDiff, Nat.reduceAdd, Nat.reduceSub, Nat.reduceLeDiff, Nat.reduceLT, Int.reduceEq, Nat.reduceMul, h1, hm, f12, f3, f11, c1, f10, e1, h2]
    have n2 : r1 ≠ r2 := by rintro rfl; rw [h2] at hm; cases hm
    have n2' := n2.symm
    focus
      refine Xloop_intro _ _ _ _ _ (fun k f G' => ∃ (j : Nat), k = x.Rides.length - j ∧ (j ≤ x.Rides.length) ∧ (G' r1 = some (mapO Value.string V (legTo x (legsTo l i) j), true)) ∧ (G' r2 = some (.cells [.slice aw1 x.Rides.length cw1, V x.Cents].toArray 76 (0, 0), true)) ∧ (RSl Rp.str G' (.slice aw1 x.Rides.length cw1) x.Rides) ∧ (RSl rLeg G' (.slice (some a1) l.length c) l) ∧ (G.le G') ∧ f 22 = V j ∧ f 3 = Go.Value.map (Option.some r1) ∧ f 5 = Go.Value.pointer (Option.some { block := r2, off := 0 }) ∧ f 6 = Go.Value.int Go.IntKind.i64 ↑x.Rides.length ∧ f 10 = Go.Value.slice (Option.some a1) l.length c ∧ f 11 = Go.Value.int Go.IntKind.i64 ↑l.length ∧ f 12 = Go.GL.V ↑i ∧ f 20 = Go.Value.slice aw1 x.Rides.length cw1 ∧ f 21 = Go.Value.int Go.IntKind.i64 ↑x.Rides.length) _ ⟨0, rfl, ?_, ?_, ?_, ?_, ?_, ?_, by simp (maxDischargeDepth := 9) only [↓gB, gV, gT, reduceIte, reduceCtorEq, Nat.reduceEqDiff, Nat.reduceAdd, Nat.reduceSub, Nat.reduceLeDiff, Nat.reduceLT, Int.reduceEq, Nat.reduceMul, h1, hm, f12, f3, f11, c1, f10, e1, h2, n2, n2', and_self]⟩ ?_
      · omega
      · exact (le_put (by assumption) _) _ _ (by assumption)
      · exact put_self _ _ _
      · exact RSl.put _ (by assumption) (by assumption)
      · exact RSl.put _ (by assumption) (by assumption)
      · (simp (maxDischargeDepth := 9) only [le_self, le_puts, le_put0, sub_self, sub_puts, sub_put0, h1, hle, h2]; done)
      rintro k f G' ⟨j, rfl, hj, hm, hz, w1, hv, hle, f22, f3, f5, f6, f10, f11, f12, f20, f21⟩
    simp (maxDischargeDepth := 9) only [↓gB, gV, gT, reduceIte, reduceCtorEq, Nat.reduceEqDiff, Nat.reduceAdd, Nat.reduceSub, Nat.reduceLeDiff, Nat.reduceLT, Int.reduceEq, Nat.reduceMul, h1, hm, f12, f3, f11, c1, f10, e1, h2, n2, n2', hm, hz, f22, f3, f5, f6, f10, f11, f12, f20, f21]
    refine Xc_split _ _ _ _ _ (fun c2 => ?_) (fun c2 => ?_)
    · obtain ⟨id, help⟩ : ∃ id, x.Rides[j]? = some id := ⟨_, List.getElem?_eq_getElem (by omega)⟩
      have hjx := legTo_next (m := legsTo l i) help
      have hq1 : x.Cents.tdiv x.Rides.length = x.Cents / x.Rides.length := Int.tdiv_eq_ediv_of_nonneg hxc.1
      have hq2 : x.Cents.tmod x.Rides.length = x.Cents % x.Rides.length := Int.tmod_eq_emod_of_nonneg hxc.1
      have hq3 : ¬ (x.Rides.length : Int) = 0 := by omega
      have hq4 := Int.ediv_nonneg hxc.1 (show (0 : Int) ≤ x.Rides.length by omega)
      have hq5 := Int.ediv_le_self (x.Rides.length : Int) hxc.1
      have hq6 : IntKind.i64.wrap (x.Cents / x.Rides.length) = x.Cents / x.Rides.length := wrap_id (by omega)
      by_cases hlt : (j : Int) < x.Cents % x.Rides.length
      · rw [shr_y hlt] at hjx
        focus
          simp (maxDischargeDepth := 9) only [↓gB, gV, gT, reduceIte, reduceCtorEq, Nat.reduceEqDiff, Nat.reduceAdd, Nat.reduceSub, Nat.reduceLeDiff, Nat.reduceLT, Int.reduceEq, Nat.reduceMul, h1, hm, f12, f3, f11, c1, f10, e1, h2, n2, n2', hm, hz, f22, f3, f5, f6, f10, f11, f12, f20, f21, c2, hq1, hq2, hq6, hq3, hlt]
          obtain ⟨x2, a2, s2, m2, rfl, rfl, e2⟩ := w1.at1 (j) (by omega) rfl
          obtain rfl := el_eq help m2
          simp (maxDischargeDepth := 9) only [↓gB, gV, gT, reduceIte, reduceCtorEq, Nat.reduceEqDiff, Nat.reduceAdd, Nat.reduceSub, Nat.reduceLeDiff, Nat.reduceLT, Int.reduceEq, Nat.reduceMul, h1, hm, f12, f3, f11, c1, f10, h2, n2, n2', hm, f22, f3, f5, f6, f10, f11, f12, f21, c2, hq1, hq2, hq6, e1, hz, f20, e2, hq3, hlt]
          refine vguard_intro (by simp) ?_
          refine Xdraw_intro [0, 1, 2, 3, 4, 5, 6, 7, 8] mixed (by kernel_rfl) (by decide +kernel) ?_
          simp (maxDischargeDepth := 9) only [↓gB, gV, gT, reduceIte, reduceCtorEq, Nat.reduceEqDiff, Nat.reduceAdd, Nat.reduceSub, Nat.reduceLeDiff, Nat.reduceLT, Int.reduceEq, Nat.reduceMul, h1, hm, f12, f3, f11, c1, f10, h2, n2, n2', hm, f22, f3, f5, f6, f10, f11, f12, f21, c2, hq1, hq2, hq6, e1, hz, f20, e2, hq3, hlt]
          have p1 := mt77.look (kv := Go.Value.string id) (G := G') (by assumption) _ rfl
          simp (maxDischargeDepth := 9) only [↓gB, gV, gT, reduceIte, reduceCtorEq, Nat.reduceEqDiff, Nat.reduceAdd, Nat.reduceSub, Nat.reduceLeDiff, Nat.reduceLT, Int.reduceEq, Nat.reduceMul, h1, hm, f12, f3, f11, c1, f10, h2, n2, n2', hm, f22, f3, f5, f6, f10, f11, f12, f21, c2, hq1, hq2, hq6, e1, hz, f20, e2, p1, hq3, hlt]
          refine mt77.upd (by assumption) _ rfl _ rfl ?_
          simp (maxDischargeDepth := 9) only [↓gB, gV, gT, reduceIte, reduceCtorEq, Nat.reduceEqDiff, Nat.reduceAdd, Nat.reduceSub, Nat.reduceLeDiff, Nat.reduceLT, Int.reduceEq, Nat.reduceMul, h1, hm, f12, f3, f11, c1, f10, h2, n2, n2', hm, f22, f3, f5, f6, f10, f11, f12, f21, c2, hq1, hq2, hq6, e1, hz, f20, e2, p1, hq3, hlt]
          have p2 := mt77.look (kv := Go.Value.string id) (G := G'.put r1 (Go.GL.mapO Go.Value.string Go.GL.V (Go.GL.mset id (Go.IntKind.i64.wrap (Go.GL.mget 0 id (Go.Proofs.YtdepecjjahodjaaDoor.legTo x (Go.Proofs.YtdepecjjahodjaaDoor.legsTo l i) j) + x.Cents / ↑x.Rides.length)) (Go.Proofs.YtdepecjjahodjaaDoor.legTo x (Go.Proofs.YtdepecjjahodjaaDoor.legsTo l i) j)), Bool.true)) (put_self _ _ _) _ rfl
          simp (maxDischargeDepth := 9) only [↓gB, gV, gT, reduceIte, reduceCtorEq, Nat.reduceEqDiff, Nat.reduceAdd, Nat.reduceSub, Nat.reduceLeDiff, Nat.reduceLT, Int.reduceEq, Nat.reduceMul, h1, hm, f12, f3, f11, c1, f10, h2, n2, n2', hm, f22, f3, f5, f6, f10, f11, f12, f21, c2, hq1, hq2, hq6, e1, hz, f20, e2, p1, p2, hq3, hlt]
          refine mt77.upd (put_self _ _ _) _ rfl _ rfl ?_
          simp (maxDischargeDepth := 9) only [↓gB, gV, gT, reduceIte, reduceCtorEq, Nat.reduceEqDiff, Nat.reduceAdd, Nat.reduceSub, Nat.reduceLeDiff, Nat.reduceLT, Int.reduceEq, Nat.reduceMul, h1, hm, f12, f3, f11, c1, f10, h2, n2, n2', hm, f22, f3, f5, f6, f10, f11, f12, f21, c2, hq1, hq2, hq6, e1, hz, f20, e2, p1, p2, hq3, hlt]
          have q1 : Go.IntKind.i64.wrap (↑j + 1) = ↑j + 1 := wrap_id (by omega)
          simp (maxDischargeDepth := 9) only [↓gB, gV, gT, reduceIte, reduceCtorEq, Nat.reduceEqDiff, Nat.reduceAdd, Nat.reduceSub, Nat.reduceLeDiff, Nat.reduceLT, Int.reduceEq, Nat.reduceMul, h1, hm, f12, f3, f11, c1, f10, h2, n2, n2', hm, f22, f3, f5, f6, f10, f11, f12, f21, c2, hq1, hq2, hq6, e1, hz, f20, e2, p1, p2, q1, hq3, hlt]
          rw [N_lp]
          refine ⟨_, ?_, _, sub_refl _, j + 1, rfl, ?_, ?_, ?_, ?_, ?_, ?_, by simp (maxDischargeDepth := 9) only [↓gB, gV, gT, reduceIte, reduceCtorEq, Nat.reduceEqDiff, Nat.reduceAdd, Nat.reduceSub, Nat.reduceLeDiff, Nat.reduceLT, Int.reduceEq, Nat.reduceMul, h1, hm, f12, f3, f11, c1, f10, h2, n2, n2', hm, f22, f3, f5, f6, f10, f11, f12, f21, c2, hq1, hq2, hq6, e1, hz, f20, e2, p1, p2, q1, hq3, hlt, nat_succ, and_self]⟩
          · omega
          · omega
          · (rw [hjx, ← add2]; exact put_self _ _ _; done)
          · exact (put_not _ _ (by assumption)).trans (by assumption)
          · exact RSl.ile (by assumption) (ile_put (by assumption) _)
          · exact RSl.ile (by assumption) (ile_put (by assumption) _)
          · exact le_put_new (by assumption) (by assumption) _
      · rw [shr_n hlt] at hjx
        focus
          simp (maxDischargeDepth := 9) only [↓gB, gV, gT, reduceIte, reduceCtorEq, Nat.reduceEqDiff, Nat.reduceAdd, Nat.reduceSub, Nat.reduceLeDiff, Nat.reduceLT, Int.reduceEq, Nat.reduceMul, h1, hm, f12, f3, f11, c1, f10, e1, h2, n2, n2', hm, hz, f22, f3, f5, f6, f10, f11, f12, f20, f21, c2, hq1, hq2, hq6, hq3, hlt]
          obtain ⟨x2, a2, s2, m2, rfl, rfl, e2⟩ := w1.at1 (j) (by omega) rfl
          obtain rfl := el_eq help m2
          simp (maxDischargeDepth := 9) only [↓gB, gV, gT, reduceIte, reduceCtorEq, Nat.reduceEqDiff, Nat.reduceAdd, Nat.reduceSub, Nat.reduceLeDiff, Nat.reduceLT, Int.reduceEq, Nat.reduceMul, h1, hm, f12, f3, f11, c1, f10, h2, n2, n2', hm, f22, f3, f5, f6, f10, f11, f12, f21, c2, hq1, hq2, hq6, e1, hz, f20, e2, hq3, hlt]
          refine vguard_intro (by simp) ?_
          refine Xdraw_intro [0, 1, 2, 3, 4, 5, 6, 7, 8] mixed (by kernel_rfl) (by decide +kernel) ?_
          simp (maxDischargeDepth := 9) only [↓gB, gV, gT, reduceIte, reduceCtorEq, Nat.reduceEqDiff, Nat.reduceAdd, Nat.reduceSub, Nat.reduceLeDiff, Nat.reduceLT, Int.reduceEq, Nat.reduceMul, h1, hm, f12, f3, f11, c1, f10, h2, n2, n2', hm, f22, f3, f5, f6, f10, f11, f12, f21, c2, hq1, hq2, hq6, e1, hz, f20, e2, hq3, hlt]
          have p1 := mt77.look (kv := Go.Value.string id) (G := G') (by assumption) _ rfl
          simp (maxDischargeDepth := 9) only [↓gB, gV, gT, reduceIte, reduceCtorEq, Nat.reduceEqDiff, Nat.reduceAdd, Nat.reduceSub, Nat.reduceLeDiff, Nat.reduceLT, Int.reduceEq, Nat.reduceMul, h1, hm, f12, f3, f11, c1, f10, h2, n2, n2', hm, f22, f3, f5, f6, f10, f11, f12, f21, c2, hq1, hq2, hq6, e1, hz, f20, e2, p1, hq3, hlt]
          refine mt77.upd (by assumption) _ rfl _ rfl ?_
          simp (maxDischargeDepth := 9) only [↓gB, gV, gT, reduceIte, reduceCtorEq, Nat.reduceEqDiff, Nat.reduceAdd, Nat.reduceSub, Nat.reduceLeDiff, Nat.reduceLT, Int.reduceEq, Nat.reduceMul, h1, hm, f12, f3, f11, c1, f10, h2, n2, n2', hm, f22, f3, f5, f6, f10, f11, f12, f21, c2, hq1, hq2, hq6, e1, hz, f20, e2, p1, hq3, hlt]
          have q1 : Go.IntKind.i64.wrap (↑j + 1) = ↑j + 1 := wrap_id (by omega)
          simp (maxDischargeDepth := 9) only [↓gB, gV, gT, reduceIte, reduceCtorEq, Nat.reduceEqDiff, Nat.reduceAdd, Nat.reduceSub, Nat.reduceLeDiff, Nat.reduceLT, Int.reduceEq, Nat.reduceMul, h1, hm, f12, f3, f11, c1, f10, h2, n2, n2', hm, f22, f3, f5, f6, f10, f11, f12, f21, c2, hq1, hq2, hq6, e1, hz, f20, e2, p1, q1, hq3, hlt]
          rw [N_lp]
          refine ⟨_, ?_, _, sub_refl _, j + 1, rfl, ?_, ?_, ?_, ?_, ?_, ?_, by simp (maxDischargeDepth := 9) only [↓gB, gV, gT, reduceIte, reduceCtorEq, Nat.reduceEqDiff, Nat.reduceAdd, Nat.reduceSub, Nat.reduceLeDiff, Nat.reduceLT, Int.reduceEq, Nat.reduceMul, h1, hm, f12, f3, f11, c1, f10, h2, n2, n2', hm, f22, f3, f5, f6, f10, f11, f12, f21, c2, hq1, hq2, hq6, e1, hz, f20, e2, p1, q1, hq3, hlt, nat_succ, and_self]⟩
          · omega
          · omega
          · (rw [hjx]; exact put_self _ _ _; done)
          · exact (put_not _ _ (by assumption)).trans (by assumption)
          · exact RSl.ile (by assumption) (ile_put (by assumption) _)
          · exact RSl.ile (by assumption) (ile_put (by assumption) _)
          · exact le_put_new (by assumption) (by assumption) _
    · obtain rfl : j = x.Rides.length := by omega
      focus
        simp (maxDischargeDepth := 9) only [↓gB, gV, gT, reduceIte, reduceCtorEq, Nat.reduceEqDiff, Nat.reduceAdd, Nat.reduceSub, Nat.reduceLeDiff, Nat.reduceLT, Int.reduceEq, Nat.reduceMul, h1, hm, f12, f3, f11, c1, f10, e1, h2, n2, n2', hz, f3, f5, f6, f10, f11, f12, f20, f21, hm, f22, c2]
        have q1 : Go.IntKind.i64.wrap (↑i + 1) = ↑i + 1 := wrap_id (by omega)
        simp (maxDischargeDepth := 9) only [↓gB, gV, gT, reduceIte, reduceCtorEq, Nat.reduceEqDiff, Nat.reduceAdd, Nat.reduceSub, Nat.reduceLeDiff, Nat.reduceLT, Int.reduceEq, Nat.reduceMul, h1, hm, f12, f3, f11, c1, f10, e1, h2, n2, n2', hz, f3, f5, f6, f10, f11, f12, f20, f21, hm, f22, c2, q1]
        rw [N_lp]
        refine ⟨_, ?_, _, sub_refl _, i + 1, rfl, ?_, ?_, ?_, ?_, by simp (maxDischargeDepth := 9) only [↓gB, gV, gT, reduceIte, reduceCtorEq, Nat.reduceEqDiff, Nat.reduceAdd, Nat.reduceSub, Nat.reduceLeDiff, Nat.reduceLT, Int.reduceEq, Nat.reduceMul, h1, hm, f12, f3, f11, c1, f10, e1, h2, n2, n2', hz, f3, f5, f6, f10, f11, f12, f20, f21, hm, f22, c2, q1, nat_succ, and_self]⟩
        · omega
        · omega
        · (rw [hnx]; assumption; done)
        · assumption
        · assumption
  · obtain rfl : i = l.length := by omega
    have hli := legsTo_i64 l l.length
    have hlb : (legsTo l l.length).length ≤ 1048576 := by have := hll l.length; omega
    simp (maxDischargeDepth := 9) only [↓gB, gV, gT, reduceIte, reduceCtorEq, Nat.reduceEqDiff, Nat.reduceAdd, Nat.reduceSub, Nat.reduceLeDiff, Nat.reduceLT, Int.reduceEq, Nat.reduceMul, h1, f3, f10, f11, hm, f12, c1]
    refine Ycg (g52 (by assumption) (by assumption) (by assumption)) ?_ ?_
    · exact fun _ _ _ hl q => by obtain ⟨z0, w0', w0'', w0'''⟩ := q; exact ⟨z0, (by first | exact w0' | exact RSl.le w0' hl | exact Row.le w0' hl | exact hl _ _ w0' | exact GH.le.trans w0' hl), (by first | exact w0'' | exact RSl.le w0'' hl | exact Row.le w0'' hl | exact hl _ _ w0'' | exact GH.le.trans w0'' hl), (by first | exact w0''' | exact RSl.le w0''' hl | exact Row.le w0''' hl | exact hl _ _ w0''' | exact GH.le.trans w0''' hl)⟩
    intro u1 G1 l1 w1
    replace hv := RSl.le hv l1
    replace hle := GH.le.trans hle l1
    replace hm := l1 _ _ hm
    obtain ⟨z1, w1', w1'', w1'''⟩ := w1
    obtain ⟨aw1''', cw1''', rfl⟩ := RSl.val w1'''
    simp (maxDischargeDepth := 9) only [↓gB, gV, gT, reduceIte, reduceCtorEq, Nat.reduceEqDiff, Nat.reduceAdd, Nat.reduceSub, Nat.reduceLeDiff, Nat.reduceLT, Int.reduceEq, Nat.reduceMul, h1, f3, f10, f11, f12, c1, hm]
    exact Kup_gives (sub_refl _) hle ⟨_, (by assumption), (by assumption), (by assumption)⟩
end Go.Proofs.YtdepecjjahodjaaDoor
namespace Go.Proofs.YtdepecjjahodjaaDoor
open Go Go.GL
attribute [local irreducible] Ycall GCalls
set_option maxRecDepth 10000
set_option maxHeartbeats 0
theorem lg_ok {l : List SLeg} (h : legsE l = 0) : l.length ≤ 2000 ∧ (∀ x ∈ l, 1 ≤ x.Rides.length ∧ x.Rides.length ≤ 10) ∧ ∀ x ∈ l, 0 ≤ x.Cents ∧ x.Cents ≤ 1000000000 := by
  unfold legsE at h
  split at h
  · exact absurd h (by decide)
  · rename_i hl
    have hx : ∀ x ∈ l, (1 ≤ x.Rides.length ∧ x.Rides.length ≤ 10) ∧ 0 ≤ x.Cents ∧ x.Cents ≤ 1000000000 := by
      intro x hx
      obtain ⟨i, hi, rfl⟩ := List.mem_iff_getElem.1 hx
      have hb := chk_prev h (List.getElem?_eq_getElem hi)
      unfold legBad at hb
      split at hb
      · exact absurd hb (by decide)
      · rename_i h1
        split at hb
        · rename_i h2; exact absurd hb h2
        · rename_i h2
          split at hb
          · exact absurd hb (by decide)
          · rename_i h3
            have h4 := keysE_len (Decidable.not_not.1 h2)
            have h5 : l[i].Rides.length ≠ 0 := fun e => h1 (List.length_eq_zero_iff.1 e)
            have h6 : within l[i].Cents 0 1000000000 = true := by cases c : within l[i].Cents 0 1000000000 with | true => rfl | false => exact absurd c h3
            have h7 := within_iff.1 h6
            exact ⟨⟨by omega, h4⟩, h7⟩
    exact ⟨by omega, fun x m => (hx x m).1, fun x m => (hx x m).2⟩
theorem p29 {G0 : GH} {v : Value} {l : List SLeg} (hv : RSl rLeg G0 v l) (hn : l.length ≤ 1000000000) (hr : ∀ x ∈ l, x.Rides.length ≤ 1000000000) (he : ¬ legsE l = 0) : Pure Tryd.prog G0 29 [v] (.tuple #[.slice none 0 0, V (legsE l)]) := by
  intro G hG; replace hv := hv.le hG
  clear hG G0
  refine enter Tryd.func29 49 #[.tmp 2, .tmp 3] rfl Tryd.ntmps29 rfl (by decide +kernel) rfl ?_
  obtain ⟨a, c, rfl⟩ := hv.val
  simp (maxDischargeDepth := 9) only [↓gB, gV, gT, reduceIte, reduceCtorEq, Nat.reduceEqDiff, Nat.reduceAdd, Nat.reduceSub, Nat.reduceLeDiff, Nat.reduceLT, Int.reduceEq, Nat.reduceMul, he]
  refine Ycp (p27 (by assumption) (by assumption) (by assumption)) ?_
  simp (maxDischargeDepth := 9) only [↓gB, gV, gT, reduceIte, reduceCtorEq, Nat.reduceEqDiff, Nat.reduceAdd, Nat.reduceSub, Nat.reduceLeDiff, Nat.reduceLT, Int.reduceEq, Nat.reduceMul, he]
  exact Kup_val (le_refl _) rfl
theorem g29 {G0 : GH} {v : Value} {l : List SLeg} (hv : RSl rLeg G0 v l) (hn : l.length ≤ 1000000000) (hr : ∀ x ∈ l, x.Rides.length ≤ 1000000000) (he : legsE l = 0) : Gives Tryd.prog G0 29 [v] (fun u G' => ∃ m : List SDue, m.Perm (duesP (legsTo l l.length)) ∧ sortedDue m ∧ ∃ x, RSl rDue G' x m ∧ u = .tuple #[x, V 0]) := by
  intro G hG; replace hv := hv.le hG
  clear hG G0
  refine enter Tryd.func29 49 #[.tmp 2, .tmp 3] rfl Tryd.ntmps29 rfl (by decide +kernel) rfl ?_
  obtain ⟨a, c, rfl⟩ := hv.val
  obtain ⟨hl1, hr1, hc1⟩ := lg_ok he
  have hll := legsTo_len (l := l) (fun x hx => (hr1 x hx).2)
  simp (maxDischargeDepth := 9) only [↓gB, gV, gT, reduceIte, reduceCtorEq, Nat.reduceEqDiff, Nat.reduceAdd, Nat.reduceSub, Nat.reduceLeDiff, Nat.reduceLT, Int.reduceEq, Nat.reduceMul, he]
  refine Ycp (p27 (by assumption) (by assumption) (by assumption)) ?_
  simp (maxDischargeDepth := 9) only [↓gB, gV, gT, reduceIte, reduceCtorEq, Nat.reduceEqDiff, Nat.reduceAdd, Nat.reduceSub, Nat.reduceLeDiff, Nat.reduceLT, Int.reduceEq, Nat.reduceMul, he]
  refine Yn1 fun r1 h1 => ?_
  simp (maxDischargeDepth := 9) only [↓gB, gV, gT, reduceIte, reduceCtorEq, Nat.reduceEqDiff, Nat.reduceAdd, Nat.reduceSub, Nat.reduceLeDiff, Nat.reduceLT, Int.reduceEq, Nat.reduceMul, h1, he]
  focus
    refine Xloop_intro _ _ _ _ _ (fun k f G' => ∃ (i : Nat), k = l.length - i ∧ (i ≤ l.length) ∧ (G' r1 = some (mapO Value.string V (legsTo l i), true)) ∧ (RSl rLeg G' (.slice a l.length c) l) ∧ (G.le G') ∧ f 18 = V i ∧ f 5 = Go.Value.map (Option.some r1) ∧ f 16 = Go.Value.slice a l.length c ∧ f 17 = Go.Value.int Go.IntKind.i64 ↑l.length) _ ⟨0, rfl, ?_, ?_, ?_, ?_, by simp (maxDischargeDepth := 9) only [↓gB, gV, gT, reduceIte, reduceCtorEq, Nat.reduceEqDiff, Nat.reduceAdd, Nat.reduceSub, Nat.reduceLeDiff, Nat.reduceLT, Int.reduceEq, Nat.reduceMul, h1, and_self]⟩ ?_
    · omega
    · exact put_self _ _ _
    · exact RSl.put _ (by assumption) (by assumption)
    · (simp (maxDischargeDepth := 9) only [le_self, le_puts, le_put0, sub_self, sub_puts, sub_put0, h1]; done)
    rintro k f G' ⟨i, rfl, hi, hm, hv, hle, f18, f5, f16, f17⟩
  simp (maxDischargeDepth := 9) only [↓gB, gV, gT, reduceIte, reduceCtorEq, Nat.reduceEqDiff, Nat.reduceAdd, Nat.reduceSub, Nat.reduceLeDiff, Nat.reduceLT, Int.reduceEq, Nat.reduceMul, h1, hm, f18, f5, f16, f17]
  refine Xc_split _ _ _ _ _ (fun c1 => ?_) (fun c1 => ?_)
  · obtain ⟨x, helx⟩ : ∃ x, l[i]? = some x := ⟨_, List.getElem?_eq_getElem (by omega)⟩
    have hxr := hr1 x (List.mem_of_getElem? helx)
    have hxc := hc1 x (List.mem_of_getElem? helx)
    have hnx := legsTo_next helx
    have hD1 : ∀ p ∈ List.replicate x.Rides.length (1 : Int), 0 ≤ p ∧ p ≤ 1000000000 := by intro p hp; rw [List.eq_of_mem_replicate hp]; omega
    have hD2 : 0 < (List.replicate x.Rides.length (1 : Int)).sum := by rw [sum_rep]; omega
    have hD3 : (List.replicate x.Rides.length (1 : Int)).length = x.Rides.length := List.length_replicate
    obtain ⟨hdl, hda⟩ := divide_ones (c := x.Cents) hxr.1
    simp (maxDischargeDepth := 9) only [↓gB, gV, gT, reduceIte, reduceCtorEq, Nat.reduceEqDiff, Nat.reduceAdd, Nat.reduceSub, Nat.reduceLeDiff, Nat.reduceLT, Int.reduceEq, Nat.reduceMul, h1, hm, f18, f5, f16, f17, c1]
    obtain ⟨x1, a1, s1, m1, rfl, ⟨v1, rfl, w1⟩, e1⟩ := hv.at (i) (by omega) 2 rfl
    obtain rfl := el_eq helx m1
    obtain ⟨aw1, cw1, rfl⟩ := RSl.val w1
    simp (maxDischargeDepth := 9) only [↓gB, gV, gT, reduceIte, reduceCtorEq, Nat.reduceEqDiff, Nat.reduceAdd, Nat.reduceSub, Nat.reduceLeDiff, Nat.reduceLT, Int.reduceEq, Nat.reduceMul, h1, hm, f18, f5, f17, c1, f16, e1]
    refine vguard_intro (by simp) ?_
    refine Yn2 fun r2 h2 => ?_
    simp (maxDischargeDepth := 9) only [↓gB, gV, gT, reduceIte, reduceCtorEq, Nat.reduceEqDiff, Nat.reduceAdd, Nat.reduceSub, Nat.reduceLeDiff, Nat.reduceLT, Int.reduceEq, Nat.reduceMul, h1, hm, f18, f5, f17, c1, f16, e1, h2]
    refine Xdraw_intro [0, 1, 3, 4, 5, 9, 2, 6, 7, 8] mixed (by kernel_rfl) (by decide +kernel) ?_
    simp (maxDischargeDepth := 9) only [↓gB, gV, gT, reduceIte, reduceCtorEq, Nat.reduceEqDiff, Nat.reduceAdd, Nat.reduceSub, Nat.reduceLeDiff, Nat.reduceLT, Int.reduceEq, Nat.reduceMul, h1, hm, f18, f5, f17, c1, f16, e1, h2]
    refine Yn3 fun r3 h3 k3 => ?_
    have n3 := h3
    simp only [put_none_eq, ne_eq] at n3
    have n30 := h3
    simp only [put_none_eq, ne_eq, @eq_comm Nat r3] at n30
    simp (maxDischargeDepth := 9) only [↓gB, gV, gT, reduceIte, reduceCtorEq, Nat.reduceEqDiff, Nat.reduceAdd, Nat.reduceSub, Nat.reduceLeDiff, Nat.reduceLT, Int.reduceEq, Nat.reduceMul, h1, hm, f18, f5, f17, c1, f16, e1, h2, h3, n3, n30]
    have q1_0 := GH.le.none hle h2
    have l1 := le_put h2 ((Go.Obj.cells #[Go.Value.slice aw1 x.Rides.length cw1, Go.Value.int Go.IntKind.i64 x.Cents] 76, Bool.true))
    have y1 := put_self G' r2 ((Go.Obj.cells #[Go.Value.slice aw1 x.Rides.length cw1, Go.Value.int Go.IntKind.i64 x.Cents] 76, Bool.true))
    generalize GH.put G' r2 ((Go.Obj.cells #[Go.Value.slice aw1 x.Rides.length cw1, Go.Value.int Go.IntKind.i64 x.Cents] 76, Bool.true)) = G1 at *
    replace hm := l1 _ _ hm
    replace hle := GH.le.trans hle l1
    replace hv := RSl.le hv l1
    replace w1 := RSl.le w1 l1
    have q2_0 := GH.le.none l1 h3
    have q2_1 := GH.le.none hle h3
    have l2 := le_put h3 ((Go.Obj.cells #[Go.Value.int Go.IntKind.i64 1] 3, Bool.true))
    have y2 := put_self G1 r3 ((Go.Obj.cells #[Go.Value.int Go.IntKind.i64 1] 3, Bool.true))
    generalize GH.put G1 r3 ((Go.Obj.cells #[Go.Value.int Go.IntKind.i64 1] 3, Bool.true)) = G2 at *
    replace l1 := GH.le.trans l1 l2
    replace y1 := l2 _ _ y1
    replace hm := l2 _ _ hm
    replace hle := GH.le.trans hle l2
    replace hv := RSl.le hv l2
    replace w1 := RSl.le w1 l2
    refine Ycg (g50 (by assumption) (by omega) (by omega)) ?_ ?_
    · exact upRSl _ _
    intro u3 G3 l3 w3
    replace l2 := GH.le.trans l2 l3
    replace y2 := l3 _ _ y2
    replace l1 := GH.le.trans l1 l3
    replace y1 := l3 _ _ y1
    replace hm := l3 _ _ hm
    replace hle := GH.le.trans hle l3
    replace hv := RSl.le hv l3
    replace w1 := RSl.le w1 l3
    obtain ⟨aw3, cw3, rfl⟩ := RSl.val w3
    simp (maxDischargeDepth := 9) only [↓gB, gV, gT, reduceIte, reduceCtorEq, Nat.reduceEqDiff, Nat.reduceAdd, Nat.reduceSub, Nat.reduceLeDiff, Nat.reduceLT, Int.reduceEq, Nat.reduceMul, h1, f18, f5, f17, c1, f16, e1, h2, n3, n30, q1_0, h3, q2_0, q2_1, y2, y1, hm]
    refine Ycg (g48 (by assumption) (by omega) (by omega) (by assumption) (by assumption) (by omega)) ?_ ?_
    · exact upRSl _ _
    intro u4 G4 l4 w4
    replace l3 := GH.le.trans l3 l4
    replace l2 := GH.le.trans l2 l4
    replace y2 := l4 _ _ y2
    replace l1 := GH.le.trans l1 l4
    replace y1 := l4 _ _ y1
    replace hm := l4 _ _ hm
    replace hle := GH.le.trans hle l4
    replace hv := RSl.le hv l4
    replace w1 := RSl.le w1 l4
    replace w3 := RSl.le w3 l4
    obtain ⟨aw4, cw4, rfl⟩ := RSl.val w4
    simp (maxDischargeDepth := 9) only [↓gB, gV, gT, reduceIte, reduceCtorEq, Nat.reduceEqDiff, Nat.reduceAdd, Nat.reduceSub, Nat.reduceLeDiff, Nat.reduceLT, Int.reduceEq, Nat.reduceMul, h1, f18, f5, f17, c1, f16, e1, h2, n3, n30, q1_0, h3, q2_0, q2_1, y2, y1, hm]
    generalize divideF x.Cents (List.replicate x.Rides.length 1) = ds at *
    have n2 : r1 ≠ r2 := by rintro rfl; rw [hm] at y1; cases y1
    have n2' := n2.symm
    focus
      refine Xloop_intro _ _ _ _ _ (fun k f G' => ∃ (j : Nat), k = x.Rides.length - j ∧ (j ≤ x.Rides.length) ∧ (G' r1 = some (mapO Value.string V (legTo x (legsTo l i) j), true)) ∧ (G' r2 = some (.cells [.slice aw1 x.Rides.length cw1, V x.Cents].toArray 76 (0, 0), true)) ∧ (RSl Rp.str G' (.slice aw1 x.Rides.length cw1) x.Rides) ∧ (RSl Rp.int G' (.slice aw4 ds.length cw4) ds) ∧ (RSl rLeg G' (.slice (some a1) l.length c) l) ∧ (G.le G') ∧ f 31 = V j ∧ f 5 = Go.Value.map (Option.some r1) ∧ f 7 = Go.Value.pointer (Option.some { block := r2, off := 0 }) ∧ f 16 = Go.Value.slice (Option.some a1) l.length c ∧ f 17 = Go.Value.int Go.IntKind.i64 ↑l.length ∧ f 18 = Go.GL.V ↑i ∧ f 29 = Go.Value.slice aw4 ds.length cw4 ∧ f 30 = Go.Value.int Go.IntKind.i64 ↑ds.length) _ ⟨0, rfl, ?_, ?_, ?_, ?_, ?_, ?_, ?_, by simp (maxDischargeDepth := 9) only [↓gB, gV, gT, reduceIte, reduceCtorEq, Nat.reduceEqDiff, Nat.reduceAdd, Nat.reduceSub, Nat.reduceLeDiff, Nat.reduceLT, Int.reduceEq, Nat.reduceMul, h1, f18, f5, f17, c1, f16, e1, h2, n3, n30, q1_0, h3, q2_0, q2_1, y2, y1, hm, n2, n2', and_self]⟩ ?_
      · omega
      · assumption
      · assumption
      · assumption
      · assumption
      · assumption
      · assumption
      rintro k f G' ⟨j, rfl, hj, hm, hz, w1, w4, hv, hle, f31, f5, f7, f16, f17, f18, f29, f30⟩
    simp (maxDischargeDepth := 9) only [↓gB, gV, gT, reduceIte, reduceCtorEq, Nat.reduceEqDiff, Nat.reduceAdd, Nat.reduceSub, Nat.reduceLeDiff, Nat.reduceLT, Int.reduceEq, Nat.reduceMul, h1, f18, f5, f17, c1, f16, e1, h2, n3, n30, q1_0, h3, q2_0, q2_1, y2, y1, hm, n2, n2', hm, hz, f31, f5, f7, f16, f17, f18, f29, f30]
    refine Xc_split _ _ _ _ _ (fun c2 => ?_) (fun c2 => ?_)
    · obtain ⟨id, help⟩ : ∃ id, x.Rides[j]? = some id := ⟨_, List.getElem?_eq_getElem (by omega)⟩
      have hjx := legTo_next (m := legsTo l i) help
      have helq := hda j (by omega)
      focus
        simp (maxDischargeDepth := 9) only [↓gB, gV, gT, reduceIte, reduceCtorEq, Nat.reduceEqDiff, Nat.reduceAdd, Nat.reduceSub, Nat.reduceLeDiff, Nat.reduceLT, Int.reduceEq, Nat.reduceMul, h1, f18, f5, f17, c1, f16, e1, h2, n3, n30, q1_0, h3, q2_0, q2_1, y2, y1, hm, n2, n2', hm, hz, f31, f5, f7, f16, f17, f18, f29, f30, c2]
        obtain ⟨x2, a2, s2, m2, rfl, ⟨rfl, w2⟩, e2⟩ := w4.at1 (j) (by omega) rfl
        obtain rfl := el_eq helq m2
        simp (maxDischargeDepth := 9) only [↓gB, gV, gT, reduceIte, reduceCtorEq, Nat.reduceEqDiff, Nat.reduceAdd, Nat.reduceSub, Nat.reduceLeDiff, Nat.reduceLT, Int.reduceEq, Nat.reduceMul, h1, f18, f5, f17, c1, f16, e1, h2, n3, n30, q1_0, h3, q2_0, q2_1, y2, y1, hm, n2, n2', hm, hz, f31, f5, f7, f16, f17, f18, f30, c2, f29, e2]
        refine vguard_intro (by simp) ?_
        obtain ⟨x3, a3, s3, m3, rfl, rfl, e3⟩ := w1.at1 (j) (by omega) rfl
        obtain rfl := el_eq help m3
        simp (maxDischargeDepth := 9) only [↓gB, gV, gT, reduceIte, reduceCtorEq, Nat.reduceEqDiff, Nat.reduceAdd, Nat.reduceSub, Nat.reduceLeDiff, Nat.reduceLT, Int.reduceEq, Nat.reduceMul, h1, f18, f5, f17, c1, f16, h2, n3, n30, q1_0, h3, q2_0, q2_1, y2, hm, n2, n2', hm, f31, f5, f7, f16, f17, f18, f30, c2, f29, e2, e1, y1, hz, e3]
        refine vguard_intro (by omega) ?_
        have p1 := mt77.look (kv := Go.Value.string id) (G := G') (by assumption) _ rfl
        simp (maxDischargeDepth := 9) only [↓gB, gV, gT, reduceIte, reduceCtorEq, Nat.reduceEqDiff, Nat.reduceAdd, Nat.reduceSub, Nat.reduceLeDiff, Nat.reduceLT, Int.reduceEq, Nat.reduceMul, h1, f18, f5, f17, c1, f16, h2, n3, n30, q1_0, h3, q2_0, q2_1, y2, hm, n2, n2', hm, f31, f5, f7, f16, f17, f18, f30, c2, f29, e2, e1, y1, hz, e3, p1]
        refine mt77.upd (by assumption) _ rfl _ rfl ?_
        simp (maxDischargeDepth := 9) only [↓gB, gV, gT, reduceIte, reduceCtorEq, Nat.reduceEqDiff, Nat.reduceAdd, Nat.reduceSub, Nat.reduceLeDiff, Nat.reduceLT, Int.reduceEq, Nat.reduceMul, h1, f18, f5, f17, c1, f16, h2, n3, n30, q1_0, h3, q2_0, q2_1, y2, hm, n2, n2', hm, f31, f5, f7, f16, f17, f18, f30, c2, f29, e2, e1, y1, hz, e3, p1]
        have q1 : Go.IntKind.i64.wrap (↑j + 1) = ↑j + 1 := wrap_id (by omega)
        simp (maxDischargeDepth := 9) only [↓gB, gV, gT, reduceIte, reduceCtorEq, Nat.reduceEqDiff, Nat.reduceAdd, Nat.reduceSub, Nat.reduceLeDiff, Nat.reduceLT, Int.reduceEq, Nat.reduceMul, h1, f18, f5, f17, c1, f16, h2, n3, n30, q1_0, h3, q2_0, q2_1, y2, hm, n2, n2', hm, f31, f5, f7, f16, f17, f18, f30, c2, f29, e2, e1, y1, hz, e3, p1, q1]
        rw [N_lp]
        refine ⟨_, ?_, _, sub_refl _, j + 1, rfl, ?_, ?_, ?_, ?_, ?_, ?_, ?_, by simp (maxDischargeDepth := 9) only [↓gB, gV, gT, reduceIte, reduceCtorEq, Nat.reduceEqDiff, Nat.reduceAdd, Nat.reduceSub, Nat.reduceLeDiff, Nat.reduceLT, Int.reduceEq, Nat.reduceMul, h1, f18, f5, f17, c1, f16, h2, n3, n30, q1_0, h3, q2_0, q2_1, y2, hm, n2, n2', hm, f31, f5, f7, f16, f17, f18, f30, c2, f29, e2, e1, y1, hz, e3, p1, q1, nat_succ, and_self]⟩
        · omega
        · omega
        · (rw [hjx]; exact put_self _ _ _; done)
        · exact (put_not _ _ (by assumption)).trans (by assumption)
        · exact RSl.ile (by assumption) (ile_put (by assumption) _)
        · exact RSl.ile (by assumption) (ile_put (by assumption) _)
        · exact RSl.ile (by assumption) (ile_put (by assumption) _)
        · exact le_put_new (by assumption) (by assumption) _
    · obtain rfl : j = x.Rides.length := by omega
      focus
        simp (maxDischargeDepth := 9) only [↓gB, gV, gT, reduceIte, reduceCtorEq, Nat.reduceEqDiff, Nat.reduceAdd, Nat.reduceSub, Nat.reduceLeDiff, Nat.reduceLT, Int.reduceEq, Nat.reduceMul, h1, f18, f5, f17, c1, f16, e1, h2, n3, n30, q1_0, h3, q2_0, q2_1, y2, y1, hm, n2, n2', hz, f5, f7, f16, f17, f18, f29, f30, hm, f31, c2]
        have q1 : Go.IntKind.i64.wrap (↑i + 1) = ↑i + 1 := wrap_id (by omega)
        simp (maxDischargeDepth := 9) only [↓gB, gV, gT, reduceIte, reduceCtorEq, Nat.reduceEqDiff, Nat.reduceAdd, Nat.reduceSub, Nat.reduceLeDiff, Nat.reduceLT, Int.reduceEq, Nat.reduceMul, h1, f18, f5, f17, c1, f16, e1, h2, n3, n30, q1_0, h3, q2_0, q2_1, y2, y1, hm, n2, n2', hz, f5, f7, f16, f17, f18, f29, f30, hm, f31, c2, q1]
        rw [N_lp]
        refine ⟨_, ?_, _, sub_refl _, i + 1, rfl, ?_, ?_, ?_, ?_, by simp (maxDischargeDepth := 9) only [↓gB, gV, gT, reduceIte, reduceCtorEq, Nat.reduceEqDiff, Nat.reduceAdd, Nat.reduceSub, Nat.reduceLeDiff, Nat.reduceLT, Int.reduceEq, Nat.reduceMul, h1, f18, f5, f17, c1, f16, e1, h2, n3, n30, q1_0, h3, q2_0, q2_1, y2, y1, hm, n2, n2', hz, f5, f7, f16, f17, f18, f29, f30, hm, f31, c2, q1, nat_succ, and_self]⟩
        · omega
        · omega
        · (rw [hnx]; assumption; done)
        · assumption
        · assumption
  · obtain rfl : i = l.length := by omega
    have hli := legsTo_i64 l l.length
    have hlb : (legsTo l l.length).length ≤ 1048576 := by have := hll l.length; omega
    simp (maxDischargeDepth := 9) only [↓gB, gV, gT, reduceIte, reduceCtorEq, Nat.reduceEqDiff, Nat.reduceAdd, Nat.reduceSub, Nat.reduceLeDiff, Nat.reduceLT, Int.reduceEq, Nat.reduceMul, h1, f5, f16, f17, hm, f18, c1]
    refine Ycg (g51 (by assumption) (by assumption) (by assumption)) ?_ ?_
    · exact fun _ _ _ hl q => by obtain ⟨z0, w0', w0'', w0'''⟩ := q; exact ⟨z0, (by first | exact w0' | exact RSl.le w0' hl | exact Row.le w0' hl | exact hl _ _ w0' | exact GH.le.trans w0' hl), (by first | exact w0'' | exact RSl.le w0'' hl | exact Row.le w0'' hl | exact hl _ _ w0'' | exact GH.le.trans w0'' hl), (by first | exact w0''' | exact RSl.le w0''' hl | exact Row.le w0''' hl | exact hl _ _ w0''' | exact GH.le.trans w0''' hl)⟩
    intro u1 G1 l1 w1
    replace hv := RSl.le hv l1
    replace hle := GH.le.trans hle l1
    replace hm := l1 _ _ hm
    obtain ⟨z1, w1', w1'', w1'''⟩ := w1
    obtain ⟨aw1''', cw1''', rfl⟩ := RSl.val w1'''
    simp (maxDischargeDepth := 9) only [↓gB, gV, gT, reduceIte, reduceCtorEq, Nat.reduceEqDiff, Nat.reduceAdd, Nat.reduceSub, Nat.reduceLeDiff, Nat.reduceLT, Int.reduceEq, Nat.reduceMul, h1, f5, f16, f17, f18, c1, hm]
    exact Kup_gives (sub_refl _) hle ⟨_, (by assumption), (by assumption), _, (by assumption), rfl⟩
end Go.Proofs.YtdepecjjahodjaaDoor
namespace Go.Proofs.YtdepecjjahodjaaDoor
open Go Go.GL
attribute [local irreducible] Ycall GCalls
set_option maxRecDepth 10000
set_option maxHeartbeats 0
theorem pr1 : divideE 10 [1, 1, 1] = 0 := by decide
theorem pr2 : divideF 10 [1, 1, 1] = [4, 3, 3] := by decide
theorem p20 {G0 : GH}   : Pure Tryd.prog G0 20 [] (.bool true) := by
  intro G hG
  clear hG G0
  refine enter Tryd.func20 15 #[.tmp 0] rfl Tryd.ntmps20 rfl (by decide +kernel) rfl ?_
  simp (maxDischargeDepth := 9) only [↓gB, gV, gT, reduceIte, reduceCtorEq, Nat.reduceEqDiff, Nat.reduceAdd, Nat.reduceSub, Nat.reduceLeDiff, Nat.reduceLT, Int.reduceEq, Nat.reduceMul]
  refine Yn1 fun r1 h1 => ?_
  simp (maxDischargeDepth := 9) only [↓gB, gV, gT, reduceIte, reduceCtorEq, Nat.reduceEqDiff, Nat.reduceAdd, Nat.reduceSub, Nat.reduceLeDiff, Nat.reduceLT, Int.reduceEq, Nat.reduceMul, h1]
  have y1 := put_self G r1 (.cells [V 1, V 1, V 1].toArray 3 (0, 0), true)
  have l1 := le_put h1 (.cells [V 1, V 1, V 1].toArray 3 (0, 0), true)
  generalize G.put r1 (.cells [V 1, V 1, V 1].toArray 3 (0, 0), true) = G1 at *
  obtain ⟨G2, hs, hv, hk, hil, hle⟩ := frz_list (ρ := Rp.int) (xs := [1, 1, 1]) y1 (cells1 (enc := V) (by simp [Rp.int, i64]))
  refine Ycsub hs ?_
  have hl := hle G l1 h1
  refine Ycg (g22 (by assumption) (by decide)) ?_ ?_
  · exact upPair _ _ _
  intro u3 G3 l3 w3
  replace hv := RSl.le hv l3
  replace hl := GH.le.trans hl l3
  obtain ⟨z3, w3', rfl⟩ := w3
  simp only [pr1, pr2, reduceIte] at w3'
  obtain ⟨aw3', cw3', rfl⟩ := RSl.val w3'
  simp (maxDischargeDepth := 9) only [↓gB, gV, gT, reduceIte, reduceCtorEq, Nat.reduceEqDiff, Nat.reduceAdd, Nat.reduceSub, Nat.reduceLeDiff, Nat.reduceLT, Int.reduceEq, Nat.reduceMul, h1, y1, hk, pr1, pr2]
  refine Yn1 fun r2 h2 => ?_
  simp (maxDischargeDepth := 9) only [↓gB, gV, gT, reduceIte, reduceCtorEq, Nat.reduceEqDiff, Nat.reduceAdd, Nat.reduceSub, Nat.reduceLeDiff, Nat.reduceLT, Int.reduceEq, Nat.reduceMul, h1, y1, hk, h2, pr1, pr2]
  have y2 := put_self G3 r2 (.cells [V 4, V 3, V 3].toArray 3 (0, 0), true)
  have l2 := le_put h2 (.cells [V 4, V 3, V 3].toArray 3 (0, 0), true)
  have w1 : RSl Rp.int G3 (.slice aw3' 3 cw3') [4, 3, 3] := by first | exact w3' | (simp only [pr1, pr2, if_true] at w3'; exact w3')
  replace w1 := RSl.le w1 l2
  have l4 := hl.trans l2
  have h3 := hl.none h2
  generalize G3.put r2 (.cells [V 4, V 3, V 3].toArray 3 (0, 0), true) = G4 at *
  obtain ⟨G5, hs5, hv5, hk5, hil5, hle5⟩ := frz_list (ρ := Rp.int) (xs := [4, 3, 3]) y2 (cells1 (enc := V) (by simp [Rp.int, i64]))
  refine Ycsub hs5 ?_
  replace hl := hle5 G l4 h3
  replace w1 := RSl.ile w1 hil5
  refine Ycp (p24 (by assumption) (by assumption) (by decide)) ?_
  simp (maxDischargeDepth := 9) only [↓gB, gV, gT, reduceIte, reduceCtorEq, Nat.reduceEqDiff, Nat.reduceAdd, Nat.reduceSub, Nat.reduceLeDiff, Nat.reduceLT, Int.reduceEq, Nat.reduceMul, h1, y1, hk, h2, h3, y2, hk5, pr1, pr2]
  exact Kup_val (by simp (maxDischargeDepth := 9) only [le_self, le_puts, le_put0, h1, l1, l3, h2, h3, l2, l4, hl]) rfl
end Go.Proofs.YtdepecjjahodjaaDoor
namespace Go.Proofs.YtdepecjjahodjaaDoor
open Go Go.GL
attribute [local irreducible] Ycall GCalls
set_option maxRecDepth 10000
set_option maxHeartbeats 0
theorem g7 {G0 : GH} {v : Value} {l : List Int} (hv : RSl Rp.int G0 v l) (hn : l.length ≤ 1000000000) : Gives Tryd.prog G0 7 [v] (fun u G' => RSl Rp.int G' u l) := by
  intro G hG; replace hv := hv.le hG
  clear hG G0
  refine enter Tryd.func7 8 #[.tmp 2] rfl Tryd.ntmps7 rfl (by decide +kernel) rfl ?_
  obtain ⟨a, c, rfl⟩ := hv.val
  simp (maxDischargeDepth := 9) only [↓gB, gV, gT, reduceIte, reduceCtorEq, Nat.reduceEqDiff, Nat.reduceAdd, Nat.reduceSub, Nat.reduceLeDiff, Nat.reduceLT, Int.reduceEq, Nat.reduceMul]
  cases a with
  | none =>
    simp (maxDischargeDepth := 9) only [↓gB, gV, gT, reduceIte, reduceCtorEq, Nat.reduceEqDiff, Nat.reduceAdd, Nat.reduceSub, Nat.reduceLeDiff, Nat.reduceLT, Int.reduceEq, Nat.reduceMul, Option.isNone_none]
    have : l = [] := by
      cases l with
      | nil => rfl
      | cons x l => obtain ⟨ad, _, e, _⟩ := hv.get (i := 0) (x := x) rfl; cases e
    subst this
    exact Kup_gives (sub_refl _) (le_refl _) (RSl.nil _ _)
  | some ad =>
    simp (maxDischargeDepth := 9) only [↓gB, gV, gT, reduceIte, reduceCtorEq, Nat.reduceEqDiff, Nat.reduceAdd, Nat.reduceSub, Nat.reduceLeDiff, Nat.reduceLT, Int.reduceEq, Nat.reduceMul, Option.isNone_some]
    refine Yn1 fun r1 h1 => ?_
    simp (maxDischargeDepth := 9) only [↓gB, gV, gT, reduceIte, reduceCtorEq, Nat.reduceEqDiff, Nat.reduceAdd, Nat.reduceSub, Nat.reduceLeDiff, Nat.reduceLT, Int.reduceEq, Nat.reduceMul, h1, Option.isNone_some]
    obtain ⟨ds, h1, h2⟩ := (hv.le (le_put h1 (.cells #[] 3 (0, 0), true))).read
    refine Row.append sl23 (ρ := Rp.int) (G0 := G) (xs := []) (ys := l) ⟨[], ⟨rfl, .inr ⟨r1, 0, #[], rfl, by assumption, put_self _ _ _, rfl, Nat.le_refl _, rfl⟩⟩, Cellsof.nil _ _⟩ h1 h2 (by simp; omega) (le_put (by assumption) _) ?_
    intro v' G' hrow hk hle
    simp (maxDischargeDepth := 9) only [↓gB, gV, gT, reduceIte, reduceCtorEq, Nat.reduceEqDiff, Nat.reduceAdd, Nat.reduceSub, Nat.reduceLeDiff, Nat.reduceLT, Int.reduceEq, Nat.reduceMul, h1, hk]
    obtain ⟨G2, hs, hl, hr⟩ := hrow.fin hle
    exact Kup_gives hs hl (by simpa using hr)
theorem p9 {G0 : GH} {v w : Value} {l m : List SDue} (hv : RSl rDue G0 v l) (hw : RSl rDue G0 w m) (hn : (l.length : Int) ≤ 9223372036854775807) : Pure Tryd.prog G0 9 [v, w] (.bool (decide (l = m))) := by
  intro G hG; replace hv := hv.le hG; replace hw := hw.le hG
  clear hG G0
  refine enter Tryd.func9 26 #[.tmp 4] rfl Tryd.ntmps9 rfl (by decide +kernel) rfl ?_
  obtain ⟨a, c, rfl⟩ := hv.val
  obtain ⟨b, d, rfl⟩ := hw.val
  simp (maxDischargeDepth := 9) only [↓gB, gV, gT, reduceIte, reduceCtorEq, Nat.reduceEqDiff, Nat.reduceAdd, Nat.reduceSub, Nat.reduceLeDiff, Nat.reduceLT, Int.reduceEq, Nat.reduceMul]
  refine Xc_split _ _ _ _ _ (fun hlen => ?_) (fun hlen => ?_)
  · simp (maxDischargeDepth := 9) only [↓gB, gV, gT, reduceIte, reduceCtorEq, Nat.reduceEqDiff, Nat.reduceAdd, Nat.reduceSub, Nat.reduceLeDiff, Nat.reduceLT, Int.reduceEq, Nat.reduceMul]
    refine Kup_val (le_refl _) ?_
    have hne : l ≠ m := by (rintro rfl; exact hlen rfl)
    simp [hne]
  · simp (maxDischargeDepth := 9) only [↓gB, gV, gT, reduceIte, reduceCtorEq, Nat.reduceEqDiff, Nat.reduceAdd, Nat.reduceSub, Nat.reduceLeDiff, Nat.reduceLT, Int.reduceEq, Nat.reduceMul]
    focus
      refine Xloop_intro _ _ _ _ _ (fun k f G' => ∃ (i : Nat), k = l.length - i ∧ (i ≤ l.length) ∧ (l.take i = m.take i) ∧ (G = G') ∧ f 13 = V i ∧ f 0 = Go.Value.slice a l.length c ∧ f 1 = Go.Value.slice b m.length d ∧ f 12 = Go.Value.int Go.IntKind.i64 ↑l.length) _ ⟨0, rfl, ?_, ?_, rfl, by simp (maxDischargeDepth := 9) only [↓gB, gV, gT, reduceIte, reduceCtorEq, Nat.reduceEqDiff, Nat.reduceAdd, Nat.reduceSub, Nat.reduceLeDiff, Nat.reduceLT, Int.reduceEq, Nat.reduceMul, and_self]⟩ ?_
      · omega
      · rfl
      rintro k f G' ⟨i, rfl, hi, h, rfl, f13, f0, f1, f12⟩
    focus
      simp (maxDischargeDepth := 9) only [↓gB, gV, gT, reduceIte, reduceCtorEq, Nat.reduceEqDiff, Nat.reduceAdd, Nat.reduceSub, Nat.reduceLeDiff, Nat.reduceLT, Int.reduceEq, Nat.reduceMul, f13, f0, f1, f12]
      refine Xc_split _ _ _ _ _ (fun c1 => ?_) (fun c1 => ?_)
      rotate_left 1
      focus
        simp (maxDischargeDepth := 9) only [↓gB, gV, gT, reduceIte, reduceCtorEq, Nat.reduceEqDiff, Nat.reduceAdd, Nat.reduceSub, Nat.reduceLeDiff, Nat.reduceLT, Int.reduceEq, Nat.reduceMul, f13, f0, f1, f12, c1]
        refine Kup_val (le_refl _) ?_
        focus ((have e : l = m := by (rw [← List.take_of_length_le (l := l) (i := i) (by omega), h, List.take_of_length_le (by omega)])); simp [e]; done)
      rotate_right 1
      simp (maxDischargeDepth := 9) only [↓gB, gV, gT, reduceIte, reduceCtorEq, Nat.reduceEqDiff, Nat.reduceAdd, Nat.reduceSub, Nat.reduceLeDiff, Nat.reduceLT, Int.reduceEq, Nat.reduceMul, f13, f0, f1, f12, c1]
      refine Xdraw_intro [0, 1, 2, 3, 4, 5, 6, 7, 8] mixed (by kernel_rfl) (by decide +kernel) ?_
      simp (maxDischargeDepth := 9) only [↓gB, gV, gT, reduceIte, reduceCtorEq, Nat.reduceEqDiff, Nat.reduceAdd, Nat.reduceSub, Nat.reduceLeDiff, Nat.reduceLT, Int.reduceEq, Nat.reduceMul, f13, f0, f1, f12, c1]
      obtain ⟨x1, a1, s1, m1, rfl, rfl, e1⟩ := hv.at (i) (by omega) 2 rfl
      simp (maxDischargeDepth := 9) only [↓gB, gV, gT, reduceIte, reduceCtorEq, Nat.reduceEqDiff, Nat.reduceAdd, Nat.reduceSub, Nat.reduceLeDiff, Nat.reduceLT, Int.reduceEq, Nat.reduceMul, f13, f1, f12, c1, f0, e1]
      refine vguard_intro (by simp) ?_
      obtain ⟨x2, a2, s2, m2, rfl, rfl, e2⟩ := hw.at (i) (by omega) 2 rfl
      simp (maxDischargeDepth := 9) only [↓gB, gV, gT, reduceIte, reduceCtorEq, Nat.reduceEqDiff, Nat.reduceAdd, Nat.reduceSub, Nat.reduceLeDiff, Nat.reduceLT, Int.reduceEq, Nat.reduceMul, f13, f12, c1, f0, e1, f1, e2]
      refine vguard_intro (by omega) ?_
      by_cases c2 : (x1.Key : ByteArray) = x2.Key
      rotate_left 1
      focus
        simp (maxDischargeDepth := 9) only [↓gB, gV, gT, reduceIte, reduceCtorEq, Nat.reduceEqDiff, Nat.reduceAdd, Nat.reduceSub, Nat.reduceLeDiff, Nat.reduceLT, Int.reduceEq, Nat.reduceMul, f13, f12, c1, f0, e1, f1, e2, c2]
        refine Kup_val (le_refl _) ?_
        focus ((have e : l ≠ m := by (rintro rfl; rw [m1] at m2; cases m2; simp_all)); simp [e]; done)
      rotate_right 1
      simp (maxDischargeDepth := 9) only [↓gB, gV, gT, reduceIte, reduceCtorEq, Nat.reduceEqDiff, Nat.reduceAdd, Nat.reduceSub, Nat.reduceLeDiff, Nat.reduceLT, Int.reduceEq, Nat.reduceMul, f13, f12, c1, f0, e1, f1, e2, c2]
      by_cases c3 : (x1.Cents : Int) = x2.Cents
      rotate_left 1
      focus
        simp (maxDischargeDepth := 9) only [↓gB, gV, gT, reduceIte, reduceCtorEq, Nat.reduceEqDiff, Nat.reduceAdd, Nat.reduceSub, Nat.reduceLeDiff, Nat.reduceLT, Int.reduceEq, Nat.reduceMul, f13, f12, c1, f0, e1, f1, e2, c2, c3]
        refine Kup_val (le_refl _) ?_
        focus ((have e : l ≠ m := by (rintro rfl; rw [m1] at m2; cases m2; simp_all)); simp [e]; done)
      rotate_right 1
      simp (maxDischargeDepth := 9) only [↓gB, gV, gT, reduceIte, reduceCtorEq, Nat.reduceEqDiff, Nat.reduceAdd, Nat.reduceSub, Nat.reduceLeDiff, Nat.reduceLT, Int.reduceEq, Nat.reduceMul, f13, f12, c1, f0, e1, f1, e2, c2, c3]
      have q1 : Go.IntKind.i64.wrap (↑i + 1) = ↑i + 1 := wrap_id (by omega)
      simp (maxDischargeDepth := 9) only [↓gB, gV, gT, reduceIte, reduceCtorEq, Nat.reduceEqDiff, Nat.reduceAdd, Nat.reduceSub, Nat.reduceLeDiff, Nat.reduceLT, Int.reduceEq, Nat.reduceMul, f13, f12, c1, f0, e1, f1, e2, c2, c3, q1]
      rw [N_lp]
      refine ⟨_, ?_, _, ?_, i + 1, rfl, ?_, ?_, rfl, by simp (maxDischargeDepth := 9) only [↓gB, gV, gT, reduceIte, reduceCtorEq, Nat.reduceEqDiff, Nat.reduceAdd, Nat.reduceSub, Nat.reduceLeDiff, Nat.reduceLT, Int.reduceEq, Nat.reduceMul, f13, f12, c1, f0, e1, f1, e2, c2, c3, q1, nat_succ, and_self]⟩
      · omega
      · exact sub_refl _
      · omega
      · ((have e : x1 = x2 := by (cases x1; cases x2; simp_all)); rw [take_at m1, take_at m2, h, e]; done)
theorem divF_len (n : Int) (l : List Int) : (divideF n l).length = l.length := by
  unfold divideF; rw [incs_len]; unfold qsF; rw [List.length_map]
theorem p4 {G0 : GH} {n : Int} {vp vl : Value} {ps : List Int} {l : List SLeg} (hv : RSl Rp.int G0 vp ps) (hw : RSl rLeg G0 vl l) (hp : ps.length ≤ 1048576) (hn : l.length ≤ 1048576) (hr : ∀ x ∈ l, x.Rides.length ≤ 1048576) : Pure Tryd.prog G0 4 [V n, vp, vl] (.bool true) := by
  intro G hG; replace hv := hv.le hG; replace hw := hw.le hG
  clear hG G0
  refine enter Tryd.func4 79 #[.tmp 6] rfl Tryd.ntmps4 rfl (by decide +kernel) rfl ?_
  obtain ⟨a, c, rfl⟩ := hv.val
  obtain ⟨b, e, rfl⟩ := hw.val
  have hr9 : ∀ x ∈ l, x.Rides.length ≤ 1000000000 := fun x hx => by have := hr x hx; omega
  rw [X_assoc, X_assoc, X_seq]
  focus
    refine Xcut _ _ _ _ _ (J := fun f G' => (RSl Rp.int G' (.slice a ps.length c) ps) ∧ (RSl rLeg G' (.slice b l.length e) l) ∧ (G.le G') ∧ f 6 = .bool false ∧ f 2 = Go.Value.slice b l.length e) ?_ ?_
    rotate_left 1
    rintro f G' ⟨hv, hw, hle, f6, f2⟩
    rotate_right 1
  · have hdl := divF_len n ps
    by_cases he : divideE n ps = 0
    · simp (maxDischargeDepth := 9) only [↓gB, gV, gT, reduceIte, reduceCtorEq, Nat.reduceEqDiff, Nat.reduceAdd, Nat.reduceSub, Nat.reduceLeDiff, Nat.reduceLT, Int.reduceEq, Nat.reduceMul, he]
      refine Ycg (g7 (by assumption) (by omega)) ?_ ?_
      · exact upRSl _ _
      intro u1 G1 l1 w1
      replace hv := RSl.le hv l1
      replace hw := RSl.le hw l1
      obtain ⟨aw1, cw1, rfl⟩ := RSl.val w1
      simp (maxDischargeDepth := 9) only [↓gB, gV, gT, reduceIte, reduceCtorEq, Nat.reduceEqDiff, Nat.reduceAdd, Nat.reduceSub, Nat.reduceLeDiff, Nat.reduceLT, Int.reduceEq, Nat.reduceMul, he]
      refine Ycg (g22b (by assumption) (by omega)) ?_ ?_
      · exact upPair _ _ _
      intro u2 G2 l2 w2
      replace l1 := GH.le.trans l1 l2
      replace hv := RSl.le hv l2
      replace hw := RSl.le hw l2
      replace w1 := RSl.le w1 l2
      obtain ⟨z2, w2', rfl⟩ := w2
      simp only [he, reduceIte] at w2'
      obtain ⟨aw2', cw2', rfl⟩ := RSl.val w2'
      simp (maxDischargeDepth := 9) only [↓gB, gV, gT, reduceIte, reduceCtorEq, Nat.reduceEqDiff, Nat.reduceAdd, Nat.reduceSub, Nat.reduceLeDiff, Nat.reduceLT, Int.reduceEq, Nat.reduceMul, he]
      refine Ycp (p23 (by assumption) (by omega)) ?_
      simp (maxDischargeDepth := 9) only [↓gB, gV, gT, reduceIte, reduceCtorEq, Nat.reduceEqDiff, Nat.reduceAdd, Nat.reduceSub, Nat.reduceLeDiff, Nat.reduceLT, Int.reduceEq, Nat.reduceMul, he]
      refine Ycg (g25 (by assumption) (by assumption)) ?_ ?_
      · exact upRSl _ _
      intro u3 G3 l3 w3
      replace l2 := GH.le.trans l2 l3
      replace l1 := GH.le.trans l1 l3
      replace hv := RSl.le hv l3
      replace hw := RSl.le hw l3
      replace w1 := RSl.le w1 l3
      replace w2' := RSl.le w2' l3
      obtain ⟨aw3, cw3, rfl⟩ := RSl.val w3
      simp (maxDischargeDepth := 9) only [↓gB, gV, gT, reduceIte, reduceCtorEq, Nat.reduceEqDiff, Nat.reduceAdd, Nat.reduceSub, Nat.reduceLeDiff, Nat.reduceLT, Int.reduceEq, Nat.reduceMul, he]
      refine Ycp (p24 (by assumption) (by assumption) (by omega)) ?_
      simp (maxDischargeDepth := 9) only [↓gB, gV, gT, reduceIte, reduceCtorEq, Nat.reduceEqDiff, Nat.reduceAdd, Nat.reduceSub, Nat.reduceLeDiff, Nat.reduceLT, Int.reduceEq, Nat.reduceMul, he]
      focus
        rw [N_cut]
        refine ⟨_, sub_refl _, ?_, ?_, ?_, by simp (maxDischargeDepth := 9) only [↓gB, gV, gT, reduceIte, reduceCtorEq, Nat.reduceEqDiff, Nat.reduceAdd, Nat.reduceSub, Nat.reduceLeDiff, Nat.reduceLT, Int.reduceEq, Nat.reduceMul, he, nat_succ, and_self]⟩
        · assumption
        · assumption
        · assumption
    · simp (maxDischargeDepth := 9) only [↓gB, gV, gT, reduceIte, reduceCtorEq, Nat.reduceEqDiff, Nat.reduceAdd, Nat.reduceSub, Nat.reduceLeDiff, Nat.reduceLT, Int.reduceEq, Nat.reduceMul, he]
      refine Ycg (g7 (by assumption) (by omega)) ?_ ?_
      · exact upRSl _ _
      intro u1 G1 l1 w1
      replace hv := RSl.le hv l1
      replace hw := RSl.le hw l1
      obtain ⟨aw1, cw1, rfl⟩ := RSl.val w1
      simp (maxDischargeDepth := 9) only [↓gB, gV, gT, reduceIte, reduceCtorEq, Nat.reduceEqDiff, Nat.reduceAdd, Nat.reduceSub, Nat.reduceLeDiff, Nat.reduceLT, Int.reduceEq, Nat.reduceMul, he]
      refine Ycg (g22b (by assumption) (by omega)) ?_ ?_
      · exact upPair _ _ _
      intro u2 G2 l2 w2
      replace l1 := GH.le.trans l1 l2
      replace hv := RSl.le hv l2
      replace hw := RSl.le hw l2
      replace w1 := RSl.le w1 l2
      obtain ⟨z2, w2', rfl⟩ := w2
      simp only [he, reduceIte] at w2'
      obtain ⟨aw2', cw2', rfl⟩ := RSl.val w2'
      simp (maxDischargeDepth := 9) only [↓gB, gV, gT, reduceIte, reduceCtorEq, Nat.reduceEqDiff, Nat.reduceAdd, Nat.reduceSub, Nat.reduceLeDiff, Nat.reduceLT, Int.reduceEq, Nat.reduceMul, he]
      refine Ycp (p23 (by assumption) (by omega)) ?_
      simp (maxDischargeDepth := 9) only [↓gB, gV, gT, reduceIte, reduceCtorEq, Nat.reduceEqDiff, Nat.reduceAdd, Nat.reduceSub, Nat.reduceLeDiff, Nat.reduceLT, Int.reduceEq, Nat.reduceMul, he]
      refine Xc_neg _ _ _ _ _ (by omega) ?_
      simp (maxDischargeDepth := 9) only [↓gB, gV, gT, reduceIte, reduceCtorEq, Nat.reduceEqDiff, Nat.reduceAdd, Nat.reduceSub, Nat.reduceLeDiff, Nat.reduceLT, Int.reduceEq, Nat.reduceMul, he]
      focus
        rw [N_cut]
        refine ⟨_, sub_refl _, ?_, ?_, ?_, by simp (maxDischargeDepth := 9) only [↓gB, gV, gT, reduceIte, reduceCtorEq, Nat.reduceEqDiff, Nat.reduceAdd, Nat.reduceSub, Nat.reduceLeDiff, Nat.reduceLT, Int.reduceEq, Nat.reduceMul, he, nat_succ, and_self]⟩
        · assumption
        · assumption
        · assumption
  · by_cases he : legsE l = 0
    · obtain ⟨hl1, hr1, hc1⟩ := lg_ok he
      have hll := legsTo_len (l := l) (fun x hx => (hr1 x hx).2) l.length
      have hdn : (duesP (legsTo l l.length)).length = (legsTo l l.length).length := by unfold duesP; rw [List.length_map]
      simp (maxDischargeDepth := 9) only [↓gB, gV, gT, reduceIte, reduceCtorEq, Nat.reduceEqDiff, Nat.reduceAdd, Nat.reduceSub, Nat.reduceLeDiff, Nat.reduceLT, Int.reduceEq, Nat.reduceMul, f6, f2, he]
      refine Ycp (p26 (by assumption) (by omega) (by assumption)) ?_
      simp (maxDischargeDepth := 9) only [↓gB, gV, gT, reduceIte, reduceCtorEq, Nat.reduceEqDiff, Nat.reduceAdd, Nat.reduceSub, Nat.reduceLeDiff, Nat.reduceLT, Int.reduceEq, Nat.reduceMul, f6, f2, he]
      refine Ycg (g28 (by assumption) (by omega) (by assumption)) ?_ ?_
      · exact upRSl _ _
      intro u1 G1 l1 w1
      replace hv := RSl.le hv l1
      replace hw := RSl.le hw l1
      replace hle := GH.le.trans hle l1
      obtain ⟨aw1, cw1, rfl⟩ := RSl.val w1
      simp (maxDischargeDepth := 9) only [↓gB, gV, gT, reduceIte, reduceCtorEq, Nat.reduceEqDiff, Nat.reduceAdd, Nat.reduceSub, Nat.reduceLeDiff, Nat.reduceLT, Int.reduceEq, Nat.reduceMul, f6, f2, he]
      refine Ycp (p27 (by assumption) (by omega) (by assumption)) ?_
      simp (maxDischargeDepth := 9) only [↓gB, gV, gT, reduceIte, reduceCtorEq, Nat.reduceEqDiff, Nat.reduceAdd, Nat.reduceSub, Nat.reduceLeDiff, Nat.reduceLT, Int.reduceEq, Nat.reduceMul, f6, f2, he]
      refine Ycg (g28 (by assumption) (by omega) (by assumption)) ?_ ?_
      · exact upRSl _ _
      intro u2 G2 l2 w2
      replace l1 := GH.le.trans l1 l2
      replace hv := RSl.le hv l2
      replace hw := RSl.le hw l2
      replace hle := GH.le.trans hle l2
      replace w1 := RSl.le w1 l2
      obtain ⟨aw2, cw2, rfl⟩ := RSl.val w2
      simp (maxDischargeDepth := 9) only [↓gB, gV, gT, reduceIte, reduceCtorEq, Nat.reduceEqDiff, Nat.reduceAdd, Nat.reduceSub, Nat.reduceLeDiff, Nat.reduceLT, Int.reduceEq, Nat.reduceMul, f6, f2, he]
      refine Ycg (g29 (by assumption) (by omega) (by assumption) (by assumption)) ?_ ?_
      · exact fun _ _ _ hl q => by obtain ⟨z0, w0', w0'', z0''', w0'''', rfl⟩ := q; exact ⟨z0, (by first | exact w0' | exact RSl.le w0' hl | exact Row.le w0' hl | exact hl _ _ w0' | exact GH.le.trans w0' hl), (by first | exact w0'' | exact RSl.le w0'' hl | exact Row.le w0'' hl | exact hl _ _ w0'' | exact GH.le.trans w0'' hl), z0''', (by first | exact w0'''' | exact RSl.le w0'''' hl | exact Row.le w0'''' hl | exact hl _ _ w0'''' | exact GH.le.trans w0'''' hl), rfl⟩
      intro u3 G3 l3 w3
      replace l2 := GH.le.trans l2 l3
      replace l1 := GH.le.trans l1 l3
      replace hv := RSl.le hv l3
      replace hw := RSl.le hw l3
      replace hle := GH.le.trans hle l3
      replace w1 := RSl.le w1 l3
      replace w2 := RSl.le w2 l3
      obtain ⟨z3, w3', w3'', z3''', w3'''', rfl⟩ := w3
      obtain ⟨aw3'''', cw3'''', rfl⟩ := RSl.val w3''''
      simp (maxDischargeDepth := 9) only [↓gB, gV, gT, reduceIte, reduceCtorEq, Nat.reduceEqDiff, Nat.reduceAdd, Nat.reduceSub, Nat.reduceLeDiff, Nat.reduceLT, Int.reduceEq, Nat.reduceMul, f6, f2, he]
      refine Ycg (g30 (by assumption) (by assumption) (by assumption) (by assumption)) ?_ ?_
      · exact fun _ _ _ hl q => by obtain ⟨z0, w0', w0'', w0'''⟩ := q; exact ⟨z0, (by first | exact w0' | exact RSl.le w0' hl | exact Row.le w0' hl | exact hl _ _ w0' | exact GH.le.trans w0' hl), (by first | exact w0'' | exact RSl.le w0'' hl | exact Row.le w0'' hl | exact hl _ _ w0'' | exact GH.le.trans w0'' hl), (by first | exact w0''' | exact RSl.le w0''' hl | exact Row.le w0''' hl | exact hl _ _ w0''' | exact GH.le.trans w0''' hl)⟩
      intro u4 G4 l4 w4
      replace l3 := GH.le.trans l3 l4
      replace l2 := GH.le.trans l2 l4
      replace l1 := GH.le.trans l1 l4
      replace hv := RSl.le hv l4
      replace hw := RSl.le hw l4
      replace hle := GH.le.trans hle l4
      replace w1 := RSl.le w1 l4
      replace w2 := RSl.le w2 l4
      replace w3'''' := RSl.le w3'''' l4
      obtain ⟨z4, w4', w4'', w4'''⟩ := w4
      obtain ⟨aw4''', cw4''', rfl⟩ := RSl.val w4'''
      simp (maxDischargeDepth := 9) only [↓gB, gV, gT, reduceIte, reduceCtorEq, Nat.reduceEqDiff, Nat.reduceAdd, Nat.reduceSub, Nat.reduceLeDiff, Nat.reduceLT, Int.reduceEq, Nat.reduceMul, f6, f2, he]
      have hzp : z3.Perm (duesP (legsTo l l.length)) := by assumption
      have hzn : z3.length ≤ 1048576 := by rw [hzp.length_eq]; omega
      obtain rfl : z3 = z4 := dues_one (legsTo_nodup l l.length) hzp (by assumption) (by assumption) (by assumption)
      refine Ycp (p9 (by assumption) (by assumption) (by omega)) ?_
      simp (maxDischargeDepth := 9) only [↓gB, gV, gT, reduceIte, reduceCtorEq, Nat.reduceEqDiff, Nat.reduceAdd, Nat.reduceSub, Nat.reduceLeDiff, Nat.reduceLT, Int.reduceEq, Nat.reduceMul, f6, f2]
      refine Ycp (p20) ?_
      simp (maxDischargeDepth := 9) only [↓gB, gV, gT, reduceIte, reduceCtorEq, Nat.reduceEqDiff, Nat.reduceAdd, Nat.reduceSub, Nat.reduceLeDiff, Nat.reduceLT, Int.reduceEq, Nat.reduceMul, f6, f2]
      exact Kup_val (by simp (maxDischargeDepth := 9) only [le_self, le_puts, le_put0, l4, l3, l2, l1, hle]) rfl
    · simp (maxDischargeDepth := 9) only [↓gB, gV, gT, reduceIte, reduceCtorEq, Nat.reduceEqDiff, Nat.reduceAdd, Nat.reduceSub, Nat.reduceLeDiff, Nat.reduceLT, Int.reduceEq, Nat.reduceMul, f6, f2, he]
      refine Ycp (p26 (by assumption) (by omega) (by assumption)) ?_
      simp (maxDischargeDepth := 9) only [↓gB, gV, gT, reduceIte, reduceCtorEq, Nat.reduceEqDiff, Nat.reduceAdd, Nat.reduceSub, Nat.reduceLeDiff, Nat.reduceLT, Int.reduceEq, Nat.reduceMul, f6, f2, he]
      refine Ycg (g28 (by assumption) (by omega) (by assumption)) ?_ ?_
      · exact upRSl _ _
      intro u1 G1 l1 w1
      replace hv := RSl.le hv l1
      replace hw := RSl.le hw l1
      replace hle := GH.le.trans hle l1
      obtain ⟨aw1, cw1, rfl⟩ := RSl.val w1
      simp (maxDischargeDepth := 9) only [↓gB, gV, gT, reduceIte, reduceCtorEq, Nat.reduceEqDiff, Nat.reduceAdd, Nat.reduceSub, Nat.reduceLeDiff, Nat.reduceLT, Int.reduceEq, Nat.reduceMul, f6, f2, he]
      refine Ycp (p27 (by assumption) (by omega) (by assumption)) ?_
      simp (maxDischargeDepth := 9) only [↓gB, gV, gT, reduceIte, reduceCtorEq, Nat.reduceEqDiff, Nat.reduceAdd, Nat.reduceSub, Nat.reduceLeDiff, Nat.reduceLT, Int.reduceEq, Nat.reduceMul, f6, f2, he]
      refine Ycg (g28 (by assumption) (by omega) (by assumption)) ?_ ?_
      · exact upRSl _ _
      intro u2 G2 l2 w2
      replace l1 := GH.le.trans l1 l2
      replace hv := RSl.le hv l2
      replace hw := RSl.le hw l2
      replace hle := GH.le.trans hle l2
      replace w1 := RSl.le w1 l2
      obtain ⟨aw2, cw2, rfl⟩ := RSl.val w2
      simp (maxDischargeDepth := 9) only [↓gB, gV, gT, reduceIte, reduceCtorEq, Nat.reduceEqDiff, Nat.reduceAdd, Nat.reduceSub, Nat.reduceLeDiff, Nat.reduceLT, Int.reduceEq, Nat.reduceMul, f6, f2, he]
      refine Ycp (p29 (by assumption) (by omega) (by assumption) (by assumption)) ?_
      simp (maxDischargeDepth := 9) only [↓gB, gV, gT, reduceIte, reduceCtorEq, Nat.reduceEqDiff, Nat.reduceAdd, Nat.reduceSub, Nat.reduceLeDiff, Nat.reduceLT, Int.reduceEq, Nat.reduceMul, f6, f2, he]
      refine Ycp (p20) ?_
      simp (maxDischargeDepth := 9) only [↓gB, gV, gT, reduceIte, reduceCtorEq, Nat.reduceEqDiff, Nat.reduceAdd, Nat.reduceSub, Nat.reduceLeDiff, Nat.reduceLT, Int.reduceEq, Nat.reduceMul, f6, f2, he]
      exact Kup_val (by simp (maxDischargeDepth := 9) only [le_self, le_puts, le_put0, l2, l1, hle]) rfl
end Go.Proofs.YtdepecjjahodjaaDoor
namespace Go.Proofs.YtdepecjjahodjaaDoor
open Go Go.GL
attribute [local irreducible] Ycall GCalls
set_option maxRecDepth 10000
set_option maxHeartbeats 0
open Go.RowKit
set_option maxRecDepth 10000
def G0of (W : World) : GH := fun b => (W.heap[b]?).map fun o => (o, false)
theorem holdsG0 (W : World) : GL.Holds W (G0of W) W := by
  refine ⟨Go.RowKit.Below.refl _ _, ?_, ?_, Nat.le_refl _⟩
  · intro b o t h
    unfold G0of at h
    rw [Option.map_eq_some_iff] at h
    obtain ⟨o', h1, h2⟩ := h
    cases h2; exact h1
  · intro b o h
    unfold G0of at h
    rw [Option.map_eq_some_iff] at h
    obtain ⟨o', h1, h2⟩ := h
    cases h2
theorem mapM_some {α β : Type} {f : α → Option β} : ∀ (l : List α) (r : List β), l.mapM f = some r → r.length = l.length ∧ ∀ (i : Nat) x, l[i]? = some x → f x = r[i]?
  | [], r, h => by
    rw [List.mapM_nil] at h; cases h; exact ⟨rfl, by simp⟩
  | y :: l, r, h => by
    rw [List.mapM_cons] at h
    simp only [bind, Option.bind_eq_some_iff, pure, Option.some.injEq] at h
    obtain ⟨b, hb, r', hr, rfl⟩ := h
    obtain ⟨h1, h2⟩ := mapM_some l r' hr
    refine ⟨by simp [h1], ?_⟩
    intro i x hx
    cases i with
    | zero => simp at hx; subst hx; simpa using hb
    | succ i => simp at hx; simpa using h2 i x hx
theorem cellsI_of {W : World} {a : Addr} {n : Nat} {cs : List Value} (hn : 0 < n) (h : W.cells? 0 a n = some cs) : gcellsI (G0of W) a n = some cs := by
  unfold World.cells? at h
  rw [if_pos (Nat.zero_le _)] at h
  obtain ⟨h1, h2⟩ := mapM_some _ _ h
  rw [List.length_range] at h1
  have hc : ∀ i, i < n → W.cell? (a.add i) = cs[i]? := fun i hi => h2 i i (by simp [hi])
  have h0 := hc 0 hn
  have ha0 : a.add 0 = a := by cases a; rfl
  rw [ha0, List.getElem?_eq_getElem (by omega)] at h0
  unfold World.cell? at h0
  split at h0
  case h_2 => cases h0
  rename_i c e fr hb
  split at h0
  · cases h0
  rename_i hsp
  have hspn : a.spot = none := by cases hs : a.spot <;> simp_all
  have hall : ∀ i, i < n → c[a.off + i]? = cs[i]? := by
    intro i hi
    have := hc i hi
    unfold World.cell? at this
    rw [add_block, hb] at this
    simp only [add_spot _ _ hspn, add_off, Option.isSome_none, Bool.false_eq_true, if_false] at this
    exact this
  have hlast := hall (n - 1) (by omega)
  rw [List.getElem?_eq_getElem (by omega)] at hlast
  have hsz : a.off + n ≤ c.size := by
    have := (Array.getElem?_eq_some_iff.1 hlast).1
    omega
  unfold gcellsI G0of
  simp only [hb, Option.map_some]
  rw [if_pos ⟨by rw [hspn]; rfl, hsz⟩]
  congr 1
  apply List.ext_getElem?
  intro i
  rw [List.getElem?_take]
  split
  · rename_i hi
    rw [List.getElem?_drop, Array.getElem?_toList, hall i hi]
  · rw [List.getElem?_eq_none (by omega)]
theorem wf_i64 {n : Int} (h : (Lit.int .i64 n).wf = true) : i64 n := by
  simp [Lit.wf, IntKind.min, IntKind.max, IntKind.signed, IntKind.bits] at h
  unfold i64; omega
def OT (W : World) {α : Type} (ρ : Rp α) (m : α → Nat) (T : TypeId) : Prop := ∀ (H : Type) (enc : TypeId × Value → H) (sp : Nat → Bool) (held : Bool) (fuel : Nat) (cs : List Value) (x : DataW H × List MemPlace), DataW.trod enc Tryd.prog W 0 sp held fuel T cs = some x → ∃ c : α, ρ.R (G0of W) c cs ∧ m c ≤ Rows.uptoBulk x.1
def mlist {α : Type} (m : α → Nat) (l : List α) : Nat := (l.map m).sum + 1
theorem OT.int {W : World} {T : TypeId} (hT : Tryd.prog.underlying T = some (.int .i64)) : OT W Rp.int (fun _ => 1) T := by
  intro H enc sp held fuel cs x h
  obtain ⟨n, e, hx, w⟩ := DataW.trod_int hT h
  subst e hx
  exact ⟨n, ⟨rfl, wf_i64 w⟩, by simp [Rows.uptoBulk]⟩
theorem OT.str {W : World} {T : TypeId} (hT : Tryd.prog.underlying T = some .string) : OT W Rp.str (fun s => s.size + 1) T := by
  intro H enc sp held fuel cs x h
  obtain ⟨s, e, hx, w⟩ := DataW.trod_string hT h
  subst e hx
  refine ⟨s, rfl, ?_⟩
  simp [Rows.uptoBulk]
theorem OT.bool {W : World} {T : TypeId} (hT : Tryd.prog.underlying T = some .bool) : OT W Rp.bool (fun _ => 1) T := by
  intro H enc sp held fuel cs x h
  obtain ⟨n, e, hx⟩ := DataW.trod_bool hT h
  subst e hx
  exact ⟨n, rfl, by simp [Rows.uptoBulk]⟩
theorem exists_list2 {α β : Type} {Q : Nat → α → Prop} {m : α → Nat} {m2 : β → Nat} : ∀ (els : List β), (∀ (i : Nat) e, els[i]? = some e → ∃ x, Q i x ∧ m x ≤ m2 e) → ∃ l : List α, l.length = els.length ∧ (∀ (i : Nat) x, l[i]? = some x → Q i x) ∧ (l.map m).sum ≤ (els.map m2).sum
  | [], _ => ⟨[], rfl, by simp, by simp⟩
  | e :: els, h => by
    obtain ⟨x, hx, hm⟩ := h 0 e rfl
    obtain ⟨l, h1, h2, h3⟩ := exists_list2 (Q := fun i x => Q (i + 1) x) (m := m) (m2 := m2) els (fun i e he => h (i + 1) e (by simpa using he))
    refine ⟨x :: l, by simp [h1], ?_, by simp; omega⟩
    intro i y hy
    cases i with
    | zero => simp at hy; subst hy; exact hx
    | succ i => exact h2 i y (by simpa using hy)
theorem bulkAll_sum {H : Type} : ∀ (l : List (DataW H)), Rows.uptoBulkAll l = (l.map Rows.uptoBulk).sum
  | [] => rfl
  | x :: l => by simp [Rows.uptoBulkAll, bulkAll_sum l]
theorem OT.slice {W : World} {α : Type} {ρ : Rp α} {m : α → Nat} {T e : TypeId} (hT : Tryd.prog.underlying T = some (.slice e)) (hc : Tryd.prog.cellsOf e = ρ.sz) (hpos : 0 < ρ.sz) (hel : OT W ρ m e) : OT W ρ.slice (mlist m) T := by
  intro H enc sp held fuel cs x h
  rcases DataW.trod_slice hT h with ⟨hcs, hx⟩ | ⟨a, len, cap, elems, rest, n, _, hcs, hx, _, hlc, _, hel', he, _⟩
  · subst hcs hx
    exact ⟨[], ⟨_, rfl, RSl.nil _ _⟩, by simp [mlist, Rows.uptoBulk]⟩
  · subst hcs hx
    rw [hc] at he
    have key : ∀ (i : Nat) el, elems[i]? = some el → ∃ c : α, (∃ cs, gcellsI (G0of W) (a.add (i * ρ.sz)) ρ.sz = some cs ∧ ρ.R (G0of W) c cs) ∧ m c ≤ Rows.uptoBulk el.1 := by
      intro i el hi
      have hil : i < elems.length := by
        by_cases q : i < elems.length
        · exact q
        · rw [List.getElem?_eq_none (by omega)] at hi; cases hi
      have h1 := he i (by omega)
      rw [hi, Option.bind_eq_some_iff] at h1
      obtain ⟨cs, h2, h3⟩ := h1
      obtain ⟨c, hc, hb⟩ := hel _ _ _ _ _ _ _ h3
      exact ⟨c, ⟨cs, cellsI_of hpos h2, hc⟩, hb⟩
    obtain ⟨l, h1, h2, h3⟩ := exists_list2 elems key
    refine ⟨l, ⟨_, rfl, ⟨some a, len, cap, rfl, by omega, hlc, fun hpos' => ⟨a, rfl, ?_, fun i x hx => h2 i x hx⟩⟩⟩, ?_⟩
    · obtain ⟨c, ⟨cs, hg, _⟩, _⟩ := key 0 (elems[0]'(by omega)) (List.getElem?_eq_getElem (by omega))
      have e : a.add (0 * ρ.sz) = a := by cases a; simp [Addr.add]
      rw [e] at hg
      unfold gcellsI at hg
      split at hg
      · split at hg
        · rename_i hc; have := hc.1; cases hs : a.spot <;> simp_all
        · cases hg
      · cases hg
    · simp only [mlist, Rows.uptoBulk, bulkAll_sum, List.map_map]
      have : (elems.map (Rows.uptoBulk ∘ fun x => x.1)).sum = (elems.map fun x => Rows.uptoBulk x.1).sum := rfl
      omega
theorem mlist_len {α : Type} {m : α → Nat} (h1 : ∀ x, 1 ≤ m x) (l : List α) : l.length + 1 ≤ mlist m l := by
  unfold mlist
  induction l with
  | nil => simp
  | cons x l ih => have := h1 x; simp; omega
theorem mlist_mem {α : Type} {m : α → Nat} {l : List α} {x : α} (h : x ∈ l) : m x + 1 ≤ mlist m l := by
  unfold mlist
  induction l with
  | nil => cases h
  | cons y l ih =>
    rcases List.mem_cons.1 h with rfl | h
    · simp
    · have := ih h; simp; omega
theorem OT.row {W : World} {α : Type} {ρ : Rp α} {m : List α → Nat} {T : TypeId} (h : OT W ρ.slice m T) {H : Type} {enc : TypeId × Value → H} {sp : Nat → Bool} {held : Bool} {a : Option Addr} {n c : Nat} {d : DataW H} {ps : List MemPlace} (ht : DataW.Trod enc Tryd.prog W 0 sp held T (.slice a n c) d ps) : ∃ l : List α, RSl ρ (G0of W) (.slice a n c) l ∧ m l ≤ Rows.uptoBulk d := by
  obtain ⟨fuel, hf⟩ := ht
  obtain ⟨l, ⟨v, hv, hr⟩, hm⟩ := h _ _ _ _ _ _ _ hf
  simp [Value.cells] at hv
  subst hv
  exact ⟨l, hr, hm⟩
theorem OT.agg {W : World} {α : Type} {ρ : Rp α} {m : α → Nat} {T : TypeId} (h : OT W ρ m T) {H : Type} {enc : TypeId × Value → H} {sp : Nat → Bool} {held : Bool} {xs : Array Value} {d : DataW H} {ps : List MemPlace} (ht : DataW.Trod enc Tryd.prog W 0 sp held T (.agg xs) d ps) : ∃ c : α, ρ.R (G0of W) c xs.toList ∧ m c ≤ Rows.uptoBulk d := by
  obtain ⟨fuel, hf⟩ := ht
  obtain ⟨l, hr, hm⟩ := h _ _ _ _ _ _ _ hf
  exact ⟨l, by simpa [Value.cells] using hr, hm⟩
end Go.Proofs.YtdepecjjahodjaaDoor
namespace Go.Proofs.YtdepecjjahodjaaDoor
open Go Go.GL
set_option maxRecDepth 10000
set_option maxHeartbeats 0
def mLeg (x : SLeg) : Nat := mlist (fun s => s.size + 1) x.Rides + 1 + 1
theorem otLeg {W : World} : OT W rLeg mLeg 76 := by
  intro H enc sp held fuel cs x h
  obtain ⟨xs, n, _, hx, hlen, hxl, hf⟩ := DataW.trod_struct Tryd.underlying76 h
  rw [show Tryd.prog.cellsOf 76 = 2 from by kernel_rfl] at hlen
  obtain ⟨x0, x1, rfl⟩ : ∃ x0 x1, cs = [x0, x1] := by
    match cs, hlen with
    | [x0, x1], _ => exact ⟨x0, x1, rfl⟩
  have hxl : xs.length = 2 := hxl
  obtain ⟨d_0, d_1, rfl⟩ : ∃ d_0 d_1, xs = [d_0, d_1] := by
    match xs, hxl with
    | [y0, y1], _ => exact ⟨y0, y1, rfl⟩
  have f_0 : DataW.trod enc Tryd.prog W 0 sp held n 22 [x0] = some d_0 := by have := hf 0 _ rfl; exact this
  have f_1 : DataW.trod enc Tryd.prog W 0 sp held n 3 [x1] = some d_1 := by have := hf 1 _ rfl; exact this
  clear hf
  obtain ⟨c_0, ⟨v_0, e_0, r_0⟩, b_0⟩ := OT.slice Tryd.underlying22 (by kernel_rfl) (by decide) (OT.str Tryd.underlying9) _ _ _ _ _ _ _ f_0
  simp only [List.cons.injEq, and_true] at e_0; subst e_0
  obtain ⟨c_1, e_1, q_1, w_1⟩ := DataW.trod_int Tryd.underlying3 f_1
  simp only [List.cons.injEq, and_true] at e_1; subst e_1 q_1
  subst hx
  refine ⟨⟨c_0, c_1⟩, ⟨_, rfl, r_0⟩, ?_⟩
  simp only [mLeg, Rows.uptoBulk, Rows.uptoBulkAll, List.map_cons, List.map_nil, ← size_len]
  omega
theorem mstr_pos (s : ByteArray) : 1 ≤ s.size + 1 := by omega
theorem legs_len {l : List SLeg} {n : Nat} (h : mlist mLeg l ≤ n) (hn : n ≤ 1048576) : l.length ≤ 1048576 ∧ ∀ x ∈ l, x.Rides.length ≤ 1048576 := by
  have h1 := mlist_len (m := mLeg) (fun z => by unfold mLeg; omega) l
  refine ⟨by omega, fun z hz => ?_⟩
  have h2 := mlist_mem (m := mLeg) hz
  have h3 := mlist_len (m := fun s : ByteArray => s.size + 1) mstr_pos z.Rides
  have h4 : mLeg z = mlist (fun s : ByteArray => s.size + 1) z.Rides + 1 + 1 := rfl
  omega
theorem ints_len {l : List Int} {n : Nat} (h : mlist (fun _ : Int => 1) l ≤ n) (hn : n ≤ 1048576) : l.length ≤ 1048576 := by
  have h1 := mlist_len (m := fun _ : Int => 1) (fun z => by omega) l
  omega
namespace costsDividedUpto
open Go.ChangeShapes Go.WideShapes Go.ChangeAt Go.RowKit
theorem own : ownKnob Tryd.prog.godebug = none := by kernel_rfl
theorem laidOut : laidOutB Tryd.prog = true := by kernel_rfl
set_option maxRecDepth 100000 in
theorem contract (H : Type) (enc : TypeId × Value → H) (W : World) (base : Nat) (args : Array Value) (ds gs : List (DataW H)) (before : List MemPlace)
    (hval : ∀ (j : Nat) t v, Tryd.f4.params[j]? = some t → args[j]? = some v → Value.okWide Tryd.prog W .any base t v)
    (hW : DataW.Whole enc Tryd.prog Tryd.f4.params.toList Rows.costsDividedSpec.vars false W args.toList ds gs before) (hk : Rows.uptoSmall H (ds ++ gs) = true) :
    Calls Tryd.prog 4 args W fun e W' => ∃ v, e = .returned v ∧ Rows.costsDividedSpec.post enc Tryd.prog Tryd.f4 false true false false W args v W' := by
  have hW' := hW
  obtain ⟨p, q, hA0, hV, rfl, hfz, hnd⟩ := hW
  have hA : DataW.TrodAll enc Tryd.prog W 0 (fun _ => true) true Tryd.f4.params.toList args.toList ds p := hA0
  rw [Tryd.params4] at hA hval
  obtain ⟨v0, vs0, d0, ds0, p0, q0, hargs, rfl, rfl, h0, r0⟩ := trodAll_cons hA
  obtain ⟨v1, vs1, d1, ds1, p1, q1, rfl, rfl, rfl, h1, r1⟩ := trodAll_cons r0
  obtain ⟨v2, vs2, d2, ds2, p2, q2, rfl, rfl, rfl, h2, r2⟩ := trodAll_cons r1
  obtain ⟨rfl, rfl, rfl⟩ := trodAll_nil r2
  obtain rfl : args = #[v0, v1, v2] := by cases args; simp_all
  obtain ⟨rfl, rfl⟩ := trodVars_none hV
  obtain ⟨a0, rfl, rfl, rfl, w0⟩ := open_int Tryd.underlying3 (hval 0 3 v0 rfl rfl) h0
  have k1 := h1
  have lt1 : ∀ x ∈ p1, x.block < W.heap.size := by obtain ⟨m, hm⟩ := k1; exact DataW.trod_lt m _ _ _ hm
  obtain ⟨e1, n1, c1, rfl⟩ := okWide_slice Tryd.underlying23 (hval 1 23 v1 rfl rfl)
  obtain ⟨l1, R1, m1⟩ := OT.row (OT.slice Tryd.underlying23 (by kernel_rfl) (by decide) (OT.int Tryd.underlying3)) h1
  have k2 := h2
  have lt2 : ∀ x ∈ p2, x.block < W.heap.size := by obtain ⟨m, hm⟩ := k2; exact DataW.trod_lt m _ _ _ hm
  obtain ⟨e2, n2, c2, rfl⟩ := okWide_slice Tryd.underlying52 (hval 2 52 v2 rfl rfl)
  obtain ⟨l2, R2, m2⟩ := OT.row (OT.slice Tryd.underlying52 (by kernel_rfl) (by decide) otLeg) h2
  simp only [List.append_nil] at hk
  have hb : Rows.uptoBulkAll [.lit (.int .i64 a0), d1, d2] ≤ 1048576 := of_decide_eq_true hk
  simp only [Rows.uptoBulkAll] at hb
  refine Calls.mono ((p4 R1 R2 (ints_len m1 (by omega)) (legs_len m2 (by omega)).1 (legs_len m2 (by omega)).2) (G0of W) (le_refl _) W W (holdsG0 W)) fun e W' he => ?_
  obtain ⟨v, G', rfl, hh, _, rfl⟩ := he
  have bel := hh.below
  exact ⟨_, rfl, _, _, _, [], _, [], hW', trodAll_mk1 (shut_bool Tryd.underlying4 _), trodAll_cons_mk (shut_int Tryd.underlying3 w0) (trodAll_cons_mk (Below.trod laidOut (by kernel_rfl) (of_decide_eq_true (by kernel_rfl)) k1 bel lt1) (trodAll_cons_mk (Below.trod laidOut (by kernel_rfl) (of_decide_eq_true (by kernel_rfl)) k2 bel lt2) trodAll_mk0)), rfl, bel.frame _, fun h => by cases h⟩
noncomputable def laidWorld (os : Os) : World :=
  { World.holding Tryd.prog os ⟨#[], #[], []⟩ with heap := (((World.holding Tryd.prog os ⟨#[], #[], []⟩).heap.modify 4 fun o => match o with | .cells _ t fr => .cells #[.int .u8 128, .int .u8 191, .int .u8 160, .int .u8 191, .int .u8 128, .int .u8 159, .int .u8 144, .int .u8 191, .int .u8 128, .int .u8 143, .int .u8 0, .int .u8 0, .int .u8 0, .int .u8 0, .int .u8 0, .int .u8 0, .int .u8 0, .int .u8 0, .int .u8 0, .int .u8 0, .int .u8 0, .int .u8 0, .int .u8 0, .int .u8 0, .int .u8 0, .int .u8 0, .int .u8 0, .int .u8 0, .int .u8 0, .int .u8 0, .int .u8 0, .int .u8 0] t fr | o => o).modify 3 fun o => match o with | .cells _ t fr => .cells (Go.Pinned.utf8FirstZ.map fun n : Nat => Value.int .u8 (n : Int)).toArray t fr | o => o) }
set_option maxRecDepth 100000 in
theorem laid_met (os : Os) : laidMet Tryd.prog Rows.costsDividedUptoRow.laid ((laidWorld os).forCall (fun _ _ => 0) ⟨#[], #[.int .i64 0, .slice none 0 0, .slice none 0 0], []⟩).memory := laidMet_of_run' 8 (by kernel_rfl) (by kernel_rfl)
theorem reads (os : Os) {H : Type} (enc : TypeId × Value → H) : ∃ places, DataW.whole enc Tryd.prog ((laidWorld os).forCall (fun _ _ => 0) ⟨#[], #[.int .i64 0, .slice none 0 0, .slice none 0 0], []⟩).memory Tryd.f4.params.toList Rows.costsDividedSpec.vars false (#[.int .i64 0, .slice none 0 0, .slice none 0 0] : Array Value).toList 8 = some ([.lit (.int .i64 0), .nil, .nil], [], places) := ⟨[], by kernel_rfl⟩
set_option maxRecDepth 100000 in
theorem lifted (os : Os) (started : os.Started) (H : Type) (enc : TypeId × Value → H) (F : Stop.Interp) :
    ReturnsInHanded {} Tryd.checked os 4 .any ((Rows.OpenSpec.upto Rows.costsDividedSpec).preRow enc Tryd.prog Tryd.f4 Rows.costsDividedUptoRow.domain false Rows.costsDividedUptoRow.laid) (((Rows.OpenSpec.upto Rows.costsDividedSpec).at F).post enc Tryd.prog Tryd.f4 false true false false) := by
  obtain ⟨places, hx⟩ := reads os enc
  refine returnsInHanded_of_row (C := Tryd.checked) (s := Rows.OpenSpec.upto Rows.costsDividedSpec) own started (by kernel_rfl) Tryd.func4
    (witness_row_at (enc := enc) (C := Tryd.checked) false (laidWorld os) #[.int .i64 0, .slice none 0 0, .slice none 0 0] rfl (by kernel_rfl) (by kernel_rfl) (by kernel_rfl)
      (OpenSpec.preRow_of_cond 8 hx (by kernel_rfl) (fun k hk => by cases hk; kernel_rfl) (by kernel_rfl) (laid_met os))) ?_
  intro W base args ds gs before hval hW _ hk _ _ _ _
  exact contract H enc W base args ds gs before hval hW (hk _ rfl)
theorem said : Rows.CostsDividedUptoSaid :=
  OpenClaim.holds_of_cond 4 Tryd.f4 rfl rfl rfl rfl rfl rfl rfl ⟨rfl, rfl, rfl, rfl, rfl⟩ rfl rfl rfl rfl rfl (by kernel_rfl) Tryd.func4 (by kernel_rfl)
    (of_decide_eq_true (by kernel_rfl)) (by unfold Func.isWrapper; first | (rw [if_pos (by decide +kernel)]; kernel_rfl) | (rw [if_neg (by decide +kernel)]; exact ⟨rfl, rfl⟩))
    (fun os started H enc _ F => by rw [OpenClaim.pre_eq_preRow]; exact lifted os started H enc F)
theorem plain (f : FuncId) (fn : Func) (hf : Tryd.pinned.checked.prog.funcNamed "jitney/jitlaw1.CostsDivided" = some f) (hfn : Tryd.pinned.checked.prog.funcs[f]? = some fn) :
    false = Tryd.pinned.checked.prog.looks [] ∧ ∀ (j : Nat) t, fn.params[j]? = some t → Tryd.pinned.checked.prog.wantsStandIn t = false := by
  obtain rfl : f = 4 := Option.some.inj ((show Tryd.prog.funcNamed "jitney/jitlaw1.CostsDivided" = some 4 by kernel_rfl).symm.trans hf) |>.symm
  obtain rfl : fn = Tryd.f4 := (Option.some.inj (Tryd.func4.symm.trans hfn)).symm
  refine ⟨by kernel_rfl, fun j t ht => ?_⟩
  rw [Tryd.params4] at ht
  have hm := Array.mem_of_getElem? ht
  simp only [List.mem_toArray, List.mem_cons, List.not_mem_nil, or_false] at hm
  rcases hm with rfl | rfl | rfl
  · exact (show Tryd.prog.wantsStandIn 3 = false by kernel_rfl)
  · exact (show Tryd.prog.wantsStandIn 23 = false by kernel_rfl)
  · exact (show Tryd.prog.wantsStandIn 52 = false by kernel_rfl)
theorem proved : Rows.CostsDividedUptoCardSaid :=
  Claim7.holds_tied_plain_at .later [] _ _ _ _ said (fun _ h => by cases h) (by kernel_rfl) (fun _ h => by cases h) costsDividedUpto_row_tie rfl ⟨rfl, rfl⟩ (by kernel_rfl) rfl plain (by kernel_rfl)
end costsDividedUpto
end Go.Proofs.YtdepecjjahodjaaDoor
