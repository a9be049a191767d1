/- A part of a proof: Walk and Length are as specified for all roads and arcs (statement DrivesWalkedUptoCardSaid) -/
import Derived.Test.YtjhfhacdjmokaaaGreatDoorDwSh
import Derived.Test.YtjhfhacdjmokaaaGreatDoorDwW28
import Derived.Test.YtjhfhacdjmokaaaGreatDoorDwW29
set_option linter.unusedSimpArgs false
set_option linter.unusedVariables false
set_option linter.unusedSectionVars false
namespace Go.Proofs.YtjhfhacdjmokaaaGreatDoor
open Go Go.GL
attribute [local irreducible] Ycall GCalls
set_option maxRecDepth 10000
set_option maxHeartbeats 0
theorem p18 {G0 : GH} {v w u : Value} {ns : List SNode} {ar : List SArc} {bs : List SBan} (hv : RSl rNode G0 v ns) (hw : RSl rArc G0 w ar) (hu : RSl rBan G0 u bs) (hn : ns.length ≤ 1000000000) (hm : ar.length ≤ 1000000000) (hk : ∀ x ∈ ar, x.Knots.length ≤ 1000000000) (hb : bs.length ≤ 1000000000) : Pure Tryz.prog G0 18 [.agg #[v, w, u]] (V (roadsE ns ar bs)) := by
  intro G hG; replace hv := hv.le hG; replace hw := hw.le hG; replace hu := hu.le hG
  clear hG G0
  refine enter Tryz.func18 131 #[.tmp 2] rfl Tryz.ntmps18 rfl (by decide +kernel) rfl ?_
  obtain ⟨va, vc, rfl⟩ := hv.val
  obtain ⟨wa, wc, rfl⟩ := hw.val
  obtain ⟨ua, uc, rfl⟩ := hu.val
  by_cases he : nodesE ns = 0
  · obtain ⟨hnl, hnr⟩ := nodes_rise he
    simp (maxDischargeDepth := 9) only [↓gB, gV, gT, reduceIte, reduceCtorEq, Nat.reduceEqDiff, Nat.reduceAdd, Nat.reduceSub, Nat.reduceLeDiff, Nat.reduceLT, Int.reduceEq, Nat.reduceMul, he]
    refine Yn2 fun r1 h1 => ?_
    simp (maxDischargeDepth := 9) only [↓gB, gV, gT, reduceIte, reduceCtorEq, Nat.reduceEqDiff, Nat.reduceAdd, Nat.reduceSub, Nat.reduceLeDiff, Nat.reduceLT, Int.reduceEq, Nat.reduceMul, h1, he]
    refine Ycp (p36 (by exact RSl.put _ (by assumption) (by assumption)) (by omega)) ?_
    simp (maxDischargeDepth := 9) only [↓gB, gV, gT, reduceIte, reduceCtorEq, Nat.reduceEqDiff, Nat.reduceAdd, Nat.reduceSub, Nat.reduceLeDiff, Nat.reduceLT, Int.reduceEq, Nat.reduceMul, h1, he]
    refine Xc_split _ _ _ _ _ (fun c0 => ?_) (fun c0 => ?_)
    · simp (maxDischargeDepth := 9) only [↓gB, gV, gT, reduceIte, reduceCtorEq, Nat.reduceEqDiff, Nat.reduceAdd, Nat.reduceSub, Nat.reduceLeDiff, Nat.reduceLT, Int.reduceEq, Nat.reduceMul, h1, c0]
      refine Kup_val (by simp (maxDischargeDepth := 9) only [le_self, le_puts, le_put0, h1]) ?_
      focus (rw [rE2 he c0]; done)
    · simp (maxDischargeDepth := 9) only [↓gB, gV, gT, reduceIte, reduceCtorEq, Nat.reduceEqDiff, Nat.reduceAdd, Nat.reduceSub, Nat.reduceLeDiff, Nat.reduceLT, Int.reduceEq, Nat.reduceMul, h1, c0]
      focus
        refine Xloop_intro _ _ _ _ _ (fun k f G' => ∃ (i : Nat), k = ar.length - i ∧ (i ≤ ar.length) ∧ (chk (arcBad ns) none ar = chk (arcBad ns) (prevOf ar i) (ar.drop i)) ∧ (G' r1 = some (.cells [.slice va ns.length vc, .slice wa ar.length wc, .slice ua bs.length uc].toArray 26 (0, 0), true)) ∧ (RSl rNode G' (.slice va ns.length vc) ns) ∧ (RSl rArc G' (.slice wa ar.length wc) ar) ∧ (RSl rBan G' (.slice ua bs.length uc) bs) ∧ (G.le G') ∧ f 24 = V i ∧ f 1 = Go.Value.pointer (Option.some { block := r1, off := 0 }) ∧ f 22 = Go.Value.slice wa ar.length wc ∧ f 23 = Go.Value.int Go.IntKind.i64 ↑ar.length) _ ⟨0, rfl, ?_, ?_, ?_, ?_, ?_, ?_, ?_, by simp (maxDischargeDepth := 9) only [↓gB, gV, gT, reduceIte, reduceCtorEq, Nat.reduceEqDiff, Nat.reduceAdd, Nat.reduceSub, Nat.reduceLeDiff, Nat.reduceLT, Int.reduceEq, Nat.reduceMul, h1, c0, and_self]⟩ ?_
        · omega
        · rfl
        · exact put_self _ _ _
        · exact RSl.put _ (by assumption) (by assumption)
        · exact RSl.put _ (by assumption) (by assumption)
        · exact RSl.put _ (by assumption) (by assumption)
        · (simp (maxDischargeDepth := 9) only [le_self, le_puts, le_put0, sub_self, sub_puts, sub_put0, h1]; done)
        rintro k f G' ⟨i, rfl, hi, h, hr, hv, hw, hu, hle, f24, f1, f22, f23⟩
      simp (maxDischargeDepth := 9) only [↓gB, gV, gT, reduceIte, reduceCtorEq, Nat.reduceEqDiff, Nat.reduceAdd, Nat.reduceSub, Nat.reduceLeDiff, Nat.reduceLT, Int.reduceEq, Nat.reduceMul, h1, c0, hr, f24, f1, f22, f23]
      refine Xc_split _ _ _ _ _ (fun c1 => ?_) (fun c1 => ?_)
      · obtain ⟨x, hx⟩ : ∃ x, ar[i]? = some x := ⟨_, List.getElem?_eq_getElem (by omega)⟩
        have hxk := hk x (List.mem_of_getElem? hx)
        simp (maxDischargeDepth := 9) only [↓gB, gV, gT, reduceIte, reduceCtorEq, Nat.reduceEqDiff, Nat.reduceAdd, Nat.reduceSub, Nat.reduceLeDiff, Nat.reduceLT, Int.reduceEq, Nat.reduceMul, h1, c0, hr, f24, f1, f22, f23, c1]
        obtain ⟨x1, a1, s1, m1, rfl, ⟨v1, rfl, w1⟩, e1⟩ := hw.at (i) (by omega) 5 rfl
        obtain ⟨aw1, cw1, rfl⟩ := RSl.val w1
        simp (maxDischargeDepth := 9) only [↓gB, gV, gT, reduceIte, reduceCtorEq, Nat.reduceEqDiff, Nat.reduceAdd, Nat.reduceSub, Nat.reduceLeDiff, Nat.reduceLT, Int.reduceEq, Nat.reduceMul, h1, c0, f24, f1, f23, c1, hr, f22, e1]
        refine vguard_intro (by simp) ?_
        refine Yn2 fun r2 h2 => ?_
        simp (maxDischargeDepth := 9) only [↓gB, gV, gT, reduceIte, reduceCtorEq, Nat.reduceEqDiff, Nat.reduceAdd, Nat.reduceSub, Nat.reduceLeDiff, Nat.reduceLT, Int.reduceEq, Nat.reduceMul, h1, c0, f24, f1, f23, c1, hr, f22, e1, h2]
        refine Ycp (p37) ?_
        simp (maxDischargeDepth := 9) only [↓gB, gV, gT, reduceIte, reduceCtorEq, Nat.reduceEqDiff, Nat.reduceAdd, Nat.reduceSub, Nat.reduceLeDiff, Nat.reduceLT, Int.reduceEq, Nat.reduceMul, h1, c0, f24, f1, f23, c1, hr, f22, e1, h2]
        obtain rfl : x = x1 := by rw [hx] at m1; cases m1; rfl
        have n2 : r1 ≠ r2 := ne_of_none hr h2
        have hpz : ¬ (0 : Int) < i → (prevOf ar i).any (fun q => !sLt q.Key x.Key) = false := fun q => pvz q
        focus
          rcases bool_tf (Go.Proofs.YtjhfhacdjmokaaaGreatDoor.isKey x.Key) with c2 | c2
          rotate_left 1
          focus
            simp (maxDischargeDepth := 9) only [↓gB, gV, gT, reduceIte, reduceCtorEq, Nat.reduceEqDiff, Nat.reduceAdd, Nat.reduceSub, Nat.reduceLeDiff, Nat.reduceLT, Int.reduceEq, Nat.reduceMul, h1, c0, f24, f1, f23, c1, hr, f22, h2, e1, n2, c2]
            refine Kup_val (by simp (maxDischargeDepth := 9) only [le_self, le_puts, le_put0, h1, hle, h2]) ?_
            focus (rw [rE3 he c0 (chk_bad h hx (ab5 (by assumption)) (by decide)) (by decide)]; done)
          rotate_right 1
          simp (maxDischargeDepth := 9) only [↓gB, gV, gT, reduceIte, reduceCtorEq, Nat.reduceEqDiff, Nat.reduceAdd, Nat.reduceSub, Nat.reduceLeDiff, Nat.reduceLT, Int.reduceEq, Nat.reduceMul, h1, c0, f24, f1, f23, c1, hr, f22, h2, e1, n2, c2]
          refine Xdraw_intro [0, 1, 2, 3, 4, 5, 6, 7, 8, 9, 10, 11, 12, 13, 14] mixed (by kernel_rfl) (by decide +kernel) ?_
          simp (maxDischargeDepth := 9) only [↓gB, gV, gT, reduceIte, reduceCtorEq, Nat.reduceEqDiff, Nat.reduceAdd, Nat.reduceSub, Nat.reduceLeDiff, Nat.reduceLT, Int.reduceEq, Nat.reduceMul, h1, c0, f24, f1, f23, c1, hr, f22, h2, e1, n2, c2]
          by_cases c3 : (0 : Int) < ↑i
          rotate_left 1
          focus
            simp (maxDischargeDepth := 9) only [↓gB, gV, gT, reduceIte, reduceCtorEq, Nat.reduceEqDiff, Nat.reduceAdd, Nat.reduceSub, Nat.reduceLeDiff, Nat.reduceLT, Int.reduceEq, Nat.reduceMul, h1, c0, f24, f1, f23, c1, hr, f22, h2, e1, n2, c2, c3]
            refine Ycp (p19 (by exact (le_put (by assumption) _) _ _ (by assumption)) (by exact RSl.put _ (by assumption) (by assumption)) (by omega) (by assumption)) ?_
            simp (maxDischargeDepth := 9) only [↓gB, gV, gT, reduceIte, reduceCtorEq, Nat.reduceEqDiff, Nat.reduceAdd, Nat.reduceSub, Nat.reduceLeDiff, Nat.reduceLT, Int.reduceEq, Nat.reduceMul, h1, c0, f24, f1, f23, c1, hr, f22, h2, e1, n2, c2, c3]
            by_cases c4 : (Go.Proofs.YtjhfhacdjmokaaaGreatDoor.keyAt Go.Proofs.YtjhfhacdjmokaaaGreatDoor.SNode.Key ns x.From : Int) < 0
            rotate_left 1
            focus
              simp (maxDischargeDepth := 9) only [↓gB, gV, gT, reduceIte, reduceCtorEq, Nat.reduceEqDiff, Nat.reduceAdd, Nat.reduceSub, Nat.reduceLeDiff, Nat.reduceLT, Int.reduceEq, Nat.reduceMul, h1, c0, f24, f1, f23, c1, hr, f22, h2, e1, n2, c2, c3, c4]
              refine Ycp (p19 (by exact (le_put (by assumption) _) _ _ (by assumption)) (by exact RSl.put _ (by assumption) (by assumption)) (by omega) (by assumption)) ?_
              simp (maxDischargeDepth := 9) only [↓gB, gV, gT, reduceIte, reduceCtorEq, Nat.reduceEqDiff, Nat.reduceAdd, Nat.reduceSub, Nat.reduceLeDiff, Nat.reduceLT, Int.reduceEq, Nat.reduceMul, h1, c0, f24, f1, f23, c1, hr, f22, h2, e1, n2, c2, c3, c4]
              refine Xc_split _ _ _ _ _ (fun c5 => ?_) (fun c5 => ?_)
              rotate_left 1
              focus
                simp (maxDischargeDepth := 9) only [↓gB, gV, gT, reduceIte, reduceCtorEq, Nat.reduceEqDiff, Nat.reduceAdd, Nat.reduceSub, Nat.reduceLeDiff, Nat.reduceLT, Int.reduceEq, Nat.reduceMul, h1, c0, f24, f1, f23, c1, hr, f22, h2, e1, n2, c2, c3, c4, c5]
                refine Xc_split _ _ _ _ _ (fun c6 => ?_) (fun c6 => ?_)
                rotate_left 1
                focus
                  simp (maxDischargeDepth := 9) only [↓gB, gV, gT, reduceIte, reduceCtorEq, Nat.reduceEqDiff, Nat.reduceAdd, Nat.reduceSub, Nat.reduceLeDiff, Nat.reduceLT, Int.reduceEq, Nat.reduceMul, h1, c0, f24, f1, f23, c1, hr, f22, h2, e1, n2, c2, c3, c4, c5, c6]
                  refine Ycp (p38) ?_
                  simp (maxDischargeDepth := 9) only [↓gB, gV, gT, reduceIte, reduceCtorEq, Nat.reduceEqDiff, Nat.reduceAdd, Nat.reduceSub, Nat.reduceLeDiff, Nat.reduceLT, Int.reduceEq, Nat.reduceMul, h1, c0, f24, f1, f23, c1, hr, f22, h2, e1, n2, c2, c3, c4, c5, c6]
                  rcases bool_tf (Go.Proofs.YtjhfhacdjmokaaaGreatDoor.within x.Long 1 1000000) with c7 | c7
                  rotate_left 1
                  focus
                    simp (maxDischargeDepth := 9) only [↓gB, gV, gT, reduceIte, reduceCtorEq, Nat.reduceEqDiff, Nat.reduceAdd, Nat.reduceSub, Nat.reduceLeDiff, Nat.reduceLT, Int.reduceEq, Nat.reduceMul, h1, c0, f24, f1, f23, c1, hr, f22, h2, e1, n2, c2, c3, c4, c5, c6, c7]
                    refine Kup_val (by simp (maxDischargeDepth := 9) only [le_self, le_puts, le_put0, h1, hle, h2]) ?_
                    focus (rw [rE3 he c0 (chk_bad h hx (ab1 (by assumption) (by first | exact pvp (by assumption) m2 (by simp [*]) | exact hpz (by assumption)) (by assumption) (by assumption) (by assumption) (by assumption)) (by decide)) (by decide)]; done)
                  rotate_right 1
                  simp (maxDischargeDepth := 9) only [↓gB, gV, gT, reduceIte, reduceCtorEq, Nat.reduceEqDiff, Nat.reduceAdd, Nat.reduceSub, Nat.reduceLeDiff, Nat.reduceLT, Int.reduceEq, Nat.reduceMul, h1, c0, f24, f1, f23, c1, hr, f22, h2, e1, n2, c2, c3, c4, c5, c6, c7]
                  refine Ycp (p39 (by exact RSl.put _ (by assumption) (by assumption)) (by omega)) ?_
                  simp (maxDischargeDepth := 9) only [↓gB, gV, gT, reduceIte, reduceCtorEq, Nat.reduceEqDiff, Nat.reduceAdd, Nat.reduceSub, Nat.reduceLeDiff, Nat.reduceLT, Int.reduceEq, Nat.reduceMul, h1, c0, f24, f1, f23, c1, hr, f22, h2, e1, n2, c2, c3, c4, c5, c6, c7]
                  refine Xc_split _ _ _ _ _ (fun c8 => ?_) (fun c8 => ?_)
                  rotate_left 1
                  focus
                    simp (maxDischargeDepth := 9) only [↓gB, gV, gT, reduceIte, reduceCtorEq, Nat.reduceEqDiff, Nat.reduceAdd, Nat.reduceSub, Nat.reduceLeDiff, Nat.reduceLT, Int.reduceEq, Nat.reduceMul, h1, c0, f24, f1, f23, c1, hr, f22, h2, e1, n2, c2, c3, c4, c5, c6, c7, c8]
                    have q1 : Go.IntKind.i64.wrap (↑i + 1) = ↑i + 1 := wrap_id (by omega)
                    simp (maxDischargeDepth := 9) only [↓gB, gV, gT, reduceIte, reduceCtorEq, Nat.reduceEqDiff, Nat.reduceAdd, Nat.reduceSub, Nat.reduceLeDiff, Nat.reduceLT, Int.reduceEq, Nat.reduceMul, h1, c0, f24, f1, f23, c1, hr, f22, h2, e1, n2, c2, c3, c4, c5, c6, c7, c8, q1]
                    rw [N_lp]
                    refine ⟨_, ?_, _, sub_refl _, i + 1, rfl, ?_, ?_, ?_, ?_, ?_, ?_, ?_, by simp (maxDischargeDepth := 9) only [↓gB, gV, gT, reduceIte, reduceCtorEq, Nat.reduceEqDiff, Nat.reduceAdd, Nat.reduceSub, Nat.reduceLeDiff, Nat.reduceLT, Int.reduceEq, Nat.reduceMul, h1, c0, f24, f1, f23, c1, hr, f22, h2, e1, n2, c2, c3, c4, c5, c6, c7, c8, q1, nat_succ, and_self]⟩
                    · omega
                    · omega
                    · (exact chk_next h hx ((abk (by assumption) (by first | exact pvp (by assumption) m2 (by simp [*]) | exact hpz (by assumption)) (by assumption) (by assumption) (by assumption) (by assumption)).trans (by omega)); done)
                    · exact (le_put (by assumption) _) _ _ (by assumption)
                    · exact RSl.put _ (by assumption) (by assumption)
                    · exact RSl.put _ (by assumption) (by assumption)
                    · exact RSl.put _ (by assumption) (by assumption)
                    · (simp (maxDischargeDepth := 9) only [le_self, le_puts, le_put0, sub_self, sub_puts, sub_put0, h1, hle, h2]; done)
                  rotate_right 1
                  simp (maxDischargeDepth := 9) only [↓gB, gV, gT, reduceIte, reduceCtorEq, Nat.reduceEqDiff, Nat.reduceAdd, Nat.reduceSub, Nat.reduceLeDiff, Nat.reduceLT, Int.reduceEq, Nat.reduceMul, h1, c0, f24, f1, f23, c1, hr, f22, h2, e1, n2, c2, c3, c4, c5, c6, c7, c8]
                  refine Kup_val (by simp (maxDischargeDepth := 9) only [le_self, le_puts, le_put0, h1, hle, h2]) ?_
                  focus (rw [rE3 he c0 (chk_bad h hx (abk (by assumption) (by first | exact pvp (by assumption) m2 (by simp [*]) | exact hpz (by assumption)) (by assumption) (by assumption) (by assumption) (by assumption)) (by assumption)) (by assumption)]; done)
                rotate_right 1
                simp (maxDischargeDepth := 9) only [↓gB, gV, gT, reduceIte, reduceCtorEq, Nat.reduceEqDiff, Nat.reduceAdd, Nat.reduceSub, Nat.reduceLeDiff, Nat.reduceLT, Int.reduceEq, Nat.reduceMul, h1, c0, f24, f1, f23, c1, hr, f22, h2, e1, n2, c2, c3, c4, c5, c6]
                refine Kup_val (by simp (maxDischargeDepth := 9) only [le_self, le_puts, le_put0, h1, hle, h2]) ?_
                focus (rw [rE3 he c0 (chk_bad h hx (ab6 (by assumption) (by first | exact pvp (by assumption) m2 (by simp [*]) | exact hpz (by assumption)) (by assumption) (by assumption) (by assumption)) (by decide)) (by decide)]; done)
              rotate_right 1
              simp (maxDischargeDepth := 9) only [↓gB, gV, gT, reduceIte, reduceCtorEq, Nat.reduceEqDiff, Nat.reduceAdd, Nat.reduceSub, Nat.reduceLeDiff, Nat.reduceLT, Int.reduceEq, Nat.reduceMul, h1, c0, f24, f1, f23, c1, hr, f22, h2, e1, n2, c2, c3, c4, c5]
              refine Kup_val (by simp (maxDischargeDepth := 9) only [le_self, le_puts, le_put0, h1, hle, h2]) ?_
              focus (rw [rE3 he c0 (chk_bad h hx (ab8 (by assumption) (by first | exact pvp (by assumption) m2 (by simp [*]) | exact hpz (by assumption)) (by first | exact .inl (by assumption) | exact .inr (by assumption))) (by decide)) (by decide)]; done)
            rotate_right 1
            simp (maxDischargeDepth := 9) only [↓gB, gV, gT, reduceIte, reduceCtorEq, Nat.reduceEqDiff, Nat.reduceAdd, Nat.reduceSub, Nat.reduceLeDiff, Nat.reduceLT, Int.reduceEq, Nat.reduceMul, h1, c0, f24, f1, f23, c1, hr, f22, h2, e1, n2, c2, c3, c4]
            refine Kup_val (by simp (maxDischargeDepth := 9) only [le_self, le_puts, le_put0, h1, hle, h2]) ?_
            focus (rw [rE3 he c0 (chk_bad h hx (ab8 (by assumption) (by first | exact pvp (by assumption) m2 (by simp [*]) | exact hpz (by assumption)) (by first | exact .inl (by assumption) | exact .inr (by assumption))) (by decide)) (by decide)]; done)
          rotate_right 1
          simp (maxDischargeDepth := 9) only [↓gB, gV, gT, reduceIte, reduceCtorEq, Nat.reduceEqDiff, Nat.reduceAdd, Nat.reduceSub, Nat.reduceLeDiff, Nat.reduceLT, Int.reduceEq, Nat.reduceMul, h1, c0, f24, f1, f23, c1, hr, f22, h2, e1, n2, c2, c3]
          have q1 : Go.IntKind.i64.wrap (↑i - 1) = ↑i - 1 := wrap_id (by omega)
          simp (maxDischargeDepth := 9) only [↓gB, gV, gT, reduceIte, reduceCtorEq, Nat.reduceEqDiff, Nat.reduceAdd, Nat.reduceSub, Nat.reduceLeDiff, Nat.reduceLT, Int.reduceEq, Nat.reduceMul, h1, c0, f24, f1, f23, c1, hr, f22, h2, e1, n2, c2, c3, q1]
          refine vguard_intro (by omega) ?_
          obtain ⟨x2, s2, m2, ⟨v2, rfl, w2⟩, e2⟩ := hw.at' (i - 1) (by omega) 5 rfl
          obtain ⟨aw2, cw2, rfl⟩ := RSl.val w2
          simp (maxDischargeDepth := 9) only [↓gB, gV, gT, reduceIte, reduceCtorEq, Nat.reduceEqDiff, Nat.reduceAdd, Nat.reduceSub, Nat.reduceLeDiff, Nat.reduceLT, Int.reduceEq, Nat.reduceMul, h1, c0, f24, f1, f23, c1, hr, f22, h2, e1, n2, c2, c3, q1, e2]
          rcases bool_tf (Go.GL.sLt x2.Key x.Key) with c4 | c4
          rotate_left 1
          focus
            simp (maxDischargeDepth := 9) only [↓gB, gV, gT, reduceIte, reduceCtorEq, Nat.reduceEqDiff, Nat.reduceAdd, Nat.reduceSub, Nat.reduceLeDiff, Nat.reduceLT, Int.reduceEq, Nat.reduceMul, h1, c0, f24, f1, f23, c1, hr, f22, h2, e1, n2, c2, c3, q1, e2, c4]
            refine Kup_val (by simp (maxDischargeDepth := 9) only [le_self, le_puts, le_put0, h1, hle, h2]) ?_
            focus (rw [rE3 he c0 (chk_bad h hx (ab7 (by assumption) (pvp (by assumption) m2 (by simp [*]))) (by decide)) (by decide)]; done)
          rotate_right 1
          simp (maxDischargeDepth := 9) only [↓gB, gV, gT, reduceIte, reduceCtorEq, Nat.reduceEqDiff, Nat.reduceAdd, Nat.reduceSub, Nat.reduceLeDiff, Nat.reduceLT, Int.reduceEq, Nat.reduceMul, h1, c0, f24, f1, f23, c1, hr, f22, h2, e1, n2, c2, c3, q1, e2, c4]
          refine Ycp (p19 (by exact (le_put (by assumption) _) _ _ (by assumption)) (by exact RSl.put _ (by assumption) (by assumption)) (by omega) (by assumption)) ?_
          simp (maxDischargeDepth := 9) only [↓gB, gV, gT, reduceIte, reduceCtorEq, Nat.reduceEqDiff, Nat.reduceAdd, Nat.reduceSub, Nat.reduceLeDiff, Nat.reduceLT, Int.reduceEq, Nat.reduceMul, h1, c0, f24, f1, f23, c1, hr, f22, h2, e1, n2, c2, c3, q1, e2, c4]
          by_cases c5 : (Go.Proofs.YtjhfhacdjmokaaaGreatDoor.keyAt Go.Proofs.YtjhfhacdjmokaaaGreatDoor.SNode.Key ns x.From : Int) < 0
          rotate_left 1
          focus
            simp (maxDischargeDepth := 9) only [↓gB, gV, gT, reduceIte, reduceCtorEq, Nat.reduceEqDiff, Nat.reduceAdd, Nat.reduceSub, Nat.reduceLeDiff, Nat.reduceLT, Int.reduceEq, Nat.reduceMul, h1, c0, f24, f1, f23, c1, hr, f22, h2, e1, n2, c2, c3, q1, e2, c4, c5]
            refine Ycp (p19 (by exact (le_put (by assumption) _) _ _ (by assumption)) (by exact RSl.put _ (by assumption) (by assumption)) (by omega) (by assumption)) ?_
            simp (maxDischargeDepth := 9) only [↓gB, gV, gT, reduceIte, reduceCtorEq, Nat.reduceEqDiff, Nat.reduceAdd, Nat.reduceSub, Nat.reduceLeDiff, Nat.reduceLT, Int.reduceEq, Nat.reduceMul, h1, c0, f24, f1, f23, c1, hr, f22, h2, e1, n2, c2, c3, q1, e2, c4, c5]
            refine Xc_split _ _ _ _ _ (fun c6 => ?_) (fun c6 => ?_)
            rotate_left 1
            focus
              simp (maxDischargeDepth := 9) only [↓gB, gV, gT, reduceIte, reduceCtorEq, Nat.reduceEqDiff, Nat.reduceAdd, Nat.reduceSub, Nat.reduceLeDiff, Nat.reduceLT, Int.reduceEq, Nat.reduceMul, h1, c0, f24, f1, f23, c1, hr, f22, h2, e1, n2, c2, c3, q1, e2, c4, c5, c6]
              refine Xc_split _ _ _ _ _ (fun c7 => ?_) (fun c7 => ?_)
              rotate_left 1
              focus
                simp (maxDischargeDepth := 9) only [↓gB, gV, gT, reduceIte, reduceCtorEq, Nat.reduceEqDiff, Nat.reduceAdd, Nat.reduceSub, Nat.reduceLeDiff, Nat.reduceLT, Int.reduceEq, Nat.reduceMul, h1, c0, f24, f1, f23, c1, hr, f22, h2, e1, n2, c2, c3, q1, e2, c4, c5, c6, c7]
                refine Ycp (p38) ?_
                simp (maxDischargeDepth := 9) only [↓gB, gV, gT, reduceIte, reduceCtorEq, Nat.reduceEqDiff, Nat.reduceAdd, Nat.reduceSub, Nat.reduceLeDiff, Nat.reduceLT, Int.reduceEq, Nat.reduceMul, h1, c0, f24, f1, f23, c1, hr, f22, h2, e1, n2, c2, c3, q1, e2, c4, c5, c6, c7]
                rcases bool_tf (Go.Proofs.YtjhfhacdjmokaaaGreatDoor.within x.Long 1 1000000) with c8 | c8
                rotate_left 1
                focus
                  simp (maxDischargeDepth := 9) only [↓gB, gV, gT, reduceIte, reduceCtorEq, Nat.reduceEqDiff, Nat.reduceAdd, Nat.reduceSub, Nat.reduceLeDiff, Nat.reduceLT, Int.reduceEq, Nat.reduceMul, h1, c0, f24, f1, f23, c1, hr, f22, h2, e1, n2, c2, c3, q1, e2, c4, c5, c6, c7, c8]
                  refine Kup_val (by simp (maxDischargeDepth := 9) only [le_self, le_puts, le_put0, h1, hle, h2]) ?_
                  focus (rw [rE3 he c0 (chk_bad h hx (ab1 (by assumption) (by first | exact pvp (by assumption) m2 (by simp [*]) | exact hpz (by assumption)) (by assumption) (by assumption) (by assumption) (by assumption)) (by decide)) (by decide)]; done)
                rotate_right 1
                simp (maxDischargeDepth := 9) only [↓gB, gV, gT, reduceIte, reduceCtorEq, Nat.reduceEqDiff, Nat.reduceAdd, Nat.reduceSub, Nat.reduceLeDiff, Nat.reduceLT, Int.reduceEq, Nat.reduceMul, h1, c0, f24, f1, f23, c1, hr, f22, h2, e1, n2, c2, c3, q1, e2, c4, c5, c6, c7, c8]
                refine Ycp (p39 (by exact RSl.put _ (by assumption) (by assumption)) (by omega)) ?_
                simp (maxDischargeDepth := 9) only [↓gB, gV, gT, reduceIte, reduceCtorEq, Nat.reduceEqDiff, Nat.reduceAdd, Nat.reduceSub, Nat.reduceLeDiff, Nat.reduceLT, Int.reduceEq, Nat.reduceMul, h1, c0, f24, f1, f23, c1, hr, f22, h2, e1, n2, c2, c3, q1, e2, c4, c5, c6, c7, c8]
                refine Xc_split _ _ _ _ _ (fun c9 => ?_) (fun c9 => ?_)
                rotate_left 1
                focus
                  simp (maxDischargeDepth := 9) only [↓gB, gV, gT, reduceIte, reduceCtorEq, Nat.reduceEqDiff, Nat.reduceAdd, Nat.reduceSub, Nat.reduceLeDiff, Nat.reduceLT, Int.reduceEq, Nat.reduceMul, h1, c0, f24, f1, f23, c1, hr, f22, h2, e1, n2, c2, c3, q1, e2, c4, c5, c6, c7, c8, c9]
                  have q2 : Go.IntKind.i64.wrap (↑i + 1) = ↑i + 1 := wrap_id (by omega)
                  simp (maxDischargeDepth := 9) only [↓gB, gV, gT, reduceIte, reduceCtorEq, Nat.reduceEqDiff, Nat.reduceAdd, Nat.reduceSub, Nat.reduceLeDiff, Nat.reduceLT, Int.reduceEq, Nat.reduceMul, h1, c0, f24, f1, f23, c1, hr, f22, h2, e1, n2, c2, c3, q1, e2, c4, c5, c6, c7, c8, c9, q2]
                  rw [N_lp]
                  refine ⟨_, ?_, _, sub_refl _, i + 1, rfl, ?_, ?_, ?_, ?_, ?_, ?_, ?_, by simp (maxDischargeDepth := 9) only [↓gB, gV, gT, reduceIte, reduceCtorEq, Nat.reduceEqDiff, Nat.reduceAdd, Nat.reduceSub, Nat.reduceLeDiff, Nat.reduceLT, Int.reduceEq, Nat.reduceMul, h1, c0, f24, f1, f23, c1, hr, f22, h2, e1, n2, c2, c3, q1, e2, c4, c5, c6, c7, c8, c9, q2, nat_succ, and_self]⟩
                  · omega
                  · omega
                  · (exact chk_next h hx ((abk (by assumption) (by first | exact pvp (by assumption) m2 (by simp [*]) | exact hpz (by assumption)) (by assumption) (by assumption) (by assumption) (by assumption)).trans (by omega)); done)
                  · exact (le_put (by assumption) _) _ _ (by assumption)
                  · exact RSl.put _ (by assumption) (by assumption)
                  · exact RSl.put _ (by assumption) (by assumption)
                  · exact RSl.put _ (by assumption) (by assumption)
                  · (simp (maxDischargeDepth := 9) only [le_self, le_puts, le_put0, sub_self, sub_puts, sub_put0, h1, hle, h2]; done)
                rotate_right 1
                simp (maxDischargeDepth := 9) only [↓gB, gV, gT, reduceIte, reduceCtorEq, Nat.reduceEqDiff, Nat.reduceAdd, Nat.reduceSub, Nat.reduceLeDiff, Nat.reduceLT, Int.reduceEq, Nat.reduceMul, h1, c0, f24, f1, f23, c1, hr, f22, h2, e1, n2, c2, c3, q1, e2, c4, c5, c6, c7, c8, c9]
                refine Kup_val (by simp (maxDischargeDepth := 9) only [le_self, le_puts, le_put0, h1, hle, h2]) ?_
                focus (rw [rE3 he c0 (chk_bad h hx (abk (by assumption) (by first | exact pvp (by assumption) m2 (by simp [*]) | exact hpz (by assumption)) (by assumption) (by assumption) (by assumption) (by assumption)) (by assumption)) (by assumption)]; done)
              rotate_right 1
              simp (maxDischargeDepth := 9) only [↓gB, gV, gT, reduceIte, reduceCtorEq, Nat.reduceEqDiff, Nat.reduceAdd, Nat.reduceSub, Nat.reduceLeDiff, Nat.reduceLT, Int.reduceEq, Nat.reduceMul, h1, c0, f24, f1, f23, c1, hr, f22, h2, e1, n2, c2, c3, q1, e2, c4, c5, c6, c7]
              refine Kup_val (by simp (maxDischargeDepth := 9) only [le_self, le_puts, le_put0, h1, hle, h2]) ?_
              focus (rw [rE3 he c0 (chk_bad h hx (ab6 (by assumption) (by first | exact pvp (by assumption) m2 (by simp [*]) | exact hpz (by assumption)) (by assumption) (by assumption) (by assumption)) (by decide)) (by decide)]; done)
            rotate_right 1
            simp (maxDischargeDepth := 9) only [↓gB, gV, gT, reduceIte, reduceCtorEq, Nat.reduceEqDiff, Nat.reduceAdd, Nat.reduceSub, Nat.reduceLeDiff, Nat.reduceLT, Int.reduceEq, Nat.reduceMul, h1, c0, f24, f1, f23, c1, hr, f22, h2, e1, n2, c2, c3, q1, e2, c4, c5, c6]
            refine Kup_val (by simp (maxDischargeDepth := 9) only [le_self, le_puts, le_put0, h1, hle, h2]) ?_
            focus (rw [rE3 he c0 (chk_bad h hx (ab8 (by assumption) (by first | exact pvp (by assumption) m2 (by simp [*]) | exact hpz (by assumption)) (by first | exact .inl (by assumption) | exact .inr (by assumption))) (by decide)) (by decide)]; done)
          rotate_right 1
          simp (maxDischargeDepth := 9) only [↓gB, gV, gT, reduceIte, reduceCtorEq, Nat.reduceEqDiff, Nat.reduceAdd, Nat.reduceSub, Nat.reduceLeDiff, Nat.reduceLT, Int.reduceEq, Nat.reduceMul, h1, c0, f24, f1, f23, c1, hr, f22, h2, e1, n2, c2, c3, q1, e2, c4, c5]
          refine Kup_val (by simp (maxDischargeDepth := 9) only [le_self, le_puts, le_put0, h1, hle, h2]) ?_
          focus (rw [rE3 he c0 (chk_bad h hx (ab8 (by assumption) (by first | exact pvp (by assumption) m2 (by simp [*]) | exact hpz (by assumption)) (by first | exact .inl (by assumption) | exact .inr (by assumption))) (by decide)) (by decide)]; done)
      · have hc := chk_end h c1
        have har := arcs_rise hc
        simp (maxDischargeDepth := 9) only [↓gB, gV, gT, reduceIte, reduceCtorEq, Nat.reduceEqDiff, Nat.reduceAdd, Nat.reduceSub, Nat.reduceLeDiff, Nat.reduceLT, Int.reduceEq, Nat.reduceMul, h1, c0, hr, f24, f1, f22, f23, c1]
        refine Xc_split _ _ _ _ _ (fun c2 => ?_) (fun c2 => ?_)
        · simp (maxDischargeDepth := 9) only [↓gB, gV, gT, reduceIte, reduceCtorEq, Nat.reduceEqDiff, Nat.reduceAdd, Nat.reduceSub, Nat.reduceLeDiff, Nat.reduceLT, Int.reduceEq, Nat.reduceMul, h1, c0, hr, f24, f1, f22, f23, c1, c2]
          refine Kup_val (by simp (maxDischargeDepth := 9) only [le_self, le_puts, le_put0, h1, hle]) ?_
          focus (rw [rE4 he c0 hc c2]; done)
        · rw [rE5 he c0 hc c2]
          simp (maxDischargeDepth := 9) only [↓gB, gV, gT, reduceIte, reduceCtorEq, Nat.reduceEqDiff, Nat.reduceAdd, Nat.reduceSub, Nat.reduceLeDiff, Nat.reduceLT, Int.reduceEq, Nat.reduceMul, h1, c0, hr, f24, f1, f22, f23, c1, c2]
          focus
            refine Xloop_intro _ _ _ _ _ (fun k f G' => ∃ (i : Nat), k = bs.length - i ∧ (i ≤ bs.length) ∧ (chk (banBad ar) none bs = chk (banBad ar) (prevOf bs i) (bs.drop i)) ∧ (G' r1 = some (.cells [.slice va ns.length vc, .slice wa ar.length wc, .slice ua bs.length uc].toArray 26 (0, 0), true)) ∧ (RSl rNode G' (.slice va ns.length vc) ns) ∧ (RSl rArc G' (.slice wa ar.length wc) ar) ∧ (RSl rBan G' (.slice ua bs.length uc) bs) ∧ (G.le G') ∧ f 84 = V i ∧ f 1 = Go.Value.pointer (Option.some { block := r1, off := 0 }) ∧ f 82 = Go.Value.slice ua bs.length uc ∧ f 83 = Go.Value.int Go.IntKind.i64 ↑bs.length) _ ⟨0, rfl, ?_, ?_, ?_, ?_, ?_, ?_, ?_, by simp (maxDischargeDepth := 9) only [↓gB, gV, gT, reduceIte, reduceCtorEq, Nat.reduceEqDiff, Nat.reduceAdd, Nat.reduceSub, Nat.reduceLeDiff, Nat.reduceLT, Int.reduceEq, Nat.reduceMul, h1, c0, hr, f24, f1, f22, f23, c1, c2, and_self]⟩ ?_
            · omega
            · rfl
            · assumption
            · assumption
            · assumption
            · assumption
            · assumption
            rintro k f G' ⟨i, rfl, hi, h, hr, hv, hw, hu, hle, f84, f1, f82, f83⟩
          simp (maxDischargeDepth := 9) only [↓gB, gV, gT, reduceIte, reduceCtorEq, Nat.reduceEqDiff, Nat.reduceAdd, Nat.reduceSub, Nat.reduceLeDiff, Nat.reduceLT, Int.reduceEq, Nat.reduceMul, h1, c0, hr, f24, f1, f22, f23, c1, c2, hr, f84, f1, f82, f83]
          refine Xc_split _ _ _ _ _ (fun c3 => ?_) (fun c3 => ?_)
          · obtain ⟨x, hx⟩ : ∃ x, bs[i]? = some x := ⟨_, List.getElem?_eq_getElem (by omega)⟩
            have k1 := keyAt_lt SArc.Key ar x.From
            have k2 := keyAt_lt SArc.Key ar x.To
            simp (maxDischargeDepth := 9) only [↓gB, gV, gT, reduceIte, reduceCtorEq, Nat.reduceEqDiff, Nat.reduceAdd, Nat.reduceSub, Nat.reduceLeDiff, Nat.reduceLT, Int.reduceEq, Nat.reduceMul, h1, c0, hr, f24, f1, f22, f23, c1, c2, hr, f84, f1, f82, f83, c3]
            obtain ⟨x1, a1, s1, m1, rfl, rfl, e1⟩ := hu.at (i) (by omega) 2 rfl
            simp (maxDischargeDepth := 9) only [↓gB, gV, gT, reduceIte, reduceCtorEq, Nat.reduceEqDiff, Nat.reduceAdd, Nat.reduceSub, Nat.reduceLeDiff, Nat.reduceLT, Int.reduceEq, Nat.reduceMul, h1, c0, f24, f1, f22, f23, c1, c2, f84, f1, f83, c3, hr, hr, f82, e1]
            refine vguard_intro (by simp) ?_
            refine Yn2 fun r2 h2 => ?_
            simp (maxDischargeDepth := 9) only [↓gB, gV, gT, reduceIte, reduceCtorEq, Nat.reduceEqDiff, Nat.reduceAdd, Nat.reduceSub, Nat.reduceLeDiff, Nat.reduceLT, Int.reduceEq, Nat.reduceMul, h1, c0, f24, f1, f22, f23, c1, c2, f84, f1, f83, c3, hr, hr, f82, e1, h2]
            refine Xdraw_intro [0, 1, 3, 4, 2, 5, 6, 7] mixed (by kernel_rfl) (by decide +kernel) ?_
            simp (maxDischargeDepth := 9) only [↓gB, gV, gT, reduceIte, reduceCtorEq, Nat.reduceEqDiff, Nat.reduceAdd, Nat.reduceSub, Nat.reduceLeDiff, Nat.reduceLT, Int.reduceEq, Nat.reduceMul, h1, c0, f24, f1, f22, f23, c1, c2, f84, f1, f83, c3, hr, hr, f82, e1, h2]
            refine Ycp (p23 (by exact (le_put (by assumption) _) _ _ (by assumption)) (by exact RSl.put _ (by assumption) (by assumption)) (by omega) (by assumption)) ?_
            simp (maxDischargeDepth := 9) only [↓gB, gV, gT, reduceIte, reduceCtorEq, Nat.reduceEqDiff, Nat.reduceAdd, Nat.reduceSub, Nat.reduceLeDiff, Nat.reduceLT, Int.reduceEq, Nat.reduceMul, h1, c0, f24, f1, f22, f23, c1, c2, f84, f1, f83, c3, hr, hr, f82, e1, h2]
            refine Ycp (p23 (by exact (le_put (by assumption) _) _ _ (by assumption)) (by exact RSl.put _ (by assumption) (by assumption)) (by omega) (by assumption)) ?_
            simp (maxDischargeDepth := 9) only [↓gB, gV, gT, reduceIte, reduceCtorEq, Nat.reduceEqDiff, Nat.reduceAdd, Nat.reduceSub, Nat.reduceLeDiff, Nat.reduceLT, Int.reduceEq, Nat.reduceMul, h1, c0, f24, f1, f22, f23, c1, c2, f84, f1, f83, c3, hr, hr, f82, e1, h2]
            obtain rfl : x = x1 := by rw [hx] at m1; cases m1; rfl
            have n2 : r1 ≠ r2 := ne_of_none hr h2
            focus
              by_cases c4 : (Go.Proofs.YtjhfhacdjmokaaaGreatDoor.keyAt Go.Proofs.YtjhfhacdjmokaaaGreatDoor.SArc.Key ar x.From : Int) < 0
              rotate_left 1
              focus
                simp (maxDischargeDepth := 9) only [↓gB, gV, gT, reduceIte, reduceCtorEq, Nat.reduceEqDiff, Nat.reduceAdd, Nat.reduceSub, Nat.reduceLeDiff, Nat.reduceLT, Int.reduceEq, Nat.reduceMul, h1, c0, f24, f1, f22, f23, c1, c2, f84, f1, f83, c3, hr, hr, f82, h2, e1, n2, c4]
                refine Xc_split _ _ _ _ _ (fun c5 => ?_) (fun c5 => ?_)
                rotate_left 1
                focus
                  simp (maxDischargeDepth := 9) only [↓gB, gV, gT, reduceIte, reduceCtorEq, Nat.reduceEqDiff, Nat.reduceAdd, Nat.reduceSub, Nat.reduceLeDiff, Nat.reduceLT, Int.reduceEq, Nat.reduceMul, h1, c0, f24, f1, f22, f23, c1, c2, f84, f1, f83, c3, hr, hr, f82, h2, e1, n2, c4, c5]
                  refine Xdraw_intro [0, 1, 2, 3, 4, 5, 6, 7, 8, 9, 10, 11, 12, 13] mixed (by kernel_rfl) (by decide +kernel) ?_
                  simp (maxDischargeDepth := 9) only [↓gB, gV, gT, reduceIte, reduceCtorEq, Nat.reduceEqDiff, Nat.reduceAdd, Nat.reduceSub, Nat.reduceLeDiff, Nat.reduceLT, Int.reduceEq, Nat.reduceMul, h1, c0, f24, f1, f22, f23, c1, c2, f84, f1, f83, c3, hr, hr, f82, h2, e1, n2, c4, c5]
                  obtain ⟨x2, a2, s2, m2, rfl, ⟨v2, rfl, w2⟩, e2⟩ := hw.at ((Int.toNat (Go.Proofs.YtjhfhacdjmokaaaGreatDoor.keyAt Go.Proofs.YtjhfhacdjmokaaaGreatDoor.SArc.Key ar x.From))) (by omega) 5 rfl
                  obtain ⟨aw2, cw2, rfl⟩ := RSl.val w2
                  simp (maxDischargeDepth := 9) only [↓gB, gV, gT, reduceIte, reduceCtorEq, Nat.reduceEqDiff, Nat.reduceAdd, Nat.reduceSub, Nat.reduceLeDiff, Nat.reduceLT, Int.reduceEq, Nat.reduceMul, h1, c0, f24, f1, f23, c1, c2, f84, f1, f83, c3, f82, h2, e1, n2, c4, c5, f22, hr, hr, e2]
                  refine vguard_intro (by omega) ?_
                  refine vguard_intro (by omega) ?_
                  obtain ⟨x3, s3, m3, ⟨v3, rfl, w3⟩, e3⟩ := hw.at' ((Go.Proofs.YtjhfhacdjmokaaaGreatDoor.keyAt Go.Proofs.YtjhfhacdjmokaaaGreatDoor.SArc.Key ar x.To).toNat) (by omega) 5 rfl
                  obtain ⟨aw3, cw3, rfl⟩ := RSl.val w3
                  simp (maxDischargeDepth := 9) only [↓gB, gV, gT, reduceIte, reduceCtorEq, Nat.reduceEqDiff, Nat.reduceAdd, Nat.reduceSub, Nat.reduceLeDiff, Nat.reduceLT, Int.reduceEq, Nat.reduceMul, h1, c0, f24, f1, f23, c1, c2, f84, f1, f83, c3, f82, h2, e1, n2, c4, c5, f22, hr, hr, e2, e3]
                  by_cases c6 : (x2.To : ByteArray) = x3.From
                  rotate_left 1
                  focus
                    simp (maxDischargeDepth := 9) only [↓gB, gV, gT, reduceIte, reduceCtorEq, Nat.reduceEqDiff, Nat.reduceAdd, Nat.reduceSub, Nat.reduceLeDiff, Nat.reduceLT, Int.reduceEq, Nat.reduceMul, h1, c0, f24, f1, f23, c1, c2, f84, f1, f83, c3, f82, h2, e1, n2, c4, c5, f22, hr, hr, e2, e3, c6]
                    refine Kup_val (by simp (maxDischargeDepth := 9) only [le_self, le_puts, le_put0, h1, hle, hle, h2]) ?_
                    focus (rw [chk_bad h hx (bb3 (by assumption) (by assumption) m2 m3 (by assumption)) (by decide)]; done)
                  rotate_right 1
                  simp (maxDischargeDepth := 9) only [↓gB, gV, gT, reduceIte, reduceCtorEq, Nat.reduceEqDiff, Nat.reduceAdd, Nat.reduceSub, Nat.reduceLeDiff, Nat.reduceLT, Int.reduceEq, Nat.reduceMul, h1, c0, f24, f1, f23, c1, c2, f84, f1, f83, c3, f82, h2, e1, n2, c4, c5, f22, hr, hr, e2, e3, c6]
                  refine Xdraw_intro [0, 1, 2, 3, 4, 5, 6, 7, 8, 9, 10, 11, 12, 13] mixed (by kernel_rfl) (by decide +kernel) ?_
                  simp (maxDischargeDepth := 9) only [↓gB, gV, gT, reduceIte, reduceCtorEq, Nat.reduceEqDiff, Nat.reduceAdd, Nat.reduceSub, Nat.reduceLeDiff, Nat.reduceLT, Int.reduceEq, Nat.reduceMul, h1, c0, f24, f1, f23, c1, c2, f84, f1, f83, c3, f82, h2, e1, n2, c4, c5, f22, hr, hr, e2, e3, c6]
                  by_cases c7 : (0 : Int) < ↑i
                  rotate_left 1
                  focus
                    simp (maxDischargeDepth := 9) only [↓gB, gV, gT, reduceIte, reduceCtorEq, Nat.reduceEqDiff, Nat.reduceAdd, Nat.reduceSub, Nat.reduceLeDiff, Nat.reduceLT, Int.reduceEq, Nat.reduceMul, h1, c0, f24, f1, f23, c1, c2, f84, f1, f83, c3, f82, h2, e1, n2, c4, c5, f22, hr, hr, e2, e3, c6, c7]
                    have q1 : Go.IntKind.i64.wrap (↑i + 1) = ↑i + 1 := wrap_id (by omega)
                    simp (maxDischargeDepth := 9) only [↓gB, gV, gT, reduceIte, reduceCtorEq, Nat.reduceEqDiff, Nat.reduceAdd, Nat.reduceSub, Nat.reduceLeDiff, Nat.reduceLT, Int.reduceEq, Nat.reduceMul, h1, c0, f24, f1, f23, c1, c2, f84, f1, f83, c3, f82, h2, e1, n2, c4, c5, f22, hr, hr, e2, e3, c6, c7, q1]
                    rw [N_lp]
                    refine ⟨_, ?_, _, sub_refl _, i + 1, rfl, ?_, ?_, ?_, ?_, ?_, ?_, ?_, by simp (maxDischargeDepth := 9) only [↓gB, gV, gT, reduceIte, reduceCtorEq, Nat.reduceEqDiff, Nat.reduceAdd, Nat.reduceSub, Nat.reduceLeDiff, Nat.reduceLT, Int.reduceEq, Nat.reduceMul, h1, c0, f24, f1, f23, c1, c2, f84, f1, f83, c3, f82, h2, e1, n2, c4, c5, f22, hr, hr, e2, e3, c6, c7, q1, nat_succ, and_self]⟩
                    · omega
                    · omega
                    · (exact chk_next h hx (bb0 (by assumption) (by assumption) m2 m3 (by assumption) (by first | exact pvp (by assumption) m4 (by simp [*]) | exact pvz (by assumption))); done)
                    · exact (le_put (by assumption) _) _ _ (by assumption)
                    · exact RSl.put _ (by assumption) (by assumption)
                    · exact RSl.put _ (by assumption) (by assumption)
                    · exact RSl.put _ (by assumption) (by assumption)
                    · (simp (maxDischargeDepth := 9) only [le_self, le_puts, le_put0, sub_self, sub_puts, sub_put0, h1, hle, hle, h2]; done)
                  rotate_right 1
                  simp (maxDischargeDepth := 9) only [↓gB, gV, gT, reduceIte, reduceCtorEq, Nat.reduceEqDiff, Nat.reduceAdd, Nat.reduceSub, Nat.reduceLeDiff, Nat.reduceLT, Int.reduceEq, Nat.reduceMul, h1, c0, f24, f1, f23, c1, c2, f84, f1, f83, c3, f82, h2, e1, n2, c4, c5, f22, hr, hr, e2, e3, c6, c7]
                  have q1 : Go.IntKind.i64.wrap (↑i - 1) = ↑i - 1 := wrap_id (by omega)
                  simp (maxDischargeDepth := 9) only [↓gB, gV, gT, reduceIte, reduceCtorEq, Nat.reduceEqDiff, Nat.reduceAdd, Nat.reduceSub, Nat.reduceLeDiff, Nat.reduceLT, Int.reduceEq, Nat.reduceMul, h1, c0, f24, f1, f23, c1, c2, f84, f1, f83, c3, f82, h2, e1, n2, c4, c5, f22, hr, hr, e2, e3, c6, c7, q1]
                  refine vguard_intro (by omega) ?_
                  obtain ⟨x4, s4, m4, rfl, e4⟩ := hu.at' (i - 1) (by omega) 2 rfl
                  simp (maxDischargeDepth := 9) only [↓gB, gV, gT, reduceIte, reduceCtorEq, Nat.reduceEqDiff, Nat.reduceAdd, Nat.reduceSub, Nat.reduceLeDiff, Nat.reduceLT, Int.reduceEq, Nat.reduceMul, h1, c0, f24, f1, f23, c1, c2, f84, f1, f83, c3, f82, h2, e1, n2, c4, c5, f22, hr, hr, e2, e3, c6, c7, q1, e4]
                  refine Ycp (p40) ?_
                  simp (maxDischargeDepth := 9) only [↓gB, gV, gT, reduceIte, reduceCtorEq, Nat.reduceEqDiff, Nat.reduceAdd, Nat.reduceSub, Nat.reduceLeDiff, Nat.reduceLT, Int.reduceEq, Nat.reduceMul, h1, c0, f24, f1, f23, c1, c2, f84, f1, f83, c3, f82, h2, e1, n2, c4, c5, f22, hr, hr, e2, e3, c6, c7, q1, e4]
                  refine Xc_split _ _ _ _ _ (fun c8 => ?_) (fun c8 => ?_)
                  rotate_left 1
                  focus
                    simp (maxDischargeDepth := 9) only [↓gB, gV, gT, reduceIte, reduceCtorEq, Nat.reduceEqDiff, Nat.reduceAdd, Nat.reduceSub, Nat.reduceLeDiff, Nat.reduceLT, Int.reduceEq, Nat.reduceMul, h1, c0, f24, f1, f23, c1, c2, f84, f1, f83, c3, f82, h2, e1, n2, c4, c5, f22, hr, hr, e2, e3, c6, c7, q1, e4, c8]
                    have q2 : Go.IntKind.i64.wrap (↑i + 1) = ↑i + 1 := wrap_id (by omega)
                    simp (maxDischargeDepth := 9) only [↓gB, gV, gT, reduceIte, reduceCtorEq, Nat.reduceEqDiff, Nat.reduceAdd, Nat.reduceSub, Nat.reduceLeDiff, Nat.reduceLT, Int.reduceEq, Nat.reduceMul, h1, c0, f24, f1, f23, c1, c2, f84, f1, f83, c3, f82, h2, e1, n2, c4, c5, f22, hr, hr, e2, e3, c6, c7, q1, e4, c8, q2]
                    rw [N_lp]
                    refine ⟨_, ?_, _, sub_refl _, i + 1, rfl, ?_, ?_, ?_, ?_, ?_, ?_, ?_, by simp (maxDischargeDepth := 9) only [↓gB, gV, gT, reduceIte, reduceCtorEq, Nat.reduceEqDiff, Nat.reduceAdd, Nat.reduceSub, Nat.reduceLeDiff, Nat.reduceLT, Int.reduceEq, Nat.reduceMul, h1, c0, f24, f1, f23, c1, c2, f84, f1, f83, c3, f82, h2, e1, n2, c4, c5, f22, hr, hr, e2, e3, c6, c7, q1, e4, c8, q2, nat_succ, and_self]⟩
                    · omega
                    · omega
                    · (exact chk_next h hx (bb0 (by assumption) (by assumption) m2 m3 (by assumption) (by first | exact pvp (by assumption) m4 (by simp [*]) | exact pvz (by assumption))); done)
                    · exact (le_put (by assumption) _) _ _ (by assumption)
                    · exact RSl.put _ (by assumption) (by assumption)
                    · exact RSl.put _ (by assumption) (by assumption)
                    · exact RSl.put _ (by assumption) (by assumption)
                    · (simp (maxDischargeDepth := 9) only [le_self, le_puts, le_put0, sub_self, sub_puts, sub_put0, h1, hle, hle, h2]; done)
                  rotate_right 1
                  simp (maxDischargeDepth := 9) only [↓gB, gV, gT, reduceIte, reduceCtorEq, Nat.reduceEqDiff, Nat.reduceAdd, Nat.reduceSub, Nat.reduceLeDiff, Nat.reduceLT, Int.reduceEq, Nat.reduceMul, h1, c0, f24, f1, f23, c1, c2, f84, f1, f83, c3, f82, h2, e1, n2, c4, c5, f22, hr, hr, e2, e3, c6, c7, q1, e4, c8]
                  refine Kup_val (by simp (maxDischargeDepth := 9) only [le_self, le_puts, le_put0, h1, hle, hle, h2]) ?_
                  focus (rw [chk_bad h hx (bb7 (by assumption) (by assumption) m2 m3 (by assumption) (pvp (by assumption) m4 (by simp [*]))) (by decide)]; done)
                rotate_right 1
                simp (maxDischargeDepth := 9) only [↓gB, gV, gT, reduceIte, reduceCtorEq, Nat.reduceEqDiff, Nat.reduceAdd, Nat.reduceSub, Nat.reduceLeDiff, Nat.reduceLT, Int.reduceEq, Nat.reduceMul, h1, c0, f24, f1, f22, f23, c1, c2, f84, f1, f83, c3, hr, hr, f82, h2, e1, n2, c4, c5]
                refine Kup_val (by simp (maxDischargeDepth := 9) only [le_self, le_puts, le_put0, h1, hle, hle, h2]) ?_
                focus (rw [chk_bad h hx (bb8 (by first | exact .inl (by assumption) | exact .inr (by assumption))) (by decide)]; done)
              rotate_right 1
              simp (maxDischargeDepth := 9) only [↓gB, gV, gT, reduceIte, reduceCtorEq, Nat.reduceEqDiff, Nat.reduceAdd, Nat.reduceSub, Nat.reduceLeDiff, Nat.reduceLT, Int.reduceEq, Nat.reduceMul, h1, c0, f24, f1, f22, f23, c1, c2, f84, f1, f83, c3, hr, hr, f82, h2, e1, n2, c4]
              refine Kup_val (by simp (maxDischargeDepth := 9) only [le_self, le_puts, le_put0, h1, hle, hle, h2]) ?_
              focus (rw [chk_bad h hx (bb8 (by first | exact .inl (by assumption) | exact .inr (by assumption))) (by decide)]; done)
          · simp (maxDischargeDepth := 9) only [↓gB, gV, gT, reduceIte, reduceCtorEq, Nat.reduceEqDiff, Nat.reduceAdd, Nat.reduceSub, Nat.reduceLeDiff, Nat.reduceLT, Int.reduceEq, Nat.reduceMul, h1, c0, hr, f24, f1, f22, f23, c1, c2, hr, f84, f1, f82, f83, c3]
            refine Kup_val (by simp (maxDischargeDepth := 9) only [le_self, le_puts, le_put0, h1, hle, hle]) ?_
            focus (rw [chk_end h c3]; done)
  · simp (maxDischargeDepth := 9) only [↓gB, gV, gT, reduceIte, reduceCtorEq, Nat.reduceEqDiff, Nat.reduceAdd, Nat.reduceSub, Nat.reduceLeDiff, Nat.reduceLT, Int.reduceEq, Nat.reduceMul, he]
    refine Yn2 fun r1 h1 => ?_
    simp (maxDischargeDepth := 9) only [↓gB, gV, gT, reduceIte, reduceCtorEq, Nat.reduceEqDiff, Nat.reduceAdd, Nat.reduceSub, Nat.reduceLeDiff, Nat.reduceLT, Int.reduceEq, Nat.reduceMul, h1, he]
    refine Ycp (p36 (by exact RSl.put _ (by assumption) (by assumption)) (by omega)) ?_
    simp (maxDischargeDepth := 9) only [↓gB, gV, gT, reduceIte, reduceCtorEq, Nat.reduceEqDiff, Nat.reduceAdd, Nat.reduceSub, Nat.reduceLeDiff, Nat.reduceLT, Int.reduceEq, Nat.reduceMul, h1, he]
    refine Kup_val (by simp (maxDischargeDepth := 9) only [le_self, le_puts, le_put0, h1]) ?_
    focus (rw [rE1 he]; done)
end Go.Proofs.YtjhfhacdjmokaaaGreatDoor
namespace Go.Proofs.YtjhfhacdjmokaaaGreatDoor
open Go Go.GL
attribute [local irreducible] Ycall GCalls
set_option maxRecDepth 10000
set_option maxHeartbeats 0
theorem mulB {a b A B : Int} (h : 0 ≤ a ∧ a ≤ A) (k : 0 ≤ b ∧ b ≤ B) : 0 ≤ a * b ∧ a * b ≤ A * B := ⟨Int.mul_nonneg h.1 k.1, Int.mul_le_mul h.2 k.2 k.1 (by omega)⟩
def FieldAt (G : GH) (ad : Addr) (i : Nat) (v : Value) : Prop := gcell G (ad.add i) = some v
theorem FieldAt.le {G G' : GH} {ad : Addr} {i : Nat} {v : Value} (h : FieldAt G ad i v) (hl : G.le G') : FieldAt G' ad i v := hl.cell' h
def lerp (k n : SKnot) (t : Int) : Int := (k.Time * (n.At - t) + n.Time * (t - k.At)) / (n.At - k.At)
def segIdx (l : List SKnot) (t : Int) : Nat := bsPos (fun k : SKnot => if k.At ≤ t then -1 else 0) l - 1
def timeF (l : List SKnot) (t : Int) : Int := match l[segIdx l (t % 86400000)]? with | some k => lerp k (afterK l (segIdx l (t % 86400000))) (t % 86400000) | none => 0
theorem kE_ok {l : List SKnot} (h : knotsE l = 0) : ¬ l.length = 0 ∧ l.length ≤ 48 ∧ chk knotBad none l = 0 ∧ rules l = true := by
  unfold knotsE at h
  split at h
  · cases h
  split at h
  · cases h
  split at h
  · split at h
    · rename_i h1 h2 h3 h4
      exact ⟨fun q => h1 (List.eq_nil_of_length_eq_zero q), by omega, h3, h4⟩
    · cases h
  · rename_i h1 h2 h3; exact absurd h h3
theorem kn_mono {l : List SKnot} (hc : chk knotBad none l = 0) : ∀ (d i : Nat) (x y : SKnot), l[i]? = some x → l[i + d + 1]? = some y → x.At < y.At := by
  intro d
  induction d with
  | zero =>
    intro i x y hx hy
    have h := (kb_ok (chk_prev hc hy)).2.2.2 x (by rw [Nat.add_zero, prevOf_s]; exact hx)
    exact h
  | succ d ih =>
    intro i x y hx hy
    have hz : ∃ z, l[i + d + 1]? = some z := by
      have : i + d + 1 < l.length := by
        by_cases q : i + (d + 1) + 1 < l.length
        · omega
        · rw [List.getElem?_eq_none (by omega)] at hy; cases hy
      exact ⟨_, List.getElem?_eq_getElem this⟩
    obtain ⟨z, hz⟩ := hz
    have h1 := ih i x z hx hz
    have h2 := (kb_ok (chk_prev hc hy)).2.2.2 z (by rw [show i + (d + 1) + 1 = (i + d + 1) + 1 from by omega, prevOf_s]; exact hz)
    omega
theorem kn_lt {l : List SKnot} (hc : chk knotBad none l = 0) {i j : Nat} {x y : SKnot} (hx : l[i]? = some x) (hy : l[j]? = some y) (hij : i < j) : x.At < y.At := by
  obtain ⟨d, rfl⟩ : ∃ d, j = i + d + 1 := ⟨j - i - 1, by omega⟩
  exact kn_mono hc d i x y hx hy
theorem kn_first {l : List SKnot} (hc : chk knotBad none l = 0) {x : SKnot} (hx : l[0]? = some x) : x.At = 0 := (kb_ok (chk_prev hc hx)).2.2.1 rfl
theorem seg_at {l : List SKnot} (hc : chk knotBad none l = 0) {t : Int} {i : Nat} {k : SKnot} (hk : l[i]? = some k) (h1 : k.At ≤ t) (h2 : t < (afterK l i).At) : segIdx l t = i := by
  have hi : i < l.length := by
    by_cases q : i < l.length
    · exact q
    · rw [List.getElem?_eq_none (by omega)] at hk; cases hk
  unfold segIdx
  rw [bsPos_at (i := i + 1) (by omega)]
  · rfl
  · intro j x hj hx
    have : x.At ≤ t := by
      by_cases e : j = i
      · subst e; rw [hk] at hx; cases hx; exact h1
      · have := kn_lt hc hx hk (by omega); omega
    rw [if_pos this]; decide
  · intro j x hj hx
    have hn : ∃ n, l[i + 1]? = some n := by
      have : i + 1 < l.length := by
        by_cases q : j < l.length
        · omega
        · rw [List.getElem?_eq_none (by omega)] at hx; cases hx
      exact ⟨_, List.getElem?_eq_getElem this⟩
    obtain ⟨n, hn⟩ := hn
    rw [after_s hn] at h2
    have : n.At ≤ x.At := by
      by_cases e : j = i + 1
      · subst e; rw [hn] at hx; cases hx; exact Int.le_refl _
      · have := kn_lt hc hn hx (by omega); omega
    rw [if_neg (by omega)]; decide
theorem time_at {l : List SKnot} (hc : chk knotBad none l = 0) {t : Int} {i : Nat} {k : SKnot} (hk : l[i]? = some k) (h1 : k.At ≤ t % 86400000) (h2 : t % 86400000 < (afterK l i).At) : timeF l t = lerp k (afterK l i) (t % 86400000) := by
  unfold timeF; rw [seg_at hc hk h1 h2, hk]
theorem time_one {l : List SKnot} (hc : chk knotBad none l = 0) (h : (l.length : Int) = 1) {k : SKnot} (hk : l[0]? = some k) (t : Int) : timeF l t = k.Time := by
  have h0 := kn_first hc hk
  have ha := after_e (i := 0) (by omega) hk
  have hm : 0 ≤ t % 86400000 ∧ t % 86400000 < 86400000 := by omega
  rw [time_at hc hk (by omega) (by rw [ha]; exact hm.2), ha]
  unfold lerp
  simp only [h0]
  rw [← Int.mul_add, show (86400000 - t % 86400000 + (t % 86400000 - 0)) = 86400000 - 0 by omega, Int.mul_ediv_cancel _ (by decide)]
theorem bsPos_spec {α : Type} (cf : α → Int) : ∀ (l : List α), bsPos cf l ≤ l.length ∧ (∀ (j : Nat) x, j < bsPos cf l → l[j]? = some x → cf x < 0) ∧ (∀ x, l[bsPos cf l]? = some x → ¬ cf x < 0)
  | [] => ⟨Nat.le_refl _, fun j x hj hx => by simp at hx, fun x hx => by simp at hx⟩
  | y :: l => by
    obtain ⟨h1, h2, h3⟩ := bsPos_spec cf l
    by_cases h : cf y < 0
    · have e : bsPos cf (y :: l) = bsPos cf l + 1 := by unfold bsPos; rw [List.takeWhile_cons_of_pos (by simpa using h)]; rfl
      rw [e]
      refine ⟨by simpa using h1, ?_, fun x hx => h3 x (by simpa using hx)⟩
      intro j x hj hx
      cases j with
      | zero => simp at hx; subst hx; exact h
      | succ j => exact h2 j x (by omega) (by simpa using hx)
    · have e : bsPos cf (y :: l) = 0 := by unfold bsPos; rw [List.takeWhile_cons_of_neg (by simpa using h)]; rfl
      rw [e]
      exact ⟨Nat.zero_le _, fun j x hj => by omega, fun x hx => by simp at hx; subst hx; exact h⟩
theorem seg_bs {l : List SKnot} (hne : ¬ l.length = 0) (hc : chk knotBad none l = 0) {t : Int} (h0 : 0 ≤ t) (h1 : t < 86400000) : (bsHas (fun k : SKnot => cmp3 k.At t) l = true → ∃ k, l[bsPos (fun k : SKnot => cmp3 k.At t) l]? = some k ∧ k.At ≤ t ∧ t < (afterK l (bsPos (fun k : SKnot => cmp3 k.At t) l)).At) ∧ (bsHas (fun k : SKnot => cmp3 k.At t) l = false → ∃ i, bsPos (fun k : SKnot => cmp3 k.At t) l = i + 1 ∧ ∃ k, l[i]? = some k ∧ k.At ≤ t ∧ t < (afterK l i).At) := by
  have c3 : ∀ a b : Int, (cmp3 a b < 0 ↔ a < b) ∧ (cmp3 a b = 0 ↔ a = b) := by intro a b; unfold cmp3; split <;> (try split) <;> constructor <;> constructor <;> omega
  have hp : ∃ p, p ≤ l.length ∧ bsPos (fun k : SKnot => cmp3 k.At t) l = p ∧ (∀ (j : Nat) x, j < p → l[j]? = some x → x.At < t) ∧ (∀ x, l[p]? = some x → t ≤ x.At) := by
    obtain ⟨q1, q2, q3⟩ := bsPos_spec (fun k : SKnot => cmp3 k.At t) l
    exact ⟨_, q1, rfl, fun j x hj hx => (c3 _ _).1.1 (q2 j x hj hx), fun x hx => by have := mt (c3 x.At t).1.2 (q3 x hx); omega⟩
  obtain ⟨p, hpl, hpe, hlt, hge⟩ := hp
  rw [hpe]
  obtain ⟨z, hz⟩ : ∃ z, l[0]? = some z := ⟨_, List.getElem?_eq_getElem (by omega)⟩
  have hz0 := kn_first hc hz
  constructor
  · intro hb
    unfold bsHas at hb
    rw [hpe] at hb
    cases hk : l[p]? with
    | none => rw [hk] at hb; cases hb
    | some k =>
      rw [hk] at hb
      have hkt : k.At = t := (c3 _ _).2.1 (by simpa using hb)
      refine ⟨k, rfl, by omega, ?_⟩
      by_cases q : p + 1 < l.length
      · obtain ⟨n, hn⟩ : ∃ n, l[p + 1]? = some n := ⟨_, List.getElem?_eq_getElem q⟩
        rw [after_s hn]
        have := kn_lt hc hk hn (by omega); omega
      · rw [after_e (by omega) hz]; exact h1
  · intro hb
    have hp0 : p ≠ 0 := by
      rintro rfl
      have h2 := hge z hz
      unfold bsHas at hb
      rw [hpe, hz] at hb
      have : z.At = t := by omega
      simp [(c3 z.At t).2.2 this] at hb
    obtain ⟨i, rfl⟩ : ∃ i, p = i + 1 := ⟨p - 1, by omega⟩
    obtain ⟨k, hk⟩ : ∃ k, l[i]? = some k := ⟨_, List.getElem?_eq_getElem (by omega)⟩
    have hkt := hlt i k (by omega) hk
    refine ⟨i, rfl, k, hk, by omega, ?_⟩
    by_cases q : i + 1 < l.length
    · obtain ⟨n, hn⟩ : ∃ n, l[i + 1]? = some n := ⟨_, List.getElem?_eq_getElem q⟩
      rw [after_s hn]
      have h3 := hge n hn
      unfold bsHas at hb
      rw [hpe, hn] at hb
      have : ¬ cmp3 n.At t = 0 := by simpa using hb
      have := mt (c3 n.At t).2.2 this
      omega
    · rw [after_e (by omega) hz]; exact h1
theorem cmp_mono {l : List SKnot} (hc : chk knotBad none l = 0) (t : Int) : ∀ (i j : Nat) x y, i < j → l[i]? = some x → l[j]? = some y → cmp3 y.At t < 0 → cmp3 x.At t < 0 := by
  intro i j x y hij hx hy h
  have := kn_lt hc hx hy hij
  unfold cmp3 at *
  split at h
  · rw [if_pos (by omega)]; decide
  · split at h <;> omega
structure Lb (k n : SKnot) (t : Int) : Prop where
  a : 0 ≤ k.Time * (n.At - t) ∧ k.Time * (n.At - t) ≤ 311040000000000
  b : 0 ≤ n.Time * (t - k.At) ∧ n.Time * (t - k.At) ≤ 311040000000000
  c : 0 < n.At - k.At ∧ n.At - k.At ≤ 86400000
theorem lb {l : List SKnot} (hc : chk knotBad none l = 0) {i : Nat} {k : SKnot} (hk : l[i]? = some k) {t : Int} (h1 : k.At ≤ t) (h2 : t < (afterK l i).At) : Lb k (afterK l i) t := by
  have hi : i < l.length := by
    by_cases q : i < l.length
    · exact q
    · rw [List.getElem?_eq_none (by omega)] at hk; cases hk
  have ha := after_b hc hi
  have hb := kn_b hc hk
  have m1 := mulB (A := 3600000) (B := 86400000) (show 0 ≤ k.Time ∧ k.Time ≤ 3600000 by omega) (show 0 ≤ (afterK l i).At - t ∧ (afterK l i).At - t ≤ 86400000 by omega)
  have m2 := mulB (A := 3600000) (B := 86400000) (show 0 ≤ (afterK l i).Time ∧ (afterK l i).Time ≤ 3600000 by omega) (show 0 ≤ t - k.At ∧ t - k.At ≤ 86400000 by omega)
  exact ⟨by omega, by omega, by omega⟩
theorem lerp_b {k n : SKnot} {t : Int} (h : Lb k n t) : 0 ≤ lerp k n t ∧ lerp k n t ≤ 622080000000000 := by
  obtain ⟨a, b, c⟩ := h
  unfold lerp
  refine ⟨Int.ediv_nonneg (by omega) (by omega), Int.le_trans (Int.ediv_le_self _ (by omega)) (by omega)⟩
theorem lerp_w {k n : SKnot} {t : Int} (h : Lb k n t) : IntKind.i64.wrap ((k.Time * (n.At - t) + n.Time * (t - k.At)) / (n.At - k.At)) = lerp k n t := by
  have := lerp_b h
  exact wrap_id (by unfold lerp at this; omega)
theorem time_b {l : List SKnot} (hc : knotsE l = 0) (t : Int) : 0 ≤ timeF l t ∧ timeF l t ≤ 622080000000000 := by
  obtain ⟨hne, hlen, hck, hrl⟩ := kE_ok hc
  have hs := seg_bs hne hck (t := t % 86400000) (by omega) (by omega)
  cases hb : bsHas (fun k : SKnot => cmp3 k.At (t % 86400000)) l
  · obtain ⟨i, hpe, k, hk, h1, h2⟩ := hs.2 hb
    rw [time_at hck hk h1 h2]; exact lerp_b (lb hck hk h1 h2)
  · obtain ⟨k, hk, h1, h2⟩ := hs.1 hb
    rw [time_at hck hk h1 h2]; exact lerp_b (lb hck hk h1 h2)
theorem p22 {G0 : GH} {ad : Addr} {v : Value} {l : List SKnot} {t : Int} (hv : RSl rKnot G0 v l) (hc : knotsE l = 0) (ht : 0 ≤ t) (ht2 : t ≤ 9000000000000000000) (hp : FieldAt G0 ad 4 v) : Pure Tryz.prog G0 22 [.pointer (some ad), V t] (V (timeF l t)) := by
  intro G hG; replace hp := hp.le hG; replace hv := hv.le hG
  clear hG G0
  refine enter Tryz.func22 72 #[.tmp 4] rfl Tryz.ntmps22 rfl (by decide +kernel) rfl ?_
  obtain ⟨a, c, rfl⟩ := hv.val
  have ek : gcell G (ad.add 4) = some (.slice a l.length c) := hp
  obtain ⟨hne, hlen, hck, hrl⟩ := kE_ok hc
  simp (maxDischargeDepth := 9) only [↓gB, gV, gT, reduceIte, reduceCtorEq, Nat.reduceEqDiff, Nat.reduceAdd, Nat.reduceSub, Nat.reduceLeDiff, Nat.reduceLT, Int.reduceEq, Nat.reduceMul, ek, hrl]
  refine Xc_split _ _ _ _ _ (fun c0 => ?_) (fun c0 => ?_)
  · simp (maxDischargeDepth := 9) only [↓gB, gV, gT, reduceIte, reduceCtorEq, Nat.reduceEqDiff, Nat.reduceAdd, Nat.reduceSub, Nat.reduceLeDiff, Nat.reduceLT, Int.reduceEq, Nat.reduceMul, ek, hrl, c0, Int.toNat_zero, Nat.zero_mul]
    obtain ⟨x1, a1, s1, m1, rfl, rfl, e1⟩ := hv.at (0) (by omega) 2 rfl
    simp (maxDischargeDepth := 9) only [↓gB, gV, gT, reduceIte, reduceCtorEq, Nat.reduceEqDiff, Nat.reduceAdd, Nat.reduceSub, Nat.reduceLeDiff, Nat.reduceLT, Int.reduceEq, Nat.reduceMul, hrl, c0, ek, e1, Int.toNat_zero, Nat.zero_mul]
    refine vguard_intro (by omega) ?_
    refine Kup_val (le_refl _) ?_
    focus (rw [time_one hck c0 m1]; done)
  · simp (maxDischargeDepth := 9) only [↓gB, gV, gT, reduceIte, reduceCtorEq, Nat.reduceEqDiff, Nat.reduceAdd, Nat.reduceSub, Nat.reduceLeDiff, Nat.reduceLT, Int.reduceEq, Nat.reduceMul, ek, hrl, c0]
    have q1 : Int.tmod (t) (86400000) = (t) % (86400000) := Int.tmod_eq_emod_of_nonneg (by omega)
    simp (maxDischargeDepth := 9) only [↓gB, gV, gT, reduceIte, reduceCtorEq, Nat.reduceEqDiff, Nat.reduceAdd, Nat.reduceSub, Nat.reduceLeDiff, Nat.reduceLT, Int.reduceEq, Nat.reduceMul, ek, hrl, c0, q1]
    refine Ycp (p45 (cf := fun k => cmp3 k.At (t % 86400000)) hv (of_eq_true en46) (by omega) (cmp_mono hck _) (fun G' _ x cs hx => by cases hx; exact p46)) ?_
    have hs := seg_bs hne hck (t := t % 86400000) (by omega) (by omega)
    cases hb : bsHas (fun k : SKnot => cmp3 k.At (t % 86400000)) l
    · obtain ⟨i, hpe, k, hk, h1, h2⟩ := hs.2 hb
      have hil : i < l.length := (List.getElem?_eq_some_iff.1 hk).1
      have hT := time_at hck hk h1 h2
      have hw := lerp_w (lb hck hk h1 h2)
      obtain ⟨b1, b2, b3⟩ := lb hck hk h1 h2
      have hkb := kn_b hck hk
      have hab := after_b hck hil
      have hq : ((i + 1 : Nat) : Int) - 1 = i := by omega
      simp (maxDischargeDepth := 9) only [↓gB, gV, gT, reduceIte, reduceCtorEq, Nat.reduceEqDiff, Nat.reduceAdd, Nat.reduceSub, Nat.reduceLeDiff, Nat.reduceLT, Int.reduceEq, Nat.reduceMul, ek, hrl, c0, q1, hb, hw, hpe, hq, hT]
      refine Xdraw_intro [0, 1, 2, 3, 4, 5, 6, 7, 8, 9, 10, 11, 12, 13, 14, 15, 16] mixed (by kernel_rfl) (by decide +kernel) ?_
      simp (maxDischargeDepth := 9) only [↓gB, gV, gT, reduceIte, reduceCtorEq, Nat.reduceEqDiff, Nat.reduceAdd, Nat.reduceSub, Nat.reduceLeDiff, Nat.reduceLT, Int.reduceEq, Nat.reduceMul, ek, hrl, c0, q1, hb, hw, hpe, hq, hT]
      have q2 : Go.IntKind.i64.wrap (↑i) = ↑i := wrap_id (by omega)
      simp (maxDischargeDepth := 9) only [↓gB, gV, gT, reduceIte, reduceCtorEq, Nat.reduceEqDiff, Nat.reduceAdd, Nat.reduceSub, Nat.reduceLeDiff, Nat.reduceLT, Int.reduceEq, Nat.reduceMul, ek, hrl, c0, q1, hb, hw, q2, hpe, hq, hT]
      obtain ⟨x1, a1, s1, m1, rfl, rfl, e1⟩ := hv.at (i) (by omega) 2 rfl
      simp (maxDischargeDepth := 9) only [↓gB, gV, gT, reduceIte, reduceCtorEq, Nat.reduceEqDiff, Nat.reduceAdd, Nat.reduceSub, Nat.reduceLeDiff, Nat.reduceLT, Int.reduceEq, Nat.reduceMul, hrl, c0, q1, hb, hw, q2, ek, e1, hpe, hq, hT]
      refine vguard_intro (by omega) ?_
      refine Ycp (p48 (by assumption) (by assumption) (by omega)) ?_
      simp (maxDischargeDepth := 9) only [↓gB, gV, gT, reduceIte, reduceCtorEq, Nat.reduceEqDiff, Nat.reduceAdd, Nat.reduceSub, Nat.reduceLeDiff, Nat.reduceLT, Int.reduceEq, Nat.reduceMul, hrl, c0, q1, hb, hw, q2, ek, e1, hpe, hq, hT]
      refine Yn3 fun r1 h1 k1 => ?_
      simp (maxDischargeDepth := 9) only [↓gB, gV, gT, reduceIte, reduceCtorEq, Nat.reduceEqDiff, Nat.reduceAdd, Nat.reduceSub, Nat.reduceLeDiff, Nat.reduceLT, Int.reduceEq, Nat.reduceMul, hrl, c0, q1, hb, hw, q2, ek, e1, h1, hpe, hq, hT]
      refine Yn3 fun r2 h2 k2 => ?_
      have n2 := h2
      simp only [put_none_eq, ne_eq] at n2
      have n20 := h2
      simp only [put_none_eq, ne_eq, @eq_comm Nat r2] at n20
      simp (maxDischargeDepth := 9) only [↓gB, gV, gT, reduceIte, reduceCtorEq, Nat.reduceEqDiff, Nat.reduceAdd, Nat.reduceSub, Nat.reduceLeDiff, Nat.reduceLT, Int.reduceEq, Nat.reduceMul, hrl, c0, q1, hb, hw, q2, ek, e1, h1, h2, n2, n20, hpe, hq, hT]
      obtain rfl : k = x1 := by rw [hk] at m1; cases m1; rfl
      have q3 : Go.IntKind.i64.wrap ((Go.Proofs.YtjhfhacdjmokaaaGreatDoor.afterK l i).At - k.At) = (Go.Proofs.YtjhfhacdjmokaaaGreatDoor.afterK l i).At - k.At := wrap_id (by omega)
      simp (maxDischargeDepth := 9) only [↓gB, gV, gT, reduceIte, reduceCtorEq, Nat.reduceEqDiff, Nat.reduceAdd, Nat.reduceSub, Nat.reduceLeDiff, Nat.reduceLT, Int.reduceEq, Nat.reduceMul, hrl, c0, q1, hb, hw, q2, ek, h1, h2, n2, n20, e1, q3, hpe, hq, hT]
      refine vguard_intro (by omega) ?_
      refine Kup_val (by simp (maxDischargeDepth := 9) only [le_self, le_puts, le_put0, h1, h2, n2, n20]) ?_
      have q4 : Go.IntKind.i64.wrap ((Go.Proofs.YtjhfhacdjmokaaaGreatDoor.afterK l i).At - t % 86400000) = (Go.Proofs.YtjhfhacdjmokaaaGreatDoor.afterK l i).At - t % 86400000 := wrap_id (by omega)
      simp (maxDischargeDepth := 9) only [↓gB, gV, gT, reduceIte, reduceCtorEq, Nat.reduceEqDiff, Nat.reduceAdd, Nat.reduceSub, Nat.reduceLeDiff, Nat.reduceLT, Int.reduceEq, Nat.reduceMul, hrl, c0, q1, hb, hw, q2, ek, h1, h2, n2, n20, e1, q3, q4, hpe, hq, hT]
      have q5 : Go.IntKind.i64.wrap (k.Time * ((Go.Proofs.YtjhfhacdjmokaaaGreatDoor.afterK l i).At - t % 86400000)) = k.Time * ((Go.Proofs.YtjhfhacdjmokaaaGreatDoor.afterK l i).At - t % 86400000) := wrap_id (by omega)
      simp (maxDischargeDepth := 9) only [↓gB, gV, gT, reduceIte, reduceCtorEq, Nat.reduceEqDiff, Nat.reduceAdd, Nat.reduceSub, Nat.reduceLeDiff, Nat.reduceLT, Int.reduceEq, Nat.reduceMul, hrl, c0, q1, hb, hw, q2, ek, h1, h2, n2, n20, e1, q3, q4, q5, hpe, hq, hT]
      have q6 : Go.IntKind.i64.wrap (t % 86400000 - k.At) = t % 86400000 - k.At := wrap_id (by omega)
      simp (maxDischargeDepth := 9) only [↓gB, gV, gT, reduceIte, reduceCtorEq, Nat.reduceEqDiff, Nat.reduceAdd, Nat.reduceSub, Nat.reduceLeDiff, Nat.reduceLT, Int.reduceEq, Nat.reduceMul, hrl, c0, q1, hb, hw, q2, ek, h1, h2, n2, n20, e1, q3, q4, q5, q6, hpe, hq, hT]
      have q7 : Go.IntKind.i64.wrap ((Go.Proofs.YtjhfhacdjmokaaaGreatDoor.afterK l i).Time * (t % 86400000 - k.At)) = (Go.Proofs.YtjhfhacdjmokaaaGreatDoor.afterK l i).Time * (t % 86400000 - k.At) := wrap_id (by omega)
      simp (maxDischargeDepth := 9) only [↓gB, gV, gT, reduceIte, reduceCtorEq, Nat.reduceEqDiff, Nat.reduceAdd, Nat.reduceSub, Nat.reduceLeDiff, Nat.reduceLT, Int.reduceEq, Nat.reduceMul, hrl, c0, q1, hb, hw, q2, ek, h1, h2, n2, n20, e1, q3, q4, q5, q6, q7, hpe, hq, hT]
      have q8 : Go.IntKind.i64.wrap (k.Time * ((Go.Proofs.YtjhfhacdjmokaaaGreatDoor.afterK l i).At - t % 86400000) + (Go.Proofs.YtjhfhacdjmokaaaGreatDoor.afterK l i).Time * (t % 86400000 - k.At)) = k.Time * ((Go.Proofs.YtjhfhacdjmokaaaGreatDoor.afterK l i).At - t % 86400000) + (Go.Proofs.YtjhfhacdjmokaaaGreatDoor.afterK l i).Time * (t % 86400000 - k.At) := wrap_id (by omega)
      simp (maxDischargeDepth := 9) only [↓gB, gV, gT, reduceIte, reduceCtorEq, Nat.reduceEqDiff, Nat.reduceAdd, Nat.reduceSub, Nat.reduceLeDiff, Nat.reduceLT, Int.reduceEq, Nat.reduceMul, hrl, c0, q1, hb, hw, q2, ek, h1, h2, n2, n20, e1, q3, q4, q5, q6, q7, q8, hpe, hq, hT]
      have q9 : Int.tdiv (k.Time * ((Go.Proofs.YtjhfhacdjmokaaaGreatDoor.afterK l i).At - t % 86400000) + (Go.Proofs.YtjhfhacdjmokaaaGreatDoor.afterK l i).Time * (t % 86400000 - k.At)) ((Go.Proofs.YtjhfhacdjmokaaaGreatDoor.afterK l i).At - k.At) = (k.Time * ((Go.Proofs.YtjhfhacdjmokaaaGreatDoor.afterK l i).At - t % 86400000) + (Go.Proofs.YtjhfhacdjmokaaaGreatDoor.afterK l i).Time * (t % 86400000 - k.At)) / ((Go.Proofs.YtjhfhacdjmokaaaGreatDoor.afterK l i).At - k.At) := Int.tdiv_eq_ediv_of_nonneg (by omega)
      simp (maxDischargeDepth := 9) only [↓gB, gV, gT, reduceIte, reduceCtorEq, Nat.reduceEqDiff, Nat.reduceAdd, Nat.reduceSub, Nat.reduceLeDiff, Nat.reduceLT, Int.reduceEq, Nat.reduceMul, hrl, c0, q1, hb, hw, q2, ek, h1, h2, n2, n20, e1, q3, q4, q5, q6, q7, q8, q9, hpe, hq, hT]
    · obtain ⟨k, hk, h1, h2⟩ := hs.1 hb
      have hT := time_at hck hk h1 h2
      have hw := lerp_w (lb hck hk h1 h2)
      obtain ⟨b1, b2, b3⟩ := lb hck hk h1 h2
      generalize bsPos (fun k : SKnot => cmp3 k.At (t % 86400000)) l = i at *
      have hil : i < l.length := (List.getElem?_eq_some_iff.1 hk).1
      have hkb := kn_b hck hk
      have hab := after_b hck hil
      simp (maxDischargeDepth := 9) only [↓gB, gV, gT, reduceIte, reduceCtorEq, Nat.reduceEqDiff, Nat.reduceAdd, Nat.reduceSub, Nat.reduceLeDiff, Nat.reduceLT, Int.reduceEq, Nat.reduceMul, ek, hrl, c0, q1, hb, hw, hT]
      refine Xdraw_intro [0, 1, 2, 3, 4, 5, 6, 7, 8, 9, 10, 11, 12, 13, 14, 15, 16] mixed (by kernel_rfl) (by decide +kernel) ?_
      simp (maxDischargeDepth := 9) only [↓gB, gV, gT, reduceIte, reduceCtorEq, Nat.reduceEqDiff, Nat.reduceAdd, Nat.reduceSub, Nat.reduceLeDiff, Nat.reduceLT, Int.reduceEq, Nat.reduceMul, ek, hrl, c0, q1, hb, hw, hT]
      obtain ⟨x1, a1, s1, m1, rfl, rfl, e1⟩ := hv.at (i) (by omega) 2 rfl
      simp (maxDischargeDepth := 9) only [↓gB, gV, gT, reduceIte, reduceCtorEq, Nat.reduceEqDiff, Nat.reduceAdd, Nat.reduceSub, Nat.reduceLeDiff, Nat.reduceLT, Int.reduceEq, Nat.reduceMul, hrl, c0, q1, hb, hw, ek, e1, hT]
      refine vguard_intro (by omega) ?_
      refine Ycp (p48 (by assumption) (by assumption) (by omega)) ?_
      simp (maxDischargeDepth := 9) only [↓gB, gV, gT, reduceIte, reduceCtorEq, Nat.reduceEqDiff, Nat.reduceAdd, Nat.reduceSub, Nat.reduceLeDiff, Nat.reduceLT, Int.reduceEq, Nat.reduceMul, hrl, c0, q1, hb, hw, ek, e1, hT]
      refine Yn3 fun r1 h1 k1 => ?_
      simp (maxDischargeDepth := 9) only [↓gB, gV, gT, reduceIte, reduceCtorEq, Nat.reduceEqDiff, Nat.reduceAdd, Nat.reduceSub, Nat.reduceLeDiff, Nat.reduceLT, Int.reduceEq, Nat.reduceMul, hrl, c0, q1, hb, hw, ek, e1, h1, hT]
      refine Yn3 fun r2 h2 k2 => ?_
      have n2 := h2
      simp only [put_none_eq, ne_eq] at n2
      have n20 := h2
      simp only [put_none_eq, ne_eq, @eq_comm Nat r2] at n20
      simp (maxDischargeDepth := 9) only [↓gB, gV, gT, reduceIte, reduceCtorEq, Nat.reduceEqDiff, Nat.reduceAdd, Nat.reduceSub, Nat.reduceLeDiff, Nat.reduceLT, Int.reduceEq, Nat.reduceMul, hrl, c0, q1, hb, hw, ek, e1, h1, h2, n2, n20, hT]
      obtain rfl : k = x1 := by rw [hk] at m1; cases m1; rfl
      have q2 : Go.IntKind.i64.wrap ((Go.Proofs.YtjhfhacdjmokaaaGreatDoor.afterK l i).At - k.At) = (Go.Proofs.YtjhfhacdjmokaaaGreatDoor.afterK l i).At - k.At := wrap_id (by omega)
      simp (maxDischargeDepth := 9) only [↓gB, gV, gT, reduceIte, reduceCtorEq, Nat.reduceEqDiff, Nat.reduceAdd, Nat.reduceSub, Nat.reduceLeDiff, Nat.reduceLT, Int.reduceEq, Nat.reduceMul, hrl, c0, q1, hb, hw, ek, h1, h2, n2, n20, e1, q2, hT]
      refine vguard_intro (by omega) ?_
      refine Kup_val (by simp (maxDischargeDepth := 9) only [le_self, le_puts, le_put0, h1, h2, n2, n20]) ?_
      have q3 : Go.IntKind.i64.wrap ((Go.Proofs.YtjhfhacdjmokaaaGreatDoor.afterK l i).At - t % 86400000) = (Go.Proofs.YtjhfhacdjmokaaaGreatDoor.afterK l i).At - t % 86400000 := wrap_id (by omega)
      simp (maxDischargeDepth := 9) only [↓gB, gV, gT, reduceIte, reduceCtorEq, Nat.reduceEqDiff, Nat.reduceAdd, Nat.reduceSub, Nat.reduceLeDiff, Nat.reduceLT, Int.reduceEq, Nat.reduceMul, hrl, c0, q1, hb, hw, ek, h1, h2, n2, n20, e1, q2, q3, hT]
      have q4 : Go.IntKind.i64.wrap (k.Time * ((Go.Proofs.YtjhfhacdjmokaaaGreatDoor.afterK l i).At - t % 86400000)) = k.Time * ((Go.Proofs.YtjhfhacdjmokaaaGreatDoor.afterK l i).At - t % 86400000) := wrap_id (by omega)
      simp (maxDischargeDepth := 9) only [↓gB, gV, gT, reduceIte, reduceCtorEq, Nat.reduceEqDiff, Nat.reduceAdd, Nat.reduceSub, Nat.reduceLeDiff, Nat.reduceLT, Int.reduceEq, Nat.reduceMul, hrl, c0, q1, hb, hw, ek, h1, h2, n2, n20, e1, q2, q3, q4, hT]
      have q5 : Go.IntKind.i64.wrap (t % 86400000 - k.At) = t % 86400000 - k.At := wrap_id (by omega)
      simp (maxDischargeDepth := 9) only [↓gB, gV, gT, reduceIte, reduceCtorEq, Nat.reduceEqDiff, Nat.reduceAdd, Nat.reduceSub, Nat.reduceLeDiff, Nat.reduceLT, Int.reduceEq, Nat.reduceMul, hrl, c0, q1, hb, hw, ek, h1, h2, n2, n20, e1, q2, q3, q4, q5, hT]
      have q6 : Go.IntKind.i64.wrap ((Go.Proofs.YtjhfhacdjmokaaaGreatDoor.afterK l i).Time * (t % 86400000 - k.At)) = (Go.Proofs.YtjhfhacdjmokaaaGreatDoor.afterK l i).Time * (t % 86400000 - k.At) := wrap_id (by omega)
      simp (maxDischargeDepth := 9) only [↓gB, gV, gT, reduceIte, reduceCtorEq, Nat.reduceEqDiff, Nat.reduceAdd, Nat.reduceSub, Nat.reduceLeDiff, Nat.reduceLT, Int.reduceEq, Nat.reduceMul, hrl, c0, q1, hb, hw, ek, h1, h2, n2, n20, e1, q2, q3, q4, q5, q6, hT]
      have q7 : Go.IntKind.i64.wrap (k.Time * ((Go.Proofs.YtjhfhacdjmokaaaGreatDoor.afterK l i).At - t % 86400000) + (Go.Proofs.YtjhfhacdjmokaaaGreatDoor.afterK l i).Time * (t % 86400000 - k.At)) = k.Time * ((Go.Proofs.YtjhfhacdjmokaaaGreatDoor.afterK l i).At - t % 86400000) + (Go.Proofs.YtjhfhacdjmokaaaGreatDoor.afterK l i).Time * (t % 86400000 - k.At) := wrap_id (by omega)
      simp (maxDischargeDepth := 9) only [↓gB, gV, gT, reduceIte, reduceCtorEq, Nat.reduceEqDiff, Nat.reduceAdd, Nat.reduceSub, Nat.reduceLeDiff, Nat.reduceLT, Int.reduceEq, Nat.reduceMul, hrl, c0, q1, hb, hw, ek, h1, h2, n2, n20, e1, q2, q3, q4, q5, q6, q7, hT]
      have q8 : Int.tdiv (k.Time * ((Go.Proofs.YtjhfhacdjmokaaaGreatDoor.afterK l i).At - t % 86400000) + (Go.Proofs.YtjhfhacdjmokaaaGreatDoor.afterK l i).Time * (t % 86400000 - k.At)) ((Go.Proofs.YtjhfhacdjmokaaaGreatDoor.afterK l i).At - k.At) = (k.Time * ((Go.Proofs.YtjhfhacdjmokaaaGreatDoor.afterK l i).At - t % 86400000) + (Go.Proofs.YtjhfhacdjmokaaaGreatDoor.afterK l i).Time * (t % 86400000 - k.At)) / ((Go.Proofs.YtjhfhacdjmokaaaGreatDoor.afterK l i).At - k.At) := Int.tdiv_eq_ediv_of_nonneg (by omega)
      simp (maxDischargeDepth := 9) only [↓gB, gV, gT, reduceIte, reduceCtorEq, Nat.reduceEqDiff, Nat.reduceAdd, Nat.reduceSub, Nat.reduceLeDiff, Nat.reduceLT, Int.reduceEq, Nat.reduceMul, hrl, c0, q1, hb, hw, ek, h1, h2, n2, n20, e1, q2, q3, q4, q5, q6, q7, q8, hT]
end Go.Proofs.YtjhfhacdjmokaaaGreatDoor
namespace Go.Proofs.YtjhfhacdjmokaaaGreatDoor
open Go Go.GL
attribute [local irreducible] Ycall GCalls
set_option maxRecDepth 10000
set_option maxHeartbeats 0
theorem g51 {G0 : GH} {v : Value} {l : List SKnot} (hv : RSl rKnot G0 v l) (hn : l.length ≤ 1000000000) : Gives Tryz.prog G0 51 [v] (fun u G' => RSl rKnot G' u l) := by
  intro G hG; replace hv := hv.le hG
  clear hG G0
  refine enter Tryz.func51 8 #[.tmp 2] rfl Tryz.ntmps51 rfl (by decide +kernel) rfl ?_
  obtain ⟨a, c, rfl⟩ := hv.val
  simp (maxDischargeDepth := 9) only [↓gB, gV, gT, reduceIte, reduceCtorEq, Nat.reduceEqDiff, Nat.reduceAdd, Nat.reduceSub, Nat.reduceLeDiff, Nat.reduceLT, Int.reduceEq, Nat.reduceMul]
  cases a with
  | none =>
    simp (maxDischargeDepth := 9) only [↓gB, gV, gT, reduceIte, reduceCtorEq, Nat.reduceEqDiff, Nat.reduceAdd, Nat.reduceSub, Nat.reduceLeDiff, Nat.reduceLT, Int.reduceEq, Nat.reduceMul, Option.isNone_none]
    have : l = [] := by
      cases l with
      | nil => rfl
      | cons x l => obtain ⟨ad, _, e, _⟩ := hv.get (i := 0) (x := x) rfl; cases e
    subst this
    exact Kup_gives (sub_refl _) (le_refl _) (RSl.nil _ _)
  | some ad =>
    simp (maxDischargeDepth := 9) only [↓gB, gV, gT, reduceIte, reduceCtorEq, Nat.reduceEqDiff, Nat.reduceAdd, Nat.reduceSub, Nat.reduceLeDiff, Nat.reduceLT, Int.reduceEq, Nat.reduceMul, Option.isNone_some]
    refine Yn1 fun r1 h1 => ?_
    simp (maxDischargeDepth := 9) only [↓gB, gV, gT, reduceIte, reduceCtorEq, Nat.reduceEqDiff, Nat.reduceAdd, Nat.reduceSub, Nat.reduceLeDiff, Nat.reduceLT, Int.reduceEq, Nat.reduceMul, h1, Option.isNone_some]
    obtain ⟨ds, h1, h2⟩ := (hv.le (le_put h1 (.cells #[] 70 (0, 0), true))).read
    refine Row.append sl54 (ρ := rKnot) (G0 := G) (xs := []) (ys := l) ⟨[], ⟨rfl, .inr ⟨r1, 0, #[], rfl, by assumption, put_self _ _ _, rfl, Nat.le_refl _, rfl⟩⟩, Cellsof.nil _ _⟩ h1 h2 (by simp; omega) (le_put (by assumption) _) ?_
    intro v' G' hrow hk hle
    simp (maxDischargeDepth := 9) only [↓gB, gV, gT, reduceIte, reduceCtorEq, Nat.reduceEqDiff, Nat.reduceAdd, Nat.reduceSub, Nat.reduceLeDiff, Nat.reduceLT, Int.reduceEq, Nat.reduceMul, h1, hk]
    obtain ⟨G2, hs, hl, hr⟩ := hrow.fin hle
    exact Kup_gives hs hl (by simpa using hr)
theorem g51b {G0 : GH} {v : Value} {l : List SKnot} (hv : RSl rKnot G0 v l) (hn : l.length ≤ 1000000000) : Gives Tryz.prog G0 51 [v] (fun u G' => Row rKnot 70 G0 G' u l) := by
  intro G hG; replace hv := hv.le hG
  refine enter Tryz.func51 8 #[.tmp 2] rfl Tryz.ntmps51 rfl (by decide +kernel) rfl ?_
  obtain ⟨a, c, rfl⟩ := hv.val
  simp (maxDischargeDepth := 9) only [↓gB, gV, gT, reduceIte, reduceCtorEq, Nat.reduceEqDiff, Nat.reduceAdd, Nat.reduceSub, Nat.reduceLeDiff, Nat.reduceLT, Int.reduceEq, Nat.reduceMul]
  cases a with
  | none =>
    simp (maxDischargeDepth := 9) only [↓gB, gV, gT, reduceIte, reduceCtorEq, Nat.reduceEqDiff, Nat.reduceAdd, Nat.reduceSub, Nat.reduceLeDiff, Nat.reduceLT, Int.reduceEq, Nat.reduceMul, Option.isNone_none]
    have : l = [] := by
      cases l with
      | nil => rfl
      | cons x l => obtain ⟨ad, _, e, _⟩ := hv.get (i := 0) (x := x) rfl; cases e
    subst this
    exact Kup_gives (sub_refl _) (le_refl _) Row.nil
  | some ad =>
    simp (maxDischargeDepth := 9) only [↓gB, gV, gT, reduceIte, reduceCtorEq, Nat.reduceEqDiff, Nat.reduceAdd, Nat.reduceSub, Nat.reduceLeDiff, Nat.reduceLT, Int.reduceEq, Nat.reduceMul, Option.isNone_some]
    refine Yn1 fun r1 h1 => ?_
    simp (maxDischargeDepth := 9) only [↓gB, gV, gT, reduceIte, reduceCtorEq, Nat.reduceEqDiff, Nat.reduceAdd, Nat.reduceSub, Nat.reduceLeDiff, Nat.reduceLT, Int.reduceEq, Nat.reduceMul, h1, Option.isNone_some]
    obtain ⟨ds, h1, h2⟩ := (hv.le (le_put h1 (.cells #[] 70 (0, 0), true))).read
    refine Row.append sl54 (ρ := rKnot) (G0 := G) (xs := []) (ys := l) ⟨[], ⟨rfl, .inr ⟨r1, 0, #[], rfl, by assumption, put_self _ _ _, rfl, Nat.le_refl _, rfl⟩⟩, Cellsof.nil _ _⟩ h1 h2 (by simp; omega) (le_put (by assumption) _) ?_
    intro v' G' hrow hk hle
    simp (maxDischargeDepth := 9) only [↓gB, gV, gT, reduceIte, reduceCtorEq, Nat.reduceEqDiff, Nat.reduceAdd, Nat.reduceSub, Nat.reduceLeDiff, Nat.reduceLT, Int.reduceEq, Nat.reduceMul, h1, hk]
    obtain ⟨cs, q1, q2⟩ := hrow
    exact Kup_gives (sub_refl _) hle ⟨cs, by simpa using q1.base hG, by simpa using q2⟩
theorem floor_lerp {k n : SKnot} {t : Int} (h : Lb k n t) : k.Time + ((n.Time - k.Time) * (t - k.At)) / (n.At - k.At) = lerp k n t := by
  obtain ⟨a, b, c⟩ := h
  unfold lerp
  have e : k.Time * (n.At - t) + n.Time * (t - k.At) = (n.Time - k.Time) * (t - k.At) + k.Time * (n.At - k.At) := by
    have : n.At - t = (n.At - k.At) - (t - k.At) := by omega
    rw [this, Int.mul_sub, Int.sub_mul]; omega
  rw [e, Int.add_mul_ediv_right _ _ (by omega)]; omega
theorem fdiv_ed (x s : Int) (hs : 0 < s) (h1 : -4611686018427387904 ≤ x) (h2 : x ≤ 4611686018427387904) : fdiv x s = x / s := by
  have hb1 : x.tdiv s ≤ 4611686018427387904 ∧ -4611686018427387904 ≤ x.tdiv s := by
    have := Int.natAbs_tdiv_le_natAbs x s
    omega
  have hw : IntKind.i64.wrap (x.tdiv s) = x.tdiv s := wrap_id (by omega)
  have hw2 : IntKind.i64.wrap (x.tdiv s - 1) = x.tdiv s - 1 := wrap_id (by omega)
  unfold fdiv
  rw [hw, hw2]
  have hm := Int.tmod_add_mul_tdiv x s
  by_cases hx : 0 ≤ x
  · have h3 : x.tdiv s = x / s := Int.tdiv_eq_ediv_of_nonneg hx
    have h4 : 0 ≤ x.tmod s := Int.tmod_nonneg s hx
    rw [if_neg (by omega), h3]
  · have h5 : -s < x.tmod s := Int.lt_tmod_of_pos x hs
    have h6 : x.tmod s ≤ 0 := by
      have := Int.tmod_nonneg s (show 0 ≤ -x by omega)
      rw [Int.neg_tmod] at this; omega
    by_cases h7 : x.tmod s < 0
    · rw [if_pos h7]
      symm
      rw [Int.ediv_eq_iff_of_pos hs]
      rw [Int.sub_mul, Int.mul_comm (x.tdiv s) s]
      omega
    · have h8 : x.tmod s = 0 := by omega
      rw [if_neg h7]
      symm
      rw [Int.ediv_eq_iff_of_pos hs, Int.mul_comm (x.tdiv s) s]
      omega
end Go.Proofs.YtjhfhacdjmokaaaGreatDoor
namespace Go.Proofs.YtjhfhacdjmokaaaGreatDoor
open Go Go.GL
attribute [local irreducible] Ycall GCalls
set_option maxRecDepth 10000
set_option maxHeartbeats 0
theorem ext_at {l : List SKnot} {i : Nat} {z : SKnot} (hz : l[0]? = some z) (h : i < l.length) : (l ++ [⟨86400000, z.Time⟩])[i + 1]? = some (afterK l i) := by
  by_cases q : i + 1 < l.length
  · obtain ⟨n, hn⟩ : ∃ n, l[i + 1]? = some n := ⟨_, List.getElem?_eq_getElem q⟩
    rw [List.getElem?_append_left q, hn, after_s hn]
  · have e : i + 1 = l.length := by omega
    rw [List.getElem?_append_right (by omega), e, Nat.sub_self, after_e (by omega) hz]; rfl
theorem p35 {G0 : GH} {x : SArc} {v : Value} {t : Int} (hv : RSl rKnot G0 v x.Knots) (hc : knotsE x.Knots = 0) (ht : 0 ≤ t) (ht2 : t ≤ 9000000000000000000) : Pure Tryz.prog G0 35 [.agg #[.string x.Key, .string x.From, .string x.To, V x.Long, v], V t] (V (timeF x.Knots t)) := by
  intro G hG; replace hv := hv.le hG
  clear hG G0
  refine enter Tryz.func35 62 #[.tmp 4] rfl Tryz.ntmps35 rfl (by decide +kernel) rfl ?_
  obtain ⟨a, c, rfl⟩ := hv.val
  obtain ⟨hne, hlen, hck, hrl⟩ := kE_ok hc
  obtain ⟨z, hz⟩ : ∃ z, x.Knots[0]? = some z := ⟨_, List.getElem?_eq_getElem (by omega)⟩
  simp (maxDischargeDepth := 9) only [↓gB, gV, gT, reduceIte, reduceCtorEq, Nat.reduceEqDiff, Nat.reduceAdd, Nat.reduceSub, Nat.reduceLeDiff, Nat.reduceLT, Int.reduceEq, Nat.reduceMul, hrl, Int.toNat_zero, Nat.zero_mul]
  refine Yn2 fun r1 h1 => ?_
  simp (maxDischargeDepth := 9) only [↓gB, gV, gT, reduceIte, reduceCtorEq, Nat.reduceEqDiff, Nat.reduceAdd, Nat.reduceSub, Nat.reduceLeDiff, Nat.reduceLT, Int.reduceEq, Nat.reduceMul, hrl, h1, Int.toNat_zero, Nat.zero_mul]
  refine Xdraw_intro [0, 1, 3, 4, 5, 6, 7, 8, 2, 9, 10, 11] mixed (by kernel_rfl) (by decide +kernel) ?_
  simp (maxDischargeDepth := 9) only [↓gB, gV, gT, reduceIte, reduceCtorEq, Nat.reduceEqDiff, Nat.reduceAdd, Nat.reduceSub, Nat.reduceLeDiff, Nat.reduceLT, Int.reduceEq, Nat.reduceMul, hrl, h1, Int.toNat_zero, Nat.zero_mul]
  obtain ⟨x1, a1, s1, m1, rfl, rfl, e1⟩ := hv.at (0) (by omega) 2 rfl
  simp (maxDischargeDepth := 9) only [↓gB, gV, gT, reduceIte, reduceCtorEq, Nat.reduceEqDiff, Nat.reduceAdd, Nat.reduceSub, Nat.reduceLeDiff, Nat.reduceLT, Int.reduceEq, Nat.reduceMul, hrl, h1, e1, Int.toNat_zero, Nat.zero_mul]
  refine vguard_intro (by omega) ?_
  obtain rfl : z = x1 := by have m1' : x.Knots[0]? = some x1 := m1; rw [hz] at m1'; cases m1'; rfl
  have y1 := put_self G r1 (.cells [.string x.Key, .string x.From, .string x.To, V x.Long, .slice (some a1) x.Knots.length c].toArray 56 (0, 0), true)
  have l1 := le_put h1 (.cells [.string x.Key, .string x.From, .string x.To, V x.Long, .slice (some a1) x.Knots.length c].toArray 56 (0, 0), true)
  refine Ycg (g51b (hv.le l1) (by omega)) (fun _ _ _ h hu => Row.le hu h) ?_
  intro u G2 l2 hrow
  replace hv := hv.le (l1.trans l2)
  replace y1 := l2 _ _ y1
  have hle := l1.trans l2
  simp (maxDischargeDepth := 9) only [↓gB, gV, gT, reduceIte, reduceCtorEq, Nat.reduceEqDiff, Nat.reduceAdd, Nat.reduceSub, Nat.reduceLeDiff, Nat.reduceLT, Int.reduceEq, Nat.reduceMul, hrl, h1, e1, y1, Int.toNat_zero, Nat.zero_mul]
  refine Yn3 fun r2 h2 k2 => ?_
  have n2 := h2
  simp only [put_none_eq, ne_eq] at n2
  have n20 := h2
  simp only [put_none_eq, ne_eq, @eq_comm Nat r2] at n20
  simp (maxDischargeDepth := 9) only [↓gB, gV, gT, reduceIte, reduceCtorEq, Nat.reduceEqDiff, Nat.reduceAdd, Nat.reduceSub, Nat.reduceLeDiff, Nat.reduceLT, Int.reduceEq, Nat.reduceMul, hrl, h1, e1, y1, h2, n2, n20, Int.toNat_zero, Nat.zero_mul]
  refine Row.app1 sl54 (Row.le hrow (le_put3 k2)) (by exact put_self _ _ _) (y := ⟨86400000, z.Time⟩) rfl (by omega) (l2.trans (le_put3 k2)) fun v3 G3 w3 k3 l3 => ?_
  have hl3 : G.le G3 := l1.trans l3
  obtain ⟨a3, c3, rfl⟩ := w3.val
  have hlen3 : (x.Knots ++ [(⟨86400000, z.Time⟩ : SKnot)]).length = x.Knots.length + 1 := by simp
  have hm : 0 ≤ t % 86400000 ∧ t % 86400000 < 86400000 := by omega
  simp (maxDischargeDepth := 9) only [↓gB, gV, gT, reduceIte, reduceCtorEq, Nat.reduceEqDiff, Nat.reduceAdd, Nat.reduceSub, Nat.reduceLeDiff, Nat.reduceLT, Int.reduceEq, Nat.reduceMul, hrl, h1, e1, y1, h2, n2, n20, k3, hlen3]
  have q1 : Int.tmod (t) (86400000) = (t) % (86400000) := Int.tmod_eq_emod_of_nonneg (by omega)
  simp (maxDischargeDepth := 9) only [↓gB, gV, gT, reduceIte, reduceCtorEq, Nat.reduceEqDiff, Nat.reduceAdd, Nat.reduceSub, Nat.reduceLeDiff, Nat.reduceLT, Int.reduceEq, Nat.reduceMul, hrl, h1, e1, y1, h2, n2, n20, k3, q1, hlen3]
  have q2 : Go.IntKind.i64.wrap (↑(x.Knots.length + 1) - 1) = ↑(x.Knots.length + 1) - 1 := wrap_id (by omega)
  simp (maxDischargeDepth := 9) only [↓gB, gV, gT, reduceIte, reduceCtorEq, Nat.reduceEqDiff, Nat.reduceAdd, Nat.reduceSub, Nat.reduceLeDiff, Nat.reduceLT, Int.reduceEq, Nat.reduceMul, hrl, h1, e1, y1, h2, n2, n20, k3, q1, q2, hlen3]
  rw [hlen3] at w3
  generalize G.put r1 (.cells [.string x.Key, .string x.From, .string x.To, V x.Long, .slice (some a1) x.Knots.length c].toArray 56 (0, 0), true) = Gb at *
  focus
    refine Xloop_intro _ _ _ _ _ (fun k f G' => ∃ (i : Nat), k = x.Knots.length - i ∧ (i ≤ x.Knots.length) ∧ (∀ j : Nat, j < i → (afterK x.Knots j).At ≤ t % 86400000) ∧ (Row rKnot 70 Gb G' (.slice a3 (x.Knots.length + 1) c3) (x.Knots ++ [⟨86400000, z.Time⟩])) ∧ (G.le G') ∧ f 26 = V i ∧ f 5 = Go.Value.int Go.IntKind.i64 (t % 86400000) ∧ f 6 = Go.Value.slice a3 (x.Knots.length + 1) c3 ∧ f 25 = Go.Value.int Go.IntKind.i64 (↑(x.Knots.length + 1) - 1)) _ ⟨0, rfl, ?_, ?_, ?_, ?_, by simp (maxDischargeDepth := 9) only [↓gB, gV, gT, reduceIte, reduceCtorEq, Nat.reduceEqDiff, Nat.reduceAdd, Nat.reduceSub, Nat.reduceLeDiff, Nat.reduceLT, Int.reduceEq, Nat.reduceMul, hrl, h1, e1, y1, n2, n20, k3, q1, q2, h2, and_self]⟩ ?_
    · omega
    · omega
    · assumption
    · assumption
    rintro k f G' ⟨i, rfl, hi, h, w3, hl3, f26, f5, f6, f25⟩
  simp (maxDischargeDepth := 9) only [↓gB, gV, gT, reduceIte, reduceCtorEq, Nat.reduceEqDiff, Nat.reduceAdd, Nat.reduceSub, Nat.reduceLeDiff, Nat.reduceLT, Int.reduceEq, Nat.reduceMul, hrl, h1, e1, y1, n2, n20, k3, q1, q2, h2, f26, f5, f6, f25, hlen3]
  refine Xc_split _ _ _ _ _ (fun c1 => ?_) (fun c1 => ?_)
  · obtain ⟨k, hk⟩ : ∃ k, x.Knots[i]? = some k := ⟨_, List.getElem?_eq_getElem (by omega)⟩
    have hki : (x.Knots ++ [(⟨86400000, z.Time⟩ : SKnot)])[i]? = some k := by rw [List.getElem?_append_left (by omega)]; exact hk
    have hke := ext_at hz (i := i) (by omega)
    have hka : k.At ≤ t % 86400000 := by
      cases i with
      | zero => rw [kn_first hck hk]; omega
      | succ i => have := h i (by omega); rwa [after_s hk] at this
    have hkb := kn_b hck hk
    have hab := after_b hck (i := i) (by omega)
    simp (maxDischargeDepth := 9) only [↓gB, gV, gT, reduceIte, reduceCtorEq, Nat.reduceEqDiff, Nat.reduceAdd, Nat.reduceSub, Nat.reduceLeDiff, Nat.reduceLT, Int.reduceEq, Nat.reduceMul, hrl, h1, e1, y1, n2, n20, k3, q1, q2, h2, f26, f5, f6, f25, c1, hlen3]
    refine Xsimple_intro [0, 1, 2, 3, 4, 5, 6, 7, 8] [9, 10, 11, 12] mixed (by decide +kernel) ?_
    simp (maxDischargeDepth := 9) only [↓gB, gV, gT, reduceIte, reduceCtorEq, Nat.reduceEqDiff, Nat.reduceAdd, Nat.reduceSub, Nat.reduceLeDiff, Nat.reduceLT, Int.reduceEq, Nat.reduceMul, hrl, h1, e1, y1, n2, n20, k3, q1, q2, h2, f26, f5, f6, f25, c1, hlen3]
    obtain ⟨x2, a2, s2, m2, rfl, rfl, e2⟩ := w3.at (i) (by omega) 2 rfl
    simp (maxDischargeDepth := 9) only [↓gB, gV, gT, reduceIte, reduceCtorEq, Nat.reduceEqDiff, Nat.reduceAdd, Nat.reduceSub, Nat.reduceLeDiff, Nat.reduceLT, Int.reduceEq, Nat.reduceMul, hrl, h1, e1, y1, n2, n20, k3, q1, q2, h2, f26, f5, f25, c1, f6, e2, hlen3]
    refine vguard_intro (by omega) ?_
    have q3 : Go.IntKind.i64.wrap (↑i + 1) = ↑i + 1 := wrap_id (by omega)
    simp (maxDischargeDepth := 9) only [↓gB, gV, gT, reduceIte, reduceCtorEq, Nat.reduceEqDiff, Nat.reduceAdd, Nat.reduceSub, Nat.reduceLeDiff, Nat.reduceLT, Int.reduceEq, Nat.reduceMul, hrl, h1, e1, y1, n2, n20, k3, q1, q2, h2, f26, f5, f25, c1, f6, e2, q3, hlen3]
    refine vguard_intro (by omega) ?_
    obtain ⟨x3, s3, m3, rfl, e3⟩ := w3.at' (i + 1) (by omega) 2 rfl
    simp (maxDischargeDepth := 9) only [↓gB, gV, gT, reduceIte, reduceCtorEq, Nat.reduceEqDiff, Nat.reduceAdd, Nat.reduceSub, Nat.reduceLeDiff, Nat.reduceLT, Int.reduceEq, Nat.reduceMul, hrl, h1, e1, y1, n2, n20, k3, q1, q2, h2, f26, f5, f25, c1, f6, e2, q3, e3, hlen3]
    refine Yn2 fun r3 h3 => ?_
    simp (maxDischargeDepth := 9) only [↓gB, gV, gT, reduceIte, reduceCtorEq, Nat.reduceEqDiff, Nat.reduceAdd, Nat.reduceSub, Nat.reduceLeDiff, Nat.reduceLT, Int.reduceEq, Nat.reduceMul, hrl, h1, e1, y1, n2, n20, k3, q1, q2, h2, f26, f5, f25, c1, f6, e2, q3, e3, h3, hlen3]
    refine Yn2 fun r4 h4 => ?_
    have n4 := h4
    simp only [put_none_eq, ne_eq] at n4
    simp (maxDischargeDepth := 9) only [↓gB, gV, gT, reduceIte, reduceCtorEq, Nat.reduceEqDiff, Nat.reduceAdd, Nat.reduceSub, Nat.reduceLeDiff, Nat.reduceLT, Int.reduceEq, Nat.reduceMul, hrl, h1, e1, y1, n2, n20, k3, q1, q2, h2, f26, f5, f25, c1, f6, e2, q3, e3, h3, h4, n4, hlen3]
    obtain rfl : k = x2 := by rw [hki] at m2; cases m2; rfl
    obtain rfl : x3 = afterK x.Knots i := by rw [hke] at m3; cases m3; rfl
    have n34 : r3 ≠ r4 := fun q => n4.1 q.symm
    by_cases c2 : t % 86400000 < (afterK x.Knots i).At
    · have hT := time_at hck hk hka c2
      have hL := lb hck hk hka c2
      have hfl := floor_lerp hL
      have hlb := lerp_b hL
      obtain ⟨b1, b2, b3⟩ := hL
      have b4 := mulB (A := 3600000) (B := 86400000) (show 0 ≤ k.Time ∧ k.Time ≤ 3600000 by omega) (show 0 ≤ t % 86400000 - k.At ∧ t % 86400000 - k.At ≤ 86400000 by omega)
      have b5 : ((afterK x.Knots i).Time - k.Time) * (t % 86400000 - k.At) = (afterK x.Knots i).Time * (t % 86400000 - k.At) - k.Time * (t % 86400000 - k.At) := Int.sub_mul _ _ _
      have b6 : -311040000000000 ≤ ((afterK x.Knots i).Time - k.Time) * (t % 86400000 - k.At) ∧ ((afterK x.Knots i).Time - k.Time) * (t % 86400000 - k.At) ≤ 311040000000000 := by omega
      have hF : fdiv (((afterK x.Knots i).Time - k.Time) * (t % 86400000 - k.At)) ((afterK x.Knots i).At - k.At) = lerp k (afterK x.Knots i) (t % 86400000) - k.Time := by
        rw [fdiv_ed _ _ (by omega) (by omega) (by omega)]; omega
      simp (maxDischargeDepth := 9) only [↓gB, gV, gT, reduceIte, reduceCtorEq, Nat.reduceEqDiff, Nat.reduceAdd, Nat.reduceSub, Nat.reduceLeDiff, Nat.reduceLT, Int.reduceEq, Nat.reduceMul, hrl, h1, e1, y1, n2, n20, k3, q1, q2, h2, f26, f5, f25, c1, f6, q3, h3, h4, n4, e2, e3, n34, c2, hlen3, hF, hT]
      refine Xdraw_intro [0, 1, 2, 3, 4, 5, 6, 7, 8, 9, 10, 11, 12, 13, 14, 15, 16, 17, 18, 19] mixed (by kernel_rfl) (by decide +kernel) ?_
      simp (maxDischargeDepth := 9) only [↓gB, gV, gT, reduceIte, reduceCtorEq, Nat.reduceEqDiff, Nat.reduceAdd, Nat.reduceSub, Nat.reduceLeDiff, Nat.reduceLT, Int.reduceEq, Nat.reduceMul, hrl, h1, e1, y1, n2, n20, k3, q1, q2, h2, f26, f5, f25, c1, f6, q3, h3, h4, n4, e2, e3, n34, c2, hlen3, hF, hT]
      have q4 : Go.IntKind.i64.wrap ((Go.Proofs.YtjhfhacdjmokaaaGreatDoor.afterK x.Knots i).Time - k.Time) = (Go.Proofs.YtjhfhacdjmokaaaGreatDoor.afterK x.Knots i).Time - k.Time := wrap_id (by omega)
      simp (maxDischargeDepth := 9) only [↓gB, gV, gT, reduceIte, reduceCtorEq, Nat.reduceEqDiff, Nat.reduceAdd, Nat.reduceSub, Nat.reduceLeDiff, Nat.reduceLT, Int.reduceEq, Nat.reduceMul, hrl, h1, e1, y1, n2, n20, k3, q1, q2, h2, f26, f5, f25, c1, f6, q3, h3, h4, n4, e2, e3, n34, c2, q4, hlen3, hF, hT]
      have q5 : Go.IntKind.i64.wrap (t % 86400000 - k.At) = t % 86400000 - k.At := wrap_id (by omega)
      simp (maxDischargeDepth := 9) only [↓gB, gV, gT, reduceIte, reduceCtorEq, Nat.reduceEqDiff, Nat.reduceAdd, Nat.reduceSub, Nat.reduceLeDiff, Nat.reduceLT, Int.reduceEq, Nat.reduceMul, hrl, h1, e1, y1, n2, n20, k3, q1, q2, h2, f26, f5, f25, c1, f6, q3, h3, h4, n4, e2, e3, n34, c2, q4, q5, hlen3, hF, hT]
      have q6 : Go.IntKind.i64.wrap (((Go.Proofs.YtjhfhacdjmokaaaGreatDoor.afterK x.Knots i).Time - k.Time) * (t % 86400000 - k.At)) = ((Go.Proofs.YtjhfhacdjmokaaaGreatDoor.afterK x.Knots i).Time - k.Time) * (t % 86400000 - k.At) := wrap_id (by omega)
      simp (maxDischargeDepth := 9) only [↓gB, gV, gT, reduceIte, reduceCtorEq, Nat.reduceEqDiff, Nat.reduceAdd, Nat.reduceSub, Nat.reduceLeDiff, Nat.reduceLT, Int.reduceEq, Nat.reduceMul, hrl, h1, e1, y1, n2, n20, k3, q1, q2, h2, f26, f5, f25, c1, f6, q3, h3, h4, n4, e2, e3, n34, c2, q4, q5, q6, hlen3, hF, hT]
      have q7 : Go.IntKind.i64.wrap ((Go.Proofs.YtjhfhacdjmokaaaGreatDoor.afterK x.Knots i).At - k.At) = (Go.Proofs.YtjhfhacdjmokaaaGreatDoor.afterK x.Knots i).At - k.At := wrap_id (by omega)
      simp (maxDischargeDepth := 9) only [↓gB, gV, gT, reduceIte, reduceCtorEq, Nat.reduceEqDiff, Nat.reduceAdd, Nat.reduceSub, Nat.reduceLeDiff, Nat.reduceLT, Int.reduceEq, Nat.reduceMul, hrl, h1, e1, y1, n2, n20, k3, q1, q2, h2, f26, f5, f25, c1, f6, q3, h3, h4, n4, e2, e3, n34, c2, q4, q5, q6, q7, hlen3, hF, hT]
      refine Ycp (p62 (by omega)) ?_
      simp (maxDischargeDepth := 9) only [↓gB, gV, gT, reduceIte, reduceCtorEq, Nat.reduceEqDiff, Nat.reduceAdd, Nat.reduceSub, Nat.reduceLeDiff, Nat.reduceLT, Int.reduceEq, Nat.reduceMul, hrl, h1, e1, y1, n2, n20, k3, q1, q2, h2, f26, f5, f25, c1, f6, q3, h3, h4, n4, e2, e3, n34, c2, q4, q5, q6, q7, hlen3, hF, hT]
      have q8 : Go.IntKind.i64.wrap (k.Time + (Go.Proofs.YtjhfhacdjmokaaaGreatDoor.lerp k (Go.Proofs.YtjhfhacdjmokaaaGreatDoor.afterK x.Knots i) (t % 86400000) - k.Time)) = k.Time + (Go.Proofs.YtjhfhacdjmokaaaGreatDoor.lerp k (Go.Proofs.YtjhfhacdjmokaaaGreatDoor.afterK x.Knots i) (t % 86400000) - k.Time) := wrap_id (by omega)
      simp (maxDischargeDepth := 9) only [↓gB, gV, gT, reduceIte, reduceCtorEq, Nat.reduceEqDiff, Nat.reduceAdd, Nat.reduceSub, Nat.reduceLeDiff, Nat.reduceLT, Int.reduceEq, Nat.reduceMul, hrl, h1, e1, y1, n2, n20, k3, q1, q2, h2, f26, f5, f25, c1, f6, q3, h3, h4, n4, e2, e3, n34, c2, q4, q5, q6, q7, q8, hlen3, hF, hT]
      refine ⟨G', ?_, hl3, ?_⟩
      · simp (maxDischargeDepth := 9) only [sub_self, sub_puts, sub_put0, h3, n4]
      · show V (k.Time + (lerp k (afterK x.Knots i) (t % 86400000) - k.Time)) = V _
        congr 1; omega
    · focus
        simp (maxDischargeDepth := 9) only [↓gB, gV, gT, reduceIte, reduceCtorEq, Nat.reduceEqDiff, Nat.reduceAdd, Nat.reduceSub, Nat.reduceLeDiff, Nat.reduceLT, Int.reduceEq, Nat.reduceMul, hrl, h1, e1, y1, n2, n20, k3, q1, q2, h2, f26, f5, f25, c1, f6, q3, h3, h4, n4, e2, e3, n34, c2, hlen3]
        rw [N_lp]
        refine ⟨_, ?_, G', ?_, i + 1, rfl, ?_, ?_, ?_, ?_, by simp (maxDischargeDepth := 9) only [↓gB, gV, gT, reduceIte, reduceCtorEq, Nat.reduceEqDiff, Nat.reduceAdd, Nat.reduceSub, Nat.reduceLeDiff, Nat.reduceLT, Int.reduceEq, Nat.reduceMul, hrl, h1, e1, y1, n2, n20, k3, q1, q2, h2, f26, f5, f25, c1, f6, q3, h3, h4, n4, e2, e3, n34, c2, hlen3, nat_succ, and_self]⟩
        · omega
        · (simp (maxDischargeDepth := 9) only [le_self, le_puts, le_put0, sub_self, sub_puts, sub_put0, h1, hle, n2, n20, hl3, l1, l2, h2, l3, hl3, h3, h4, n4]; done)
        · omega
        · (intro j hj; by_cases e : j = i; (subst e; omega); exact h j (by omega); done)
        · assumption
        · assumption
  · exfalso
    have h1 := h (x.Knots.length - 1) (by omega)
    rw [after_e (by omega) hz] at h1
    simp only at h1; omega
end Go.Proofs.YtjhfhacdjmokaaaGreatDoor
namespace Go.Proofs.YtjhfhacdjmokaaaGreatDoor
open Go Go.GL
attribute [local irreducible] Ycall GCalls
set_option maxRecDepth 10000
set_option maxHeartbeats 0
theorem cellS {α : Type} {ρ : Rp α} {G : GH} {x : α} {cs : List Value} (h : ρ.R G x cs) : Cellsof ρ G [x] cs := ⟨[cs], by simp, rfl, by
  intro i y c h1 h2
  cases i with
  | zero => simp only [List.getElem?_cons_zero, Option.some.injEq] at h1 h2; subst h1 h2; exact h
  | succ i => simp at h1⟩
theorem p18b {G0 : GH} {v w : Value} {ns : List SNode} {x : SArc} {r : Nat} {e : TypeId} (hn : ns.length ≤ 1000000000) (hk : x.Knots.length ≤ 1000000000) (hr : G0 r = some (.cells [.string x.Key, .string x.From, .string x.To, V x.Long, w].toArray e (0, 0), true)) (hv : RSl rNode G0 v ns) (hw : RSl rKnot G0 w x.Knots) : Pure Tryz.prog G0 18 [.agg #[v, .slice (some ⟨r, 0, none⟩) 1 1, .slice none 0 0]] (V (roadsE ns [x] [])) :=
  Pure.own hr (p18 (ar := [x]) (bs := []) (hv.ile (ile_put hr _)) (frz_at G0 r (cellS (ρ := rArc) ⟨w, rfl, hw.ile (ile_put hr _)⟩)) (RSl.nil _ _) hn (by simp) (by simpa using hk) (by simp))
theorem p8b {G0 : GH} {v w : Value} {ns : List SNode} {x : SArc} {r : Nat} {e : TypeId} (hn : ns.length ≤ 1000000000) (hk : x.Knots.length ≤ 1000000000) (hr : G0 r = some (.cells [.string x.Key, .string x.From, .string x.To, V x.Long, w].toArray e (0, 0), true)) (hv : RSl rNode G0 v ns) (hw : RSl rKnot G0 w x.Knots) : Pure Tryz.prog G0 8 [.agg #[v, .slice (some ⟨r, 0, none⟩) 1 1, .slice none 0 0]] (V (roadsE ns [x] [])) :=
  Pure.own hr (p8 (ar := [x]) (bs := []) (hv.ile (ile_put hr _)) (frz_at G0 r (cellS (ρ := rArc) ⟨w, rfl, hw.ile (ile_put hr _)⟩)) (RSl.nil _ _) hn (by simp) (by simpa using hk) (by simp))
theorem one_ok {ns : List SNode} {x : SArc} (h : roadsE ns [x] [] = 0) : knotsE x.Knots = 0 := by
  unfold roadsE at h
  split at h
  · rename_i q; exact absurd h q
  · split at h
    · cases h
    · split at h
      · rename_i q; exact absurd h q
      · rename_i q
        have q : chk (arcBad ns) none [x] = 0 := by omega
        exact (ab_ok (chk_prev q (i := 0) (x := x) rfl)).2.2.2.2.2.2
def keysOf (x : SArc) : List ByteArray := compF none (isort sCmp [x.From, x.To])
def nodeOf (k : ByteArray) : SNode := ⟨k, 0, 0⟩
def timeE (x : SArc) (t : Int) : Int := orOf [roadsE ((keysOf x).map nodeOf) [x] [], bi (moment t)]
def timeV (x : SArc) (t : Int) : Value := if timeE x t = 0 then .tuple #[V (timeF x.Knots t), V 0] else .tuple #[V 0, V (timeE x t)]
theorem keys_len (x : SArc) : (keysOf x).length ≤ 2 := by
  unfold keysOf
  refine Nat.le_trans (compF_len _ _) ?_
  show (isortTo _ _ _).length ≤ 2
  rw [isortTo_len]; exact Nat.le_refl _
theorem fieldAt_of {G : GH} {r k : Nat} {cs : List Value} {v : Value} {e : TypeId} {fr : Nat × Nat} {b : Bool} (h : G r = some (.cells cs.toArray e fr, b)) (hk : cs[k]? = some v) : FieldAt G ⟨r, 0, none⟩ k v := by
  unfold FieldAt gcell
  rw [add_block, h]
  simp only [add_spot _ _ (rfl : (⟨r, 0, none⟩ : Addr).spot = none), add_off, Option.isSome_none, Bool.false_eq_true, if_false, Nat.zero_add, List.getElem?_toArray]
  exact hk
theorem p32 {G0 : GH} {x : SArc} {v : Value} {t : Int} (hv : RSl rKnot G0 v x.Knots) (hl : x.Knots.length ≤ 1000000000) : Pure Tryz.prog G0 32 [.agg #[.string x.Key, .string x.From, .string x.To, V x.Long, v], V t] (timeV x t) := by
  intro G hG; replace hv := hv.le hG
  clear hG G0
  refine enter Tryz.func32 44 #[.tmp 4, .tmp 5] rfl Tryz.ntmps32 rfl (by decide +kernel) rfl ?_
  obtain ⟨a, c, rfl⟩ := hv.val
  simp (maxDischargeDepth := 9) only [↓gB, gV, gT, reduceIte, reduceCtorEq, Nat.reduceEqDiff, Nat.reduceAdd, Nat.reduceSub, Nat.reduceLeDiff, Nat.reduceLT, Int.reduceEq, Nat.reduceMul]
  refine Yn2 fun r1 h1 => ?_
  simp (maxDischargeDepth := 9) only [↓gB, gV, gT, reduceIte, reduceCtorEq, Nat.reduceEqDiff, Nat.reduceAdd, Nat.reduceSub, Nat.reduceLeDiff, Nat.reduceLT, Int.reduceEq, Nat.reduceMul, h1]
  refine Yn1 fun r2 h2 => ?_
  have n2 := h2
  simp only [put_none_eq, ne_eq] at n2
  simp (maxDischargeDepth := 9) only [↓gB, gV, gT, reduceIte, reduceCtorEq, Nat.reduceEqDiff, Nat.reduceAdd, Nat.reduceSub, Nat.reduceLeDiff, Nat.reduceLT, Int.reduceEq, Nat.reduceMul, h1, h2, n2]
  have y1 := put_self G r1 (.cells [.string x.Key, .string x.From, .string x.To, V x.Long, .slice a x.Knots.length c].toArray 56 (0, 0), true)
  have lA := le_put h1 (.cells [.string x.Key, .string x.From, .string x.To, V x.Long, .slice a x.Knots.length c].toArray 56 (0, 0), true)
  generalize G.put r1 (.cells [.string x.Key, .string x.From, .string x.To, V x.Long, .slice a x.Knots.length c].toArray 56 (0, 0), true) = A at *
  have yA := y1
  have y2 := put_self A r2 (.cells [.string x.From, .string x.To].toArray 9 (0, 0), true)
  have l2 := le_put h2 (.cells [.string x.From, .string x.To].toArray 9 (0, 0), true)
  generalize A.put r2 (.cells [.string x.From, .string x.To].toArray 9 (0, 0), true) = B at *
  have hrow : Row Rp.str 9 A B (.slice (some ⟨r2, 0, none⟩) 2 2) [x.From, x.To] := ⟨[.string x.From, .string x.To], ⟨rfl, .inr ⟨r2, 2, _, rfl, h2, y2, rfl, Nat.le_refl _, rfl⟩⟩, cells1 (enc := Value.string) (fun _ _ => rfl)⟩
  refine Ycall_intro (md := none) (s57 hrow (by simp)) ?_
  rintro u C ⟨rfl, hrow, hk, hlC⟩
  have lC := hlC l2
  simp (maxDischargeDepth := 9) only [↓gB, gV, gT, reduceIte, reduceCtorEq, Nat.reduceEqDiff, Nat.reduceAdd, Nat.reduceSub, Nat.reduceLeDiff, Nat.reduceLT, Int.reduceEq, Nat.reduceMul, h1, n2, h2, y1, yA, y2, hk]
  refine Ycall_intro (md := none) (compCalls2 hrow (by show (isortTo _ _ _).length ≤ _; rw [isortTo_len]; simp) lC) ?_
  rintro u D ⟨hrow, lD⟩
  replace hrow : Row Rp.str 9 A D u (keysOf x) := hrow
  have hkl := keys_len x
  replace hv := hv.le (lA.trans lD)
  replace y1 := lD _ _ y1
  have lG := lA.trans lD
  obtain ⟨ka, kc, rfl⟩ := hrow.val
  simp (maxDischargeDepth := 9) only [↓gB, gV, gT, reduceIte, reduceCtorEq, Nat.reduceEqDiff, Nat.reduceAdd, Nat.reduceSub, Nat.reduceLeDiff, Nat.reduceLT, Int.reduceEq, Nat.reduceMul, h1, n2, h2, yA, y2, hk, y1]
  focus
    refine Xloop_intro _ _ _ _ _ (fun k f G' => ∃ (i : Nat) (o : Value), k = (keysOf x).length - i ∧ (i ≤ (keysOf x).length) ∧ (Row rNode 59 A G' o (((keysOf x).map nodeOf).take i)) ∧ (Row Rp.str 9 A G' (.slice ka (keysOf x).length kc) (keysOf x)) ∧ (G' r1 = some (.cells [.string x.Key, .string x.From, .string x.To, V x.Long, .slice a x.Knots.length c].toArray 56 (0, 0), true)) ∧ (RSl rKnot G' (.slice a x.Knots.length c) x.Knots) ∧ (A.le G') ∧ (G.le G') ∧ f 21 = V i ∧ f 7 = o ∧ f 1 = Go.GL.V t ∧ f 2 = Go.Value.pointer (Option.some { block := r1, off := 0 }) ∧ f 19 = Go.Value.slice ka (Go.Proofs.YtjhfhacdjmokaaaGreatDoor.keysOf x).length kc ∧ f 20 = Go.Value.int Go.IntKind.i64 ↑(Go.Proofs.YtjhfhacdjmokaaaGreatDoor.keysOf x).length) _ ⟨0, .slice none 0 0, rfl, ?_, ?_, ?_, ?_, ?_, ?_, ?_, by simp (maxDischargeDepth := 9) only [↓gB, gV, gT, reduceIte, reduceCtorEq, Nat.reduceEqDiff, Nat.reduceAdd, Nat.reduceSub, Nat.reduceLeDiff, Nat.reduceLT, Int.reduceEq, Nat.reduceMul, h1, n2, h2, yA, y2, hk, y1, and_self]⟩ ?_
    · omega
    · (exact Row.nil; done)
    · assumption
    · assumption
    · assumption
    · assumption
    · assumption
    rintro k f G' ⟨i, o, rfl, hi, hn, hrow, y1, hv, lD, lG, f21, f7, f1, f2, f19, f20⟩
  simp (maxDischargeDepth := 9) only [↓gB, gV, gT, reduceIte, reduceCtorEq, Nat.reduceEqDiff, Nat.reduceAdd, Nat.reduceSub, Nat.reduceLeDiff, Nat.reduceLT, Int.reduceEq, Nat.reduceMul, h1, n2, h2, yA, y2, hk, y1, y1, f21, f7, f1, f2, f19, f20]
  refine Xc_split _ _ _ _ _ (fun c1 => ?_) (fun c1 => ?_)
  · obtain ⟨k, hk⟩ : ∃ k, (keysOf x)[i]? = some k := ⟨_, List.getElem?_eq_getElem (by omega)⟩
    have hkm : ((keysOf x).map nodeOf)[i]? = some (nodeOf k) := by rw [List.getElem?_map, hk]; rfl
    have htl : (((keysOf x).map nodeOf).take i).length ≤ 2 := by rw [List.length_take, List.length_map]; omega
    focus
      simp (maxDischargeDepth := 9) only [↓gB, gV, gT, reduceIte, reduceCtorEq, Nat.reduceEqDiff, Nat.reduceAdd, Nat.reduceSub, Nat.reduceLeDiff, Nat.reduceLT, Int.reduceEq, Nat.reduceMul, h1, n2, h2, yA, y2, hk, y1, y1, f21, f7, f1, f2, f19, f20, c1]
      obtain ⟨x1, a1, s1, m1, rfl, rfl, e1⟩ := hrow.at1 (i) (by omega) rfl
      simp (maxDischargeDepth := 9) only [↓gB, gV, gT, reduceIte, reduceCtorEq, Nat.reduceEqDiff, Nat.reduceAdd, Nat.reduceSub, Nat.reduceLeDiff, Nat.reduceLT, Int.reduceEq, Nat.reduceMul, h1, n2, h2, yA, y2, hk, y1, y1, f21, f7, f1, f2, f20, c1, f19, e1]
      refine vguard_intro (by simp) ?_
      refine Yn2 fun r3 h3 => ?_
      simp (maxDischargeDepth := 9) only [↓gB, gV, gT, reduceIte, reduceCtorEq, Nat.reduceEqDiff, Nat.reduceAdd, Nat.reduceSub, Nat.reduceLeDiff, Nat.reduceLT, Int.reduceEq, Nat.reduceMul, h1, n2, h2, yA, y2, hk, y1, y1, f21, f7, f1, f2, f20, c1, f19, e1, h3]
      refine Row.app1 sl22 (Row.put _ h3 hn) (by exact put_self _ _ _) (y := ⟨_, _, _⟩) rfl (by omega) (GH.le.trans lD (le_put h3 _)) fun v1 G1 w1 k1 l1 => ?_
      replace hv := RSl.appd (RSl.put _ h3 hv) (Row.put _ h3 hn) k1
      (have nt := Row.notTy hn y1 (by decide); replace y1 := k1 _ _ ((GH.le.trans (le_refl _) (le_put h3 _)) _ _ y1) nt; clear nt)
      replace hrow := Row.keepTy (Row.put _ h3 hrow) (Row.put _ h3 hn) k1 (by decide)
      simp (maxDischargeDepth := 9) only [↓gB, gV, gT, reduceIte, reduceCtorEq, Nat.reduceEqDiff, Nat.reduceAdd, Nat.reduceSub, Nat.reduceLeDiff, Nat.reduceLT, Int.reduceEq, Nat.reduceMul, h1, n2, h2, yA, y2, hk, y1, f21, f7, f1, f2, f20, c1, f19, e1, h3, k1, y1]
      have q1 : Go.IntKind.i64.wrap (↑i + 1) = ↑i + 1 := wrap_id (by omega)
      simp (maxDischargeDepth := 9) only [↓gB, gV, gT, reduceIte, reduceCtorEq, Nat.reduceEqDiff, Nat.reduceAdd, Nat.reduceSub, Nat.reduceLeDiff, Nat.reduceLT, Int.reduceEq, Nat.reduceMul, h1, n2, h2, yA, y2, hk, y1, f21, f7, f1, f2, f20, c1, f19, e1, h3, k1, y1, q1]
      rw [N_lp]
      refine ⟨_, ?_, _, sub_refl _, i + 1, v1, rfl, ?_, ?_, ?_, ?_, ?_, ?_, ?_, by simp (maxDischargeDepth := 9) only [↓gB, gV, gT, reduceIte, reduceCtorEq, Nat.reduceEqDiff, Nat.reduceAdd, Nat.reduceSub, Nat.reduceLeDiff, Nat.reduceLT, Int.reduceEq, Nat.reduceMul, h1, n2, h2, yA, y2, hk, y1, f21, f7, f1, f2, f20, c1, f19, e1, h3, k1, y1, q1, nat_succ, and_self]⟩
      · omega
      · omega
      · ((have e : k = x1 := by (rw [hk] at m1; cases m1; rfl)); subst e; rw [take_at hkm]; exact w1; done)
      · assumption
      · assumption
      · assumption
      · assumption
      · (exact lA.trans (by assumption); done)
  · rw [List.take_of_length_le (by rw [List.length_map]; omega)] at hn
    obtain ⟨ao, co, rfl⟩ := hn.val
    simp (maxDischargeDepth := 9) only [↓gB, gV, gT, reduceIte, reduceCtorEq, Nat.reduceEqDiff, Nat.reduceAdd, Nat.reduceSub, Nat.reduceLeDiff, Nat.reduceLT, Int.reduceEq, Nat.reduceMul, h1, n2, h2, yA, y2, hk, y1, y1, f21, f1, f2, f19, f20, c1, f7]
    refine Yn2 fun r3 h3 => ?_
    simp (maxDischargeDepth := 9) only [↓gB, gV, gT, reduceIte, reduceCtorEq, Nat.reduceEqDiff, Nat.reduceAdd, Nat.reduceSub, Nat.reduceLeDiff, Nat.reduceLT, Int.reduceEq, Nat.reduceMul, h1, n2, h2, yA, y2, hk, y1, y1, f21, f1, f2, f19, f20, c1, f7, h3]
    obtain ⟨E, hs, hnE, hke, hleE⟩ := (Row.put (.cells [.string x.Key, .string x.From, .string x.To, V x.Long, .slice a x.Knots.length c].toArray 56 (0, 0), true) h3 hn).freeze
    refine Ycsub hs ?_
    have il := Row.ileOf (Row.put _ h3 hn) hke
    have y3 := hke _ _ (put_self G' r3 (.cells [.string x.Key, .string x.From, .string x.To, V x.Long, .slice a x.Knots.length c].toArray 56 (0, 0), true)) (Row.fresh hn h3)
    have y1E := hke _ _ ((put_pk h3 (kn_of y1)).trans y1) (hn.apart0 (kn_of yA))
    have hvE := (RSl.put (.cells [.string x.Key, .string x.From, .string x.To, V x.Long, .slice a x.Knots.length c].toArray 56 (0, 0), true) h3 hv).ile il
    have lE : G.le E := lA.trans (hleE (lD.trans (le_put h3 _)))
    refine Ycp (p18b (by rw [List.length_map]; omega) hl y3 hnE hvE) ?_
    by_cases he0 : roadsE ((keysOf x).map nodeOf) [x] [] = 0
    · have hkn := one_ok he0
      cases hm : moment t
      · have hT : timeV x t = .tuple #[V 0, V 1] := by unfold timeV timeE; rw [orOf2, if_pos he0, hm]; rfl
        rw [hT]
        simp (maxDischargeDepth := 9) only [↓gB, gV, gT, reduceIte, reduceCtorEq, Nat.reduceEqDiff, Nat.reduceAdd, Nat.reduceSub, Nat.reduceLeDiff, Nat.reduceLT, Int.reduceEq, Nat.reduceMul, h1, n2, h2, yA, y2, hk, y1, y1, f21, f1, f2, f19, f20, c1, f7, h3, hke, y3, y1E, hm, he0]
        refine Ycp (p20) ?_
        simp (maxDischargeDepth := 9) only [↓gB, gV, gT, reduceIte, reduceCtorEq, Nat.reduceEqDiff, Nat.reduceAdd, Nat.reduceSub, Nat.reduceLeDiff, Nat.reduceLT, Int.reduceEq, Nat.reduceMul, h1, n2, h2, yA, y2, hk, y1, y1, f21, f1, f2, f19, f20, c1, f7, h3, hke, y3, y1E, hm, he0]
        exact Kup_val (by simp (maxDischargeDepth := 9) only [le_self, le_puts, le_put0, h1, n2, h2, lA, l2, lC, lD, lG, lD, lG, h3, lE]) rfl
      · have hT : timeV x t = .tuple #[V (timeF x.Knots t), V 0] := by unfold timeV timeE; rw [orOf2, if_pos he0, hm]; rfl
        have hmb := within_iff.1 (show within t 0 345686399999 = true from hm)
        rw [hT]
        simp (maxDischargeDepth := 9) only [↓gB, gV, gT, reduceIte, reduceCtorEq, Nat.reduceEqDiff, Nat.reduceAdd, Nat.reduceSub, Nat.reduceLeDiff, Nat.reduceLT, Int.reduceEq, Nat.reduceMul, h1, n2, h2, yA, y2, hk, y1, y1, f21, f1, f2, f19, f20, c1, f7, h3, hke, y3, y1E, hm, he0]
        refine Ycp (p20) ?_
        simp (maxDischargeDepth := 9) only [↓gB, gV, gT, reduceIte, reduceCtorEq, Nat.reduceEqDiff, Nat.reduceAdd, Nat.reduceSub, Nat.reduceLeDiff, Nat.reduceLT, Int.reduceEq, Nat.reduceMul, h1, n2, h2, yA, y2, hk, y1, y1, f21, f1, f2, f19, f20, c1, f7, h3, hke, y3, y1E, hm, he0]
        refine Ycp (p22 hvE hkn (by omega) (by omega) (fieldAt_of y1E rfl)) ?_
        simp (maxDischargeDepth := 9) only [↓gB, gV, gT, reduceIte, reduceCtorEq, Nat.reduceEqDiff, Nat.reduceAdd, Nat.reduceSub, Nat.reduceLeDiff, Nat.reduceLT, Int.reduceEq, Nat.reduceMul, h1, n2, h2, yA, y2, hk, y1, y1, f21, f1, f2, f19, f20, c1, f7, h3, hke, y3, y1E, hm, he0]
        exact Kup_val (by simp (maxDischargeDepth := 9) only [le_self, le_puts, le_put0, h1, n2, h2, lA, l2, lC, lD, lG, lD, lG, h3, lE]) rfl
    · have hT : timeV x t = .tuple #[V 0, V (roadsE ((keysOf x).map nodeOf) [x] [])] := by unfold timeV timeE; rw [orOf2, if_neg he0, if_neg he0]
      rw [hT]
      simp (maxDischargeDepth := 9) only [↓gB, gV, gT, reduceIte, reduceCtorEq, Nat.reduceEqDiff, Nat.reduceAdd, Nat.reduceSub, Nat.reduceLeDiff, Nat.reduceLT, Int.reduceEq, Nat.reduceMul, h1, n2, h2, yA, y2, hk, y1, y1, f21, f1, f2, f19, f20, c1, f7, h3, hke, y3, y1E, he0]
      exact Kup_val (by simp (maxDischargeDepth := 9) only [le_self, le_puts, le_put0, h1, n2, h2, lA, l2, lC, lD, lG, lD, lG, h3, lE]) rfl
end Go.Proofs.YtjhfhacdjmokaaaGreatDoor
namespace Go.Proofs.YtjhfhacdjmokaaaGreatDoor
open Go Go.GL
attribute [local irreducible] Ycall GCalls
set_option maxRecDepth 10000
set_option maxHeartbeats 0
theorem g24 {G0 : GH} {v : Value} {l : List SNode} (hv : RSl rNode G0 v l) (hn : l.length ≤ 1000000000) : Gives Tryz.prog G0 24 [v] (fun u G' => RSl rNode G' u l) := by
  intro G hG; replace hv := hv.le hG
  clear hG G0
  refine enter Tryz.func24 8 #[.tmp 2] rfl Tryz.ntmps24 rfl (by decide +kernel) rfl ?_
  obtain ⟨a, c, rfl⟩ := hv.val
  simp (maxDischargeDepth := 9) only [↓gB, gV, gT, reduceIte, reduceCtorEq, Nat.reduceEqDiff, Nat.reduceAdd, Nat.reduceSub, Nat.reduceLeDiff, Nat.reduceLT, Int.reduceEq, Nat.reduceMul]
  cases a with
  | none =>
    simp (maxDischargeDepth := 9) only [↓gB, gV, gT, reduceIte, reduceCtorEq, Nat.reduceEqDiff, Nat.reduceAdd, Nat.reduceSub, Nat.reduceLeDiff, Nat.reduceLT, Int.reduceEq, Nat.reduceMul, Option.isNone_none]
    have : l = [] := by
      cases l with
      | nil => rfl
      | cons x l => obtain ⟨ad, _, e, _⟩ := hv.get (i := 0) (x := x) rfl; cases e
    subst this
    exact Kup_gives (sub_refl _) (le_refl _) (RSl.nil _ _)
  | some ad =>
    simp (maxDischargeDepth := 9) only [↓gB, gV, gT, reduceIte, reduceCtorEq, Nat.reduceEqDiff, Nat.reduceAdd, Nat.reduceSub, Nat.reduceLeDiff, Nat.reduceLT, Int.reduceEq, Nat.reduceMul, Option.isNone_some]
    refine Yn1 fun r1 h1 => ?_
    simp (maxDischargeDepth := 9) only [↓gB, gV, gT, reduceIte, reduceCtorEq, Nat.reduceEqDiff, Nat.reduceAdd, Nat.reduceSub, Nat.reduceLeDiff, Nat.reduceLT, Int.reduceEq, Nat.reduceMul, h1, Option.isNone_some]
    obtain ⟨ds, h1, h2⟩ := (hv.le (le_put h1 (.cells #[] 59 (0, 0), true))).read
    refine Row.append sl22 (ρ := rNode) (G0 := G) (xs := []) (ys := l) ⟨[], ⟨rfl, .inr ⟨r1, 0, #[], rfl, by assumption, put_self _ _ _, rfl, Nat.le_refl _, rfl⟩⟩, Cellsof.nil _ _⟩ h1 h2 (by simp; omega) (le_put (by assumption) _) ?_
    intro v' G' hrow hk hle
    simp (maxDischargeDepth := 9) only [↓gB, gV, gT, reduceIte, reduceCtorEq, Nat.reduceEqDiff, Nat.reduceAdd, Nat.reduceSub, Nat.reduceLeDiff, Nat.reduceLT, Int.reduceEq, Nat.reduceMul, h1, hk]
    obtain ⟨G2, hs, hl, hr⟩ := hrow.fin hle
    exact Kup_gives hs hl (by simpa using hr)
theorem g25 {G0 : GH} {v : Value} {l : List SBan} (hv : RSl rBan G0 v l) (hn : l.length ≤ 1000000000) : Gives Tryz.prog G0 25 [v] (fun u G' => RSl rBan G' u l) := by
  intro G hG; replace hv := hv.le hG
  clear hG G0
  refine enter Tryz.func25 8 #[.tmp 2] rfl Tryz.ntmps25 rfl (by decide +kernel) rfl ?_
  obtain ⟨a, c, rfl⟩ := hv.val
  simp (maxDischargeDepth := 9) only [↓gB, gV, gT, reduceIte, reduceCtorEq, Nat.reduceEqDiff, Nat.reduceAdd, Nat.reduceSub, Nat.reduceLeDiff, Nat.reduceLT, Int.reduceEq, Nat.reduceMul]
  cases a with
  | none =>
    simp (maxDischargeDepth := 9) only [↓gB, gV, gT, reduceIte, reduceCtorEq, Nat.reduceEqDiff, Nat.reduceAdd, Nat.reduceSub, Nat.reduceLeDiff, Nat.reduceLT, Int.reduceEq, Nat.reduceMul, Option.isNone_none]
    have : l = [] := by
      cases l with
      | nil => rfl
      | cons x l => obtain ⟨ad, _, e, _⟩ := hv.get (i := 0) (x := x) rfl; cases e
    subst this
    exact Kup_gives (sub_refl _) (le_refl _) (RSl.nil _ _)
  | some ad =>
    simp (maxDischargeDepth := 9) only [↓gB, gV, gT, reduceIte, reduceCtorEq, Nat.reduceEqDiff, Nat.reduceAdd, Nat.reduceSub, Nat.reduceLeDiff, Nat.reduceLT, Int.reduceEq, Nat.reduceMul, Option.isNone_some]
    refine Yn1 fun r1 h1 => ?_
    simp (maxDischargeDepth := 9) only [↓gB, gV, gT, reduceIte, reduceCtorEq, Nat.reduceEqDiff, Nat.reduceAdd, Nat.reduceSub, Nat.reduceLeDiff, Nat.reduceLT, Int.reduceEq, Nat.reduceMul, h1, Option.isNone_some]
    obtain ⟨ds, h1, h2⟩ := (hv.le (le_put h1 (.cells #[] 62 (0, 0), true))).read
    refine Row.append sl24 (ρ := rBan) (G0 := G) (xs := []) (ys := l) ⟨[], ⟨rfl, .inr ⟨r1, 0, #[], rfl, by assumption, put_self _ _ _, rfl, Nat.le_refl _, rfl⟩⟩, Cellsof.nil _ _⟩ h1 h2 (by simp; omega) (le_put (by assumption) _) ?_
    intro v' G' hrow hk hle
    simp (maxDischargeDepth := 9) only [↓gB, gV, gT, reduceIte, reduceCtorEq, Nat.reduceEqDiff, Nat.reduceAdd, Nat.reduceSub, Nat.reduceLeDiff, Nat.reduceLT, Int.reduceEq, Nat.reduceMul, h1, hk]
    obtain ⟨G2, hs, hl, hr⟩ := hrow.fin hle
    exact Kup_gives hs hl (by simpa using hr)
theorem rslK {α : Type} {ρ : Rp α} {G : GH} {w : Value} {ys : List α} {r : Nat} {o : Obj} (o' : Obj × Bool) (k : ∀ x, G r = some x → x = (o, true)) (h : RSl ρ G w ys) : RSl ρ (G.put r o') w ys := by
  cases hr : G r with
  | none => exact RSl.put _ hr h
  | some x => exact RSl.over _ h (by rw [hr, k x hr])
theorem Row.notTy {α : Type} {ρ : Rp α} {e e2 : TypeId} {G0 G : GH} {v : Value} {xs : List α} {r : Nat} {c : Array Value} {fr : Nat × Nat} {t : Bool} (h : Row ρ e G0 G v xs) (hr : G r = some (.cells c e2 fr, t)) (hne : e ≠ e2) : notAt v r := by
  intro n cc hv
  obtain ⟨cs, hov, _⟩ := h
  rcases hov.2 with ⟨h1, _⟩ | ⟨b, cap, c', h1, _, h3, _⟩
  · rw [h1] at hv; cases hv
  · rw [h1] at hv; cases hv
    rw [hr] at h3; cases h3; exact hne rfl
theorem g26 {G0 : GH} {x : SArc} {v : Value} (hv : RSl rKnot G0 v x.Knots) (hl : x.Knots.length ≤ 1000000000) : Gives Tryz.prog G0 26 [.agg #[.string x.Key, .string x.From, .string x.To, V x.Long, v]] (fun u G' => ∃ w, RSl rKnot G' w x.Knots ∧ u = .agg #[.string x.Key, .string x.From, .string x.To, V x.Long, w]) := by
  intro G hG; replace hv := hv.le hG
  clear hG G0
  refine enter Tryz.func26 8 #[.cell 2 56] rfl Tryz.ntmps26 rfl (by decide +kernel) rfl ?_
  obtain ⟨a, c, rfl⟩ := hv.val
  simp (maxDischargeDepth := 9) only [↓gB, gV, gT, reduceIte, reduceCtorEq, Nat.reduceEqDiff, Nat.reduceAdd, Nat.reduceSub, Nat.reduceLeDiff, Nat.reduceLT, Int.reduceEq, Nat.reduceMul]
  refine Yn2 fun r1 h1 => ?_
  simp (maxDischargeDepth := 9) only [↓gB, gV, gT, reduceIte, reduceCtorEq, Nat.reduceEqDiff, Nat.reduceAdd, Nat.reduceSub, Nat.reduceLeDiff, Nat.reduceLT, Int.reduceEq, Nat.reduceMul, h1]
  refine Yn2 fun r2 h2 => ?_
  have n2 := h2
  simp only [put_none_eq, ne_eq] at n2
  simp (maxDischargeDepth := 9) only [↓gB, gV, gT, reduceIte, reduceCtorEq, Nat.reduceEqDiff, Nat.reduceAdd, Nat.reduceSub, Nat.reduceLeDiff, Nat.reduceLT, Int.reduceEq, Nat.reduceMul, h1, h2, n2]
  have l1 := le_put h1 ((Go.Obj.cells #[Go.Value.string x.Key, Go.Value.string x.From, Go.Value.string x.To, Go.GL.V x.Long, Go.Value.slice a x.Knots.length c] 56, Bool.true))
  have y1 := put_self G r1 ((Go.Obj.cells #[Go.Value.string x.Key, Go.Value.string x.From, Go.Value.string x.To, Go.GL.V x.Long, Go.Value.slice a x.Knots.length c] 56, Bool.true))
  generalize GH.put G r1 ((Go.Obj.cells #[Go.Value.string x.Key, Go.Value.string x.From, Go.Value.string x.To, Go.GL.V x.Long, Go.Value.slice a x.Knots.length c] 56, Bool.true)) = G1 at *
  replace hv := RSl.le hv l1
  have q2_0 := GH.le.none l1 h2
  have l2 := le_put h2 ((Go.Obj.cells #[Go.Value.string ByteArray.empty, Go.Value.string ByteArray.empty, Go.Value.string ByteArray.empty, Go.Value.int Go.IntKind.i64 0, Go.Value.slice Option.none 0 0] 56, Bool.true))
  have y2 := put_self G1 r2 ((Go.Obj.cells #[Go.Value.string ByteArray.empty, Go.Value.string ByteArray.empty, Go.Value.string ByteArray.empty, Go.Value.int Go.IntKind.i64 0, Go.Value.slice Option.none 0 0] 56, Bool.true))
  generalize GH.put G1 r2 ((Go.Obj.cells #[Go.Value.string ByteArray.empty, Go.Value.string ByteArray.empty, Go.Value.string ByteArray.empty, Go.Value.int Go.IntKind.i64 0, Go.Value.slice Option.none 0 0] 56, Bool.true)) = G2 at *
  replace l1 := GH.le.trans l1 l2
  replace y1 := l2 _ _ y1
  replace hv := RSl.le hv l2
  refine Ycg (g51 (by assumption) (by assumption)) ?_ ?_
  · exact upRSl _ _
  intro u3 G3 l3 w3
  replace l2 := GH.le.trans l2 l3
  replace y2 := l3 _ _ y2
  replace l1 := GH.le.trans l1 l3
  replace y1 := l3 _ _ y1
  replace hv := RSl.le hv l3
  obtain ⟨aw3, cw3, rfl⟩ := RSl.val w3
  simp (maxDischargeDepth := 9) only [↓gB, gV, gT, reduceIte, reduceCtorEq, Nat.reduceEqDiff, Nat.reduceAdd, Nat.reduceSub, Nat.reduceLeDiff, Nat.reduceLT, Int.reduceEq, Nat.reduceMul, h1, n2, h2, q2_0, y2, y1]
  exact Kup_gives (sub_refl _) (le_put_new (le_put_new l1 h1 _) n2.2 _) ⟨_, RSl.over _ (RSl.over _ w3 y1) ((put_not _ _ n2.1).trans y2), rfl⟩
theorem g5 {G0 : GH} {v w u0 : Value} {ns : List SNode} {ar : List SArc} {bs : List SBan} (hv : RSl rNode G0 v ns) (hw : RSl rArc G0 w ar) (hu : RSl rBan G0 u0 bs) (hn : ns.length ≤ 1000000000) (hm : ar.length ≤ 1000000000) (hk : ∀ x ∈ ar, x.Knots.length ≤ 1000000000) (hb : bs.length ≤ 1000000000) : Gives Tryz.prog G0 5 [.agg #[v, w, u0]] (fun u G' => ∃ v' w' u', RSl rNode G' v' ns ∧ RSl rArc G' w' ar ∧ RSl rBan G' u' bs ∧ u = .agg #[v', w', u']) := by
  intro G hG; replace hv := hv.le hG; replace hw := hw.le hG; replace hu := hu.le hG
  clear hG G0
  refine enter Tryz.func5 29 #[.cell 2 26] rfl Tryz.ntmps5 rfl (by decide +kernel) rfl ?_
  obtain ⟨va, vc, rfl⟩ := hv.val
  obtain ⟨wa, wc, rfl⟩ := hw.val
  obtain ⟨ua, uc, rfl⟩ := hu.val
  rw [X_seq]
  focus
    refine Xcut _ _ _ _ _ (J := fun f G' => ∃ (r1 r2 : Nat), (∀ r, G' r = none → r1 ≠ r) ∧ (∀ r, G' r = none → r2 ≠ r) ∧ (∀ r, G' r = none → G r = none) ∧ (r1 ≠ r2) ∧ (G r1 = none) ∧ (G r2 = none) ∧ (G' r1 = some (.cells [.slice va ns.length vc, .slice wa ar.length wc, .slice ua bs.length uc].toArray 26 (0, 0), true)) ∧ (G' r2 = some (.cells [.slice none 0 0, .slice none 0 0, .slice none 0 0].toArray 26 (0, 0), true)) ∧ (RSl rNode G' (.slice va ns.length vc) ns) ∧ (RSl rArc G' (.slice wa ar.length wc) ar) ∧ (RSl rBan G' (.slice ua bs.length uc) bs) ∧ (G.le G') ∧ f 1 = .pointer (some ⟨r1, 0, none⟩) ∧ f 2 = .pointer (some ⟨r2, 0, none⟩)) ?_ ?_
    rotate_left 1
    rintro f G' ⟨r1, r2, nn1, nn2, nn3, n12, g1, g2, y1, y2, hv, hw, hu, hle, f1, f2⟩
    rotate_right 1
  · simp (maxDischargeDepth := 9) only [↓gB, gV, gT, reduceIte, reduceCtorEq, Nat.reduceEqDiff, Nat.reduceAdd, Nat.reduceSub, Nat.reduceLeDiff, Nat.reduceLT, Int.reduceEq, Nat.reduceMul]
    refine Yn2 fun r1 h1 => ?_
    simp (maxDischargeDepth := 9) only [↓gB, gV, gT, reduceIte, reduceCtorEq, Nat.reduceEqDiff, Nat.reduceAdd, Nat.reduceSub, Nat.reduceLeDiff, Nat.reduceLT, Int.reduceEq, Nat.reduceMul, h1]
    refine Yn2 fun r2 h2 => ?_
    have n2 := h2
    simp only [put_none_eq, ne_eq] at n2
    simp (maxDischargeDepth := 9) only [↓gB, gV, gT, reduceIte, reduceCtorEq, Nat.reduceEqDiff, Nat.reduceAdd, Nat.reduceSub, Nat.reduceLeDiff, Nat.reduceLT, Int.reduceEq, Nat.reduceMul, h1, h2, n2]
    have n21 : r1 ≠ r2 := fun q => n2.1 q.symm
    have g2 := n2.2
    have z1 : ((G.put r1 (.cells [.slice va ns.length vc, .slice wa ar.length wc, .slice ua bs.length uc].toArray 26 (0, 0), true)).put r2 (.cells [.slice none 0 0, .slice none 0 0, .slice none 0 0].toArray 26 (0, 0), true)) r1 = some (.cells [.slice va ns.length vc, .slice wa ar.length wc, .slice ua bs.length uc].toArray 26 (0, 0), true) := (put_not _ _ n21).trans (put_self _ _ _)
    focus
      rw [N_cut]
      refine ⟨_, sub_refl _, r1, r2, ?_, ?_, ?_, ?_, ?_, ?_, ?_, ?_, ?_, ?_, ?_, ?_, by simp (maxDischargeDepth := 9) only [↓gB, gV, gT, reduceIte, reduceCtorEq, Nat.reduceEqDiff, Nat.reduceAdd, Nat.reduceSub, Nat.reduceLeDiff, Nat.reduceLT, Int.reduceEq, Nat.reduceMul, h1, h2, n2, n21, g2, z1, nat_succ, and_self]⟩
      · (exact fun r h => ne_of_none z1 h; done)
      · (exact fun r h => ne_of_none (put_self _ _ _) h; done)
      · (exact fun r h => GH.le.none ((le_put h1 _).trans (le_put h2 _)) h; done)
      · assumption
      · assumption
      · assumption
      · assumption
      · exact put_self _ _ _
      · exact RSl.put _ (by assumption) (RSl.put _ (by assumption) (by assumption))
      · exact RSl.put _ (by assumption) (RSl.put _ (by assumption) (by assumption))
      · exact RSl.put _ (by assumption) (RSl.put _ (by assumption) (by assumption))
      · (simp (maxDischargeDepth := 9) only [le_self, le_puts, le_put0, sub_self, sub_puts, sub_put0, h1, h2, n2, g2]; done)
  · simp (maxDischargeDepth := 9) only [↓gB, gV, gT, reduceIte, reduceCtorEq, Nat.reduceEqDiff, Nat.reduceAdd, Nat.reduceSub, Nat.reduceLeDiff, Nat.reduceLT, Int.reduceEq, Nat.reduceMul, nn1, nn2, nn3, n12, g1, g2, y1, y2, f1, f2]
    refine Xdraw_intro [0, 1, 3, 4, 2, 5, 6, 7, 8] mixed (by kernel_rfl) (by decide +kernel) ?_
    simp (maxDischargeDepth := 9) only [↓gB, gV, gT, reduceIte, reduceCtorEq, Nat.reduceEqDiff, Nat.reduceAdd, Nat.reduceSub, Nat.reduceLeDiff, Nat.reduceLT, Int.reduceEq, Nat.reduceMul, nn1, nn2, nn3, n12, g1, g2, y1, y2, f1, f2]
    refine Ycg (g24 (by assumption) (by assumption)) ?_ ?_
    · exact upRSl _ _
    intro u1 G1 l1 w1
    replace y1 := l1 _ _ y1
    replace y2 := l1 _ _ y2
    replace hv := RSl.le hv l1
    replace hw := RSl.le hw l1
    replace hu := RSl.le hu l1
    replace hle := GH.le.trans hle l1
    obtain ⟨aw1, cw1, rfl⟩ := RSl.val w1
    simp (maxDischargeDepth := 9) only [↓gB, gV, gT, reduceIte, reduceCtorEq, Nat.reduceEqDiff, Nat.reduceAdd, Nat.reduceSub, Nat.reduceLeDiff, Nat.reduceLT, Int.reduceEq, Nat.reduceMul, nn1, nn2, nn3, n12, g1, g2, f1, f2, y1, y2]
    refine Ycg (g25 (by assumption) (by assumption)) ?_ ?_
    · exact upRSl _ _
    intro u2 G2 l2 w2
    replace l1 := GH.le.trans l1 l2
    replace y1 := l2 _ _ y1
    replace y2 := l2 _ _ y2
    replace hv := RSl.le hv l2
    replace hw := RSl.le hw l2
    replace hu := RSl.le hu l2
    replace hle := GH.le.trans hle l2
    replace w1 := RSl.le w1 l2
    obtain ⟨aw2, cw2, rfl⟩ := RSl.val w2
    simp (maxDischargeDepth := 9) only [↓gB, gV, gT, reduceIte, reduceCtorEq, Nat.reduceEqDiff, Nat.reduceAdd, Nat.reduceSub, Nat.reduceLeDiff, Nat.reduceLT, Int.reduceEq, Nat.reduceMul, nn1, nn2, nn3, n12, g1, g2, f1, f2, y1, y2]
    refine Yn3 fun r3 h3 k3 => ?_
    simp (maxDischargeDepth := 9) only [↓gB, gV, gT, reduceIte, reduceCtorEq, Nat.reduceEqDiff, Nat.reduceAdd, Nat.reduceSub, Nat.reduceLeDiff, Nat.reduceLT, Int.reduceEq, Nat.reduceMul, nn1, nn2, nn3, n12, g1, g2, f1, f2, y1, y2, h3]
    have n13 : r1 ≠ r3 := nn1 _ h3
    have n23 : r2 ≠ r3 := nn2 _ h3
    have g3 : G r3 = none := nn3 _ h3
    generalize aw1 = pa at *
    generalize cw1 = pc at *
    generalize aw2 = qa at *
    generalize cw2 = qc at *
    focus
      refine Xloop_intro _ _ _ _ _ (fun k f G' => ∃ (i : Nat) (o : Value), k = ar.length - i ∧ (i ≤ ar.length) ∧ (G' r2 = some (.cells [.slice none 0 0, .slice none 0 0, .slice none 0 0].toArray 26 (0, 0), true)) ∧ (G' r3 = some (.cells [.slice pa ns.length pc, o, .slice qa bs.length qc].toArray 26 (0, 0), true)) ∧ (Row rArc 56 G G' o (ar.take i)) ∧ (RSl rNode G' (.slice pa ns.length pc) ns) ∧ (RSl rArc G' (.slice wa ar.length wc) ar) ∧ (RSl rBan G' (.slice qa bs.length qc) bs) ∧ (G.le G') ∧ f 16 = V i ∧ f 2 = Go.Value.pointer (Option.some { block := r2, off := 0 }) ∧ f 3 = Go.Value.pointer (Option.some { block := r3, off := 0 }) ∧ f 14 = Go.Value.slice wa ar.length wc ∧ f 15 = Go.Value.int Go.IntKind.i64 ↑ar.length) _ ⟨0, .slice none 0 0, rfl, ?_, ?_, ?_, ?_, ?_, ?_, ?_, ?_, by simp (maxDischargeDepth := 9) only [↓gB, gV, gT, reduceIte, reduceCtorEq, Nat.reduceEqDiff, Nat.reduceAdd, Nat.reduceSub, Nat.reduceLeDiff, Nat.reduceLT, Int.reduceEq, Nat.reduceMul, nn1, nn2, nn3, n12, g1, g2, f1, f2, y1, y2, h3, n13, n23, g3, and_self]⟩ ?_
      · omega
      · exact (put_not _ _ (by assumption)).trans (by assumption)
      · exact put_self _ _ _
      · (exact Row.nil; done)
      · (exact rslK _ k3 (by assumption); done)
      · (exact rslK _ k3 (by assumption); done)
      · (exact rslK _ k3 (by assumption); done)
      · exact le_put_new (by assumption) (by assumption) _
      rintro k f G' ⟨i, o, rfl, hi, y2, y3, hrow, vn, hw, vb, hle, f16, f2, f3, f14, f15⟩
    obtain ⟨ao, co, rfl⟩ := hrow.val
    simp (maxDischargeDepth := 9) only [↓gB, gV, gT, reduceIte, reduceCtorEq, Nat.reduceEqDiff, Nat.reduceAdd, Nat.reduceSub, Nat.reduceLeDiff, Nat.reduceLT, Int.reduceEq, Nat.reduceMul, nn1, nn2, nn3, n12, g1, g2, f1, f2, y1, y2, h3, n13, n23, g3, y2, f16, f2, f3, f14, f15, y3]
    refine Xc_split _ _ _ _ _ (fun c1 => ?_) (fun c1 => ?_)
    · obtain ⟨x, hx⟩ : ∃ x, ar[i]? = some x := ⟨_, List.getElem?_eq_getElem (by omega)⟩
      have hxk := hk x (List.mem_of_getElem? hx)
      have htl : (ar.take i).length = i := by rw [List.length_take]; omega
      simp (maxDischargeDepth := 9) only [↓gB, gV, gT, reduceIte, reduceCtorEq, Nat.reduceEqDiff, Nat.reduceAdd, Nat.reduceSub, Nat.reduceLeDiff, Nat.reduceLT, Int.reduceEq, Nat.reduceMul, nn1, nn2, nn3, n12, g1, g2, f1, f2, y1, y2, h3, n13, n23, g3, y2, f16, f2, f3, f14, f15, y3, c1]
      obtain ⟨x1, a1, s1, m1, rfl, ⟨v1, rfl, w1⟩, e1⟩ := hw.at (i) (by omega) 5 rfl
      obtain ⟨aw1, cw1, rfl⟩ := RSl.val w1
      simp (maxDischargeDepth := 9) only [↓gB, gV, gT, reduceIte, reduceCtorEq, Nat.reduceEqDiff, Nat.reduceAdd, Nat.reduceSub, Nat.reduceLeDiff, Nat.reduceLT, Int.reduceEq, Nat.reduceMul, nn1, nn2, nn3, n12, g1, g2, f1, f2, y2, h3, n13, n23, g3, y2, f16, f2, f3, f15, y3, c1, y1, f14, e1]
      refine vguard_intro (by simp) ?_
      refine Yn2 fun r4 h4 => ?_
      simp (maxDischargeDepth := 9) only [↓gB, gV, gT, reduceIte, reduceCtorEq, Nat.reduceEqDiff, Nat.reduceAdd, Nat.reduceSub, Nat.reduceLeDiff, Nat.reduceLT, Int.reduceEq, Nat.reduceMul, nn1, nn2, nn3, n12, g1, g2, f1, f2, y2, h3, n13, n23, g3, y2, f16, f2, f3, f15, y3, c1, y1, f14, e1, h4]
      refine Xdraw_intro [0, 1, 2, 3, 4, 5, 6, 7] mixed (by kernel_rfl) (by decide +kernel) ?_
      simp (maxDischargeDepth := 9) only [↓gB, gV, gT, reduceIte, reduceCtorEq, Nat.reduceEqDiff, Nat.reduceAdd, Nat.reduceSub, Nat.reduceLeDiff, Nat.reduceLT, Int.reduceEq, Nat.reduceMul, nn1, nn2, nn3, n12, g1, g2, f1, f2, y2, h3, n13, n23, g3, y2, f16, f2, f3, f15, y3, c1, y1, f14, e1, h4]
      obtain rfl : x = x1 := by rw [hx] at m1; cases m1; rfl
      have n34 : r3 ≠ r4 := ne_of_none y3 h4
      simp (maxDischargeDepth := 9) only [↓gB, gV, gT, reduceIte, reduceCtorEq, Nat.reduceEqDiff, Nat.reduceAdd, Nat.reduceSub, Nat.reduceLeDiff, Nat.reduceLT, Int.reduceEq, Nat.reduceMul, nn1, nn2, nn3, n12, g1, g2, f1, f2, y2, h3, n13, n23, g3, y2, f16, f2, f3, f15, y3, c1, y1, f14, h4, e1, n34]
      have q4_0 := GH.le.none hle h4
      have q4_1 := Row.fresh hrow h4
      have l4 := le_put h4 ((Go.Obj.cells #[Go.Value.string x.Key, Go.Value.string x.From, Go.Value.string x.To, Go.Value.int Go.IntKind.i64 x.Long, Go.Value.slice aw1 x.Knots.length cw1] 56, Bool.true))
      have y4 := put_self G' r4 ((Go.Obj.cells #[Go.Value.string x.Key, Go.Value.string x.From, Go.Value.string x.To, Go.Value.int Go.IntKind.i64 x.Long, Go.Value.slice aw1 x.Knots.length cw1] 56, Bool.true))
      generalize GH.put G' r4 ((Go.Obj.cells #[Go.Value.string x.Key, Go.Value.string x.From, Go.Value.string x.To, Go.Value.int Go.IntKind.i64 x.Long, Go.Value.slice aw1 x.Knots.length cw1] 56, Bool.true)) = G4 at *
      replace y2 := l4 _ _ y2
      replace vn := RSl.le vn l4
      replace vb := RSl.le vb l4
      replace hle := GH.le.trans hle l4
      replace y3 := l4 _ _ y3
      replace hrow := Row.le hrow l4
      replace hw := RSl.le hw l4
      replace w1 := RSl.le w1 l4
      refine Ycg (g26 (by assumption) (by assumption)) ?_ ?_
      · exact fun _ _ _ hl q => by obtain ⟨z0, w0', rfl⟩ := q; exact ⟨z0, (by first | exact w0' | exact RSl.le w0' hl | exact Row.le w0' hl | exact hl _ _ w0' | exact GH.le.trans w0' hl), rfl⟩
      intro u3 G3 l3 w3
      replace l4 := GH.le.trans l4 l3
      replace y4 := l3 _ _ y4
      replace y2 := l3 _ _ y2
      replace vn := RSl.le vn l3
      replace vb := RSl.le vb l3
      replace hle := GH.le.trans hle l3
      replace y3 := l3 _ _ y3
      replace hrow := Row.le hrow l3
      replace hw := RSl.le hw l3
      replace w1 := RSl.le w1 l3
      obtain ⟨z3, w3', rfl⟩ := w3
      obtain ⟨aw3', cw3', rfl⟩ := RSl.val w3'
      simp (maxDischargeDepth := 9) only [↓gB, gV, gT, reduceIte, reduceCtorEq, Nat.reduceEqDiff, Nat.reduceAdd, Nat.reduceSub, Nat.reduceLeDiff, Nat.reduceLT, Int.reduceEq, Nat.reduceMul, nn1, nn2, nn3, n12, g1, g2, f1, f2, y2, h3, n13, n23, g3, f16, f2, f3, f15, c1, y1, f14, h4, e1, n34, q4_0, y4, y2, y3]
      refine Yn3 fun r5 h5 k5 => ?_
      simp (maxDischargeDepth := 9) only [↓gB, gV, gT, reduceIte, reduceCtorEq, Nat.reduceEqDiff, Nat.reduceAdd, Nat.reduceSub, Nat.reduceLeDiff, Nat.reduceLT, Int.reduceEq, Nat.reduceMul, nn1, nn2, nn3, n12, g1, g2, f1, f2, y2, h3, n13, n23, g3, f16, f2, f3, f15, c1, y1, f14, h4, e1, n34, q4_0, y4, y2, y3, h5]
      have hrow5 := Row.le hrow (le_put3 k5)
      refine Row.app1 sl23 hrow5 (by exact put_self _ _ _) (y := x) ⟨_, rfl, RSl.le w3' (le_put3 k5)⟩ (by omega) (hle.trans (le_put3 k5)) fun v6 G6 w6 k6 l6 => ?_
      have il6 := Row.ileOf hrow5 k6
      have y26 := k6 _ _ (le_put3 k5 _ _ y2) (Row.notTy hrow5 (le_put3 k5 _ _ y2) (by decide))
      have y36 := k6 _ _ (le_put3 k5 _ _ y3) (Row.notTy hrow5 (le_put3 k5 _ _ y3) (by decide))
      have vn6 := (RSl.le vn (le_put3 k5)).ile il6
      have vb6 := (RSl.le vb (le_put3 k5)).ile il6
      have hw6 := (RSl.le hw (le_put3 k5)).ile il6
      rw [← take_at m1] at w6
      obtain ⟨a6, c6, rfl⟩ := w6.val
      clear y2 y3 vn vb hw hrow hle
      focus
        simp (maxDischargeDepth := 9) only [↓gB, gV, gT, reduceIte, reduceCtorEq, Nat.reduceEqDiff, Nat.reduceAdd, Nat.reduceSub, Nat.reduceLeDiff, Nat.reduceLT, Int.reduceEq, Nat.reduceMul, nn1, nn2, nn3, n12, g1, g2, f1, f2, y2, h3, n13, n23, g3, f16, f2, f3, f15, c1, y1, f14, h4, e1, n34, q4_0, y4, h5, k6, y26, y36]
        have q1 : Go.IntKind.i64.wrap (↑i + 1) = ↑i + 1 := wrap_id (by omega)
        simp (maxDischargeDepth := 9) only [↓gB, gV, gT, reduceIte, reduceCtorEq, Nat.reduceEqDiff, Nat.reduceAdd, Nat.reduceSub, Nat.reduceLeDiff, Nat.reduceLT, Int.reduceEq, Nat.reduceMul, nn1, nn2, nn3, n12, g1, g2, f1, f2, y2, h3, n13, n23, g3, f16, f2, f3, f15, c1, y1, f14, h4, e1, n34, q4_0, y4, h5, k6, y26, y36, q1]
        rw [N_lp]
        refine ⟨_, ?_, _, sub_refl _, i + 1, .slice a6 (ar.take (i + 1)).length c6, rfl, ?_, ?_, ?_, ?_, ?_, ?_, ?_, ?_, by simp (maxDischargeDepth := 9) only [↓gB, gV, gT, reduceIte, reduceCtorEq, Nat.reduceEqDiff, Nat.reduceAdd, Nat.reduceSub, Nat.reduceLeDiff, Nat.reduceLT, Int.reduceEq, Nat.reduceMul, nn1, nn2, nn3, n12, g1, g2, f1, f2, y2, h3, n13, n23, g3, f16, f2, f3, f15, c1, y1, f14, h4, e1, n34, q4_0, y4, h5, k6, y26, y36, q1, nat_succ, and_self]⟩
        · omega
        · omega
        · exact (put_not _ _ (by assumption)).trans (by assumption)
        · exact put_self _ _ _
        · (exact Row.over _ w6 y36 (Row.notTy w6 y36 (by decide)); done)
        · exact RSl.ile (by assumption) (ile_put (by assumption) _)
        · exact RSl.ile (by assumption) (ile_put (by assumption) _)
        · exact RSl.ile (by assumption) (ile_put (by assumption) _)
        · exact le_put_new (by assumption) (by assumption) _
    · have htl2 : ar.take i = ar := List.take_of_length_le (by omega)
      rw [htl2] at hrow
      simp (maxDischargeDepth := 9) only [↓gB, gV, gT, reduceIte, reduceCtorEq, Nat.reduceEqDiff, Nat.reduceAdd, Nat.reduceSub, Nat.reduceLeDiff, Nat.reduceLT, Int.reduceEq, Nat.reduceMul, nn1, nn2, nn3, n12, g1, g2, f1, f2, y1, y2, h3, n13, n23, g3, y2, f16, f2, f3, f14, f15, y3, c1, htl2]
      obtain ⟨E, hs, hrE, hke, hleE⟩ := (Row.over (.cells [.slice pa ns.length pc, .slice ao ar.length co, .slice qa bs.length qc].toArray 26 (0, 0), true) hrow y2 (Row.notTy hrow y2 (by decide))).freeze
      have il := Row.ileOf (Row.over (.cells [.slice pa ns.length pc, .slice ao ar.length co, .slice qa bs.length qc].toArray 26 (0, 0), true) hrow y2 (Row.notTy hrow y2 (by decide))) hke
      exact Kup_gives hs (hleE (le_put_new hle g2 _)) ⟨_, _, _, (RSl.over _ vn y2).ile il, hrE, (RSl.over _ vb y2).ile il, rfl⟩
end Go.Proofs.YtjhfhacdjmokaaaGreatDoor
namespace Go.Proofs.YtjhfhacdjmokaaaGreatDoor
open Go Go.GL
attribute [local irreducible] Ycall GCalls
set_option maxRecDepth 10000
set_option maxHeartbeats 0
theorem slt_s (a b : ByteArray) : slt a.toList b.toList = sLt a b := by
  rw [slt, bl_eq, ByteArray.toList_eq, ByteArray.toList_eq]; rfl
theorem pvMinS0 {P : Program} (T U : TypeId) (a b : ByteArray) : pvB1 P .min [T, U] [.string a, .string b] = some (.string (if (slt a.toList b.toList || a.toList == b.toList) = true then a else b)) := det_some fun G K => by
  simp [Builtin.min_, Builtin.min2, Op.stringOp, gwp_pure, slt, asBool]
theorem pvMaxS0 {P : Program} (T U : TypeId) (a b : ByteArray) : pvB1 P .max [T, U] [.string a, .string b] = some (.string (if (!(slt a.toList b.toList)) = true then a else b)) := det_some fun G K => by
  simp [Builtin.max_, Builtin.max2, Op.stringOp, gwp_pure, slt, asBool]
def minS (a b : ByteArray) : ByteArray := if sLt b a = true then b else a
def maxS (a b : ByteArray) : ByteArray := if sLt a b = true then b else a
theorem pvMinS {P : Program} (T U : TypeId) (a b : ByteArray) : pvB1 P .min [T, U] [.string a, .string b] = some (.string (minS a b)) := by
  rw [pvMinS0, le_lt]; unfold minS; cases sLt b a <;> rfl
theorem pvMaxS {P : Program} (T U : TypeId) (a b : ByteArray) : pvB1 P .max [T, U] [.string a, .string b] = some (.string (maxS a b)) := by
  rw [pvMaxS0, slt_s]; unfold maxS; cases sLt a b <;> rfl
theorem keys_same {x : SArc} (h : x.From = x.To) : keysOf x = [minS x.From x.To] := by
  have h0 : ¬ sCmp x.To x.To < 0 := by rw [(sCmp_eq _ _).2 rfl]; decide
  unfold keysOf minS
  rw [h, sLt_irrefl]
  simp [isort, isortTo, sink, compF, h0]
theorem keys_two {x : SArc} (h : ¬ x.From = x.To) : keysOf x = [minS x.From x.To, maxS x.From x.To] := by
  unfold keysOf minS maxS
  cases h1 : sLt x.To x.From
  · have h2 : sLt x.From x.To = true := by
      cases h3 : sLt x.From x.To
      · exact absurd (sLt_tri h3 h1) h
      · rfl
    have h0 : ¬ sCmp x.To x.From < 0 := by rw [sCmp_lt, h1]; decide
    simp [isort, isortTo, sink, compF, h0, h2, h]
  · have h0 : sCmp x.To x.From < 0 := (sCmp_lt _ _).2 h1
    have h2 := sLt_asymm h1
    simp [isort, isortTo, sink, swp, compF, h0, h2, Ne.symm h]
def drvArc : SArc := ⟨⟨#[97]⟩, ⟨#[120]⟩, ⟨#[121]⟩, 5, [⟨0, 100⟩, ⟨1000, 600⟩]⟩
theorem drv0 : timeE drvArc 500 = 0 := by decide +kernel
theorem drv1 : timeF drvArc.Knots 500 = 350 := by decide +kernel
theorem drv : timeV drvArc 500 = .tuple #[V 350, V 0] := by unfold timeV; rw [if_pos drv0, drv1]
theorem p9 {G0 : GH}   : Pure Tryz.prog G0 9 [] (.bool true) := by
  intro G hG
  clear hG G0
  refine enter Tryz.func9 17 #[.tmp 0] rfl Tryz.ntmps9 rfl (by decide +kernel) rfl ?_
  simp (maxDischargeDepth := 9) only [↓gB, gV, gT, reduceIte, reduceCtorEq, Nat.reduceEqDiff, Nat.reduceAdd, Nat.reduceSub, Nat.reduceLeDiff, Nat.reduceLT, Int.reduceEq, Nat.reduceMul]
  refine Yn1 fun r1 h1 => ?_
  simp (maxDischargeDepth := 9) only [↓gB, gV, gT, reduceIte, reduceCtorEq, Nat.reduceEqDiff, Nat.reduceAdd, Nat.reduceSub, Nat.reduceLeDiff, Nat.reduceLT, Int.reduceEq, Nat.reduceMul, h1]
  have hc : Cellsof rKnot (G.put r1 (.cells [V 0, V 100, V 1000, V 600].toArray 70 (0, 0), true)) drvArc.Knots [V 0, V 100, V 1000, V 600] := ⟨[[V 0, V 100], [V 1000, V 600]], by simp, rfl, by
    intro i y c h1 h2
    match i with
    | 0 => simp [drvArc] at h1 h2; subst h1 h2; rfl
    | 1 => simp [drvArc] at h1 h2; subst h1 h2; rfl
    | i + 2 => simp at h2⟩
  obtain ⟨G2, hs, hv, hk, hil, hle⟩ := frz_list (put_self G r1 (.cells [V 0, V 100, V 1000, V 600].toArray 70 (0, 0), true)) hc
  refine Ycsub hs ?_
  have hl := hle G (le_put h1 _) h1
  refine Ycp (p32 (x := drvArc) hv (by simp [drvArc])) ?_
  simp (maxDischargeDepth := 9) only [↓gB, gV, gT, reduceIte, reduceCtorEq, Nat.reduceEqDiff, Nat.reduceAdd, Nat.reduceSub, Nat.reduceLeDiff, Nat.reduceLT, Int.reduceEq, Nat.reduceMul, h1, hk, drv]
  exact Kup_val (by simp (maxDischargeDepth := 9) only [le_self, le_puts, le_put0, h1, hl]) rfl
end Go.Proofs.YtjhfhacdjmokaaaGreatDoor
namespace Go.Proofs.YtjhfhacdjmokaaaGreatDoor
open Go Go.GL
attribute [local irreducible] Ycall GCalls
set_option maxRecDepth 10000
set_option maxHeartbeats 0
theorem p65 {G0 : GH} {v : Value} {ka kb : ByteArray} {l : List SBan} {cf : SBan → Int} {g : Nat} (hv : RSl rBan G0 v l) (hg : GL.Enters Tryz.prog g) (hn : (l.length : Int) ≤ 4611686018427387903) (hmono : ∀ (i j : Nat) x y, i < j → l[i]? = some x → l[j]? = some y → cf y < 0 → cf x < 0) (hf : ∀ (G0' : GH), G0.le G0' → ∀ x cs, (rBan).R G0' x cs → Pure Tryz.prog G0' g [.agg cs.toArray, .agg #[.string ka, .string kb]] (V (cf x))) : Pure Tryz.prog G0 65 [v, .agg #[.string ka, .string kb], .func (.func g) #[] #[]] (.tuple #[V (bsPos cf l), .bool (bsHas cf l)]) := by
  intro G hG; replace hv := hv.le hG; replace hf := fun (G' : GH) (h : G.le G') => hf G' (hG.trans h)
  clear hG G0
  refine enter Tryz.func65 49 #[.tmp 6, .tmp 7] rfl Tryz.ntmps65 rfl (by decide +kernel) rfl ?_
  obtain ⟨a, c, rfl⟩ := hv.val
  have hg' := eq_true hg
  simp (maxDischargeDepth := 9) only [↓gB, gV, gT, reduceIte, reduceCtorEq, Nat.reduceEqDiff, Nat.reduceAdd, Nat.reduceSub, Nat.reduceLeDiff, Nat.reduceLT, Int.reduceEq, Nat.reduceMul]
  refine Yn2 fun r1 h1 => ?_
  simp (maxDischargeDepth := 9) only [↓gB, gV, gT, reduceIte, reduceCtorEq, Nat.reduceEqDiff, Nat.reduceAdd, Nat.reduceSub, Nat.reduceLeDiff, Nat.reduceLT, Int.reduceEq, Nat.reduceMul, h1]
  focus
    refine Xloop_intro _ _ _ _ _ (fun k f G' => ∃ (i : Nat) (j : Nat), k = j - i ∧ (i ≤ j) ∧ (j ≤ l.length) ∧ (∀ (k : Nat) x, k < i → l[k]? = some x → cf x < 0) ∧ (∀ (k : Nat) x, j ≤ k → l[k]? = some x → ¬ cf x < 0) ∧ (G.put r1 (Go.Obj.cells #[Go.Value.string ka, Go.Value.string kb] 62, Bool.true) = G') ∧ f 9 = V i ∧ f 10 = V j ∧ f 0 = Go.Value.slice a l.length c ∧ f 2 = Go.Value.func (Go.Fn.func g) #[] #[] ∧ f 4 = Go.Value.pointer (Option.some { block := r1, off := 0 }) ∧ f 8 = Go.Value.int Go.IntKind.i64 ↑l.length) _ ⟨0, l.length, rfl, ?_, ?_, ?_, ?_, rfl, by simp (maxDischargeDepth := 9) only [↓gB, gV, gT, reduceIte, reduceCtorEq, Nat.reduceEqDiff, Nat.reduceAdd, Nat.reduceSub, Nat.reduceLeDiff, Nat.reduceLT, Int.reduceEq, Nat.reduceMul, h1, and_self]⟩ ?_
    · omega
    · omega
    · omega
    · (intro k x hk hx; rw [List.getElem?_eq_none hk] at hx; cases hx; done)
    rintro k f G' ⟨i, j, rfl, hij, hj, hb1, hb2, rfl, f9, f10, f0, f2, f4, f8⟩
  have hm := @mid_eq i j (by omega)
  simp (maxDischargeDepth := 9) only [↓gB, gV, gT, reduceIte, reduceCtorEq, Nat.reduceEqDiff, Nat.reduceAdd, Nat.reduceSub, Nat.reduceLeDiff, Nat.reduceLT, Int.reduceEq, Nat.reduceMul, h1, f9, f10, f0, f2, f4, f8, hm]
  refine Xc_split _ _ _ _ _ (fun c1 => ?_) (fun c1 => ?_)
  · simp (maxDischargeDepth := 9) only [↓gB, gV, gT, reduceIte, reduceCtorEq, Nat.reduceEqDiff, Nat.reduceAdd, Nat.reduceSub, Nat.reduceLeDiff, Nat.reduceLT, Int.reduceEq, Nat.reduceMul, h1, f9, f10, f0, f2, f4, f8, hm, c1, hg']
    refine vguard_intro (by omega) ?_
    refine Xdraw_intro [0, 1, 2, 3, 4, 5, 6, 7] mixed (by kernel_rfl) (by decide +kernel) ?_
    simp (maxDischargeDepth := 9) only [↓gB, gV, gT, reduceIte, reduceCtorEq, Nat.reduceEqDiff, Nat.reduceAdd, Nat.reduceSub, Nat.reduceLeDiff, Nat.reduceLT, Int.reduceEq, Nat.reduceMul, h1, f9, f10, f0, f2, f4, f8, hm, c1, hg']
    obtain ⟨x1, a1, s1, m1, rfl, rfl, e1⟩ := hv.at ((i + j) / 2) (by omega) 2 rfl
    simp (maxDischargeDepth := 9) only [↓gB, gV, gT, reduceIte, reduceCtorEq, Nat.reduceEqDiff, Nat.reduceAdd, Nat.reduceSub, Nat.reduceLeDiff, Nat.reduceLT, Int.reduceEq, Nat.reduceMul, h1, f9, f10, f2, f4, f8, hm, c1, f0, e1, hg']
    refine vguard_intro (by omega) ?_
    refine Ycp (hf _ (le_put h1 _) x1 _ rfl) ?_
    focus
      simp (maxDischargeDepth := 9) only [↓gB, gV, gT, reduceIte, reduceCtorEq, Nat.reduceEqDiff, Nat.reduceAdd, Nat.reduceSub, Nat.reduceLeDiff, Nat.reduceLT, Int.reduceEq, Nat.reduceMul, h1, f9, f10, f2, f4, f8, hm, c1, f0, e1, hg']
      refine Xc_split _ _ _ _ _ (fun c2 => ?_) (fun c2 => ?_)
      rotate_left 1
      focus
        simp (maxDischargeDepth := 9) only [↓gB, gV, gT, reduceIte, reduceCtorEq, Nat.reduceEqDiff, Nat.reduceAdd, Nat.reduceSub, Nat.reduceLeDiff, Nat.reduceLT, Int.reduceEq, Nat.reduceMul, h1, f9, f10, f2, f4, f8, hm, c1, f0, e1, c2, hg']
        have q1 : Go.IntKind.i64.wrap (↑i + ↑j) = ↑i + ↑j := wrap_id (by omega)
        simp (maxDischargeDepth := 9) only [↓gB, gV, gT, reduceIte, reduceCtorEq, Nat.reduceEqDiff, Nat.reduceAdd, Nat.reduceSub, Nat.reduceLeDiff, Nat.reduceLT, Int.reduceEq, Nat.reduceMul, h1, f9, f10, f2, f4, f8, hm, c1, f0, e1, c2, q1, hg']
        rw [N_lp]
        refine ⟨_, ?_, _, ?_, i, (i + j) / 2, rfl, ?_, ?_, ?_, ?_, rfl, by simp (maxDischargeDepth := 9) only [↓gB, gV, gT, reduceIte, reduceCtorEq, Nat.reduceEqDiff, Nat.reduceAdd, Nat.reduceSub, Nat.reduceLeDiff, Nat.reduceLT, Int.reduceEq, Nat.reduceMul, h1, f9, f10, f2, f4, f8, hm, c1, f0, e1, c2, q1, hg', nat_succ, and_self]⟩
        · omega
        · exact sub_refl _
        · omega
        · omega
        · assumption
        · (intro k x hk hx hlt; by_cases e : k = (i + j) / 2; (subst e; rw [m1] at hx; cases hx; exact c2 hlt); exact c2 (hmono ((i + j) / 2) k x1 x (by omega) m1 hx hlt); done)
      rotate_right 1
      simp (maxDischargeDepth := 9) only [↓gB, gV, gT, reduceIte, reduceCtorEq, Nat.reduceEqDiff, Nat.reduceAdd, Nat.reduceSub, Nat.reduceLeDiff, Nat.reduceLT, Int.reduceEq, Nat.reduceMul, h1, f9, f10, f2, f4, f8, hm, c1, f0, e1, c2, hg']
      have q1 : Go.IntKind.i64.wrap (↑i + ↑j) = ↑i + ↑j := wrap_id (by omega)
      simp (maxDischargeDepth := 9) only [↓gB, gV, gT, reduceIte, reduceCtorEq, Nat.reduceEqDiff, Nat.reduceAdd, Nat.reduceSub, Nat.reduceLeDiff, Nat.reduceLT, Int.reduceEq, Nat.reduceMul, h1, f9, f10, f2, f4, f8, hm, c1, f0, e1, c2, q1, hg']
      have q2 : Go.IntKind.i64.wrap (↑((i + j) / 2) + 1) = ↑((i + j) / 2) + 1 := wrap_id (by omega)
      simp (maxDischargeDepth := 9) only [↓gB, gV, gT, reduceIte, reduceCtorEq, Nat.reduceEqDiff, Nat.reduceAdd, Nat.reduceSub, Nat.reduceLeDiff, Nat.reduceLT, Int.reduceEq, Nat.reduceMul, h1, f9, f10, f2, f4, f8, hm, c1, f0, e1, c2, q1, q2, hg']
      rw [N_lp]
      refine ⟨_, ?_, _, ?_, (i + j) / 2 + 1, j, rfl, ?_, ?_, ?_, ?_, rfl, by simp (maxDischargeDepth := 9) only [↓gB, gV, gT, reduceIte, reduceCtorEq, Nat.reduceEqDiff, Nat.reduceAdd, Nat.reduceSub, Nat.reduceLeDiff, Nat.reduceLT, Int.reduceEq, Nat.reduceMul, h1, f9, f10, f2, f4, f8, hm, c1, f0, e1, c2, q1, q2, hg', nat_succ, and_self]⟩
      · omega
      · exact sub_refl _
      · omega
      · assumption
      · (intro k x hk hx; by_cases e : k = (i + j) / 2; (subst e; rw [m1] at hx; cases hx; exact c2); exact hmono k ((i + j) / 2) x x1 (by omega) hx m1 c2; done)
      · assumption
  · have hp : bsPos cf l = i := bsPos_at (by omega) hb1 (fun k x hk => hb2 k x (by omega))
    simp (maxDischargeDepth := 9) only [↓gB, gV, gT, reduceIte, reduceCtorEq, Nat.reduceEqDiff, Nat.reduceAdd, Nat.reduceSub, Nat.reduceLeDiff, Nat.reduceLT, Int.reduceEq, Nat.reduceMul, h1, f9, f10, f0, f2, f4, f8, hm, c1, hg']
    refine Xdraw_intro [0, 1, 2, 3, 4, 5, 6, 7, 8, 9, 10, 11, 12, 13, 14, 15] mixed (by kernel_rfl) (by decide +kernel) ?_
    simp (maxDischargeDepth := 9) only [↓gB, gV, gT, reduceIte, reduceCtorEq, Nat.reduceEqDiff, Nat.reduceAdd, Nat.reduceSub, Nat.reduceLeDiff, Nat.reduceLT, Int.reduceEq, Nat.reduceMul, h1, f9, f10, f0, f2, f4, f8, hm, c1, hg']
    by_cases c2 : (i : Int) < l.length
    · simp (maxDischargeDepth := 9) only [↓gB, gV, gT, reduceIte, reduceCtorEq, Nat.reduceEqDiff, Nat.reduceAdd, Nat.reduceSub, Nat.reduceLeDiff, Nat.reduceLT, Int.reduceEq, Nat.reduceMul, h1, f9, f10, f0, f2, f4, f8, hm, c1, c2, hg']
      obtain ⟨x1, a1, s1, m1, rfl, rfl, e1⟩ := hv.at (i) (by omega) 2 rfl
      simp (maxDischargeDepth := 9) only [↓gB, gV, gT, reduceIte, reduceCtorEq, Nat.reduceEqDiff, Nat.reduceAdd, Nat.reduceSub, Nat.reduceLeDiff, Nat.reduceLT, Int.reduceEq, Nat.reduceMul, h1, f9, f10, f2, f4, f8, hm, c1, c2, f0, e1, hg']
      refine vguard_intro (by simp) ?_
      refine Ycp (hf _ (le_put h1 _) x1 _ rfl) ?_
      simp (maxDischargeDepth := 9) only [↓gB, gV, gT, reduceIte, reduceCtorEq, Nat.reduceEqDiff, Nat.reduceAdd, Nat.reduceSub, Nat.reduceLeDiff, Nat.reduceLT, Int.reduceEq, Nat.reduceMul, h1, f9, f10, f2, f4, f8, hm, c1, c2, f0, e1]
      refine Kup_val (by simp (maxDischargeDepth := 9) only [le_self, le_puts, le_put0, h1]) ?_
      focus (simp [hp, bsHas, m1]; done)
    · have hnone : l[i]? = none := List.getElem?_eq_none (by omega)
      simp (maxDischargeDepth := 9) only [↓gB, gV, gT, reduceIte, reduceCtorEq, Nat.reduceEqDiff, Nat.reduceAdd, Nat.reduceSub, Nat.reduceLeDiff, Nat.reduceLT, Int.reduceEq, Nat.reduceMul, h1, f9, f10, f0, f2, f4, f8, hm, c1, c2, hg']
      refine Kup_val (by simp (maxDischargeDepth := 9) only [le_self, le_puts, le_put0, h1]) ?_
      focus (simp [hp, bsHas, hnone]; done)
theorem banCmp_lt (a b c d : ByteArray) : banCmp a b c d < 0 ↔ sLt a c = true ∨ (a = c ∧ sLt b d = true) := by
  unfold banCmp; rw [orOf2]
  by_cases h : sCmp a c = 0
  · have e := (sCmp_eq _ _).1 h
    rw [if_pos h, sCmp_lt]
    subst e
    simp [sLt_irrefl]
  · rw [if_neg h, sCmp_lt]
    have e : a ≠ c := fun e => h ((sCmp_eq _ _).2 e)
    simp [e]
theorem banCmp_eq (a b c d : ByteArray) : banCmp a b c d = 0 ↔ a = c ∧ b = d := by
  unfold banCmp; rw [orOf2]
  by_cases h : sCmp a c = 0
  · have e := (sCmp_eq _ _).1 h
    rw [if_pos h, sCmp_eq]; simp [e]
  · rw [if_neg h]
    have e : a ≠ c := fun e => h ((sCmp_eq _ _).2 e)
    simp [h, e]
theorem banCmp_trans {a b c d e f : ByteArray} (h : banCmp a b c d < 0) (h2 : banCmp c d e f < 0) : banCmp a b e f < 0 := by
  rw [banCmp_lt] at *
  rcases h with h | ⟨rfl, h⟩ <;> rcases h2 with h2 | ⟨rfl, h2⟩
  · exact .inl (sLt_trans h h2)
  · exact .inl h
  · exact .inl h2
  · exact .inr ⟨rfl, sLt_trans h h2⟩
def bansUp (bs : List SBan) : Prop := bs.Pairwise fun x y => banCmp x.From x.To y.From y.To < 0
theorem bansUp_of : ∀ {l : List SBan}, (∀ (i : Nat) x y, l[i]? = some x → l[i + 1]? = some y → banCmp x.From x.To y.From y.To < 0) → bansUp l
  | [], _ => List.Pairwise.nil
  | [x], _ => List.pairwise_singleton _ _
  | x :: y :: l, h => by
    have ih : bansUp (y :: l) := bansUp_of fun i a b ha hb => h (i + 1) a b (by simpa using ha) (by simpa using hb)
    refine List.Pairwise.cons ?_ ih
    have h0 := h 0 x y rfl rfl
    intro z hz
    rcases List.mem_cons.1 hz with rfl | hz
    · exact h0
    · exact banCmp_trans h0 ((List.pairwise_cons.1 ih).1 z hz)
theorem bans_up {ar : List SArc} {bs : List SBan} (h : chk (banBad ar) none bs = 0) : bansUp bs :=
  bansUp_of fun i x y hx hy => by
    have hb := chk_prev h hy
    rw [prevOf_s, hx] at hb
    unfold banBad at hb
    split at hb
    · cases hb
    split at hb
    · cases hb
    split at hb
    · cases hb
    split at hb
    · cases hb
    · rename_i h4
      have h5 : ¬ banCmp y.From y.To x.From x.To ≤ 0 := by simpa using h4
      have := ban_flip x.From x.To y.From y.To
      omega
def bannedB (bs : List SBan) (a b : ByteArray) : Bool := bs.any fun x => decide (x = ⟨a, b⟩)
theorem bs_ban : ∀ {l : List SBan} (hs : bansUp l) (a b : ByteArray), bsHas (fun x => banCmp x.From x.To a b) l = bannedB l a b
  | [], _, a, b => by simp [bsHas, bannedB]
  | x :: l, hs, a, b => by
    have hs2 : bansUp l := (List.pairwise_cons.1 hs).2
    have hx := (List.pairwise_cons.1 hs).1
    have ih := bs_ban hs2 a b
    by_cases h : banCmp x.From x.To a b < 0
    · have hp : bsPos (fun x : SBan => banCmp x.From x.To a b) (x :: l) = bsPos (fun x : SBan => banCmp x.From x.To a b) l + 1 := by unfold bsPos; rw [List.takeWhile_cons_of_pos (by simpa using h)]; rfl
      have hh : bsHas (fun x : SBan => banCmp x.From x.To a b) (x :: l) = bsHas (fun x : SBan => banCmp x.From x.To a b) l := by unfold bsHas; rw [hp, List.getElem?_cons_succ]
      have hne : ¬ x = ⟨a, b⟩ := by rintro rfl; rw [(banCmp_eq a b a b).2 ⟨rfl, rfl⟩] at h; omega
      rw [hh, ih]; simp [bannedB, hne]
    · have hp : bsPos (fun x : SBan => banCmp x.From x.To a b) (x :: l) = 0 := by unfold bsPos; rw [List.takeWhile_cons_of_neg (by simpa using h)]; rfl
      have hh : bsHas (fun x : SBan => banCmp x.From x.To a b) (x :: l) = decide (banCmp x.From x.To a b = 0) := by unfold bsHas; rw [hp]; rfl
      rw [hh]
      by_cases he : x = ⟨a, b⟩
      · subst he
        simp [bannedB, (banCmp_eq a b a b).2 ⟨rfl, rfl⟩]
      · have h0 : ¬ banCmp x.From x.To a b = 0 := fun e => he (by obtain ⟨e1, e2⟩ := (banCmp_eq _ _ _ _).1 e; cases x; simp_all)
        have hn : ∀ y ∈ l, ¬ y = ⟨a, b⟩ := fun y hy e => by subst e; exact h (hx _ hy)
        have hl : bannedB l a b = false := by unfold bannedB; rw [List.any_eq_false]; intro y hy; simpa using hn y hy
        simp only [bannedB, List.any_cons] at hl ⊢
        rw [hl]; simp [h0, he]
theorem mono_ban {l : List SBan} (hs : bansUp l) (a b : ByteArray) : ∀ (i j : Nat) x y, i < j → l[i]? = some x → l[j]? = some y → banCmp y.From y.To a b < 0 → banCmp x.From x.To a b < 0 := by
  intro i j x y hij hx hy h
  obtain ⟨hi, rfl⟩ := List.getElem?_eq_some_iff.1 hx
  obtain ⟨hj, rfl⟩ := List.getElem?_eq_some_iff.1 hy
  exact banCmp_trans (List.pairwise_iff_getElem.1 hs i j hi hj hij) h
theorem p44 {G0 : GH} {v w u : Value} {bs : List SBan} {a b : ByteArray} {r : Nat} (hr : G0 r = some (.cells [v, w, u].toArray 26 (0, 0), true)) (hu : RSl rBan G0 u bs) (hn : (bs.length : Int) ≤ 4611686018427387903) (hs : bansUp bs) : Pure Tryz.prog G0 44 [.pointer (some ⟨r, 0, none⟩), .string a, .string b] (.bool (bannedB bs a b)) := by
  intro G hG; replace hr := hG _ _ hr; replace hu := hu.le hG
  clear hG G0
  refine enter Tryz.func44 21 #[.tmp 6] rfl Tryz.ntmps44 rfl (by decide +kernel) rfl ?_
  obtain ⟨ua, uc, rfl⟩ := hu.val
  have e := bs_ban hs a b
  simp (maxDischargeDepth := 9) only [↓gB, gV, gT, reduceIte, reduceCtorEq, Nat.reduceEqDiff, Nat.reduceAdd, Nat.reduceSub, Nat.reduceLeDiff, Nat.reduceLT, Int.reduceEq, Nat.reduceMul, hr, e]
  refine Ycp (p65 (cf := fun x => banCmp x.From x.To a b) hu (of_eq_true en40) hn (mono_ban hs a b) (fun G' _ x cs hx => by cases hx; exact p40)) ?_
  simp (maxDischargeDepth := 9) only [↓gB, gV, gT, reduceIte, reduceCtorEq, Nat.reduceEqDiff, Nat.reduceAdd, Nat.reduceSub, Nat.reduceLeDiff, Nat.reduceLT, Int.reduceEq, Nat.reduceMul, hr, e]
  exact Kup_val (le_refl _) rfl
end Go.Proofs.YtjhfhacdjmokaaaGreatDoor
namespace Go.Proofs.YtjhfhacdjmokaaaGreatDoor
open Go Go.GL
attribute [local irreducible] Ycall GCalls
set_option maxRecDepth 10000
set_option maxHeartbeats 0
def banIs (a b : ByteArray) (x : SBan) : Bool := decide (x = ⟨a, b⟩)
theorem p77 {G0 : GH} {v : Value} {l : List SBan} {a b : ByteArray} (hv : RSl rBan G0 v l) (hn : (l.length : Int) ≤ 9223372036854775807) : Pure Tryz.prog G0 77 [v, .agg #[.string a, .string b]] (V (match l.findIdx? (banIs a b) with | some i => (i : Int) | none => -1)) := by
  intro G hG; replace hv := hv.le hG
  clear hG G0
  refine enter Tryz.func77 19 #[.tmp 4] rfl Tryz.ntmps77 rfl (by decide +kernel) rfl ?_
  obtain ⟨va, vc, rfl⟩ := hv.val
  simp (maxDischargeDepth := 9) only [↓gB, gV, gT, reduceIte, reduceCtorEq, Nat.reduceEqDiff, Nat.reduceAdd, Nat.reduceSub, Nat.reduceLeDiff, Nat.reduceLT, Int.reduceEq, Nat.reduceMul]
  refine Yn2 fun r1 h1 => ?_
  simp (maxDischargeDepth := 9) only [↓gB, gV, gT, reduceIte, reduceCtorEq, Nat.reduceEqDiff, Nat.reduceAdd, Nat.reduceSub, Nat.reduceLeDiff, Nat.reduceLT, Int.reduceEq, Nat.reduceMul, h1]
  focus
    refine Xloop_intro _ _ _ _ _ (fun k f G' => ∃ (i : Nat), k = l.length - i ∧ (i ≤ l.length) ∧ ((l.take i).findIdx? (banIs a b) = none) ∧ (G.put r1 (Go.Obj.cells #[Go.Value.string a, Go.Value.string b] 62, Bool.true) = G') ∧ f 8 = V i ∧ f 0 = Go.Value.slice va l.length vc ∧ f 3 = Go.Value.pointer (Option.some { block := r1, off := 0 }) ∧ f 7 = Go.Value.int Go.IntKind.i64 ↑l.length) _ ⟨0, rfl, ?_, ?_, rfl, by simp (maxDischargeDepth := 9) only [↓gB, gV, gT, reduceIte, reduceCtorEq, Nat.reduceEqDiff, Nat.reduceAdd, Nat.reduceSub, Nat.reduceLeDiff, Nat.reduceLT, Int.reduceEq, Nat.reduceMul, h1, and_self]⟩ ?_
    · omega
    · rfl
    rintro k f G' ⟨i, rfl, hi, h, rfl, f8, f0, f3, f7⟩
  simp (maxDischargeDepth := 9) only [↓gB, gV, gT, reduceIte, reduceCtorEq, Nat.reduceEqDiff, Nat.reduceAdd, Nat.reduceSub, Nat.reduceLeDiff, Nat.reduceLT, Int.reduceEq, Nat.reduceMul, h1, f8, f0, f3, f7]
  refine Xc_split _ _ _ _ _ (fun c1 => ?_) (fun c1 => ?_)
  · obtain ⟨x, helx⟩ : ∃ x, l[i]? = some x := ⟨_, List.getElem?_eq_getElem (by omega)⟩
    cases hq : banIs a b x
    · have hne : ¬ x = ⟨a, b⟩ := by simpa [banIs] using hq
      have hxx : (decide (a = x.From) && decide (b = x.To)) = false := by
        cases hh : (decide (a = x.From) && decide (b = x.To)) with
        | false => rfl
        | true =>
          rw [Bool.and_eq_true, decide_eq_true_iff, decide_eq_true_iff] at hh
          exact absurd (by cases x; simp_all) hne
      focus
        simp (maxDischargeDepth := 9) only [↓gB, gV, gT, reduceIte, reduceCtorEq, Nat.reduceEqDiff, Nat.reduceAdd, Nat.reduceSub, Nat.reduceLeDiff, Nat.reduceLT, Int.reduceEq, Nat.reduceMul, h1, f8, f0, f3, f7, c1, hq, hxx]
        refine Xdraw_intro [0, 1, 2, 3, 4, 5] mixed (by kernel_rfl) (by decide +kernel) ?_
        simp (maxDischargeDepth := 9) only [↓gB, gV, gT, reduceIte, reduceCtorEq, Nat.reduceEqDiff, Nat.reduceAdd, Nat.reduceSub, Nat.reduceLeDiff, Nat.reduceLT, Int.reduceEq, Nat.reduceMul, h1, f8, f0, f3, f7, c1, hq, hxx]
        obtain ⟨x1, a1, s1, m1, rfl, rfl, e1⟩ := hv.at (i) (by omega) 2 rfl
        obtain rfl := el_eq helx m1
        simp (maxDischargeDepth := 9) only [↓gB, gV, gT, reduceIte, reduceCtorEq, Nat.reduceEqDiff, Nat.reduceAdd, Nat.reduceSub, Nat.reduceLeDiff, Nat.reduceLT, Int.reduceEq, Nat.reduceMul, h1, f8, f3, f7, c1, hq, hxx, f0, e1]
        refine vguard_intro (by simp) ?_
        have q1 : Go.IntKind.i64.wrap (↑i + 1) = ↑i + 1 := wrap_id (by omega)
        simp (maxDischargeDepth := 9) only [↓gB, gV, gT, reduceIte, reduceCtorEq, Nat.reduceEqDiff, Nat.reduceAdd, Nat.reduceSub, Nat.reduceLeDiff, Nat.reduceLT, Int.reduceEq, Nat.reduceMul, h1, f8, f3, f7, c1, hq, hxx, f0, e1, q1]
        rw [N_lp]
        refine ⟨_, ?_, _, ?_, i + 1, rfl, ?_, ?_, rfl, by simp (maxDischargeDepth := 9) only [↓gB, gV, gT, reduceIte, reduceCtorEq, Nat.reduceEqDiff, Nat.reduceAdd, Nat.reduceSub, Nat.reduceLeDiff, Nat.reduceLT, Int.reduceEq, Nat.reduceMul, h1, f8, f3, f7, c1, hq, hxx, f0, e1, q1, nat_succ, and_self]⟩
        · omega
        · exact sub_refl _
        · omega
        · ((rw [take_at helx, List.findIdx?_append, h]; simp [hq]); done)
    · have hne : x = ⟨a, b⟩ := by simpa [banIs] using hq
      subst hne
      have e := drop_at helx
      have e2 : l.findIdx? (banIs a b) = some i := by
        rw [← List.take_append_drop i l, List.findIdx?_append, h, e, List.findIdx?_cons, hq]; simp; omega
      simp (maxDischargeDepth := 9) only [↓gB, gV, gT, reduceIte, reduceCtorEq, Nat.reduceEqDiff, Nat.reduceAdd, Nat.reduceSub, Nat.reduceLeDiff, Nat.reduceLT, Int.reduceEq, Nat.reduceMul, h1, f8, f0, f3, f7, c1, hq]
      refine Xdraw_intro [0, 1, 2, 3, 4, 5] mixed (by kernel_rfl) (by decide +kernel) ?_
      simp (maxDischargeDepth := 9) only [↓gB, gV, gT, reduceIte, reduceCtorEq, Nat.reduceEqDiff, Nat.reduceAdd, Nat.reduceSub, Nat.reduceLeDiff, Nat.reduceLT, Int.reduceEq, Nat.reduceMul, h1, f8, f0, f3, f7, c1, hq]
      obtain ⟨x1, a1, s1, m1, rfl, rfl, e1⟩ := hv.at (i) (by omega) 2 rfl
      obtain rfl := el_eq helx m1
      simp (maxDischargeDepth := 9) only [↓gB, gV, gT, reduceIte, reduceCtorEq, Nat.reduceEqDiff, Nat.reduceAdd, Nat.reduceSub, Nat.reduceLeDiff, Nat.reduceLT, Int.reduceEq, Nat.reduceMul, h1, f8, f3, f7, c1, hq, f0, e1]
      refine vguard_intro (by simp) ?_
      exact Kup_val (by simp (maxDischargeDepth := 9) only [le_self, le_puts, le_put0, h1]) (by simp [*])
  · have e : l.findIdx? (banIs a b) = none := by rw [← List.take_of_length_le (l := l) (i := i) (by omega), h]
    simp (maxDischargeDepth := 9) only [↓gB, gV, gT, reduceIte, reduceCtorEq, Nat.reduceEqDiff, Nat.reduceAdd, Nat.reduceSub, Nat.reduceLeDiff, Nat.reduceLT, Int.reduceEq, Nat.reduceMul, h1, f8, f0, f3, f7, c1]
    exact Kup_val (by simp (maxDischargeDepth := 9) only [le_self, le_puts, le_put0, h1]) (by simp [*])
theorem p61 {G0 : GH} {v : Value} {l : List SBan} {a b : ByteArray} (hv : RSl rBan G0 v l) (hn : (l.length : Int) ≤ 9223372036854775807) : Pure Tryz.prog G0 61 [v, .agg #[.string a, .string b]] (.bool (bannedB l a b)) := by
  intro G hG; replace hv := hv.le hG
  clear hG G0
  refine enter Tryz.func61 9 #[.tmp 4] rfl Tryz.ntmps61 rfl (by decide +kernel) rfl ?_
  have e : decide (0 ≤ (match l.findIdx? (banIs a b) with | some i => (i : Int) | none => -1)) = bannedB l a b := by
    cases h : l.findIdx? (banIs a b) with
    | none =>
      rw [List.findIdx?_eq_none_iff] at h
      have : bannedB l a b = false := by unfold bannedB; rw [List.any_eq_false]; intro x hx; have := h x hx; unfold banIs at this; simpa using this
      rw [this]; simp
    | some i =>
      rw [List.findIdx?_eq_some_iff_getElem] at h
      obtain ⟨hi, h1, _⟩ := h
      have : bannedB l a b = true := List.any_eq_true.2 ⟨l[i], by simp, h1⟩
      rw [this]; simp
  simp (maxDischargeDepth := 9) only [↓gB, gV, gT, reduceIte, reduceCtorEq, Nat.reduceEqDiff, Nat.reduceAdd, Nat.reduceSub, Nat.reduceLeDiff, Nat.reduceLT, Int.reduceEq, Nat.reduceMul, e]
  refine Yn2 fun r1 h1 => ?_
  simp (maxDischargeDepth := 9) only [↓gB, gV, gT, reduceIte, reduceCtorEq, Nat.reduceEqDiff, Nat.reduceAdd, Nat.reduceSub, Nat.reduceLeDiff, Nat.reduceLT, Int.reduceEq, Nat.reduceMul, e, h1]
  refine Ycp (p77 (by exact RSl.put _ (by assumption) (by assumption)) (by assumption)) ?_
  simp (maxDischargeDepth := 9) only [↓gB, gV, gT, reduceIte, reduceCtorEq, Nat.reduceEqDiff, Nat.reduceAdd, Nat.reduceSub, Nat.reduceLeDiff, Nat.reduceLT, Int.reduceEq, Nat.reduceMul, e, h1]
  exact Kup_val (by simp (maxDischargeDepth := 9) only [le_self, le_puts, le_put0, h1]) rfl
theorem p34 {G0 : GH} {u : Value} {bs : List SBan} {a b : ByteArray} {va wa : Option Addr} {vn vc wn wc : Nat} (hu : RSl rBan G0 u bs) (hn : (bs.length : Int) ≤ 9223372036854775807) : Pure Tryz.prog G0 34 [.agg #[.slice va vn vc, .slice wa wn wc, u], .string a, .string b] (.bool (bannedB bs a b)) := by
  intro G hG; replace hu := hu.le hG
  clear hG G0
  refine enter Tryz.func34 13 #[.tmp 6] rfl Tryz.ntmps34 rfl (by decide +kernel) rfl ?_
  obtain ⟨ua, uc, rfl⟩ := hu.val
  simp (maxDischargeDepth := 9) only [↓gB, gV, gT, reduceIte, reduceCtorEq, Nat.reduceEqDiff, Nat.reduceAdd, Nat.reduceSub, Nat.reduceLeDiff, Nat.reduceLT, Int.reduceEq, Nat.reduceMul, List.map_toArray, List.map_cons, List.map_nil, Value.cells]
  refine Yn2 fun r1 h1 => ?_
  simp (maxDischargeDepth := 9) only [↓gB, gV, gT, reduceIte, reduceCtorEq, Nat.reduceEqDiff, Nat.reduceAdd, Nat.reduceSub, Nat.reduceLeDiff, Nat.reduceLT, Int.reduceEq, Nat.reduceMul, h1, List.map_toArray, List.map_cons, List.map_nil, Value.cells]
  refine Ycp (p61 (by exact RSl.put _ (by assumption) (by assumption)) (by assumption)) ?_
  simp (maxDischargeDepth := 9) only [↓gB, gV, gT, reduceIte, reduceCtorEq, Nat.reduceEqDiff, Nat.reduceAdd, Nat.reduceSub, Nat.reduceLeDiff, Nat.reduceLT, Int.reduceEq, Nat.reduceMul, h1, List.map_toArray, List.map_cons, List.map_nil, Value.cells]
  exact Kup_val (by simp (maxDischargeDepth := 9) only [le_self, le_puts, le_put0, h1]) rfl
end Go.Proofs.YtjhfhacdjmokaaaGreatDoor
namespace Go.Proofs.YtjhfhacdjmokaaaGreatDoor
open Go Go.GL
attribute [local irreducible] Ycall GCalls
set_option maxRecDepth 10000
set_option maxHeartbeats 0
def wBad (ar : List SArc) (bs : List SBan) (here : ByteArray) (p : Option ByteArray) (s : ByteArray) : Int := if keyAt SArc.Key ar s < 0 then 8 else if here ≠ (⟨#[]⟩ : ByteArray) ∧ fromOf ar s ≠ here then 3 else if p.any (fun p => bannedB bs p s) = true then 16 else 0
def wGo (ar : List SArc) (bs : List SBan) : ByteArray → Option ByteArray → List ByteArray → Int
  | _, _, [] => 0
  | here, p, s :: l => if wBad ar bs here p s = 0 then wGo ar bs (toOf ar s) (some s) l else wBad ar bs here p s
def walkE (ar : List SArc) (bs : List SBan) (fr : ByteArray) (l : List ByteArray) : Int := if 2000 < l.length then 2 else wGo ar bs fr none l
section
variable {ar : List SArc} {bs : List SBan} {fr here s : ByteArray} {l : List ByteArray} {i : Nat} {x : SArc}
theorem wg_bad {e : Int} (h : wGo ar bs fr none l = wGo ar bs here (prevOf l i) (l.drop i)) (m : l[i]? = some s) (hb : wBad ar bs here (prevOf l i) s = e) (he : e ≠ 0) : wGo ar bs fr none l = e := by
  rw [h, drop_at m]; unfold wGo; rw [hb, if_neg he]
theorem wg_next (h : wGo ar bs fr none l = wGo ar bs here (prevOf l i) (l.drop i)) (m : l[i]? = some s) (hb : wBad ar bs here (prevOf l i) s = 0) : wGo ar bs fr none l = wGo ar bs (toOf ar s) (prevOf l (i + 1)) (l.drop (i + 1)) := by
  rw [h, drop_at m]; conv => lhs; unfold wGo
  rw [hb, if_pos rfl, prevOf_s, m]
theorem wg_end (h : wGo ar bs fr none l = wGo ar bs here (prevOf l i) (l.drop i)) (c : ¬ (i : Int) < l.length) : wGo ar bs fr none l = 0 := by
  rw [h, List.drop_eq_nil_of_le (by omega)]; rfl
end
theorem p21 {G0 : GH} {v w u vl : Value} {ar : List SArc} {bs : List SBan} {fr : ByteArray} {l : List ByteArray} {r : Nat} (hr : G0 r = some (.cells [v, w, u].toArray 26 (0, 0), true)) (hw : RSl rArc G0 w ar) (hu : RSl rBan G0 u bs) (hv : RSl Rp.str G0 vl l) (hm : ar.length ≤ 2000) (hb : bs.length ≤ 1000) (hl : l.length ≤ 1000000000) (hs : rising SArc.Key ar) (hs2 : bansUp bs) : Pure Tryz.prog G0 21 [.pointer (some ⟨r, 0, none⟩), .string fr, vl] (V (walkE ar bs fr l)) := by
  intro G hG; replace hr := hG _ _ hr; replace hw := hw.le hG; replace hu := hu.le hG; replace hv := hv.le hG
  clear hG G0
  refine enter Tryz.func21 56 #[.tmp 6] rfl Tryz.ntmps21 rfl (by decide +kernel) rfl ?_
  obtain ⟨a, c, rfl⟩ := hv.val
  obtain ⟨wa, wc, rfl⟩ := hw.val
  obtain ⟨ua, uc, rfl⟩ := hu.val
  simp (maxDischargeDepth := 9) only [↓gB, gV, gT, reduceIte, reduceCtorEq, Nat.reduceEqDiff, Nat.reduceAdd, Nat.reduceSub, Nat.reduceLeDiff, Nat.reduceLT, Int.reduceEq, Nat.reduceMul, hr]
  refine Xc_split _ _ _ _ _ (fun c0 => ?_) (fun c0 => ?_)
  · have e : walkE ar bs fr l = 2 := if_pos (by omega)
    simp (maxDischargeDepth := 9) only [↓gB, gV, gT, reduceIte, reduceCtorEq, Nat.reduceEqDiff, Nat.reduceAdd, Nat.reduceSub, Nat.reduceLeDiff, Nat.reduceLT, Int.reduceEq, Nat.reduceMul, hr, c0, e]
    exact Kup_val (le_refl _) rfl
  · have e : walkE ar bs fr l = wGo ar bs fr none l := if_neg (by omega)
    rw [e]
    simp (maxDischargeDepth := 9) only [↓gB, gV, gT, reduceIte, reduceCtorEq, Nat.reduceEqDiff, Nat.reduceAdd, Nat.reduceSub, Nat.reduceLeDiff, Nat.reduceLT, Int.reduceEq, Nat.reduceMul, hr, c0]
    focus
      refine Xloop_intro _ _ _ _ _ (fun k f G' => ∃ (i : Nat) (here : ByteArray), k = l.length - i ∧ (i ≤ l.length) ∧ (wGo ar bs fr none l = wGo ar bs here (prevOf l i) (l.drop i)) ∧ (G' r = some (.cells [v, .slice wa ar.length wc, .slice ua bs.length uc].toArray 26 (0, 0), true)) ∧ (RSl rArc G' (.slice wa ar.length wc) ar) ∧ (RSl rBan G' (.slice ua bs.length uc) bs) ∧ (RSl Rp.str G' (.slice a l.length c) l) ∧ (G.le G') ∧ f 16 = V i ∧ f 1 = .string here ∧ f 0 = Go.Value.pointer (Option.some { block := r, off := 0 }) ∧ f 2 = Go.Value.slice a l.length c ∧ f 14 = Go.Value.slice a l.length c ∧ f 15 = Go.Value.int Go.IntKind.i64 ↑l.length) _ ⟨0, fr, rfl, ?_, ?_, ?_, ?_, ?_, ?_, ?_, by simp (maxDischargeDepth := 9) only [↓gB, gV, gT, reduceIte, reduceCtorEq, Nat.reduceEqDiff, Nat.reduceAdd, Nat.reduceSub, Nat.reduceLeDiff, Nat.reduceLT, Int.reduceEq, Nat.reduceMul, hr, c0, and_self]⟩ ?_
      · omega
      · rfl
      · assumption
      · assumption
      · assumption
      · assumption
      · exact le_refl _
      rintro k f G' ⟨i, here, rfl, hi, h, hr, hw, hu, hv, hle, f16, f1, f0, f2, f14, f15⟩
    simp (maxDischargeDepth := 9) only [↓gB, gV, gT, reduceIte, reduceCtorEq, Nat.reduceEqDiff, Nat.reduceAdd, Nat.reduceSub, Nat.reduceLeDiff, Nat.reduceLT, Int.reduceEq, Nat.reduceMul, hr, c0, hr, f16, f1, f0, f2, f14, f15]
    refine Xc_split _ _ _ _ _ (fun c1 => ?_) (fun c1 => ?_)
    · obtain ⟨s, helx⟩ : ∃ s, l[i]? = some s := ⟨_, List.getElem?_eq_getElem (by omega)⟩
      by_cases hk : keyAt SArc.Key ar s < 0
      · have ee := wg_bad h helx (if_pos hk) (by decide)
        simp (maxDischargeDepth := 9) only [↓gB, gV, gT, reduceIte, reduceCtorEq, Nat.reduceEqDiff, Nat.reduceAdd, Nat.reduceSub, Nat.reduceLeDiff, Nat.reduceLT, Int.reduceEq, Nat.reduceMul, hr, c0, hr, f16, f1, f0, f2, f14, f15, c1, hk, ee]
        obtain ⟨x1, a1, s1, m1, rfl, rfl, e1⟩ := hv.at1 (i) (by omega) rfl
        obtain rfl := el_eq helx m1
        simp (maxDischargeDepth := 9) only [↓gB, gV, gT, reduceIte, reduceCtorEq, Nat.reduceEqDiff, Nat.reduceAdd, Nat.reduceSub, Nat.reduceLeDiff, Nat.reduceLT, Int.reduceEq, Nat.reduceMul, hr, c0, hr, f16, f1, f0, f15, c1, f2, f14, e1, hk, ee]
        refine vguard_intro (by simp) ?_
        refine Ycp (p23 (by assumption) (by assumption) (by omega) (by assumption)) ?_
        simp (maxDischargeDepth := 9) only [↓gB, gV, gT, reduceIte, reduceCtorEq, Nat.reduceEqDiff, Nat.reduceAdd, Nat.reduceSub, Nat.reduceLeDiff, Nat.reduceLT, Int.reduceEq, Nat.reduceMul, hr, c0, hr, f16, f1, f0, f15, c1, f2, f14, e1, hk, ee]
        exact Kup_val (by simp (maxDischargeDepth := 9) only [le_self, le_puts, le_put0, hle]) rfl
      · have hk0 : 0 ≤ keyAt SArc.Key ar s := by omega
        obtain ⟨k, hkk⟩ := Int.eq_ofNat_of_zero_le hk0
        obtain ⟨x, hely, hxs⟩ := keyAt_get hkk
        have hkl : k < ar.length := (List.getElem?_eq_some_iff.1 hely).1
        have hfa : fromOf ar s = x.From := from_at (by rw [hkk]; exact hely)
        have hta : toOf ar s = x.To := to_at (by rw [hkk]; exact hely)
        have hc0 : ¬ (k : Int) < 0 := by omega
        by_cases h3 : here ≠ (⟨#[]⟩ : ByteArray) ∧ ¬ x.From = here
        · have ee := wg_bad h helx (e := 3) (by unfold wBad; rw [if_neg hk, hfa, if_pos h3]) (by decide)
          have hE : decide (here = (⟨#[]⟩ : ByteArray)) = false := decide_eq_false h3.1
          have hF : decide (x.From = here) = false := decide_eq_false h3.2
          simp (maxDischargeDepth := 9) only [↓gB, gV, gT, reduceIte, reduceCtorEq, Nat.reduceEqDiff, Nat.reduceAdd, Nat.reduceSub, Nat.reduceLeDiff, Nat.reduceLT, Int.reduceEq, Nat.reduceMul, hr, c0, hr, f16, f1, f0, f2, f14, f15, c1, hE, hF, hkk, hc0, ee]
          obtain ⟨x1, a1, s1, m1, rfl, rfl, e1⟩ := hv.at1 (i) (by omega) rfl
          obtain rfl := el_eq helx m1
          simp (maxDischargeDepth := 9) only [↓gB, gV, gT, reduceIte, reduceCtorEq, Nat.reduceEqDiff, Nat.reduceAdd, Nat.reduceSub, Nat.reduceLeDiff, Nat.reduceLT, Int.reduceEq, Nat.reduceMul, hr, c0, hr, f16, f1, f0, f15, c1, hE, hF, f2, f14, e1, hkk, hc0, ee]
          refine vguard_intro (by simp) ?_
          refine Ycp (p23 (by assumption) (by assumption) (by omega) (by assumption)) ?_
          simp (maxDischargeDepth := 9) only [↓gB, gV, gT, reduceIte, reduceCtorEq, Nat.reduceEqDiff, Nat.reduceAdd, Nat.reduceSub, Nat.reduceLeDiff, Nat.reduceLT, Int.reduceEq, Nat.reduceMul, hr, c0, hr, f16, f1, f0, f15, c1, hE, hF, f2, f14, e1, hkk, hc0, ee]
          obtain ⟨x2, a2, s2, m2, rfl, ⟨v2, rfl, w2⟩, e2⟩ := hw.at (k) (by omega) 5 rfl
          obtain rfl := el_eq hely m2
          obtain ⟨aw2, cw2, rfl⟩ := RSl.val w2
          simp (maxDischargeDepth := 9) only [↓gB, gV, gT, reduceIte, reduceCtorEq, Nat.reduceEqDiff, Nat.reduceAdd, Nat.reduceSub, Nat.reduceLeDiff, Nat.reduceLT, Int.reduceEq, Nat.reduceMul, c0, f16, f1, f0, f15, c1, hE, hF, f2, f14, e1, hr, hr, e2, hkk, hc0, ee]
          refine vguard_intro (by omega) ?_
          refine Yn2 fun r1 h1 => ?_
          simp (maxDischargeDepth := 9) only [↓gB, gV, gT, reduceIte, reduceCtorEq, Nat.reduceEqDiff, Nat.reduceAdd, Nat.reduceSub, Nat.reduceLeDiff, Nat.reduceLT, Int.reduceEq, Nat.reduceMul, c0, f16, f1, f0, f15, c1, hE, hF, f2, f14, e1, hr, hr, e2, h1, hkk, hc0, ee]
          exact Kup_val (by simp (maxDischargeDepth := 9) only [le_self, le_puts, le_put0, hle, h1]) rfl
        · by_cases hb0 : (prevOf l i).any (fun p => bannedB bs p s) = true
          · have ee := wg_bad h helx (e := 16) (by unfold wBad; rw [if_neg hk, hfa, if_neg h3, if_pos hb0]) (by decide)
            by_cases hi0 : i = 0
            · subst hi0; simp [prevOf] at hb0
            · obtain ⟨p, help⟩ : ∃ p, l[i - 1]? = some p := ⟨_, List.getElem?_eq_getElem (by omega)⟩
              have hbp : bannedB bs p s = true := by rw [prevOf_p (by omega), help] at hb0; exact hb0
              have hi1 : (0 : Int) < i := by omega
              cases hE : decide (here = (⟨#[]⟩ : ByteArray))
              · have hF : decide (x.From = here) = true := by
                  rw [decide_eq_false_iff_not] at hE
                  exact decide_eq_true (Decidable.byContradiction fun q => h3 ⟨hE, q⟩)
                simp (maxDischargeDepth := 9) only [↓gB, gV, gT, reduceIte, reduceCtorEq, Nat.reduceEqDiff, Nat.reduceAdd, Nat.reduceSub, Nat.reduceLeDiff, Nat.reduceLT, Int.reduceEq, Nat.reduceMul, hr, c0, hr, f16, f1, f0, f2, f14, f15, c1, hb0, hbp, hE, hF, hkk, hc0, hi1, ee]
                obtain ⟨x1, a1, s1, m1, rfl, rfl, e1⟩ := hv.at1 (i) (by omega) rfl
                obtain rfl := el_eq helx m1
                simp (maxDischargeDepth := 9) only [↓gB, gV, gT, reduceIte, reduceCtorEq, Nat.reduceEqDiff, Nat.reduceAdd, Nat.reduceSub, Nat.reduceLeDiff, Nat.reduceLT, Int.reduceEq, Nat.reduceMul, hr, c0, hr, f16, f1, f0, f15, c1, hb0, hbp, hE, hF, f2, f14, e1, hkk, hc0, hi1, ee]
                refine vguard_intro (by simp) ?_
                refine Ycp (p23 (by assumption) (by assumption) (by omega) (by assumption)) ?_
                simp (maxDischargeDepth := 9) only [↓gB, gV, gT, reduceIte, reduceCtorEq, Nat.reduceEqDiff, Nat.reduceAdd, Nat.reduceSub, Nat.reduceLeDiff, Nat.reduceLT, Int.reduceEq, Nat.reduceMul, hr, c0, hr, f16, f1, f0, f15, c1, hb0, hbp, hE, hF, f2, f14, e1, hkk, hc0, hi1, ee]
                obtain ⟨x2, a2, s2, m2, rfl, ⟨v2, rfl, w2⟩, e2⟩ := hw.at (k) (by omega) 5 rfl
                obtain rfl := el_eq hely m2
                obtain ⟨aw2, cw2, rfl⟩ := RSl.val w2
                simp (maxDischargeDepth := 9) only [↓gB, gV, gT, reduceIte, reduceCtorEq, Nat.reduceEqDiff, Nat.reduceAdd, Nat.reduceSub, Nat.reduceLeDiff, Nat.reduceLT, Int.reduceEq, Nat.reduceMul, c0, f16, f1, f0, f15, c1, hb0, hbp, hE, hF, f2, f14, e1, hr, hr, e2, hkk, hc0, hi1, ee]
                refine vguard_intro (by omega) ?_
                refine Yn2 fun r1 h1 => ?_
                simp (maxDischargeDepth := 9) only [↓gB, gV, gT, reduceIte, reduceCtorEq, Nat.reduceEqDiff, Nat.reduceAdd, Nat.reduceSub, Nat.reduceLeDiff, Nat.reduceLT, Int.reduceEq, Nat.reduceMul, c0, f16, f1, f0, f15, c1, hb0, hbp, hE, hF, f2, f14, e1, hr, hr, e2, h1, hkk, hc0, hi1, ee]
                have q1 : Go.IntKind.i64.wrap (↑i - 1) = ↑i - 1 := wrap_id (by omega)
                simp (maxDischargeDepth := 9) only [↓gB, gV, gT, reduceIte, reduceCtorEq, Nat.reduceEqDiff, Nat.reduceAdd, Nat.reduceSub, Nat.reduceLeDiff, Nat.reduceLT, Int.reduceEq, Nat.reduceMul, c0, f16, f1, f0, f15, c1, hb0, hbp, hE, hF, f2, f14, e1, hr, hr, e2, h1, q1, hkk, hc0, hi1, ee]
                refine vguard_intro (by omega) ?_
                obtain ⟨x3, s3, m3, rfl, e3⟩ := hv.at1' (i - 1) (by omega) rfl
                obtain rfl := el_eq help m3
                simp (maxDischargeDepth := 9) only [↓gB, gV, gT, reduceIte, reduceCtorEq, Nat.reduceEqDiff, Nat.reduceAdd, Nat.reduceSub, Nat.reduceLeDiff, Nat.reduceLT, Int.reduceEq, Nat.reduceMul, c0, f16, f1, f0, f15, c1, hb0, hbp, hE, hF, f2, f14, e1, hr, hr, e2, h1, q1, e3, hkk, hc0, hi1, ee]
                refine Ycp (p44 (by exact (le_put (by assumption) _) _ _ (by assumption)) (by exact RSl.put _ (by assumption) (by assumption)) (by omega) (by assumption)) ?_
                simp (maxDischargeDepth := 9) only [↓gB, gV, gT, reduceIte, reduceCtorEq, Nat.reduceEqDiff, Nat.reduceAdd, Nat.reduceSub, Nat.reduceLeDiff, Nat.reduceLT, Int.reduceEq, Nat.reduceMul, c0, f16, f1, f0, f15, c1, hb0, hbp, hE, hF, f2, f14, e1, hr, hr, e2, h1, q1, e3, hkk, hc0, hi1, ee]
                exact Kup_val (by simp (maxDischargeDepth := 9) only [le_self, le_puts, le_put0, hle, h1]) rfl
              · simp (maxDischargeDepth := 9) only [↓gB, gV, gT, reduceIte, reduceCtorEq, Nat.reduceEqDiff, Nat.reduceAdd, Nat.reduceSub, Nat.reduceLeDiff, Nat.reduceLT, Int.reduceEq, Nat.reduceMul, hr, c0, hr, f16, f1, f0, f2, f14, f15, c1, hb0, hbp, hE, hkk, hc0, hi1, ee]
                obtain ⟨x1, a1, s1, m1, rfl, rfl, e1⟩ := hv.at1 (i) (by omega) rfl
                obtain rfl := el_eq helx m1
                simp (maxDischargeDepth := 9) only [↓gB, gV, gT, reduceIte, reduceCtorEq, Nat.reduceEqDiff, Nat.reduceAdd, Nat.reduceSub, Nat.reduceLeDiff, Nat.reduceLT, Int.reduceEq, Nat.reduceMul, hr, c0, hr, f16, f1, f0, f15, c1, hb0, hbp, hE, f2, f14, e1, hkk, hc0, hi1, ee]
                refine vguard_intro (by simp) ?_
                refine Ycp (p23 (by assumption) (by assumption) (by omega) (by assumption)) ?_
                simp (maxDischargeDepth := 9) only [↓gB, gV, gT, reduceIte, reduceCtorEq, Nat.reduceEqDiff, Nat.reduceAdd, Nat.reduceSub, Nat.reduceLeDiff, Nat.reduceLT, Int.reduceEq, Nat.reduceMul, hr, c0, hr, f16, f1, f0, f15, c1, hb0, hbp, hE, f2, f14, e1, hkk, hc0, hi1, ee]
                obtain ⟨x2, a2, s2, m2, rfl, ⟨v2, rfl, w2⟩, e2⟩ := hw.at (k) (by omega) 5 rfl
                obtain rfl := el_eq hely m2
                obtain ⟨aw2, cw2, rfl⟩ := RSl.val w2
                simp (maxDischargeDepth := 9) only [↓gB, gV, gT, reduceIte, reduceCtorEq, Nat.reduceEqDiff, Nat.reduceAdd, Nat.reduceSub, Nat.reduceLeDiff, Nat.reduceLT, Int.reduceEq, Nat.reduceMul, c0, f16, f1, f0, f15, c1, hb0, hbp, hE, f2, f14, e1, hr, hr, e2, hkk, hc0, hi1, ee]
                refine vguard_intro (by omega) ?_
                refine Yn2 fun r1 h1 => ?_
                simp (maxDischargeDepth := 9) only [↓gB, gV, gT, reduceIte, reduceCtorEq, Nat.reduceEqDiff, Nat.reduceAdd, Nat.reduceSub, Nat.reduceLeDiff, Nat.reduceLT, Int.reduceEq, Nat.reduceMul, c0, f16, f1, f0, f15, c1, hb0, hbp, hE, f2, f14, e1, hr, hr, e2, h1, hkk, hc0, hi1, ee]
                have q1 : Go.IntKind.i64.wrap (↑i - 1) = ↑i - 1 := wrap_id (by omega)
                simp (maxDischargeDepth := 9) only [↓gB, gV, gT, reduceIte, reduceCtorEq, Nat.reduceEqDiff, Nat.reduceAdd, Nat.reduceSub, Nat.reduceLeDiff, Nat.reduceLT, Int.reduceEq, Nat.reduceMul, c0, f16, f1, f0, f15, c1, hb0, hbp, hE, f2, f14, e1, hr, hr, e2, h1, q1, hkk, hc0, hi1, ee]
                refine vguard_intro (by omega) ?_
                obtain ⟨x3, s3, m3, rfl, e3⟩ := hv.at1' (i - 1) (by omega) rfl
                obtain rfl := el_eq help m3
                simp (maxDischargeDepth := 9) only [↓gB, gV, gT, reduceIte, reduceCtorEq, Nat.reduceEqDiff, Nat.reduceAdd, Nat.reduceSub, Nat.reduceLeDiff, Nat.reduceLT, Int.reduceEq, Nat.reduceMul, c0, f16, f1, f0, f15, c1, hb0, hbp, hE, f2, f14, e1, hr, hr, e2, h1, q1, e3, hkk, hc0, hi1, ee]
                refine Ycp (p44 (by exact (le_put (by assumption) _) _ _ (by assumption)) (by exact RSl.put _ (by assumption) (by assumption)) (by omega) (by assumption)) ?_
                simp (maxDischargeDepth := 9) only [↓gB, gV, gT, reduceIte, reduceCtorEq, Nat.reduceEqDiff, Nat.reduceAdd, Nat.reduceSub, Nat.reduceLeDiff, Nat.reduceLT, Int.reduceEq, Nat.reduceMul, c0, f16, f1, f0, f15, c1, hb0, hbp, hE, f2, f14, e1, hr, hr, e2, h1, q1, e3, hkk, hc0, hi1, ee]
                exact Kup_val (by simp (maxDischargeDepth := 9) only [le_self, le_puts, le_put0, hle, h1]) rfl
          · have ee := wg_next h helx (by unfold wBad; rw [if_neg hk, hfa, if_neg h3, if_neg hb0])
            rw [hta] at ee
            by_cases hi0 : i = 0
            · have hi1 : ¬ (0 : Int) < i := by omega
              cases hE : decide (here = (⟨#[]⟩ : ByteArray))
              · have hF : decide (x.From = here) = true := by
                  rw [decide_eq_false_iff_not] at hE
                  exact decide_eq_true (Decidable.byContradiction fun q => h3 ⟨hE, q⟩)
                focus
                  simp (maxDischargeDepth := 9) only [↓gB, gV, gT, reduceIte, reduceCtorEq, Nat.reduceEqDiff, Nat.reduceAdd, Nat.reduceSub, Nat.reduceLeDiff, Nat.reduceLT, Int.reduceEq, Nat.reduceMul, hr, c0, hr, f16, f1, f0, f2, f14, f15, c1, hE, hF, hkk, hc0, hi1]
                  obtain ⟨x1, a1, s1, m1, rfl, rfl, e1⟩ := hv.at1 (i) (by omega) rfl
                  obtain rfl := el_eq helx m1
                  simp (maxDischargeDepth := 9) only [↓gB, gV, gT, reduceIte, reduceCtorEq, Nat.reduceEqDiff, Nat.reduceAdd, Nat.reduceSub, Nat.reduceLeDiff, Nat.reduceLT, Int.reduceEq, Nat.reduceMul, hr, c0, hr, f16, f1, f0, f15, c1, hE, hF, f2, f14, e1, hkk, hc0, hi1]
                  refine vguard_intro (by simp) ?_
                  refine Ycp (p23 (by assumption) (by assumption) (by omega) (by assumption)) ?_
                  simp (maxDischargeDepth := 9) only [↓gB, gV, gT, reduceIte, reduceCtorEq, Nat.reduceEqDiff, Nat.reduceAdd, Nat.reduceSub, Nat.reduceLeDiff, Nat.reduceLT, Int.reduceEq, Nat.reduceMul, hr, c0, hr, f16, f1, f0, f15, c1, hE, hF, f2, f14, e1, hkk, hc0, hi1]
                  obtain ⟨x2, a2, s2, m2, rfl, ⟨v2, rfl, w2⟩, e2⟩ := hw.at (k) (by omega) 5 rfl
                  obtain rfl := el_eq hely m2
                  obtain ⟨aw2, cw2, rfl⟩ := RSl.val w2
                  simp (maxDischargeDepth := 9) only [↓gB, gV, gT, reduceIte, reduceCtorEq, Nat.reduceEqDiff, Nat.reduceAdd, Nat.reduceSub, Nat.reduceLeDiff, Nat.reduceLT, Int.reduceEq, Nat.reduceMul, c0, f16, f1, f0, f15, c1, hE, hF, f2, f14, e1, hr, hr, e2, hkk, hc0, hi1]
                  refine vguard_intro (by omega) ?_
                  refine Yn2 fun r1 h1 => ?_
                  simp (maxDischargeDepth := 9) only [↓gB, gV, gT, reduceIte, reduceCtorEq, Nat.reduceEqDiff, Nat.reduceAdd, Nat.reduceSub, Nat.reduceLeDiff, Nat.reduceLT, Int.reduceEq, Nat.reduceMul, c0, f16, f1, f0, f15, c1, hE, hF, f2, f14, e1, hr, hr, e2, h1, hkk, hc0, hi1]
                  have q1 : Go.IntKind.i64.wrap (↑i + 1) = ↑i + 1 := wrap_id (by omega)
                  simp (maxDischargeDepth := 9) only [↓gB, gV, gT, reduceIte, reduceCtorEq, Nat.reduceEqDiff, Nat.reduceAdd, Nat.reduceSub, Nat.reduceLeDiff, Nat.reduceLT, Int.reduceEq, Nat.reduceMul, c0, f16, f1, f0, f15, c1, hE, hF, f2, f14, e1, hr, hr, e2, h1, q1, hkk, hc0, hi1]
                  rw [N_lp]
                  refine ⟨_, ?_, _, sub_refl _, i + 1, x.To, rfl, ?_, ?_, ?_, ?_, ?_, ?_, ?_, by simp (maxDischargeDepth := 9) only [↓gB, gV, gT, reduceIte, reduceCtorEq, Nat.reduceEqDiff, Nat.reduceAdd, Nat.reduceSub, Nat.reduceLeDiff, Nat.reduceLT, Int.reduceEq, Nat.reduceMul, c0, f16, f1, f0, f15, c1, hE, hF, f2, f14, e1, hr, hr, e2, h1, q1, hkk, hc0, hi1, nat_succ, and_self]⟩
                  · omega
                  · omega
                  · assumption
                  · exact (le_put (by assumption) _) _ _ (by assumption)
                  · exact RSl.put _ (by assumption) (by assumption)
                  · exact RSl.put _ (by assumption) (by assumption)
                  · exact RSl.put _ (by assumption) (by assumption)
                  · (simp (maxDischargeDepth := 9) only [le_self, le_puts, le_put0, sub_self, sub_puts, sub_put0, hle, h1]; done)
              · focus
                  simp (maxDischargeDepth := 9) only [↓gB, gV, gT, reduceIte, reduceCtorEq, Nat.reduceEqDiff, Nat.reduceAdd, Nat.reduceSub, Nat.reduceLeDiff, Nat.reduceLT, Int.reduceEq, Nat.reduceMul, hr, c0, hr, f16, f1, f0, f2, f14, f15, c1, hE, hkk, hc0, hi1]
                  obtain ⟨x1, a1, s1, m1, rfl, rfl, e1⟩ := hv.at1 (i) (by omega) rfl
                  obtain rfl := el_eq helx m1
                  simp (maxDischargeDepth := 9) only [↓gB, gV, gT, reduceIte, reduceCtorEq, Nat.reduceEqDiff, Nat.reduceAdd, Nat.reduceSub, Nat.reduceLeDiff, Nat.reduceLT, Int.reduceEq, Nat.reduceMul, hr, c0, hr, f16, f1, f0, f15, c1, hE, f2, f14, e1, hkk, hc0, hi1]
                  refine vguard_intro (by simp) ?_
                  refine Ycp (p23 (by assumption) (by assumption) (by omega) (by assumption)) ?_
                  simp (maxDischargeDepth := 9) only [↓gB, gV, gT, reduceIte, reduceCtorEq, Nat.reduceEqDiff, Nat.reduceAdd, Nat.reduceSub, Nat.reduceLeDiff, Nat.reduceLT, Int.reduceEq, Nat.reduceMul, hr, c0, hr, f16, f1, f0, f15, c1, hE, f2, f14, e1, hkk, hc0, hi1]
                  obtain ⟨x2, a2, s2, m2, rfl, ⟨v2, rfl, w2⟩, e2⟩ := hw.at (k) (by omega) 5 rfl
                  obtain rfl := el_eq hely m2
                  obtain ⟨aw2, cw2, rfl⟩ := RSl.val w2
                  simp (maxDischargeDepth := 9) only [↓gB, gV, gT, reduceIte, reduceCtorEq, Nat.reduceEqDiff, Nat.reduceAdd, Nat.reduceSub, Nat.reduceLeDiff, Nat.reduceLT, Int.reduceEq, Nat.reduceMul, c0, f16, f1, f0, f15, c1, hE, f2, f14, e1, hr, hr, e2, hkk, hc0, hi1]
                  refine vguard_intro (by omega) ?_
                  refine Yn2 fun r1 h1 => ?_
                  simp (maxDischargeDepth := 9) only [↓gB, gV, gT, reduceIte, reduceCtorEq, Nat.reduceEqDiff, Nat.reduceAdd, Nat.reduceSub, Nat.reduceLeDiff, Nat.reduceLT, Int.reduceEq, Nat.reduceMul, c0, f16, f1, f0, f15, c1, hE, f2, f14, e1, hr, hr, e2, h1, hkk, hc0, hi1]
                  have q1 : Go.IntKind.i64.wrap (↑i + 1) = ↑i + 1 := wrap_id (by omega)
                  simp (maxDischargeDepth := 9) only [↓gB, gV, gT, reduceIte, reduceCtorEq, Nat.reduceEqDiff, Nat.reduceAdd, Nat.reduceSub, Nat.reduceLeDiff, Nat.reduceLT, Int.reduceEq, Nat.reduceMul, c0, f16, f1, f0, f15, c1, hE, f2, f14, e1, hr, hr, e2, h1, q1, hkk, hc0, hi1]
                  rw [N_lp]
                  refine ⟨_, ?_, _, sub_refl _, i + 1, x.To, rfl, ?_, ?_, ?_, ?_, ?_, ?_, ?_, by simp (maxDischargeDepth := 9) only [↓gB, gV, gT, reduceIte, reduceCtorEq, Nat.reduceEqDiff, Nat.reduceAdd, Nat.reduceSub, Nat.reduceLeDiff, Nat.reduceLT, Int.reduceEq, Nat.reduceMul, c0, f16, f1, f0, f15, c1, hE, f2, f14, e1, hr, hr, e2, h1, q1, hkk, hc0, hi1, nat_succ, and_self]⟩
                  · omega
                  · omega
                  · assumption
                  · exact (le_put (by assumption) _) _ _ (by assumption)
                  · exact RSl.put _ (by assumption) (by assumption)
                  · exact RSl.put _ (by assumption) (by assumption)
                  · exact RSl.put _ (by assumption) (by assumption)
                  · (simp (maxDischargeDepth := 9) only [le_self, le_puts, le_put0, sub_self, sub_puts, sub_put0, hle, h1]; done)
            · obtain ⟨p, help⟩ : ∃ p, l[i - 1]? = some p := ⟨_, List.getElem?_eq_getElem (by omega)⟩
              have hbp : bannedB bs p s = false := by
                rw [prevOf_p (by omega), help] at hb0
                cases q : bannedB bs p s with
                | false => rfl
                | true => exact absurd q hb0
              have hi1 : (0 : Int) < i := by omega
              cases hE : decide (here = (⟨#[]⟩ : ByteArray))
              · have hF : decide (x.From = here) = true := by
                  rw [decide_eq_false_iff_not] at hE
                  exact decide_eq_true (Decidable.byContradiction fun q => h3 ⟨hE, q⟩)
                focus
                  simp (maxDischargeDepth := 9) only [↓gB, gV, gT, reduceIte, reduceCtorEq, Nat.reduceEqDiff, Nat.reduceAdd, Nat.reduceSub, Nat.reduceLeDiff, Nat.reduceLT, Int.reduceEq, Nat.reduceMul, hr, c0, hr, f16, f1, f0, f2, f14, f15, c1, hbp, hE, hF, hkk, hc0, hi1]
                  obtain ⟨x1, a1, s1, m1, rfl, rfl, e1⟩ := hv.at1 (i) (by omega) rfl
                  obtain rfl := el_eq helx m1
                  simp (maxDischargeDepth := 9) only [↓gB, gV, gT, reduceIte, reduceCtorEq, Nat.reduceEqDiff, Nat.reduceAdd, Nat.reduceSub, Nat.reduceLeDiff, Nat.reduceLT, Int.reduceEq, Nat.reduceMul, hr, c0, hr, f16, f1, f0, f15, c1, hbp, hE, hF, f2, f14, e1, hkk, hc0, hi1]
                  refine vguard_intro (by simp) ?_
                  refine Ycp (p23 (by assumption) (by assumption) (by omega) (by assumption)) ?_
                  simp (maxDischargeDepth := 9) only [↓gB, gV, gT, reduceIte, reduceCtorEq, Nat.reduceEqDiff, Nat.reduceAdd, Nat.reduceSub, Nat.reduceLeDiff, Nat.reduceLT, Int.reduceEq, Nat.reduceMul, hr, c0, hr, f16, f1, f0, f15, c1, hbp, hE, hF, f2, f14, e1, hkk, hc0, hi1]
                  obtain ⟨x2, a2, s2, m2, rfl, ⟨v2, rfl, w2⟩, e2⟩ := hw.at (k) (by omega) 5 rfl
                  obtain rfl := el_eq hely m2
                  obtain ⟨aw2, cw2, rfl⟩ := RSl.val w2
                  simp (maxDischargeDepth := 9) only [↓gB, gV, gT, reduceIte, reduceCtorEq, Nat.reduceEqDiff, Nat.reduceAdd, Nat.reduceSub, Nat.reduceLeDiff, Nat.reduceLT, Int.reduceEq, Nat.reduceMul, c0, f16, f1, f0, f15, c1, hbp, hE, hF, f2, f14, e1, hr, hr, e2, hkk, hc0, hi1]
                  refine vguard_intro (by omega) ?_
                  refine Yn2 fun r1 h1 => ?_
                  simp (maxDischargeDepth := 9) only [↓gB, gV, gT, reduceIte, reduceCtorEq, Nat.reduceEqDiff, Nat.reduceAdd, Nat.reduceSub, Nat.reduceLeDiff, Nat.reduceLT, Int.reduceEq, Nat.reduceMul, c0, f16, f1, f0, f15, c1, hbp, hE, hF, f2, f14, e1, hr, hr, e2, h1, hkk, hc0, hi1]
                  have q1 : Go.IntKind.i64.wrap (↑i - 1) = ↑i - 1 := wrap_id (by omega)
                  simp (maxDischargeDepth := 9) only [↓gB, gV, gT, reduceIte, reduceCtorEq, Nat.reduceEqDiff, Nat.reduceAdd, Nat.reduceSub, Nat.reduceLeDiff, Nat.reduceLT, Int.reduceEq, Nat.reduceMul, c0, f16, f1, f0, f15, c1, hbp, hE, hF, f2, f14, e1, hr, hr, e2, h1, q1, hkk, hc0, hi1]
                  refine vguard_intro (by omega) ?_
                  obtain ⟨x3, s3, m3, rfl, e3⟩ := hv.at1' (i - 1) (by omega) rfl
                  obtain rfl := el_eq help m3
                  simp (maxDischargeDepth := 9) only [↓gB, gV, gT, reduceIte, reduceCtorEq, Nat.reduceEqDiff, Nat.reduceAdd, Nat.reduceSub, Nat.reduceLeDiff, Nat.reduceLT, Int.reduceEq, Nat.reduceMul, c0, f16, f1, f0, f15, c1, hbp, hE, hF, f2, f14, e1, hr, hr, e2, h1, q1, e3, hkk, hc0, hi1]
                  refine Ycp (p44 (by exact (le_put (by assumption) _) _ _ (by assumption)) (by exact RSl.put _ (by assumption) (by assumption)) (by omega) (by assumption)) ?_
                  simp (maxDischargeDepth := 9) only [↓gB, gV, gT, reduceIte, reduceCtorEq, Nat.reduceEqDiff, Nat.reduceAdd, Nat.reduceSub, Nat.reduceLeDiff, Nat.reduceLT, Int.reduceEq, Nat.reduceMul, c0, f16, f1, f0, f15, c1, hbp, hE, hF, f2, f14, e1, hr, hr, e2, h1, q1, e3, hkk, hc0, hi1]
                  have q2 : Go.IntKind.i64.wrap (↑i + 1) = ↑i + 1 := wrap_id (by omega)
                  simp (maxDischargeDepth := 9) only [↓gB, gV, gT, reduceIte, reduceCtorEq, Nat.reduceEqDiff, Nat.reduceAdd, Nat.reduceSub, Nat.reduceLeDiff, Nat.reduceLT, Int.reduceEq, Nat.reduceMul, c0, f16, f1, f0, f15, c1, hbp, hE, hF, f2, f14, e1, hr, hr, e2, h1, q1, e3, q2, hkk, hc0, hi1]
                  rw [N_lp]
                  refine ⟨_, ?_, _, sub_refl _, i + 1, x.To, rfl, ?_, ?_, ?_, ?_, ?_, ?_, ?_, by simp (maxDischargeDepth := 9) only [↓gB, gV, gT, reduceIte, reduceCtorEq, Nat.reduceEqDiff, Nat.reduceAdd, Nat.reduceSub, Nat.reduceLeDiff, Nat.reduceLT, Int.reduceEq, Nat.reduceMul, c0, f16, f1, f0, f15, c1, hbp, hE, hF, f2, f14, e1, hr, hr, e2, h1, q1, e3, q2, hkk, hc0, hi1, nat_succ, and_self]⟩
                  · omega
                  · omega
                  · assumption
                  · exact (le_put (by assumption) _) _ _ (by assumption)
                  · exact RSl.put _ (by assumption) (by assumption)
                  · exact RSl.put _ (by assumption) (by assumption)
                  · exact RSl.put _ (by assumption) (by assumption)
                  · (simp (maxDischargeDepth := 9) only [le_self, le_puts, le_put0, sub_self, sub_puts, sub_put0, hle, h1]; done)
              · focus
                  simp (maxDischargeDepth := 9) only [↓gB, gV, gT, reduceIte, reduceCtorEq, Nat.reduceEqDiff, Nat.reduceAdd, Nat.reduceSub, Nat.reduceLeDiff, Nat.reduceLT, Int.reduceEq, Nat.reduceMul, hr, c0, hr, f16, f1, f0, f2, f14, f15, c1, hbp, hE, hkk, hc0, hi1]
                  obtain ⟨x1, a1, s1, m1, rfl, rfl, e1⟩ := hv.at1 (i) (by omega) rfl
                  obtain rfl := el_eq helx m1
                  simp (maxDischargeDepth := 9) only [↓gB, gV, gT, reduceIte, reduceCtorEq, Nat.reduceEqDiff, Nat.reduceAdd, Nat.reduceSub, Nat.reduceLeDiff, Nat.reduceLT, Int.reduceEq, Nat.reduceMul, hr, c0, hr, f16, f1, f0, f15, c1, hbp, hE, f2, f14, e1, hkk, hc0, hi1]
                  refine vguard_intro (by simp) ?_
                  refine Ycp (p23 (by assumption) (by assumption) (by omega) (by assumption)) ?_
                  simp (maxDischargeDepth := 9) only [↓gB, gV, gT, reduceIte, reduceCtorEq, Nat.reduceEqDiff, Nat.reduceAdd, Nat.reduceSub, Nat.reduceLeDiff, Nat.reduceLT, Int.reduceEq, Nat.reduceMul, hr, c0, hr, f16, f1, f0, f15, c1, hbp, hE, f2, f14, e1, hkk, hc0, hi1]
                  obtain ⟨x2, a2, s2, m2, rfl, ⟨v2, rfl, w2⟩, e2⟩ := hw.at (k) (by omega) 5 rfl
                  obtain rfl := el_eq hely m2
                  obtain ⟨aw2, cw2, rfl⟩ := RSl.val w2
                  simp (maxDischargeDepth := 9) only [↓gB, gV, gT, reduceIte, reduceCtorEq, Nat.reduceEqDiff, Nat.reduceAdd, Nat.reduceSub, Nat.reduceLeDiff, Nat.reduceLT, Int.reduceEq, Nat.reduceMul, c0, f16, f1, f0, f15, c1, hbp, hE, f2, f14, e1, hr, hr, e2, hkk, hc0, hi1]
                  refine vguard_intro (by omega) ?_
                  refine Yn2 fun r1 h1 => ?_
                  simp (maxDischargeDepth := 9) only [↓gB, gV, gT, reduceIte, reduceCtorEq, Nat.reduceEqDiff, Nat.reduceAdd, Nat.reduceSub, Nat.reduceLeDiff, Nat.reduceLT, Int.reduceEq, Nat.reduceMul, c0, f16, f1, f0, f15, c1, hbp, hE, f2, f14, e1, hr, hr, e2, h1, hkk, hc0, hi1]
                  have q1 : Go.IntKind.i64.wrap (↑i - 1) = ↑i - 1 := wrap_id (by omega)
                  simp (maxDischargeDepth := 9) only [↓gB, gV, gT, reduceIte, reduceCtorEq, Nat.reduceEqDiff, Nat.reduceAdd, Nat.reduceSub, Nat.reduceLeDiff, Nat.reduceLT, Int.reduceEq, Nat.reduceMul, c0, f16, f1, f0, f15, c1, hbp, hE, f2, f14, e1, hr, hr, e2, h1, q1, hkk, hc0, hi1]
                  refine vguard_intro (by omega) ?_
                  obtain ⟨x3, s3, m3, rfl, e3⟩ := hv.at1' (i - 1) (by omega) rfl
                  obtain rfl := el_eq help m3
                  simp (maxDischargeDepth := 9) only [↓gB, gV, gT, reduceIte, reduceCtorEq, Nat.reduceEqDiff, Nat.reduceAdd, Nat.reduceSub, Nat.reduceLeDiff, Nat.reduceLT, Int.reduceEq, Nat.reduceMul, c0, f16, f1, f0, f15, c1, hbp, hE, f2, f14, e1, hr, hr, e2, h1, q1, e3, hkk, hc0, hi1]
                  refine Ycp (p44 (by exact (le_put (by assumption) _) _ _ (by assumption)) (by exact RSl.put _ (by assumption) (by assumption)) (by omega) (by assumption)) ?_
                  simp (maxDischargeDepth := 9) only [↓gB, gV, gT, reduceIte, reduceCtorEq, Nat.reduceEqDiff, Nat.reduceAdd, Nat.reduceSub, Nat.reduceLeDiff, Nat.reduceLT, Int.reduceEq, Nat.reduceMul, c0, f16, f1, f0, f15, c1, hbp, hE, f2, f14, e1, hr, hr, e2, h1, q1, e3, hkk, hc0, hi1]
                  have q2 : Go.IntKind.i64.wrap (↑i + 1) = ↑i + 1 := wrap_id (by omega)
                  simp (maxDischargeDepth := 9) only [↓gB, gV, gT, reduceIte, reduceCtorEq, Nat.reduceEqDiff, Nat.reduceAdd, Nat.reduceSub, Nat.reduceLeDiff, Nat.reduceLT, Int.reduceEq, Nat.reduceMul, c0, f16, f1, f0, f15, c1, hbp, hE, f2, f14, e1, hr, hr, e2, h1, q1, e3, q2, hkk, hc0, hi1]
                  rw [N_lp]
                  refine ⟨_, ?_, _, sub_refl _, i + 1, x.To, rfl, ?_, ?_, ?_, ?_, ?_, ?_, ?_, by simp (maxDischargeDepth := 9) only [↓gB, gV, gT, reduceIte, reduceCtorEq, Nat.reduceEqDiff, Nat.reduceAdd, Nat.reduceSub, Nat.reduceLeDiff, Nat.reduceLT, Int.reduceEq, Nat.reduceMul, c0, f16, f1, f0, f15, c1, hbp, hE, f2, f14, e1, hr, hr, e2, h1, q1, e3, q2, hkk, hc0, hi1, nat_succ, and_self]⟩
                  · omega
                  · omega
                  · assumption
                  · exact (le_put (by assumption) _) _ _ (by assumption)
                  · exact RSl.put _ (by assumption) (by assumption)
                  · exact RSl.put _ (by assumption) (by assumption)
                  · exact RSl.put _ (by assumption) (by assumption)
                  · (simp (maxDischargeDepth := 9) only [le_self, le_puts, le_put0, sub_self, sub_puts, sub_put0, hle, h1]; done)
    · have e0 := wg_end h c1
      simp (maxDischargeDepth := 9) only [↓gB, gV, gT, reduceIte, reduceCtorEq, Nat.reduceEqDiff, Nat.reduceAdd, Nat.reduceSub, Nat.reduceLeDiff, Nat.reduceLT, Int.reduceEq, Nat.reduceMul, hr, c0, hr, f16, f1, f0, f2, f14, f15, c1, e0]
      exact Kup_val (by simp (maxDischargeDepth := 9) only [le_self, le_puts, le_put0, hle]) rfl
end Go.Proofs.YtjhfhacdjmokaaaGreatDoor
namespace Go.Proofs.YtjhfhacdjmokaaaGreatDoor
open Go Go.GL
attribute [local irreducible] Ycall GCalls
set_option maxRecDepth 10000
set_option maxHeartbeats 0
theorem p10 {G0 : GH} {w u vl : Value} {ar : List SArc} {bs : List SBan} {fr : ByteArray} {l : List ByteArray} {va : Option Addr} {vn vc : Nat} (hw : RSl rArc G0 w ar) (hu : RSl rBan G0 u bs) (hv : RSl Rp.str G0 vl l) (hm : ar.length ≤ 1000000000) (hb : bs.length ≤ 1000000000) (hl : l.length ≤ 1000000000) : Pure Tryz.prog G0 10 [.agg #[.slice va vn vc, w, u], .string fr, vl] (V (walkE ar bs fr l)) := by
  intro G hG; replace hw := hw.le hG; replace hu := hu.le hG; replace hv := hv.le hG
  clear hG G0
  refine enter Tryz.func10 61 #[.tmp 6] rfl Tryz.ntmps10 rfl (by decide +kernel) rfl ?_
  obtain ⟨a, c, rfl⟩ := hv.val
  obtain ⟨wa, wc, rfl⟩ := hw.val
  obtain ⟨ua, uc, rfl⟩ := hu.val
  simp (maxDischargeDepth := 9) only [↓gB, gV, gT, reduceIte, reduceCtorEq, Nat.reduceEqDiff, Nat.reduceAdd, Nat.reduceSub, Nat.reduceLeDiff, Nat.reduceLT, Int.reduceEq, Nat.reduceMul, List.map_toArray, List.map_cons, List.map_nil, Value.cells]
  refine Yn2 fun r1 h1 => ?_
  simp (maxDischargeDepth := 9) only [↓gB, gV, gT, reduceIte, reduceCtorEq, Nat.reduceEqDiff, Nat.reduceAdd, Nat.reduceSub, Nat.reduceLeDiff, Nat.reduceLT, Int.reduceEq, Nat.reduceMul, h1, List.map_toArray, List.map_cons, List.map_nil, Value.cells]
  refine Xc_split _ _ _ _ _ (fun c0 => ?_) (fun c0 => ?_)
  · have e : walkE ar bs fr l = 2 := if_pos (by omega)
    simp (maxDischargeDepth := 9) only [↓gB, gV, gT, reduceIte, reduceCtorEq, Nat.reduceEqDiff, Nat.reduceAdd, Nat.reduceSub, Nat.reduceLeDiff, Nat.reduceLT, Int.reduceEq, Nat.reduceMul, h1, c0, e]
    exact Kup_val (by simp (maxDischargeDepth := 9) only [le_self, le_puts, le_put0, h1]) rfl
  · have e : walkE ar bs fr l = wGo ar bs fr none l := if_neg (by omega)
    rw [e]
    simp (maxDischargeDepth := 9) only [↓gB, gV, gT, reduceIte, reduceCtorEq, Nat.reduceEqDiff, Nat.reduceAdd, Nat.reduceSub, Nat.reduceLeDiff, Nat.reduceLT, Int.reduceEq, Nat.reduceMul, h1, c0]
    focus
      refine Xloop_intro _ _ _ _ _ (fun k f G' => ∃ (i : Nat) (here : ByteArray), k = l.length - i ∧ (i ≤ l.length) ∧ (wGo ar bs fr none l = wGo ar bs here (prevOf l i) (l.drop i)) ∧ (G' r1 = some (.cells [.slice va vn vc, .slice wa ar.length wc, .slice ua bs.length uc].toArray 26 (0, 0), true)) ∧ (RSl rArc G' (.slice wa ar.length wc) ar) ∧ (RSl rBan G' (.slice ua bs.length uc) bs) ∧ (RSl Rp.str G' (.slice a l.length c) l) ∧ (G.le G') ∧ f 17 = V i ∧ f 7 = .string here ∧ f 2 = Go.Value.slice a l.length c ∧ f 3 = Go.Value.pointer (Option.some { block := r1, off := 0 }) ∧ f 15 = Go.Value.slice a l.length c ∧ f 16 = Go.Value.int Go.IntKind.i64 ↑l.length) _ ⟨0, fr, rfl, ?_, ?_, ?_, ?_, ?_, ?_, ?_, by simp (maxDischargeDepth := 9) only [↓gB, gV, gT, reduceIte, reduceCtorEq, Nat.reduceEqDiff, Nat.reduceAdd, Nat.reduceSub, Nat.reduceLeDiff, Nat.reduceLT, Int.reduceEq, Nat.reduceMul, h1, c0, and_self]⟩ ?_
      · omega
      · rfl
      · exact put_self _ _ _
      · exact RSl.put _ (by assumption) (by assumption)
      · exact RSl.put _ (by assumption) (by assumption)
      · exact RSl.put _ (by assumption) (by assumption)
      · (simp (maxDischargeDepth := 9) only [le_self, le_puts, le_put0, sub_self, sub_puts, sub_put0, h1]; done)
      rintro k f G' ⟨i, here, rfl, hi, h, hr, hw, hu, hv, hle, f17, f7, f2, f3, f15, f16⟩
    simp (maxDischargeDepth := 9) only [↓gB, gV, gT, reduceIte, reduceCtorEq, Nat.reduceEqDiff, Nat.reduceAdd, Nat.reduceSub, Nat.reduceLeDiff, Nat.reduceLT, Int.reduceEq, Nat.reduceMul, h1, c0, hr, f17, f7, f2, f3, f15, f16]
    refine Xc_split _ _ _ _ _ (fun c1 => ?_) (fun c1 => ?_)
    · obtain ⟨s, helx⟩ : ∃ s, l[i]? = some s := ⟨_, List.getElem?_eq_getElem (by omega)⟩
      by_cases hk : keyAt SArc.Key ar s < 0
      · have ee := wg_bad h helx (if_pos hk) (by decide)
        simp (maxDischargeDepth := 9) only [↓gB, gV, gT, reduceIte, reduceCtorEq, Nat.reduceEqDiff, Nat.reduceAdd, Nat.reduceSub, Nat.reduceLeDiff, Nat.reduceLT, Int.reduceEq, Nat.reduceMul, h1, c0, hr, f17, f7, f2, f3, f15, f16, c1, hk, ee]
        obtain ⟨x1, a1, s1, m1, rfl, rfl, e1⟩ := hv.at1 (i) (by omega) rfl
        obtain rfl := el_eq helx m1
        simp (maxDischargeDepth := 9) only [↓gB, gV, gT, reduceIte, reduceCtorEq, Nat.reduceEqDiff, Nat.reduceAdd, Nat.reduceSub, Nat.reduceLeDiff, Nat.reduceLT, Int.reduceEq, Nat.reduceMul, h1, c0, hr, f17, f7, f3, f16, c1, f2, f15, e1, hk, ee]
        refine vguard_intro (by simp) ?_
        refine Ycp (p33 (by assumption) (by omega)) ?_
        simp (maxDischargeDepth := 9) only [↓gB, gV, gT, reduceIte, reduceCtorEq, Nat.reduceEqDiff, Nat.reduceAdd, Nat.reduceSub, Nat.reduceLeDiff, Nat.reduceLT, Int.reduceEq, Nat.reduceMul, h1, c0, hr, f17, f7, f3, f16, c1, f2, f15, e1, hk, ee]
        exact Kup_val (by simp (maxDischargeDepth := 9) only [le_self, le_puts, le_put0, h1, hle]) rfl
      · have hk0 : 0 ≤ keyAt SArc.Key ar s := by omega
        obtain ⟨k, hkk⟩ := Int.eq_ofNat_of_zero_le hk0
        obtain ⟨x, hely, hxs⟩ := keyAt_get hkk
        have hkl : k < ar.length := (List.getElem?_eq_some_iff.1 hely).1
        have hfa : fromOf ar s = x.From := from_at (by rw [hkk]; exact hely)
        have hta : toOf ar s = x.To := to_at (by rw [hkk]; exact hely)
        have hc0 : ¬ (k : Int) < 0 := by omega
        by_cases h3 : here ≠ (⟨#[]⟩ : ByteArray) ∧ ¬ x.From = here
        · have ee := wg_bad h helx (e := 3) (by unfold wBad; rw [if_neg hk, hfa, if_pos h3]) (by decide)
          have hE : decide (here = (⟨#[]⟩ : ByteArray)) = false := decide_eq_false h3.1
          have hF : decide (x.From = here) = false := decide_eq_false h3.2
          simp (maxDischargeDepth := 9) only [↓gB, gV, gT, reduceIte, reduceCtorEq, Nat.reduceEqDiff, Nat.reduceAdd, Nat.reduceSub, Nat.reduceLeDiff, Nat.reduceLT, Int.reduceEq, Nat.reduceMul, h1, c0, hr, f17, f7, f2, f3, f15, f16, c1, hE, hF, hkk, hc0, ee]
          obtain ⟨x1, a1, s1, m1, rfl, rfl, e1⟩ := hv.at1 (i) (by omega) rfl
          obtain rfl := el_eq helx m1
          simp (maxDischargeDepth := 9) only [↓gB, gV, gT, reduceIte, reduceCtorEq, Nat.reduceEqDiff, Nat.reduceAdd, Nat.reduceSub, Nat.reduceLeDiff, Nat.reduceLT, Int.reduceEq, Nat.reduceMul, h1, c0, hr, f17, f7, f3, f16, c1, hE, hF, f2, f15, e1, hkk, hc0, ee]
          refine vguard_intro (by simp) ?_
          refine Ycp (p33 (by assumption) (by omega)) ?_
          simp (maxDischargeDepth := 9) only [↓gB, gV, gT, reduceIte, reduceCtorEq, Nat.reduceEqDiff, Nat.reduceAdd, Nat.reduceSub, Nat.reduceLeDiff, Nat.reduceLT, Int.reduceEq, Nat.reduceMul, h1, c0, hr, f17, f7, f3, f16, c1, hE, hF, f2, f15, e1, hkk, hc0, ee]
          obtain ⟨x2, a2, s2, m2, rfl, ⟨v2, rfl, w2⟩, e2⟩ := hw.at (k) (by omega) 5 rfl
          obtain rfl := el_eq hely m2
          obtain ⟨aw2, cw2, rfl⟩ := RSl.val w2
          simp (maxDischargeDepth := 9) only [↓gB, gV, gT, reduceIte, reduceCtorEq, Nat.reduceEqDiff, Nat.reduceAdd, Nat.reduceSub, Nat.reduceLeDiff, Nat.reduceLT, Int.reduceEq, Nat.reduceMul, h1, c0, f17, f7, f3, f16, c1, hE, hF, f2, f15, e1, hr, e2, hkk, hc0, ee]
          refine vguard_intro (by omega) ?_
          exact Kup_val (by simp (maxDischargeDepth := 9) only [le_self, le_puts, le_put0, h1, hle]) rfl
        · by_cases hb0 : (prevOf l i).any (fun p => bannedB bs p s) = true
          · have ee := wg_bad h helx (e := 16) (by unfold wBad; rw [if_neg hk, hfa, if_neg h3, if_pos hb0]) (by decide)
            by_cases hi0 : i = 0
            · subst hi0; simp [prevOf] at hb0
            · obtain ⟨p, help⟩ : ∃ p, l[i - 1]? = some p := ⟨_, List.getElem?_eq_getElem (by omega)⟩
              have hbp : bannedB bs p s = true := by rw [prevOf_p (by omega), help] at hb0; exact hb0
              have hi1 : (0 : Int) < i := by omega
              cases hE : decide (here = (⟨#[]⟩ : ByteArray))
              · have hF : decide (x.From = here) = true := by
                  rw [decide_eq_false_iff_not] at hE
                  exact decide_eq_true (Decidable.byContradiction fun q => h3 ⟨hE, q⟩)
                simp (maxDischargeDepth := 9) only [↓gB, gV, gT, reduceIte, reduceCtorEq, Nat.reduceEqDiff, Nat.reduceAdd, Nat.reduceSub, Nat.reduceLeDiff, Nat.reduceLT, Int.reduceEq, Nat.reduceMul, h1, c0, hr, f17, f7, f2, f3, f15, f16, c1, hb0, hbp, hE, hF, hkk, hc0, hi1, ee]
                obtain ⟨x1, a1, s1, m1, rfl, rfl, e1⟩ := hv.at1 (i) (by omega) rfl
                obtain rfl := el_eq helx m1
                simp (maxDischargeDepth := 9) only [↓gB, gV, gT, reduceIte, reduceCtorEq, Nat.reduceEqDiff, Nat.reduceAdd, Nat.reduceSub, Nat.reduceLeDiff, Nat.reduceLT, Int.reduceEq, Nat.reduceMul, h1, c0, hr, f17, f7, f3, f16, c1, hb0, hbp, hE, hF, f2, f15, e1, hkk, hc0, hi1, ee]
                refine vguard_intro (by simp) ?_
                refine Ycp (p33 (by assumption) (by omega)) ?_
                simp (maxDischargeDepth := 9) only [↓gB, gV, gT, reduceIte, reduceCtorEq, Nat.reduceEqDiff, Nat.reduceAdd, Nat.reduceSub, Nat.reduceLeDiff, Nat.reduceLT, Int.reduceEq, Nat.reduceMul, h1, c0, hr, f17, f7, f3, f16, c1, hb0, hbp, hE, hF, f2, f15, e1, hkk, hc0, hi1, ee]
                obtain ⟨x2, a2, s2, m2, rfl, ⟨v2, rfl, w2⟩, e2⟩ := hw.at (k) (by omega) 5 rfl
                obtain rfl := el_eq hely m2
                obtain ⟨aw2, cw2, rfl⟩ := RSl.val w2
                simp (maxDischargeDepth := 9) only [↓gB, gV, gT, reduceIte, reduceCtorEq, Nat.reduceEqDiff, Nat.reduceAdd, Nat.reduceSub, Nat.reduceLeDiff, Nat.reduceLT, Int.reduceEq, Nat.reduceMul, h1, c0, f17, f7, f3, f16, c1, hb0, hbp, hE, hF, f2, f15, e1, hr, e2, hkk, hc0, hi1, ee]
                refine vguard_intro (by omega) ?_
                refine Xdraw_intro [0, 1, 2, 3, 4, 5, 6, 7, 8, 9, 10, 11, 12] mixed (by kernel_rfl) (by decide +kernel) ?_
                simp (maxDischargeDepth := 9) only [↓gB, gV, gT, reduceIte, reduceCtorEq, Nat.reduceEqDiff, Nat.reduceAdd, Nat.reduceSub, Nat.reduceLeDiff, Nat.reduceLT, Int.reduceEq, Nat.reduceMul, h1, c0, f17, f7, f3, f16, c1, hb0, hbp, hE, hF, f2, f15, e1, hr, e2, hkk, hc0, hi1, ee]
                have q1 : Go.IntKind.i64.wrap (↑i - 1) = ↑i - 1 := wrap_id (by omega)
                simp (maxDischargeDepth := 9) only [↓gB, gV, gT, reduceIte, reduceCtorEq, Nat.reduceEqDiff, Nat.reduceAdd, Nat.reduceSub, Nat.reduceLeDiff, Nat.reduceLT, Int.reduceEq, Nat.reduceMul, h1, c0, f17, f7, f3, f16, c1, hb0, hbp, hE, hF, f2, f15, e1, hr, e2, q1, hkk, hc0, hi1, ee]
                refine vguard_intro (by omega) ?_
                obtain ⟨x3, s3, m3, rfl, e3⟩ := hv.at1' (i - 1) (by omega) rfl
                obtain rfl := el_eq help m3
                simp (maxDischargeDepth := 9) only [↓gB, gV, gT, reduceIte, reduceCtorEq, Nat.reduceEqDiff, Nat.reduceAdd, Nat.reduceSub, Nat.reduceLeDiff, Nat.reduceLT, Int.reduceEq, Nat.reduceMul, h1, c0, f17, f7, f3, f16, c1, hb0, hbp, hE, hF, f2, f15, e1, hr, e2, q1, e3, hkk, hc0, hi1, ee]
                refine Ycp (p34 (by assumption) (by omega)) ?_
                simp (maxDischargeDepth := 9) only [↓gB, gV, gT, reduceIte, reduceCtorEq, Nat.reduceEqDiff, Nat.reduceAdd, Nat.reduceSub, Nat.reduceLeDiff, Nat.reduceLT, Int.reduceEq, Nat.reduceMul, h1, c0, f17, f7, f3, f16, c1, hb0, hbp, hE, hF, f2, f15, e1, hr, e2, q1, e3, hkk, hc0, hi1, ee]
                exact Kup_val (by simp (maxDischargeDepth := 9) only [le_self, le_puts, le_put0, h1, hle]) rfl
              · simp (maxDischargeDepth := 9) only [↓gB, gV, gT, reduceIte, reduceCtorEq, Nat.reduceEqDiff, Nat.reduceAdd, Nat.reduceSub, Nat.reduceLeDiff, Nat.reduceLT, Int.reduceEq, Nat.reduceMul, h1, c0, hr, f17, f7, f2, f3, f15, f16, c1, hb0, hbp, hE, hkk, hc0, hi1, ee]
                obtain ⟨x1, a1, s1, m1, rfl, rfl, e1⟩ := hv.at1 (i) (by omega) rfl
                obtain rfl := el_eq helx m1
                simp (maxDischargeDepth := 9) only [↓gB, gV, gT, reduceIte, reduceCtorEq, Nat.reduceEqDiff, Nat.reduceAdd, Nat.reduceSub, Nat.reduceLeDiff, Nat.reduceLT, Int.reduceEq, Nat.reduceMul, h1, c0, hr, f17, f7, f3, f16, c1, hb0, hbp, hE, f2, f15, e1, hkk, hc0, hi1, ee]
                refine vguard_intro (by simp) ?_
                refine Ycp (p33 (by assumption) (by omega)) ?_
                simp (maxDischargeDepth := 9) only [↓gB, gV, gT, reduceIte, reduceCtorEq, Nat.reduceEqDiff, Nat.reduceAdd, Nat.reduceSub, Nat.reduceLeDiff, Nat.reduceLT, Int.reduceEq, Nat.reduceMul, h1, c0, hr, f17, f7, f3, f16, c1, hb0, hbp, hE, f2, f15, e1, hkk, hc0, hi1, ee]
                refine Xdraw_intro [0, 1, 2, 3, 4, 5, 6, 7, 8, 9, 10, 11, 12] mixed (by kernel_rfl) (by decide +kernel) ?_
                simp (maxDischargeDepth := 9) only [↓gB, gV, gT, reduceIte, reduceCtorEq, Nat.reduceEqDiff, Nat.reduceAdd, Nat.reduceSub, Nat.reduceLeDiff, Nat.reduceLT, Int.reduceEq, Nat.reduceMul, h1, c0, hr, f17, f7, f3, f16, c1, hb0, hbp, hE, f2, f15, e1, hkk, hc0, hi1, ee]
                have q1 : Go.IntKind.i64.wrap (↑i - 1) = ↑i - 1 := wrap_id (by omega)
                simp (maxDischargeDepth := 9) only [↓gB, gV, gT, reduceIte, reduceCtorEq, Nat.reduceEqDiff, Nat.reduceAdd, Nat.reduceSub, Nat.reduceLeDiff, Nat.reduceLT, Int.reduceEq, Nat.reduceMul, h1, c0, hr, f17, f7, f3, f16, c1, hb0, hbp, hE, f2, f15, e1, q1, hkk, hc0, hi1, ee]
                refine vguard_intro (by omega) ?_
                obtain ⟨x2, s2, m2, rfl, e2⟩ := hv.at1' (i - 1) (by omega) rfl
                obtain rfl := el_eq help m2
                simp (maxDischargeDepth := 9) only [↓gB, gV, gT, reduceIte, reduceCtorEq, Nat.reduceEqDiff, Nat.reduceAdd, Nat.reduceSub, Nat.reduceLeDiff, Nat.reduceLT, Int.reduceEq, Nat.reduceMul, h1, c0, hr, f17, f7, f3, f16, c1, hb0, hbp, hE, f2, f15, e1, q1, e2, hkk, hc0, hi1, ee]
                refine Ycp (p34 (by assumption) (by omega)) ?_
                simp (maxDischargeDepth := 9) only [↓gB, gV, gT, reduceIte, reduceCtorEq, Nat.reduceEqDiff, Nat.reduceAdd, Nat.reduceSub, Nat.reduceLeDiff, Nat.reduceLT, Int.reduceEq, Nat.reduceMul, h1, c0, hr, f17, f7, f3, f16, c1, hb0, hbp, hE, f2, f15, e1, q1, e2, hkk, hc0, hi1, ee]
                exact Kup_val (by simp (maxDischargeDepth := 9) only [le_self, le_puts, le_put0, h1, hle]) rfl
          · have ee := wg_next h helx (by unfold wBad; rw [if_neg hk, hfa, if_neg h3, if_neg hb0])
            rw [hta] at ee
            by_cases hi0 : i = 0
            · have hi1 : ¬ (0 : Int) < i := by omega
              cases hE : decide (here = (⟨#[]⟩ : ByteArray))
              · have hF : decide (x.From = here) = true := by
                  rw [decide_eq_false_iff_not] at hE
                  exact decide_eq_true (Decidable.byContradiction fun q => h3 ⟨hE, q⟩)
                focus
                  simp (maxDischargeDepth := 9) only [↓gB, gV, gT, reduceIte, reduceCtorEq, Nat.reduceEqDiff, Nat.reduceAdd, Nat.reduceSub, Nat.reduceLeDiff, Nat.reduceLT, Int.reduceEq, Nat.reduceMul, h1, c0, hr, f17, f7, f2, f3, f15, f16, c1, hE, hF, hkk, hc0, hi1]
                  obtain ⟨x1, a1, s1, m1, rfl, rfl, e1⟩ := hv.at1 (i) (by omega) rfl
                  obtain rfl := el_eq helx m1
                  simp (maxDischargeDepth := 9) only [↓gB, gV, gT, reduceIte, reduceCtorEq, Nat.reduceEqDiff, Nat.reduceAdd, Nat.reduceSub, Nat.reduceLeDiff, Nat.reduceLT, Int.reduceEq, Nat.reduceMul, h1, c0, hr, f17, f7, f3, f16, c1, hE, hF, f2, f15, e1, hkk, hc0, hi1]
                  refine vguard_intro (by simp) ?_
                  refine Ycp (p33 (by assumption) (by omega)) ?_
                  simp (maxDischargeDepth := 9) only [↓gB, gV, gT, reduceIte, reduceCtorEq, Nat.reduceEqDiff, Nat.reduceAdd, Nat.reduceSub, Nat.reduceLeDiff, Nat.reduceLT, Int.reduceEq, Nat.reduceMul, h1, c0, hr, f17, f7, f3, f16, c1, hE, hF, f2, f15, e1, hkk, hc0, hi1]
                  obtain ⟨x2, a2, s2, m2, rfl, ⟨v2, rfl, w2⟩, e2⟩ := hw.at (k) (by omega) 5 rfl
                  obtain rfl := el_eq hely m2
                  obtain ⟨aw2, cw2, rfl⟩ := RSl.val w2
                  simp (maxDischargeDepth := 9) only [↓gB, gV, gT, reduceIte, reduceCtorEq, Nat.reduceEqDiff, Nat.reduceAdd, Nat.reduceSub, Nat.reduceLeDiff, Nat.reduceLT, Int.reduceEq, Nat.reduceMul, h1, c0, f17, f7, f3, f16, c1, hE, hF, f2, f15, e1, hr, e2, hkk, hc0, hi1]
                  refine vguard_intro (by omega) ?_
                  refine Xdraw_intro [0, 1, 2, 3, 4, 5, 6, 7, 8, 9, 10, 11, 12] mixed (by kernel_rfl) (by decide +kernel) ?_
                  simp (maxDischargeDepth := 9) only [↓gB, gV, gT, reduceIte, reduceCtorEq, Nat.reduceEqDiff, Nat.reduceAdd, Nat.reduceSub, Nat.reduceLeDiff, Nat.reduceLT, Int.reduceEq, Nat.reduceMul, h1, c0, f17, f7, f3, f16, c1, hE, hF, f2, f15, e1, hr, e2, hkk, hc0, hi1]
                  refine vguard_intro (by omega) ?_
                  have q1 : Go.IntKind.i64.wrap (↑i + 1) = ↑i + 1 := wrap_id (by omega)
                  simp (maxDischargeDepth := 9) only [↓gB, gV, gT, reduceIte, reduceCtorEq, Nat.reduceEqDiff, Nat.reduceAdd, Nat.reduceSub, Nat.reduceLeDiff, Nat.reduceLT, Int.reduceEq, Nat.reduceMul, h1, c0, f17, f7, f3, f16, c1, hE, hF, f2, f15, e1, hr, e2, q1, hkk, hc0, hi1]
                  rw [N_lp]
                  refine ⟨_, ?_, _, sub_refl _, i + 1, x.To, rfl, ?_, ?_, ?_, ?_, ?_, ?_, ?_, by simp (maxDischargeDepth := 9) only [↓gB, gV, gT, reduceIte, reduceCtorEq, Nat.reduceEqDiff, Nat.reduceAdd, Nat.reduceSub, Nat.reduceLeDiff, Nat.reduceLT, Int.reduceEq, Nat.reduceMul, h1, c0, f17, f7, f3, f16, c1, hE, hF, f2, f15, e1, hr, e2, q1, hkk, hc0, hi1, nat_succ, and_self]⟩
                  · omega
                  · omega
                  · assumption
                  · assumption
                  · assumption
                  · assumption
                  · assumption
                  · assumption
              · focus
                  simp (maxDischargeDepth := 9) only [↓gB, gV, gT, reduceIte, reduceCtorEq, Nat.reduceEqDiff, Nat.reduceAdd, Nat.reduceSub, Nat.reduceLeDiff, Nat.reduceLT, Int.reduceEq, Nat.reduceMul, h1, c0, hr, f17, f7, f2, f3, f15, f16, c1, hE, hkk, hc0, hi1]
                  obtain ⟨x1, a1, s1, m1, rfl, rfl, e1⟩ := hv.at1 (i) (by omega) rfl
                  obtain rfl := el_eq helx m1
                  simp (maxDischargeDepth := 9) only [↓gB, gV, gT, reduceIte, reduceCtorEq, Nat.reduceEqDiff, Nat.reduceAdd, Nat.reduceSub, Nat.reduceLeDiff, Nat.reduceLT, Int.reduceEq, Nat.reduceMul, h1, c0, hr, f17, f7, f3, f16, c1, hE, f2, f15, e1, hkk, hc0, hi1]
                  refine vguard_intro (by simp) ?_
                  refine Ycp (p33 (by assumption) (by omega)) ?_
                  simp (maxDischargeDepth := 9) only [↓gB, gV, gT, reduceIte, reduceCtorEq, Nat.reduceEqDiff, Nat.reduceAdd, Nat.reduceSub, Nat.reduceLeDiff, Nat.reduceLT, Int.reduceEq, Nat.reduceMul, h1, c0, hr, f17, f7, f3, f16, c1, hE, f2, f15, e1, hkk, hc0, hi1]
                  refine Xdraw_intro [0, 1, 2, 3, 4, 5, 6, 7, 8, 9, 10, 11, 12] mixed (by kernel_rfl) (by decide +kernel) ?_
                  simp (maxDischargeDepth := 9) only [↓gB, gV, gT, reduceIte, reduceCtorEq, Nat.reduceEqDiff, Nat.reduceAdd, Nat.reduceSub, Nat.reduceLeDiff, Nat.reduceLT, Int.reduceEq, Nat.reduceMul, h1, c0, hr, f17, f7, f3, f16, c1, hE, f2, f15, e1, hkk, hc0, hi1]
                  obtain ⟨x2, a2, s2, m2, rfl, ⟨v2, rfl, w2⟩, e2⟩ := hw.at (k) (by omega) 5 rfl
                  obtain rfl := el_eq hely m2
                  obtain ⟨aw2, cw2, rfl⟩ := RSl.val w2
                  simp (maxDischargeDepth := 9) only [↓gB, gV, gT, reduceIte, reduceCtorEq, Nat.reduceEqDiff, Nat.reduceAdd, Nat.reduceSub, Nat.reduceLeDiff, Nat.reduceLT, Int.reduceEq, Nat.reduceMul, h1, c0, f17, f7, f3, f16, c1, hE, f2, f15, e1, hr, e2, hkk, hc0, hi1]
                  refine vguard_intro (by omega) ?_
                  have q1 : Go.IntKind.i64.wrap (↑i + 1) = ↑i + 1 := wrap_id (by omega)
                  simp (maxDischargeDepth := 9) only [↓gB, gV, gT, reduceIte, reduceCtorEq, Nat.reduceEqDiff, Nat.reduceAdd, Nat.reduceSub, Nat.reduceLeDiff, Nat.reduceLT, Int.reduceEq, Nat.reduceMul, h1, c0, f17, f7, f3, f16, c1, hE, f2, f15, e1, hr, e2, q1, hkk, hc0, hi1]
                  rw [N_lp]
                  refine ⟨_, ?_, _, sub_refl _, i + 1, x.To, rfl, ?_, ?_, ?_, ?_, ?_, ?_, ?_, by simp (maxDischargeDepth := 9) only [↓gB, gV, gT, reduceIte, reduceCtorEq, Nat.reduceEqDiff, Nat.reduceAdd, Nat.reduceSub, Nat.reduceLeDiff, Nat.reduceLT, Int.reduceEq, Nat.reduceMul, h1, c0, f17, f7, f3, f16, c1, hE, f2, f15, e1, hr, e2, q1, hkk, hc0, hi1, nat_succ, and_self]⟩
                  · omega
                  · omega
                  · assumption
                  · assumption
                  · assumption
                  · assumption
                  · assumption
                  · assumption
            · obtain ⟨p, help⟩ : ∃ p, l[i - 1]? = some p := ⟨_, List.getElem?_eq_getElem (by omega)⟩
              have hbp : bannedB bs p s = false := by
                rw [prevOf_p (by omega), help] at hb0
                cases q : bannedB bs p s with
                | false => rfl
                | true => exact absurd q hb0
              have hi1 : (0 : Int) < i := by omega
              cases hE : decide (here = (⟨#[]⟩ : ByteArray))
              · have hF : decide (x.From = here) = true := by
                  rw [decide_eq_false_iff_not] at hE
                  exact decide_eq_true (Decidable.byContradiction fun q => h3 ⟨hE, q⟩)
                focus
                  simp (maxDischargeDepth := 9) only [↓gB, gV, gT, reduceIte, reduceCtorEq, Nat.reduceEqDiff, Nat.reduceAdd, Nat.reduceSub, Nat.reduceLeDiff, Nat.reduceLT, Int.reduceEq, Nat.reduceMul, h1, c0, hr, f17, f7, f2, f3, f15, f16, c1, hbp, hE, hF, hkk, hc0, hi1]
                  obtain ⟨x1, a1, s1, m1, rfl, rfl, e1⟩ := hv.at1 (i) (by omega) rfl
                  obtain rfl := el_eq helx m1
                  simp (maxDischargeDepth := 9) only [↓gB, gV, gT, reduceIte, reduceCtorEq, Nat.reduceEqDiff, Nat.reduceAdd, Nat.reduceSub, Nat.reduceLeDiff, Nat.reduceLT, Int.reduceEq, Nat.reduceMul, h1, c0, hr, f17, f7, f3, f16, c1, hbp, hE, hF, f2, f15, e1, hkk, hc0, hi1]
                  refine vguard_intro (by simp) ?_
                  refine Ycp (p33 (by assumption) (by omega)) ?_
                  simp (maxDischargeDepth := 9) only [↓gB, gV, gT, reduceIte, reduceCtorEq, Nat.reduceEqDiff, Nat.reduceAdd, Nat.reduceSub, Nat.reduceLeDiff, Nat.reduceLT, Int.reduceEq, Nat.reduceMul, h1, c0, hr, f17, f7, f3, f16, c1, hbp, hE, hF, f2, f15, e1, hkk, hc0, hi1]
                  obtain ⟨x2, a2, s2, m2, rfl, ⟨v2, rfl, w2⟩, e2⟩ := hw.at (k) (by omega) 5 rfl
                  obtain rfl := el_eq hely m2
                  obtain ⟨aw2, cw2, rfl⟩ := RSl.val w2
                  simp (maxDischargeDepth := 9) only [↓gB, gV, gT, reduceIte, reduceCtorEq, Nat.reduceEqDiff, Nat.reduceAdd, Nat.reduceSub, Nat.reduceLeDiff, Nat.reduceLT, Int.reduceEq, Nat.reduceMul, h1, c0, f17, f7, f3, f16, c1, hbp, hE, hF, f2, f15, e1, hr, e2, hkk, hc0, hi1]
                  refine vguard_intro (by omega) ?_
                  refine Xdraw_intro [0, 1, 2, 3, 4, 5, 6, 7, 8, 9, 10, 11, 12] mixed (by kernel_rfl) (by decide +kernel) ?_
                  simp (maxDischargeDepth := 9) only [↓gB, gV, gT, reduceIte, reduceCtorEq, Nat.reduceEqDiff, Nat.reduceAdd, Nat.reduceSub, Nat.reduceLeDiff, Nat.reduceLT, Int.reduceEq, Nat.reduceMul, h1, c0, f17, f7, f3, f16, c1, hbp, hE, hF, f2, f15, e1, hr, e2, hkk, hc0, hi1]
                  have q1 : Go.IntKind.i64.wrap (↑i - 1) = ↑i - 1 := wrap_id (by omega)
                  simp (maxDischargeDepth := 9) only [↓gB, gV, gT, reduceIte, reduceCtorEq, Nat.reduceEqDiff, Nat.reduceAdd, Nat.reduceSub, Nat.reduceLeDiff, Nat.reduceLT, Int.reduceEq, Nat.reduceMul, h1, c0, f17, f7, f3, f16, c1, hbp, hE, hF, f2, f15, e1, hr, e2, q1, hkk, hc0, hi1]
                  refine vguard_intro (by omega) ?_
                  obtain ⟨x3, s3, m3, rfl, e3⟩ := hv.at1' (i - 1) (by omega) rfl
                  obtain rfl := el_eq help m3
                  simp (maxDischargeDepth := 9) only [↓gB, gV, gT, reduceIte, reduceCtorEq, Nat.reduceEqDiff, Nat.reduceAdd, Nat.reduceSub, Nat.reduceLeDiff, Nat.reduceLT, Int.reduceEq, Nat.reduceMul, h1, c0, f17, f7, f3, f16, c1, hbp, hE, hF, f2, f15, e1, hr, e2, q1, e3, hkk, hc0, hi1]
                  refine Ycp (p34 (by assumption) (by omega)) ?_
                  simp (maxDischargeDepth := 9) only [↓gB, gV, gT, reduceIte, reduceCtorEq, Nat.reduceEqDiff, Nat.reduceAdd, Nat.reduceSub, Nat.reduceLeDiff, Nat.reduceLT, Int.reduceEq, Nat.reduceMul, h1, c0, f17, f7, f3, f16, c1, hbp, hE, hF, f2, f15, e1, hr, e2, q1, e3, hkk, hc0, hi1]
                  refine vguard_intro (by omega) ?_
                  have q2 : Go.IntKind.i64.wrap (↑i + 1) = ↑i + 1 := wrap_id (by omega)
                  simp (maxDischargeDepth := 9) only [↓gB, gV, gT, reduceIte, reduceCtorEq, Nat.reduceEqDiff, Nat.reduceAdd, Nat.reduceSub, Nat.reduceLeDiff, Nat.reduceLT, Int.reduceEq, Nat.reduceMul, h1, c0, f17, f7, f3, f16, c1, hbp, hE, hF, f2, f15, e1, hr, e2, q1, e3, q2, hkk, hc0, hi1]
                  rw [N_lp]
                  refine ⟨_, ?_, _, sub_refl _, i + 1, x.To, rfl, ?_, ?_, ?_, ?_, ?_, ?_, ?_, by simp (maxDischargeDepth := 9) only [↓gB, gV, gT, reduceIte, reduceCtorEq, Nat.reduceEqDiff, Nat.reduceAdd, Nat.reduceSub, Nat.reduceLeDiff, Nat.reduceLT, Int.reduceEq, Nat.reduceMul, h1, c0, f17, f7, f3, f16, c1, hbp, hE, hF, f2, f15, e1, hr, e2, q1, e3, q2, hkk, hc0, hi1, nat_succ, and_self]⟩
                  · omega
                  · omega
                  · assumption
                  · assumption
                  · assumption
                  · assumption
                  · assumption
                  · assumption
              · focus
                  simp (maxDischargeDepth := 9) only [↓gB, gV, gT, reduceIte, reduceCtorEq, Nat.reduceEqDiff, Nat.reduceAdd, Nat.reduceSub, Nat.reduceLeDiff, Nat.reduceLT, Int.reduceEq, Nat.reduceMul, h1, c0, hr, f17, f7, f2, f3, f15, f16, c1, hbp, hE, hkk, hc0, hi1]
                  obtain ⟨x1, a1, s1, m1, rfl, rfl, e1⟩ := hv.at1 (i) (by omega) rfl
                  obtain rfl := el_eq helx m1
                  simp (maxDischargeDepth := 9) only [↓gB, gV, gT, reduceIte, reduceCtorEq, Nat.reduceEqDiff, Nat.reduceAdd, Nat.reduceSub, Nat.reduceLeDiff, Nat.reduceLT, Int.reduceEq, Nat.reduceMul, h1, c0, hr, f17, f7, f3, f16, c1, hbp, hE, f2, f15, e1, hkk, hc0, hi1]
                  refine vguard_intro (by simp) ?_
                  refine Ycp (p33 (by assumption) (by omega)) ?_
                  simp (maxDischargeDepth := 9) only [↓gB, gV, gT, reduceIte, reduceCtorEq, Nat.reduceEqDiff, Nat.reduceAdd, Nat.reduceSub, Nat.reduceLeDiff, Nat.reduceLT, Int.reduceEq, Nat.reduceMul, h1, c0, hr, f17, f7, f3, f16, c1, hbp, hE, f2, f15, e1, hkk, hc0, hi1]
                  refine Xdraw_intro [0, 1, 2, 3, 4, 5, 6, 7, 8, 9, 10, 11, 12] mixed (by kernel_rfl) (by decide +kernel) ?_
                  simp (maxDischargeDepth := 9) only [↓gB, gV, gT, reduceIte, reduceCtorEq, Nat.reduceEqDiff, Nat.reduceAdd, Nat.reduceSub, Nat.reduceLeDiff, Nat.reduceLT, Int.reduceEq, Nat.reduceMul, h1, c0, hr, f17, f7, f3, f16, c1, hbp, hE, f2, f15, e1, hkk, hc0, hi1]
                  have q1 : Go.IntKind.i64.wrap (↑i - 1) = ↑i - 1 := wrap_id (by omega)
                  simp (maxDischargeDepth := 9) only [↓gB, gV, gT, reduceIte, reduceCtorEq, Nat.reduceEqDiff, Nat.reduceAdd, Nat.reduceSub, Nat.reduceLeDiff, Nat.reduceLT, Int.reduceEq, Nat.reduceMul, h1, c0, hr, f17, f7, f3, f16, c1, hbp, hE, f2, f15, e1, q1, hkk, hc0, hi1]
                  refine vguard_intro (by omega) ?_
                  obtain ⟨x2, s2, m2, rfl, e2⟩ := hv.at1' (i - 1) (by omega) rfl
                  obtain rfl := el_eq help m2
                  simp (maxDischargeDepth := 9) only [↓gB, gV, gT, reduceIte, reduceCtorEq, Nat.reduceEqDiff, Nat.reduceAdd, Nat.reduceSub, Nat.reduceLeDiff, Nat.reduceLT, Int.reduceEq, Nat.reduceMul, h1, c0, hr, f17, f7, f3, f16, c1, hbp, hE, f2, f15, e1, q1, e2, hkk, hc0, hi1]
                  refine Ycp (p34 (by assumption) (by omega)) ?_
                  simp (maxDischargeDepth := 9) only [↓gB, gV, gT, reduceIte, reduceCtorEq, Nat.reduceEqDiff, Nat.reduceAdd, Nat.reduceSub, Nat.reduceLeDiff, Nat.reduceLT, Int.reduceEq, Nat.reduceMul, h1, c0, hr, f17, f7, f3, f16, c1, hbp, hE, f2, f15, e1, q1, e2, hkk, hc0, hi1]
                  obtain ⟨x3, a3, s3, m3, rfl, ⟨v3, rfl, w3⟩, e3⟩ := hw.at (k) (by omega) 5 rfl
                  obtain rfl := el_eq hely m3
                  obtain ⟨aw3, cw3, rfl⟩ := RSl.val w3
                  simp (maxDischargeDepth := 9) only [↓gB, gV, gT, reduceIte, reduceCtorEq, Nat.reduceEqDiff, Nat.reduceAdd, Nat.reduceSub, Nat.reduceLeDiff, Nat.reduceLT, Int.reduceEq, Nat.reduceMul, h1, c0, f17, f7, f3, f16, c1, hbp, hE, f2, f15, e1, q1, e2, hr, e3, hkk, hc0, hi1]
                  refine vguard_intro (by omega) ?_
                  have q2 : Go.IntKind.i64.wrap (↑i + 1) = ↑i + 1 := wrap_id (by omega)
                  simp (maxDischargeDepth := 9) only [↓gB, gV, gT, reduceIte, reduceCtorEq, Nat.reduceEqDiff, Nat.reduceAdd, Nat.reduceSub, Nat.reduceLeDiff, Nat.reduceLT, Int.reduceEq, Nat.reduceMul, h1, c0, f17, f7, f3, f16, c1, hbp, hE, f2, f15, e1, q1, e2, hr, e3, q2, hkk, hc0, hi1]
                  rw [N_lp]
                  refine ⟨_, ?_, _, sub_refl _, i + 1, x.To, rfl, ?_, ?_, ?_, ?_, ?_, ?_, ?_, by simp (maxDischargeDepth := 9) only [↓gB, gV, gT, reduceIte, reduceCtorEq, Nat.reduceEqDiff, Nat.reduceAdd, Nat.reduceSub, Nat.reduceLeDiff, Nat.reduceLT, Int.reduceEq, Nat.reduceMul, h1, c0, f17, f7, f3, f16, c1, hbp, hE, f2, f15, e1, q1, e2, hr, e3, q2, hkk, hc0, hi1, nat_succ, and_self]⟩
                  · omega
                  · omega
                  · assumption
                  · assumption
                  · assumption
                  · assumption
                  · assumption
                  · assumption
    · have e0 := wg_end h c1
      simp (maxDischargeDepth := 9) only [↓gB, gV, gT, reduceIte, reduceCtorEq, Nat.reduceEqDiff, Nat.reduceAdd, Nat.reduceSub, Nat.reduceLeDiff, Nat.reduceLT, Int.reduceEq, Nat.reduceMul, h1, c0, hr, f17, f7, f2, f3, f15, f16, c1, e0]
      exact Kup_val (by simp (maxDischargeDepth := 9) only [le_self, le_puts, le_put0, h1, hle]) rfl
end Go.Proofs.YtjhfhacdjmokaaaGreatDoor
