/- Proved: Fair, Gains and Refund are as specified for all costs, dues and steps (arguments up to the stated bulk). -/
import Derived.Test.YtdepecjjahodjaaDoorRows
import Derived.WalkKit
import Derived.ProofKit
import Derived.OpenShut
import Derived.ChangeOld
import Derived.Below
import Derived.Carry
import Derived.ChangeArms
import Derived.JoinedCond
import Derived.Test.YtdepecjjahodjaaDoorCards
import Derived.Test.YtdepecjjahodjaaDoorTie
import Derived.Deep.DeepHandedRow
import Derived.Test.YtdepecjjahodjaaDoorCfSh
import Derived.Test.YtdepecjjahodjaaDoorCfW28
import Derived.Test.YtdepecjjahodjaaDoorCfW29
import Derived.Test.YtdepecjjahodjaaDoorCfW30
set_option linter.unusedSimpArgs false
set_option linter.unusedVariables false
set_option linter.unusedSectionVars false
namespace Go.Proofs.YtdepecjjahodjaaDoor
open Go Go.GL
attribute [local irreducible] Ycall GCalls
set_option maxRecDepth 10000
set_option maxHeartbeats 0
theorem p24 {G0 : GH} {v w : Value} {l m : List Int} (hv : RSl Rp.int G0 v l) (hw : RSl Rp.int G0 w m) (hn : (l.length : Int) ≤ 9223372036854775807) : Pure Tryd.prog G0 24 [v, w] (.bool (decide (l = m))) := by
  intro G hG; replace hv := hv.le hG; replace hw := hw.le hG
  clear hG G0
  refine enter Tryd.func24 26 #[.tmp 4] rfl Tryd.ntmps24 rfl (by decide +kernel) rfl ?_
  obtain ⟨a, c, rfl⟩ := hv.val
  obtain ⟨b, d, rfl⟩ := hw.val
  simp (maxDischargeDepth := 9) only [↓gB, gV, gT, reduceIte, reduceCtorEq, Nat.reduceEqDiff, Nat.reduceAdd, Nat.reduceSub, Nat.reduceLeDiff, Nat.reduceLT, Int.reduceEq, Nat.reduceMul]
  refine Xc_split _ _ _ _ _ (fun hlen => ?_) (fun hlen => ?_)
  · simp (maxDischargeDepth := 9) only [↓gB, gV, gT, reduceIte, reduceCtorEq, Nat.reduceEqDiff, Nat.reduceAdd, Nat.reduceSub, Nat.reduceLeDiff, Nat.reduceLT, Int.reduceEq, Nat.reduceMul]
    refine Kup_val (le_refl _) ?_
    have hne : l ≠ m := by (rintro rfl; exact hlen rfl)
    simp [hne]
  · simp (maxDischargeDepth := 9) only [↓gB, gV, gT, reduceIte, reduceCtorEq, Nat.reduceEqDiff, Nat.reduceAdd, Nat.reduceSub, Nat.reduceLeDiff, Nat.reduceLT, Int.reduceEq, Nat.reduceMul]
    focus
      refine Xloop_intro _ _ _ _ _ (fun k f G' => ∃ (i : Nat), k = l.length - i ∧ (i ≤ l.length) ∧ (l.take i = m.take i) ∧ (G = G') ∧ f 13 = V i ∧ f 0 = Go.Value.slice a l.length c ∧ f 1 = Go.Value.slice b m.length d ∧ f 12 = Go.Value.int Go.IntKind.i64 ↑l.length) _ ⟨0, rfl, ?_, ?_, rfl, by simp (maxDischargeDepth := 9) only [↓gB, gV, gT, reduceIte, reduceCtorEq, Nat.reduceEqDiff, Nat.reduceAdd, Nat.reduceSub, Nat.reduceLeDiff, Nat.reduceLT, Int.reduceEq, Nat.reduceMul, and_self]⟩ ?_
      · omega
      · rfl
      rintro k f G' ⟨i, rfl, hi, h, rfl, f13, f0, f1, f12⟩
    focus
      simp (maxDischargeDepth := 9) only [↓gB, gV, gT, reduceIte, reduceCtorEq, Nat.reduceEqDiff, Nat.reduceAdd, Nat.reduceSub, Nat.reduceLeDiff, Nat.reduceLT, Int.reduceEq, Nat.reduceMul, f13, f0, f1, f12]
      refine Xc_split _ _ _ _ _ (fun c1 => ?_) (fun c1 => ?_)
      rotate_left 1
      focus
        simp (maxDischargeDepth := 9) only [↓gB, gV, gT, reduceIte, reduceCtorEq, Nat.reduceEqDiff, Nat.reduceAdd, Nat.reduceSub, Nat.reduceLeDiff, Nat.reduceLT, Int.reduceEq, Nat.reduceMul, f13, f0, f1, f12, c1]
        refine Kup_val (le_refl _) ?_
        focus ((have e : l = m := by (rw [← List.take_of_length_le (l := l) (i := i) (by omega), h, List.take_of_length_le (by omega)])); simp [e]; done)
      rotate_right 1
      simp (maxDischargeDepth := 9) only [↓gB, gV, gT, reduceIte, reduceCtorEq, Nat.reduceEqDiff, Nat.reduceAdd, Nat.reduceSub, Nat.reduceLeDiff, Nat.reduceLT, Int.reduceEq, Nat.reduceMul, f13, f0, f1, f12, c1]
      refine Xdraw_intro [0, 1, 2, 3, 4, 5, 6, 7, 8] mixed (by kernel_rfl) (by decide +kernel) ?_
      simp (maxDischargeDepth := 9) only [↓gB, gV, gT, reduceIte, reduceCtorEq, Nat.reduceEqDiff, Nat.reduceAdd, Nat.reduceSub, Nat.reduceLeDiff, Nat.reduceLT, Int.reduceEq, Nat.reduceMul, f13, f0, f1, f12, c1]
      obtain ⟨x1, a1, s1, m1, rfl, ⟨rfl, w1⟩, e1⟩ := hv.at1 (i) (by omega) rfl
      simp (maxDischargeDepth := 9) only [↓gB, gV, gT, reduceIte, reduceCtorEq, Nat.reduceEqDiff, Nat.reduceAdd, Nat.reduceSub, Nat.reduceLeDiff, Nat.reduceLT, Int.reduceEq, Nat.reduceMul, f13, f1, f12, c1, f0, e1]
      refine vguard_intro (by simp) ?_
      obtain ⟨x2, a2, s2, m2, rfl, ⟨rfl, w2⟩, e2⟩ := hw.at1 (i) (by omega) rfl
      simp (maxDischargeDepth := 9) only [↓gB, gV, gT, reduceIte, reduceCtorEq, Nat.reduceEqDiff, Nat.reduceAdd, Nat.reduceSub, Nat.reduceLeDiff, Nat.reduceLT, Int.reduceEq, Nat.reduceMul, f13, f12, c1, f0, e1, f1, e2]
      refine vguard_intro (by omega) ?_
      refine Xc_split _ _ _ _ _ (fun c2 => ?_) (fun c2 => ?_)
      rotate_left 1
      focus
        simp (maxDischargeDepth := 9) only [↓gB, gV, gT, reduceIte, reduceCtorEq, Nat.reduceEqDiff, Nat.reduceAdd, Nat.reduceSub, Nat.reduceLeDiff, Nat.reduceLT, Int.reduceEq, Nat.reduceMul, f13, f12, c1, f0, e1, f1, e2, c2]
        have q1 : Go.IntKind.i64.wrap (↑i + 1) = ↑i + 1 := wrap_id (by omega)
        simp (maxDischargeDepth := 9) only [↓gB, gV, gT, reduceIte, reduceCtorEq, Nat.reduceEqDiff, Nat.reduceAdd, Nat.reduceSub, Nat.reduceLeDiff, Nat.reduceLT, Int.reduceEq, Nat.reduceMul, f13, f12, c1, f0, e1, f1, e2, c2, q1]
        rw [N_lp]
        refine ⟨_, ?_, _, ?_, i + 1, rfl, ?_, ?_, rfl, by simp (maxDischargeDepth := 9) only [↓gB, gV, gT, reduceIte, reduceCtorEq, Nat.reduceEqDiff, Nat.reduceAdd, Nat.reduceSub, Nat.reduceLeDiff, Nat.reduceLT, Int.reduceEq, Nat.reduceMul, f13, f12, c1, f0, e1, f1, e2, c2, q1, nat_succ, and_self]⟩
        · omega
        · exact sub_refl _
        · omega
        · (rw [take_at m1, take_at m2, h, show x1 = x2 by first | assumption | omega]; done)
      rotate_right 1
      simp (maxDischargeDepth := 9) only [↓gB, gV, gT, reduceIte, reduceCtorEq, Nat.reduceEqDiff, Nat.reduceAdd, Nat.reduceSub, Nat.reduceLeDiff, Nat.reduceLT, Int.reduceEq, Nat.reduceMul, f13, f12, c1, f0, e1, f1, e2, c2]
      refine Kup_val (le_refl _) ?_
      focus ((have e : l ≠ m := by (rintro rfl; rw [m1] at m2; cases m2; simp_all)); simp [e]; done)
def partsOk (l : List Int) : Bool := l.all fun p => within p 0 1000000000
def divideE (n : Int) (l : List Int) : Int := if within n 0 1000000000 = false then 1 else if 1000 < l.length then 2 else if partsOk l = false then 1 else if l.sum = 0 then 8 else 0
theorem parts_b {l : List Int} (h : partsOk l = true) : ∀ p ∈ l, 0 ≤ p ∧ p ≤ 1000000000 := fun p hp => within_iff.1 (List.all_eq_true.1 h p hp)
theorem g22 {G0 : GH} {n : Int} {v : Value} {l : List Int} (hv : RSl Rp.int G0 v l) (hlen : l.length < 20) : Gives Tryd.prog G0 22 [V n, v] (fun u G' => ∃ x, RSl Rp.int G' x (if divideE n l = 0 then divideF n l else []) ∧ u = .tuple #[x, V (divideE n l)]) := by
  intro G hG; replace hv := hv.le hG
  clear hG G0
  refine enter Tryd.func22 31 #[.tmp 4, .tmp 5] rfl Tryd.ntmps22 rfl (by decide +kernel) rfl ?_
  obtain ⟨a, c, rfl⟩ := hv.val
  cases hn : within n 0 1000000000
  · have e : divideE n l = 1 := by simp [divideE, hn]
    simp (maxDischargeDepth := 9) only [↓gB, gV, gT, reduceIte, reduceCtorEq, Nat.reduceEqDiff, Nat.reduceAdd, Nat.reduceSub, Nat.reduceLeDiff, Nat.reduceLT, Int.reduceEq, Nat.reduceMul, hn, e]
    refine Ycp (p45) ?_
    simp (maxDischargeDepth := 9) only [↓gB, gV, gT, reduceIte, reduceCtorEq, Nat.reduceEqDiff, Nat.reduceAdd, Nat.reduceSub, Nat.reduceLeDiff, Nat.reduceLT, Int.reduceEq, Nat.reduceMul, hn, e]
    exact Kup_gives (sub_refl _) (le_refl _) ⟨_, RSl.nil _ _, rfl⟩
  · have hnb := within_iff.1 hn
    simp (maxDischargeDepth := 9) only [↓gB, gV, gT, reduceIte, reduceCtorEq, Nat.reduceEqDiff, Nat.reduceAdd, Nat.reduceSub, Nat.reduceLeDiff, Nat.reduceLT, Int.reduceEq, Nat.reduceMul, hn]
    refine Ycp (p45) ?_
    simp (maxDischargeDepth := 9) only [↓gB, gV, gT, reduceIte, reduceCtorEq, Nat.reduceEqDiff, Nat.reduceAdd, Nat.reduceSub, Nat.reduceLeDiff, Nat.reduceLT, Int.reduceEq, Nat.reduceMul, hn]
    refine Xc_neg _ _ _ _ _ (by omega) ?_
    simp (maxDischargeDepth := 9) only [↓gB, gV, gT, reduceIte, reduceCtorEq, Nat.reduceEqDiff, Nat.reduceAdd, Nat.reduceSub, Nat.reduceLeDiff, Nat.reduceLT, Int.reduceEq, Nat.reduceMul, hn]
    focus
      refine Xloop_intro _ _ _ _ _ (fun k f G' => ∃ (i : Nat), k = l.length - i ∧ (i ≤ l.length) ∧ (partsOk (l.take i) = true) ∧ (G = G') ∧ f 16 = V i ∧ f 6 = V (l.take i).sum ∧ f 0 = Go.GL.V n ∧ f 1 = Go.Value.slice a l.length c ∧ f 14 = Go.Value.slice a l.length c ∧ f 15 = Go.Value.int Go.IntKind.i64 ↑l.length) _ ⟨0, rfl, ?_, ?_, rfl, by simp (maxDischargeDepth := 9) only [↓gB, gV, gT, reduceIte, reduceCtorEq, Nat.reduceEqDiff, Nat.reduceAdd, Nat.reduceSub, Nat.reduceLeDiff, Nat.reduceLT, Int.reduceEq, Nat.reduceMul, hn, List.sum_nil, and_self]⟩ ?_
      · omega
      · rfl
      rintro k f G' ⟨i, rfl, hi, hp, rfl, f16, f6, f0, f1, f14, f15⟩
    have hb := sum_b (parts_b hp)
    have hlt : (l.take i).length ≤ i := by rw [List.length_take]; omega
    simp (maxDischargeDepth := 9) only [↓gB, gV, gT, reduceIte, reduceCtorEq, Nat.reduceEqDiff, Nat.reduceAdd, Nat.reduceSub, Nat.reduceLeDiff, Nat.reduceLT, Int.reduceEq, Nat.reduceMul, hn, hp, f16, f6, f0, f1, f14, f15]
    refine Xc_split _ _ _ _ _ (fun c1 => ?_) (fun c1 => ?_)
    · obtain ⟨x, hx⟩ : ∃ x, l[i]? = some x := ⟨_, List.getElem?_eq_getElem (by omega)⟩
      have hst := sum_take hx
      simp (maxDischargeDepth := 9) only [↓gB, gV, gT, reduceIte, reduceCtorEq, Nat.reduceEqDiff, Nat.reduceAdd, Nat.reduceSub, Nat.reduceLeDiff, Nat.reduceLT, Int.reduceEq, Nat.reduceMul, hn, hp, f16, f6, f0, f1, f14, f15, c1]
      obtain ⟨x1, a1, s1, m1, rfl, ⟨rfl, w1⟩, e1⟩ := hv.at1 (i) (by omega) rfl
      simp (maxDischargeDepth := 9) only [↓gB, gV, gT, reduceIte, reduceCtorEq, Nat.reduceEqDiff, Nat.reduceAdd, Nat.reduceSub, Nat.reduceLeDiff, Nat.reduceLT, Int.reduceEq, Nat.reduceMul, hn, hp, f16, f6, f0, f15, c1, f1, f14, e1]
      refine vguard_intro (by simp) ?_
      refine Ycp (p45) ?_
      simp (maxDischargeDepth := 9) only [↓gB, gV, gT, reduceIte, reduceCtorEq, Nat.reduceEqDiff, Nat.reduceAdd, Nat.reduceSub, Nat.reduceLeDiff, Nat.reduceLT, Int.reduceEq, Nat.reduceMul, hn, hp, f16, f6, f0, f15, c1, f1, f14, e1]
      obtain rfl : x = x1 := by rw [hx] at m1; cases m1; rfl
      cases hxw : within x 0 1000000000
      · have e : divideE n l = 1 := by
          have : partsOk l = false := by
            unfold partsOk; rw [List.all_eq_false]; exact ⟨x, List.mem_of_getElem? hx, by simp [hxw]⟩
          have h0 : ¬ 1000 < l.length := by omega
          simp [divideE, hn, this, h0]
        simp (maxDischargeDepth := 9) only [↓gB, gV, gT, reduceIte, reduceCtorEq, Nat.reduceEqDiff, Nat.reduceAdd, Nat.reduceSub, Nat.reduceLeDiff, Nat.reduceLT, Int.reduceEq, Nat.reduceMul, hn, hp, f16, f6, f0, f15, c1, f1, f14, e1, hxw, e]
        exact Kup_gives (sub_refl _) (le_refl _) ⟨_, RSl.nil _ _, rfl⟩
      · have hxb := within_iff.1 hxw
        have hp' : partsOk (l.take (i + 1)) = true := by unfold partsOk at *; rw [take_at hx, List.all_append, hp]; simp [hxw]
        focus
          simp (maxDischargeDepth := 9) only [↓gB, gV, gT, reduceIte, reduceCtorEq, Nat.reduceEqDiff, Nat.reduceAdd, Nat.reduceSub, Nat.reduceLeDiff, Nat.reduceLT, Int.reduceEq, Nat.reduceMul, hn, hp, f16, f6, f0, f15, c1, f1, f14, e1, hxw, hp', hst]
          have q1 : Go.IntKind.i64.wrap ((List.take i l).sum + x) = (List.take i l).sum + x := wrap_id (by omega)
          simp (maxDischargeDepth := 9) only [↓gB, gV, gT, reduceIte, reduceCtorEq, Nat.reduceEqDiff, Nat.reduceAdd, Nat.reduceSub, Nat.reduceLeDiff, Nat.reduceLT, Int.reduceEq, Nat.reduceMul, hn, hp, f16, f6, f0, f15, c1, f1, f14, e1, hxw, hp', q1, hst]
          have q2 : Go.IntKind.i64.wrap (↑i + 1) = ↑i + 1 := wrap_id (by omega)
          simp (maxDischargeDepth := 9) only [↓gB, gV, gT, reduceIte, reduceCtorEq, Nat.reduceEqDiff, Nat.reduceAdd, Nat.reduceSub, Nat.reduceLeDiff, Nat.reduceLT, Int.reduceEq, Nat.reduceMul, hn, hp, f16, f6, f0, f15, c1, f1, f14, e1, hxw, hp', q1, q2, hst]
          rw [N_lp]
          refine ⟨_, ?_, _, ?_, i + 1, rfl, ?_, ?_, rfl, by simp (maxDischargeDepth := 9) only [↓gB, gV, gT, reduceIte, reduceCtorEq, Nat.reduceEqDiff, Nat.reduceAdd, Nat.reduceSub, Nat.reduceLeDiff, Nat.reduceLT, Int.reduceEq, Nat.reduceMul, hn, hp, f16, f6, f0, f15, c1, f1, f14, e1, hxw, hp', q1, q2, hst, nat_succ, and_self]⟩
          · omega
          · exact sub_refl _
          · omega
          · assumption
    · have e2 : l.take i = l := List.take_of_length_le (by omega)
      rw [e2] at hp f6 hb
      have h0 : ¬ 1000 < l.length := by omega
      by_cases c2 : l.sum = 0
      · have e : divideE n l = 8 := by simp [divideE, hn, hp, c2, h0]
        simp (maxDischargeDepth := 9) only [↓gB, gV, gT, reduceIte, reduceCtorEq, Nat.reduceEqDiff, Nat.reduceAdd, Nat.reduceSub, Nat.reduceLeDiff, Nat.reduceLT, Int.reduceEq, Nat.reduceMul, hn, hp, f16, f6, f0, f1, f14, f15, c1, c2, e]
        exact Kup_gives (sub_refl _) (le_refl _) ⟨_, RSl.nil _ _, rfl⟩
      · have e : divideE n l = 0 := by simp [divideE, hn, hp, c2, h0]
        have hs0 : 0 < l.sum := by omega
        have hpb := parts_b hp
        simp (maxDischargeDepth := 9) only [↓gB, gV, gT, reduceIte, reduceCtorEq, Nat.reduceEqDiff, Nat.reduceAdd, Nat.reduceSub, Nat.reduceLeDiff, Nat.reduceLT, Int.reduceEq, Nat.reduceMul, hn, hp, f16, f6, f0, f1, f14, f15, c1, c2, e]
        refine Ycg (g48 (by assumption) (by omega) (by omega) (by assumption) (by assumption) (by assumption)) ?_ ?_
        · exact upRSl _ _
        intro u1 G1 l1 w1
        replace hv := RSl.le hv l1
        obtain ⟨aw1, cw1, rfl⟩ := RSl.val w1
        simp (maxDischargeDepth := 9) only [↓gB, gV, gT, reduceIte, reduceCtorEq, Nat.reduceEqDiff, Nat.reduceAdd, Nat.reduceSub, Nat.reduceLeDiff, Nat.reduceLT, Int.reduceEq, Nat.reduceMul, hn, hp, f16, f6, f0, f1, f14, f15, c1, c2, e]
        exact Kup_gives (sub_refl _) (by assumption) ⟨_, by assumption, rfl⟩
end Go.Proofs.YtdepecjjahodjaaDoor
namespace Go.Proofs.YtdepecjjahodjaaDoor
open Go Go.GL
attribute [local irreducible] Ycall GCalls
set_option maxRecDepth 10000
set_option maxHeartbeats 0
theorem pr1 : divideE 10 [1, 1, 1] = 0 := by decide
theorem pr2 : divideF 10 [1, 1, 1] = [4, 3, 3] := by decide
theorem p20 {G0 : GH}   : Pure Tryd.prog G0 20 [] (.bool true) := by
  intro G hG
  clear hG G0
  refine enter Tryd.func20 15 #[.tmp 0] rfl Tryd.ntmps20 rfl (by decide +kernel) rfl ?_
  simp (maxDischargeDepth := 9) only [↓gB, gV, gT, reduceIte, reduceCtorEq, Nat.reduceEqDiff, Nat.reduceAdd, Nat.reduceSub, Nat.reduceLeDiff, Nat.reduceLT, Int.reduceEq, Nat.reduceMul]
  refine Yn1 fun r1 h1 => ?_
  simp (maxDischargeDepth := 9) only [↓gB, gV, gT, reduceIte, reduceCtorEq, Nat.reduceEqDiff, Nat.reduceAdd, Nat.reduceSub, Nat.reduceLeDiff, Nat.reduceLT, Int.reduceEq, Nat.reduceMul, h1]
  have y1 := put_self G r1 (.cells [V 1, V 1, V 1].toArray 3 (0, 0), true)
  have l1 := le_put h1 (.cells [V 1, V 1, V 1].toArray 3 (0, 0), true)
  generalize G.put r1 (.cells [V 1, V 1, V 1].toArray 3 (0, 0), true) = G1 at *
  obtain ⟨G2, hs, hv, hk, hil, hle⟩ := frz_list (ρ := Rp.int) (xs := [1, 1, 1]) y1 (cells1 (enc := V) (by simp [Rp.int, i64]))
  refine Ycsub hs ?_
  have hl := hle G l1 h1
  refine Ycg (g22 (by assumption) (by decide)) ?_ ?_
  · exact upPair _ _ _
  intro u3 G3 l3 w3
  replace hv := RSl.le hv l3
  replace hl := GH.le.trans hl l3
  obtain ⟨z3, w3', rfl⟩ := w3
  simp only [pr1, pr2, reduceIte] at w3'
  obtain ⟨aw3', cw3', rfl⟩ := RSl.val w3'
  simp (maxDischargeDepth := 9) only [↓gB, gV, gT, reduceIte, reduceCtorEq, Nat.reduceEqDiff, Nat.reduceAdd, Nat.reduceSub, Nat.reduceLeDiff, Nat.reduceLT, Int.reduceEq, Nat.reduceMul, h1, y1, hk, pr1, pr2]
  refine Yn1 fun r2 h2 => ?_
  simp (maxDischargeDepth := 9) only [↓gB, gV, gT, reduceIte, reduceCtorEq, Nat.reduceEqDiff, Nat.reduceAdd, Nat.reduceSub, Nat.reduceLeDiff, Nat.reduceLT, Int.reduceEq, Nat.reduceMul, h1, y1, hk, h2, pr1, pr2]
  have y2 := put_self G3 r2 (.cells [V 4, V 3, V 3].toArray 3 (0, 0), true)
  have l2 := le_put h2 (.cells [V 4, V 3, V 3].toArray 3 (0, 0), true)
  have w1 : RSl Rp.int G3 (.slice aw3' 3 cw3') [4, 3, 3] := by first | exact w3' | (simp only [pr1, pr2, if_true] at w3'; exact w3')
  replace w1 := RSl.le w1 l2
  have l4 := hl.trans l2
  have h3 := hl.none h2
  generalize G3.put r2 (.cells [V 4, V 3, V 3].toArray 3 (0, 0), true) = G4 at *
  obtain ⟨G5, hs5, hv5, hk5, hil5, hle5⟩ := frz_list (ρ := Rp.int) (xs := [4, 3, 3]) y2 (cells1 (enc := V) (by simp [Rp.int, i64]))
  refine Ycsub hs5 ?_
  replace hl := hle5 G l4 h3
  replace w1 := RSl.ile w1 hil5
  refine Ycp (p24 (by assumption) (by assumption) (by decide)) ?_
  simp (maxDischargeDepth := 9) only [↓gB, gV, gT, reduceIte, reduceCtorEq, Nat.reduceEqDiff, Nat.reduceAdd, Nat.reduceSub, Nat.reduceLeDiff, Nat.reduceLT, Int.reduceEq, Nat.reduceMul, h1, y1, hk, h2, h3, y2, hk5, pr1, pr2]
  exact Kup_val (by simp (maxDischargeDepth := 9) only [le_self, le_puts, le_put0, h1, l1, l3, h2, h3, l2, l4, hl]) rfl
end Go.Proofs.YtdepecjjahodjaaDoor
namespace Go.Proofs.YtdepecjjahodjaaDoor
open Go Go.GL
attribute [local irreducible] Ycall GCalls
set_option maxRecDepth 10000
set_option maxHeartbeats 0
theorem g7 {G0 : GH} {v : Value} {l : List Int} (hv : RSl Rp.int G0 v l) (hn : l.length ≤ 1000000000) : Gives Tryd.prog G0 7 [v] (fun u G' => RSl Rp.int G' u l) := by
  intro G hG; replace hv := hv.le hG
  clear hG G0
  refine enter Tryd.func7 8 #[.tmp 2] rfl Tryd.ntmps7 rfl (by decide +kernel) rfl ?_
  obtain ⟨a, c, rfl⟩ := hv.val
  simp (maxDischargeDepth := 9) only [↓gB, gV, gT, reduceIte, reduceCtorEq, Nat.reduceEqDiff, Nat.reduceAdd, Nat.reduceSub, Nat.reduceLeDiff, Nat.reduceLT, Int.reduceEq, Nat.reduceMul]
  cases a with
  | none =>
    simp (maxDischargeDepth := 9) only [↓gB, gV, gT, reduceIte, reduceCtorEq, Nat.reduceEqDiff, Nat.reduceAdd, Nat.reduceSub, Nat.reduceLeDiff, Nat.reduceLT, Int.reduceEq, Nat.reduceMul, Option.isNone_none]
    have : l = [] := by
      cases l with
      | nil => rfl
      | cons x l => obtain ⟨ad, _, e, _⟩ := hv.get (i := 0) (x := x) rfl; cases e
    subst this
    exact Kup_gives (sub_refl _) (le_refl _) (RSl.nil _ _)
  | some ad =>
    simp (maxDischargeDepth := 9) only [↓gB, gV, gT, reduceIte, reduceCtorEq, Nat.reduceEqDiff, Nat.reduceAdd, Nat.reduceSub, Nat.reduceLeDiff, Nat.reduceLT, Int.reduceEq, Nat.reduceMul, Option.isNone_some]
    refine Yn1 fun r1 h1 => ?_
    simp (maxDischargeDepth := 9) only [↓gB, gV, gT, reduceIte, reduceCtorEq, Nat.reduceEqDiff, Nat.reduceAdd, Nat.reduceSub, Nat.reduceLeDiff, Nat.reduceLT, Int.reduceEq, Nat.reduceMul, h1, Option.isNone_some]
    obtain ⟨ds, h1, h2⟩ := (hv.le (le_put h1 (.cells #[] 3 (0, 0), true))).read
    refine Row.append sl23 (ρ := Rp.int) (G0 := G) (xs := []) (ys := l) ⟨[], ⟨rfl, .inr ⟨r1, 0, #[], rfl, by assumption, put_self _ _ _, rfl, Nat.le_refl _, rfl⟩⟩, Cellsof.nil _ _⟩ h1 h2 (by simp; omega) (le_put (by assumption) _) ?_
    intro v' G' hrow hk hle
    simp (maxDischargeDepth := 9) only [↓gB, gV, gT, reduceIte, reduceCtorEq, Nat.reduceEqDiff, Nat.reduceAdd, Nat.reduceSub, Nat.reduceLeDiff, Nat.reduceLT, Int.reduceEq, Nat.reduceMul, h1, hk]
    obtain ⟨G2, hs, hl, hr⟩ := hrow.fin hle
    exact Kup_gives hs hl (by simpa using hr)
theorem p9 {G0 : GH} {v w : Value} {l m : List SDue} (hv : RSl rDue G0 v l) (hw : RSl rDue G0 w m) (hn : (l.length : Int) ≤ 9223372036854775807) : Pure Tryd.prog G0 9 [v, w] (.bool (decide (l = m))) := by
  intro G hG; replace hv := hv.le hG; replace hw := hw.le hG
  clear hG G0
  refine enter Tryd.func9 26 #[.tmp 4] rfl Tryd.ntmps9 rfl (by decide +kernel) rfl ?_
  obtain ⟨a, c, rfl⟩ := hv.val
  obtain ⟨b, d, rfl⟩ := hw.val
  simp (maxDischargeDepth := 9) only [↓gB, gV, gT, reduceIte, reduceCtorEq, Nat.reduceEqDiff, Nat.reduceAdd, Nat.reduceSub, Nat.reduceLeDiff, Nat.reduceLT, Int.reduceEq, Nat.reduceMul]
  refine Xc_split _ _ _ _ _ (fun hlen => ?_) (fun hlen => ?_)
  · simp (maxDischargeDepth := 9) only [↓gB, gV, gT, reduceIte, reduceCtorEq, Nat.reduceEqDiff, Nat.reduceAdd, Nat.reduceSub, Nat.reduceLeDiff, Nat.reduceLT, Int.reduceEq, Nat.reduceMul]
    refine Kup_val (le_refl _) ?_
    have hne : l ≠ m := by (rintro rfl; exact hlen rfl)
    simp [hne]
  · simp (maxDischargeDepth := 9) only [↓gB, gV, gT, reduceIte, reduceCtorEq, Nat.reduceEqDiff, Nat.reduceAdd, Nat.reduceSub, Nat.reduceLeDiff, Nat.reduceLT, Int.reduceEq, Nat.reduceMul]
    focus
      refine Xloop_intro _ _ _ _ _ (fun k f G' => ∃ (i : Nat), k = l.length - i ∧ (i ≤ l.length) ∧ (l.take i = m.take i) ∧ (G = G') ∧ f 13 = V i ∧ f 0 = Go.Value.slice a l.length c ∧ f 1 = Go.Value.slice b m.length d ∧ f 12 = Go.Value.int Go.IntKind.i64 ↑l.length) _ ⟨0, rfl, ?_, ?_, rfl, by simp (maxDischargeDepth := 9) only [↓gB, gV, gT, reduceIte, reduceCtorEq, Nat.reduceEqDiff, Nat.reduceAdd, Nat.reduceSub, Nat.reduceLeDiff, Nat.reduceLT, Int.reduceEq, Nat.reduceMul, and_self]⟩ ?_
      · omega
      · rfl
      rintro k f G' ⟨i, rfl, hi, h, rfl, f13, f0, f1, f12⟩
    focus
      simp (maxDischargeDepth := 9) only [↓gB, gV, gT, reduceIte, reduceCtorEq, Nat.reduceEqDiff, Nat.reduceAdd, Nat.reduceSub, Nat.reduceLeDiff, Nat.reduceLT, Int.reduceEq, Nat.reduceMul, f13, f0, f1, f12]
      refine Xc_split _ _ _ _ _ (fun c1 => ?_) (fun c1 => ?_)
      rotate_left 1
      focus
        simp (maxDischargeDepth := 9) only [↓gB, gV, gT, reduceIte, reduceCtorEq, Nat.reduceEqDiff, Nat.reduceAdd, Nat.reduceSub, Nat.reduceLeDiff, Nat.reduceLT, Int.reduceEq, Nat.reduceMul, f13, f0, f1, f12, c1]
        refine Kup_val (le_refl _) ?_
        focus ((have e : l = m := by (rw [← List.take_of_length_le (l := l) (i := i) (by omega), h, List.take_of_length_le (by omega)])); simp [e]; done)
      rotate_right 1
      simp (maxDischargeDepth := 9) only [↓gB, gV, gT, reduceIte, reduceCtorEq, Nat.reduceEqDiff, Nat.reduceAdd, Nat.reduceSub, Nat.reduceLeDiff, Nat.reduceLT, Int.reduceEq, Nat.reduceMul, f13, f0, f1, f12, c1]
      refine Xdraw_intro [0, 1, 2, 3, 4, 5, 6, 7, 8] mixed (by kernel_rfl) (by decide +kernel) ?_
      simp (maxDischargeDepth := 9) only [↓gB, gV, gT, reduceIte, reduceCtorEq, Nat.reduceEqDiff, Nat.reduceAdd, Nat.reduceSub, Nat.reduceLeDiff, Nat.reduceLT, Int.reduceEq, Nat.reduceMul, f13, f0, f1, f12, c1]
      obtain ⟨x1, a1, s1, m1, rfl, rfl, e1⟩ := hv.at (i) (by omega) 2 rfl
      simp (maxDischargeDepth := 9) only [↓gB, gV, gT, reduceIte, reduceCtorEq, Nat.reduceEqDiff, Nat.reduceAdd, Nat.reduceSub, Nat.reduceLeDiff, Nat.reduceLT, Int.reduceEq, Nat.reduceMul, f13, f1, f12, c1, f0, e1]
      refine vguard_intro (by simp) ?_
      obtain ⟨x2, a2, s2, m2, rfl, rfl, e2⟩ := hw.at (i) (by omega) 2 rfl
      simp (maxDischargeDepth := 9) only [↓gB, gV, gT, reduceIte, reduceCtorEq, Nat.reduceEqDiff, Nat.reduceAdd, Nat.reduceSub, Nat.reduceLeDiff, Nat.reduceLT, Int.reduceEq, Nat.reduceMul, f13, f12, c1, f0, e1, f1, e2]
      refine vguard_intro (by omega) ?_
      by_cases c2 : (x1.Key : ByteArray) = x2.Key
      rotate_left 1
      focus
        simp (maxDischargeDepth := 9) only [↓gB, gV, gT, reduceIte, reduceCtorEq, Nat.reduceEqDiff, Nat.reduceAdd, Nat.reduceSub, Nat.reduceLeDiff, Nat.reduceLT, Int.reduceEq, Nat.reduceMul, f13, f12, c1, f0, e1, f1, e2, c2]
        refine Kup_val (le_refl _) ?_
        focus ((have e : l ≠ m := by (rintro rfl; rw [m1] at m2; cases m2; simp_all)); simp [e]; done)
      rotate_right 1
      simp (maxDischargeDepth := 9) only [↓gB, gV, gT, reduceIte, reduceCtorEq, Nat.reduceEqDiff, Nat.reduceAdd, Nat.reduceSub, Nat.reduceLeDiff, Nat.reduceLT, Int.reduceEq, Nat.reduceMul, f13, f12, c1, f0, e1, f1, e2, c2]
      by_cases c3 : (x1.Cents : Int) = x2.Cents
      rotate_left 1
      focus
        simp (maxDischargeDepth := 9) only [↓gB, gV, gT, reduceIte, reduceCtorEq, Nat.reduceEqDiff, Nat.reduceAdd, Nat.reduceSub, Nat.reduceLeDiff, Nat.reduceLT, Int.reduceEq, Nat.reduceMul, f13, f12, c1, f0, e1, f1, e2, c2, c3]
        refine Kup_val (le_refl _) ?_
        focus ((have e : l ≠ m := by (rintro rfl; rw [m1] at m2; cases m2; simp_all)); simp [e]; done)
      rotate_right 1
      simp (maxDischargeDepth := 9) only [↓gB, gV, gT, reduceIte, reduceCtorEq, Nat.reduceEqDiff, Nat.reduceAdd, Nat.reduceSub, Nat.reduceLeDiff, Nat.reduceLT, Int.reduceEq, Nat.reduceMul, f13, f12, c1, f0, e1, f1, e2, c2, c3]
      have q1 : Go.IntKind.i64.wrap (↑i + 1) = ↑i + 1 := wrap_id (by omega)
      simp (maxDischargeDepth := 9) only [↓gB, gV, gT, reduceIte, reduceCtorEq, Nat.reduceEqDiff, Nat.reduceAdd, Nat.reduceSub, Nat.reduceLeDiff, Nat.reduceLT, Int.reduceEq, Nat.reduceMul, f13, f12, c1, f0, e1, f1, e2, c2, c3, q1]
      rw [N_lp]
      refine ⟨_, ?_, _, ?_, i + 1, rfl, ?_, ?_, rfl, by simp (maxDischargeDepth := 9) only [↓gB, gV, gT, reduceIte, reduceCtorEq, Nat.reduceEqDiff, Nat.reduceAdd, Nat.reduceSub, Nat.reduceLeDiff, Nat.reduceLT, Int.reduceEq, Nat.reduceMul, f13, f12, c1, f0, e1, f1, e2, c2, c3, q1, nat_succ, and_self]⟩
      · omega
      · exact sub_refl _
      · omega
      · ((have e : x1 = x2 := by (cases x1; cases x2; simp_all)); rw [take_at m1, take_at m2, h, e]; done)
theorem fairF_len {l : List ByteArray} {m : List Int} : (fairF l m).length ≤ l.length := by unfold fairF; rw [List.length_zipWith]; omega
theorem gainsFrom_len {m : List Int} {d : List SDue} : ∀ (k g : Nat), (gainsFrom m d g k).length ≤ d.length
  | 0, _ => Nat.zero_le _
  | k + 1, g => by
    unfold gainsFrom; split
    · exact who_len g d 0
    · exact gainsFrom_len k (g + 1)
theorem gain_or (l : List ByteArray) (m : List Int) (d : List SDue) : orOf [fairE l m, duesE l d] = gainE l m d := by
  rw [orOf2]; unfold gainE
  by_cases h : fairE l m = 0
  · rw [if_pos h, if_neg (by simpa using h)]
  · rw [if_neg h, if_pos h]
theorem gainE_ok {l : List ByteArray} {m : List Int} {d : List SDue} (h : gainE l m d = 0) : fairE l m = 0 ∧ sameKeys l d = true ∧ (d.any fun x => !dueOk x) = false := by
  unfold gainE at h
  split at h
  · rename_i q; exact absurd h q
  rename_i h1
  refine ⟨by simpa using h1, ?_⟩
  unfold duesE at h
  split at h
  · cases h
  split at h
  · cases h
  rename_i h2 h3
  exact ⟨by simpa using h2, by simpa using h3⟩
theorem p3 {G0 : GH} {vr vc vt vs : Value} {l : List ByteArray} {m : List Int} {d : List SDue} {due late : Int} {st : List SFraction} (hv : RSl Rp.str G0 vr l) (hw : RSl Rp.int G0 vc m) (hz : RSl rDue G0 vt d) (hs : RSl rFraction G0 vs st) (hn : l.length ≤ 1048576) (hm : m.length ≤ 1048576) (hd : d.length ≤ 1048576) (hk : st.length ≤ 1048576) : Pure Tryd.prog G0 3 [vr, vc, vt, V due, V late, vs] (.bool true) := by
  intro G hG; replace hv := hv.le hG; replace hw := hw.le hG; replace hz := hz.le hG; replace hs := hs.le hG
  clear hG G0
  refine enter Tryd.func3 127 #[.tmp 12] rfl Tryd.ntmps3 rfl (by decide +kernel) rfl ?_
  obtain ⟨a, c, rfl⟩ := hv.val
  obtain ⟨b, e, rfl⟩ := hw.val
  obtain ⟨g, q, rfl⟩ := hz.val
  obtain ⟨ga, gc, rfl⟩ := hs.val
  have hgl : (gainsF m d).length ≤ d.length := gainsFrom_len (m := m) (d := d) m.length 0
  have hfl := fairF_len (l := l) (m := m)
  have hor := gain_or l m d
  rw [X_assoc, X_assoc, X_assoc, X_seq]
  focus
    refine Xcut _ _ _ _ _ (J := fun f G' => (RSl Rp.str G' (.slice a l.length c) l) ∧ (RSl Rp.int G' (.slice b m.length e) m) ∧ (RSl rDue G' (.slice g d.length q) d) ∧ (RSl rFraction G' (.slice ga st.length gc) st) ∧ (G.le G') ∧ f 15 = V (fairE l m) ∧ f 0 = Go.Value.slice a l.length c ∧ f 1 = Go.Value.slice b m.length e ∧ f 2 = Go.Value.slice g d.length q ∧ f 3 = Go.GL.V due ∧ f 4 = Go.GL.V late ∧ f 5 = Go.Value.slice ga st.length gc) ?_ ?_
    rotate_left 1
    rintro f G' ⟨hv, hw, hz, hs, hle, f15, f0, f1, f2, f3, f4, f5⟩
    rotate_right 1
  · by_cases he : fairE l m = 0
    · simp (maxDischargeDepth := 9) only [↓gB, gV, gT, reduceIte, reduceCtorEq, Nat.reduceEqDiff, Nat.reduceAdd, Nat.reduceSub, Nat.reduceLeDiff, Nat.reduceLT, Int.reduceEq, Nat.reduceMul, he]
      refine Ycg (g6 (by assumption) (by omega)) ?_ ?_
      · exact upRSl _ _
      intro u1 G1 l1 w1
      replace hv := RSl.le hv l1
      replace hw := RSl.le hw l1
      replace hz := RSl.le hz l1
      replace hs := RSl.le hs l1
      obtain ⟨aw1, cw1, rfl⟩ := RSl.val w1
      simp (maxDischargeDepth := 9) only [↓gB, gV, gT, reduceIte, reduceCtorEq, Nat.reduceEqDiff, Nat.reduceAdd, Nat.reduceSub, Nat.reduceLeDiff, Nat.reduceLT, Int.reduceEq, Nat.reduceMul, he]
      refine Ycg (g7 (by assumption) (by omega)) ?_ ?_
      · exact upRSl _ _
      intro u2 G2 l2 w2
      replace l1 := GH.le.trans l1 l2
      replace hv := RSl.le hv l2
      replace hw := RSl.le hw l2
      replace hz := RSl.le hz l2
      replace hs := RSl.le hs l2
      replace w1 := RSl.le w1 l2
      obtain ⟨aw2, cw2, rfl⟩ := RSl.val w2
      simp (maxDischargeDepth := 9) only [↓gB, gV, gT, reduceIte, reduceCtorEq, Nat.reduceEqDiff, Nat.reduceAdd, Nat.reduceSub, Nat.reduceLeDiff, Nat.reduceLT, Int.reduceEq, Nat.reduceMul, he]
      refine Ycg (g5 (by assumption) (by assumption) (by omega) (by omega)) ?_ ?_
      · exact upPair _ _ _
      intro u3 G3 l3 w3
      replace l2 := GH.le.trans l2 l3
      replace l1 := GH.le.trans l1 l3
      replace hv := RSl.le hv l3
      replace hw := RSl.le hw l3
      replace hz := RSl.le hz l3
      replace hs := RSl.le hs l3
      replace w1 := RSl.le w1 l3
      replace w2 := RSl.le w2 l3
      obtain ⟨z3, w3', rfl⟩ := w3
      simp only [he, reduceIte] at w3'
      obtain ⟨aw3', cw3', rfl⟩ := RSl.val w3'
      simp (maxDischargeDepth := 9) only [↓gB, gV, gT, reduceIte, reduceCtorEq, Nat.reduceEqDiff, Nat.reduceAdd, Nat.reduceSub, Nat.reduceLeDiff, Nat.reduceLT, Int.reduceEq, Nat.reduceMul, he]
      refine Ycp (p8 (by assumption) (by assumption) (by omega) (by omega)) ?_
      simp (maxDischargeDepth := 9) only [↓gB, gV, gT, reduceIte, reduceCtorEq, Nat.reduceEqDiff, Nat.reduceAdd, Nat.reduceSub, Nat.reduceLeDiff, Nat.reduceLT, Int.reduceEq, Nat.reduceMul, he]
      refine Ycg (g10 (by assumption) (by assumption) (by assumption)) ?_ ?_
      · exact upRSl _ _
      intro u4 G4 l4 w4
      replace l3 := GH.le.trans l3 l4
      replace l2 := GH.le.trans l2 l4
      replace l1 := GH.le.trans l1 l4
      replace hv := RSl.le hv l4
      replace hw := RSl.le hw l4
      replace hz := RSl.le hz l4
      replace hs := RSl.le hs l4
      replace w1 := RSl.le w1 l4
      replace w2 := RSl.le w2 l4
      replace w3' := RSl.le w3' l4
      obtain ⟨aw4, cw4, rfl⟩ := RSl.val w4
      simp (maxDischargeDepth := 9) only [↓gB, gV, gT, reduceIte, reduceCtorEq, Nat.reduceEqDiff, Nat.reduceAdd, Nat.reduceSub, Nat.reduceLeDiff, Nat.reduceLT, Int.reduceEq, Nat.reduceMul, he]
      refine Ycp (p9 (by assumption) (by assumption) (by omega)) ?_
      simp (maxDischargeDepth := 9) only [↓gB, gV, gT, reduceIte, reduceCtorEq, Nat.reduceEqDiff, Nat.reduceAdd, Nat.reduceSub, Nat.reduceLeDiff, Nat.reduceLT, Int.reduceEq, Nat.reduceMul, he]
      focus
        rw [N_cut]
        refine ⟨_, sub_refl _, ?_, ?_, ?_, ?_, ?_, by simp (maxDischargeDepth := 9) only [↓gB, gV, gT, reduceIte, reduceCtorEq, Nat.reduceEqDiff, Nat.reduceAdd, Nat.reduceSub, Nat.reduceLeDiff, Nat.reduceLT, Int.reduceEq, Nat.reduceMul, he, nat_succ, and_self]⟩
        · assumption
        · assumption
        · assumption
        · assumption
        · assumption
    · simp (maxDischargeDepth := 9) only [↓gB, gV, gT, reduceIte, reduceCtorEq, Nat.reduceEqDiff, Nat.reduceAdd, Nat.reduceSub, Nat.reduceLeDiff, Nat.reduceLT, Int.reduceEq, Nat.reduceMul, he]
      refine Ycg (g6 (by assumption) (by omega)) ?_ ?_
      · exact upRSl _ _
      intro u1 G1 l1 w1
      replace hv := RSl.le hv l1
      replace hw := RSl.le hw l1
      replace hz := RSl.le hz l1
      replace hs := RSl.le hs l1
      obtain ⟨aw1, cw1, rfl⟩ := RSl.val w1
      simp (maxDischargeDepth := 9) only [↓gB, gV, gT, reduceIte, reduceCtorEq, Nat.reduceEqDiff, Nat.reduceAdd, Nat.reduceSub, Nat.reduceLeDiff, Nat.reduceLT, Int.reduceEq, Nat.reduceMul, he]
      refine Ycg (g7 (by assumption) (by omega)) ?_ ?_
      · exact upRSl _ _
      intro u2 G2 l2 w2
      replace l1 := GH.le.trans l1 l2
      replace hv := RSl.le hv l2
      replace hw := RSl.le hw l2
      replace hz := RSl.le hz l2
      replace hs := RSl.le hs l2
      replace w1 := RSl.le w1 l2
      obtain ⟨aw2, cw2, rfl⟩ := RSl.val w2
      simp (maxDischargeDepth := 9) only [↓gB, gV, gT, reduceIte, reduceCtorEq, Nat.reduceEqDiff, Nat.reduceAdd, Nat.reduceSub, Nat.reduceLeDiff, Nat.reduceLT, Int.reduceEq, Nat.reduceMul, he]
      refine Ycg (g5 (by assumption) (by assumption) (by omega) (by omega)) ?_ ?_
      · exact upPair _ _ _
      intro u3 G3 l3 w3
      replace l2 := GH.le.trans l2 l3
      replace l1 := GH.le.trans l1 l3
      replace hv := RSl.le hv l3
      replace hw := RSl.le hw l3
      replace hz := RSl.le hz l3
      replace hs := RSl.le hs l3
      replace w1 := RSl.le w1 l3
      replace w2 := RSl.le w2 l3
      obtain ⟨z3, w3', rfl⟩ := w3
      simp only [he, reduceIte] at w3'
      obtain ⟨aw3', cw3', rfl⟩ := RSl.val w3'
      simp (maxDischargeDepth := 9) only [↓gB, gV, gT, reduceIte, reduceCtorEq, Nat.reduceEqDiff, Nat.reduceAdd, Nat.reduceSub, Nat.reduceLeDiff, Nat.reduceLT, Int.reduceEq, Nat.reduceMul, he]
      refine Ycp (p8 (by assumption) (by assumption) (by omega) (by omega)) ?_
      simp (maxDischargeDepth := 9) only [↓gB, gV, gT, reduceIte, reduceCtorEq, Nat.reduceEqDiff, Nat.reduceAdd, Nat.reduceSub, Nat.reduceLeDiff, Nat.reduceLT, Int.reduceEq, Nat.reduceMul, he]
      refine Xc_neg _ _ _ _ _ (by omega) ?_
      simp (maxDischargeDepth := 9) only [↓gB, gV, gT, reduceIte, reduceCtorEq, Nat.reduceEqDiff, Nat.reduceAdd, Nat.reduceSub, Nat.reduceLeDiff, Nat.reduceLT, Int.reduceEq, Nat.reduceMul, he]
      focus
        rw [N_cut]
        refine ⟨_, sub_refl _, ?_, ?_, ?_, ?_, ?_, by simp (maxDischargeDepth := 9) only [↓gB, gV, gT, reduceIte, reduceCtorEq, Nat.reduceEqDiff, Nat.reduceAdd, Nat.reduceSub, Nat.reduceLeDiff, Nat.reduceLT, Int.reduceEq, Nat.reduceMul, he, nat_succ, and_self]⟩
        · assumption
        · assumption
        · assumption
        · assumption
        · assumption
  · rw [X_assoc, X_seq]
    focus
      refine Xcut _ _ _ _ _ (J := fun f G' => (RSl Rp.str G' (.slice a l.length c) l) ∧ (RSl Rp.int G' (.slice b m.length e) m) ∧ (RSl rDue G' (.slice g d.length q) d) ∧ (RSl rFraction G' (.slice ga st.length gc) st) ∧ (G.le G') ∧ f 15 = V (gainE l m d) ∧ f 3 = Go.GL.V due ∧ f 4 = Go.GL.V late ∧ f 5 = Go.Value.slice ga st.length gc) ?_ ?_
      rotate_left 1
      rintro f G' ⟨hv, hw, hz, hs, hle, f15, f3, f4, f5⟩
      rotate_right 1
    · by_cases he : gainE l m d = 0
      · obtain ⟨h1, h2, h3⟩ := gainE_ok he
        have hor0 : orOf [0, duesE l d] = 0 := by rw [h1] at hor; rw [hor, he]
        simp (maxDischargeDepth := 9) only [↓gB, gV, gT, reduceIte, reduceCtorEq, Nat.reduceEqDiff, Nat.reduceAdd, Nat.reduceSub, Nat.reduceLeDiff, Nat.reduceLT, Int.reduceEq, Nat.reduceMul, f15, f0, f1, f2, f3, f4, f5, h2, h3, h1, hor0, he]
        refine Ycg (g6 (by assumption) (by omega)) ?_ ?_
        · exact upRSl _ _
        intro u1 G1 l1 w1
        replace hv := RSl.le hv l1
        replace hw := RSl.le hw l1
        replace hz := RSl.le hz l1
        replace hs := RSl.le hs l1
        replace hle := GH.le.trans hle l1
        obtain ⟨aw1, cw1, rfl⟩ := RSl.val w1
        simp (maxDischargeDepth := 9) only [↓gB, gV, gT, reduceIte, reduceCtorEq, Nat.reduceEqDiff, Nat.reduceAdd, Nat.reduceSub, Nat.reduceLeDiff, Nat.reduceLT, Int.reduceEq, Nat.reduceMul, f15, f0, f1, f2, f3, f4, f5, h2, h3, h1, hor0, he]
        refine Ycg (g7 (by assumption) (by omega)) ?_ ?_
        · exact upRSl _ _
        intro u2 G2 l2 w2
        replace l1 := GH.le.trans l1 l2
        replace hv := RSl.le hv l2
        replace hw := RSl.le hw l2
        replace hz := RSl.le hz l2
        replace hs := RSl.le hs l2
        replace hle := GH.le.trans hle l2
        replace w1 := RSl.le w1 l2
        obtain ⟨aw2, cw2, rfl⟩ := RSl.val w2
        simp (maxDischargeDepth := 9) only [↓gB, gV, gT, reduceIte, reduceCtorEq, Nat.reduceEqDiff, Nat.reduceAdd, Nat.reduceSub, Nat.reduceLeDiff, Nat.reduceLT, Int.reduceEq, Nat.reduceMul, f15, f0, f1, f2, f3, f4, f5, h2, h3, h1, hor0, he]
        refine Ycg (g12 (by assumption) (by omega)) ?_ ?_
        · exact upRSl _ _
        intro u3 G3 l3 w3
        replace l2 := GH.le.trans l2 l3
        replace l1 := GH.le.trans l1 l3
        replace hv := RSl.le hv l3
        replace hw := RSl.le hw l3
        replace hz := RSl.le hz l3
        replace hs := RSl.le hs l3
        replace hle := GH.le.trans hle l3
        replace w1 := RSl.le w1 l3
        replace w2 := RSl.le w2 l3
        obtain ⟨aw3, cw3, rfl⟩ := RSl.val w3
        simp (maxDischargeDepth := 9) only [↓gB, gV, gT, reduceIte, reduceCtorEq, Nat.reduceEqDiff, Nat.reduceAdd, Nat.reduceSub, Nat.reduceLeDiff, Nat.reduceLT, Int.reduceEq, Nat.reduceMul, f15, f0, f1, f2, f3, f4, f5, h2, h3, h1, hor0, he]
        refine Ycg (g11 (by assumption) (by assumption) (by assumption) (by omega) (by omega) (by omega)) ?_ ?_
        · exact upPair _ _ _
        intro u4 G4 l4 w4
        replace l3 := GH.le.trans l3 l4
        replace l2 := GH.le.trans l2 l4
        replace l1 := GH.le.trans l1 l4
        replace hv := RSl.le hv l4
        replace hw := RSl.le hw l4
        replace hz := RSl.le hz l4
        replace hs := RSl.le hs l4
        replace hle := GH.le.trans hle l4
        replace w1 := RSl.le w1 l4
        replace w2 := RSl.le w2 l4
        replace w3 := RSl.le w3 l4
        obtain ⟨z4, w4', rfl⟩ := w4
        simp only [h1, hor0, h2, h3, he, reduceIte] at w4'
        obtain ⟨aw4', cw4', rfl⟩ := RSl.val w4'
        simp (maxDischargeDepth := 9) only [↓gB, gV, gT, reduceIte, reduceCtorEq, Nat.reduceEqDiff, Nat.reduceAdd, Nat.reduceSub, Nat.reduceLeDiff, Nat.reduceLT, Int.reduceEq, Nat.reduceMul, f15, f0, f1, f2, f3, f4, f5, h2, h3, h1, hor0, he]
        refine Ycp (p14 (by assumption) (by assumption) (by omega) (by omega)) ?_
        simp (maxDischargeDepth := 9) only [↓gB, gV, gT, reduceIte, reduceCtorEq, Nat.reduceEqDiff, Nat.reduceAdd, Nat.reduceSub, Nat.reduceLeDiff, Nat.reduceLT, Int.reduceEq, Nat.reduceMul, f15, f0, f1, f2, f3, f4, f5, h2, h3, h1, hor0, he]
        refine Yn1 fun r1 h1 => ?_
        simp (maxDischargeDepth := 9) only [↓gB, gV, gT, reduceIte, reduceCtorEq, Nat.reduceEqDiff, Nat.reduceAdd, Nat.reduceSub, Nat.reduceLeDiff, Nat.reduceLT, Int.reduceEq, Nat.reduceMul, f15, f0, f1, f2, f3, f4, f5, h2, h3, h1, hor0, he]
        refine Ycp (p13 (by exact put_self _ _ _)) ?_
        simp (maxDischargeDepth := 9) only [↓gB, gV, gT, reduceIte, reduceCtorEq, Nat.reduceEqDiff, Nat.reduceAdd, Nat.reduceSub, Nat.reduceLeDiff, Nat.reduceLT, Int.reduceEq, Nat.reduceMul, f15, f0, f1, f2, f3, f4, f5, h2, h3, h1, hor0, he]
        have q5_0 := GH.le.none l4 h1
        have q5_1 := GH.le.none l3 h1
        have q5_2 := GH.le.none l2 h1
        have q5_3 := GH.le.none l1 h1
        have q5_4 := GH.le.none hle h1
        have l5 := le_put h1 ((Go.Obj.cells #[Go.GL.V 0, Go.GL.V (Go.Proofs.YtdepecjjahodjaaDoor.duesE l d)] 26, Bool.true))
        have y5 := put_self G4 r1 ((Go.Obj.cells #[Go.GL.V 0, Go.GL.V (Go.Proofs.YtdepecjjahodjaaDoor.duesE l d)] 26, Bool.true))
        generalize GH.put G4 r1 ((Go.Obj.cells #[Go.GL.V 0, Go.GL.V (Go.Proofs.YtdepecjjahodjaaDoor.duesE l d)] 26, Bool.true)) = G5 at *
        replace l4 := GH.le.trans l4 l5
        replace l3 := GH.le.trans l3 l5
        replace l2 := GH.le.trans l2 l5
        replace l1 := GH.le.trans l1 l5
        replace hv := RSl.le hv l5
        replace hw := RSl.le hw l5
        replace hz := RSl.le hz l5
        replace hs := RSl.le hs l5
        replace hle := GH.le.trans hle l5
        replace w1 := RSl.le w1 l5
        replace w2 := RSl.le w2 l5
        replace w3 := RSl.le w3 l5
        replace w4' := RSl.le w4' l5
        refine Ycg (g16 (by assumption) (by assumption) (by assumption) (by assumption) (by assumption) (by assumption)) ?_ ?_
        · exact upRSl _ _
        intro u6 G6 l6 w6
        replace l5 := GH.le.trans l5 l6
        replace y5 := l6 _ _ y5
        replace l4 := GH.le.trans l4 l6
        replace l3 := GH.le.trans l3 l6
        replace l2 := GH.le.trans l2 l6
        replace l1 := GH.le.trans l1 l6
        replace hv := RSl.le hv l6
        replace hw := RSl.le hw l6
        replace hz := RSl.le hz l6
        replace hs := RSl.le hs l6
        replace hle := GH.le.trans hle l6
        replace w1 := RSl.le w1 l6
        replace w2 := RSl.le w2 l6
        replace w3 := RSl.le w3 l6
        replace w4' := RSl.le w4' l6
        obtain ⟨aw6, cw6, rfl⟩ := RSl.val w6
        simp (maxDischargeDepth := 9) only [↓gB, gV, gT, reduceIte, reduceCtorEq, Nat.reduceEqDiff, Nat.reduceAdd, Nat.reduceSub, Nat.reduceLeDiff, Nat.reduceLT, Int.reduceEq, Nat.reduceMul, f15, f0, f1, f2, f3, f4, f5, h2, h3, h1, q5_0, q5_1, q5_2, q5_3, q5_4, y5, hor0, he]
        refine Ycp (p15 (by assumption) (by assumption) (by omega)) ?_
        simp (maxDischargeDepth := 9) only [↓gB, gV, gT, reduceIte, reduceCtorEq, Nat.reduceEqDiff, Nat.reduceAdd, Nat.reduceSub, Nat.reduceLeDiff, Nat.reduceLT, Int.reduceEq, Nat.reduceMul, f15, f0, f1, f2, f3, f4, f5, h2, h3, h1, q5_0, q5_1, q5_2, q5_3, q5_4, y5, hor0, he]
        focus
          rw [N_cut]
          refine ⟨_, sub_refl _, ?_, ?_, ?_, ?_, ?_, by simp (maxDischargeDepth := 9) only [↓gB, gV, gT, reduceIte, reduceCtorEq, Nat.reduceEqDiff, Nat.reduceAdd, Nat.reduceSub, Nat.reduceLeDiff, Nat.reduceLT, Int.reduceEq, Nat.reduceMul, f15, f0, f1, f2, f3, f4, f5, h2, h3, h1, q5_0, q5_1, q5_2, q5_3, q5_4, y5, hor0, he, nat_succ, and_self]⟩
          · assumption
          · assumption
          · assumption
          · assumption
          · assumption
      · simp (maxDischargeDepth := 9) only [↓gB, gV, gT, reduceIte, reduceCtorEq, Nat.reduceEqDiff, Nat.reduceAdd, Nat.reduceSub, Nat.reduceLeDiff, Nat.reduceLT, Int.reduceEq, Nat.reduceMul, f15, f0, f1, f2, f3, f4, f5, hor, he]
        refine Ycg (g6 (by assumption) (by omega)) ?_ ?_
        · exact upRSl _ _
        intro u1 G1 l1 w1
        replace hv := RSl.le hv l1
        replace hw := RSl.le hw l1
        replace hz := RSl.le hz l1
        replace hs := RSl.le hs l1
        replace hle := GH.le.trans hle l1
        obtain ⟨aw1, cw1, rfl⟩ := RSl.val w1
        simp (maxDischargeDepth := 9) only [↓gB, gV, gT, reduceIte, reduceCtorEq, Nat.reduceEqDiff, Nat.reduceAdd, Nat.reduceSub, Nat.reduceLeDiff, Nat.reduceLT, Int.reduceEq, Nat.reduceMul, f15, f0, f1, f2, f3, f4, f5, hor, he]
        refine Ycg (g7 (by assumption) (by omega)) ?_ ?_
        · exact upRSl _ _
        intro u2 G2 l2 w2
        replace l1 := GH.le.trans l1 l2
        replace hv := RSl.le hv l2
        replace hw := RSl.le hw l2
        replace hz := RSl.le hz l2
        replace hs := RSl.le hs l2
        replace hle := GH.le.trans hle l2
        replace w1 := RSl.le w1 l2
        obtain ⟨aw2, cw2, rfl⟩ := RSl.val w2
        simp (maxDischargeDepth := 9) only [↓gB, gV, gT, reduceIte, reduceCtorEq, Nat.reduceEqDiff, Nat.reduceAdd, Nat.reduceSub, Nat.reduceLeDiff, Nat.reduceLT, Int.reduceEq, Nat.reduceMul, f15, f0, f1, f2, f3, f4, f5, hor, he]
        refine Ycg (g12 (by assumption) (by omega)) ?_ ?_
        · exact upRSl _ _
        intro u3 G3 l3 w3
        replace l2 := GH.le.trans l2 l3
        replace l1 := GH.le.trans l1 l3
        replace hv := RSl.le hv l3
        replace hw := RSl.le hw l3
        replace hz := RSl.le hz l3
        replace hs := RSl.le hs l3
        replace hle := GH.le.trans hle l3
        replace w1 := RSl.le w1 l3
        replace w2 := RSl.le w2 l3
        obtain ⟨aw3, cw3, rfl⟩ := RSl.val w3
        simp (maxDischargeDepth := 9) only [↓gB, gV, gT, reduceIte, reduceCtorEq, Nat.reduceEqDiff, Nat.reduceAdd, Nat.reduceSub, Nat.reduceLeDiff, Nat.reduceLT, Int.reduceEq, Nat.reduceMul, f15, f0, f1, f2, f3, f4, f5, hor, he]
        refine Ycg (g11 (by assumption) (by assumption) (by assumption) (by omega) (by omega) (by omega)) ?_ ?_
        · exact upPair _ _ _
        intro u4 G4 l4 w4
        replace l3 := GH.le.trans l3 l4
        replace l2 := GH.le.trans l2 l4
        replace l1 := GH.le.trans l1 l4
        replace hv := RSl.le hv l4
        replace hw := RSl.le hw l4
        replace hz := RSl.le hz l4
        replace hs := RSl.le hs l4
        replace hle := GH.le.trans hle l4
        replace w1 := RSl.le w1 l4
        replace w2 := RSl.le w2 l4
        replace w3 := RSl.le w3 l4
        obtain ⟨z4, w4', rfl⟩ := w4
        simp only [hor, he, reduceIte] at w4'
        obtain ⟨aw4', cw4', rfl⟩ := RSl.val w4'
        simp (maxDischargeDepth := 9) only [↓gB, gV, gT, reduceIte, reduceCtorEq, Nat.reduceEqDiff, Nat.reduceAdd, Nat.reduceSub, Nat.reduceLeDiff, Nat.reduceLT, Int.reduceEq, Nat.reduceMul, f15, f0, f1, f2, f3, f4, f5, hor, he]
        refine Ycp (p14 (by assumption) (by assumption) (by omega) (by omega)) ?_
        simp (maxDischargeDepth := 9) only [↓gB, gV, gT, reduceIte, reduceCtorEq, Nat.reduceEqDiff, Nat.reduceAdd, Nat.reduceSub, Nat.reduceLeDiff, Nat.reduceLT, Int.reduceEq, Nat.reduceMul, f15, f0, f1, f2, f3, f4, f5, hor, he]
        refine Yn1 fun r1 h1 => ?_
        simp (maxDischargeDepth := 9) only [↓gB, gV, gT, reduceIte, reduceCtorEq, Nat.reduceEqDiff, Nat.reduceAdd, Nat.reduceSub, Nat.reduceLeDiff, Nat.reduceLT, Int.reduceEq, Nat.reduceMul, f15, f0, f1, f2, f3, f4, f5, h1, hor, he]
        refine Ycp (p13 (by exact put_self _ _ _)) ?_
        simp (maxDischargeDepth := 9) only [↓gB, gV, gT, reduceIte, reduceCtorEq, Nat.reduceEqDiff, Nat.reduceAdd, Nat.reduceSub, Nat.reduceLeDiff, Nat.reduceLT, Int.reduceEq, Nat.reduceMul, f15, f0, f1, f2, f3, f4, f5, h1, hor, he]
        refine Xc_neg _ _ _ _ _ (by omega) ?_
        simp (maxDischargeDepth := 9) only [↓gB, gV, gT, reduceIte, reduceCtorEq, Nat.reduceEqDiff, Nat.reduceAdd, Nat.reduceSub, Nat.reduceLeDiff, Nat.reduceLT, Int.reduceEq, Nat.reduceMul, f15, f0, f1, f2, f3, f4, f5, h1, hor, he]
        focus
          rw [N_cut]
          refine ⟨_, sub_refl _, ?_, ?_, ?_, ?_, ?_, by simp (maxDischargeDepth := 9) only [↓gB, gV, gT, reduceIte, reduceCtorEq, Nat.reduceEqDiff, Nat.reduceAdd, Nat.reduceSub, Nat.reduceLeDiff, Nat.reduceLT, Int.reduceEq, Nat.reduceMul, f15, f0, f1, f2, f3, f4, f5, h1, hor, he, nat_succ, and_self]⟩
          · exact RSl.put _ (by assumption) (by assumption)
          · exact RSl.put _ (by assumption) (by assumption)
          · exact RSl.put _ (by assumption) (by assumption)
          · exact RSl.put _ (by assumption) (by assumption)
          · (simp (maxDischargeDepth := 9) only [le_self, le_puts, le_put0, sub_self, sub_puts, sub_put0, l4, l3, l2, l1, hle, h1]; done)
    · by_cases he : refundE due late st = 0
      · simp (maxDischargeDepth := 9) only [↓gB, gV, gT, reduceIte, reduceCtorEq, Nat.reduceEqDiff, Nat.reduceAdd, Nat.reduceSub, Nat.reduceLeDiff, Nat.reduceLT, Int.reduceEq, Nat.reduceMul, f15, f0, f1, f2, f3, f4, f5, f15, f3, f4, f5, he]
        refine Ycg (g18 (by assumption) (by omega)) ?_ ?_
        · exact upRSl _ _
        intro u1 G1 l1 w1
        replace hv := RSl.le hv l1
        replace hw := RSl.le hw l1
        replace hz := RSl.le hz l1
        replace hs := RSl.le hs l1
        replace hle := GH.le.trans hle l1
        obtain ⟨aw1, cw1, rfl⟩ := RSl.val w1
        simp (maxDischargeDepth := 9) only [↓gB, gV, gT, reduceIte, reduceCtorEq, Nat.reduceEqDiff, Nat.reduceAdd, Nat.reduceSub, Nat.reduceLeDiff, Nat.reduceLT, Int.reduceEq, Nat.reduceMul, f15, f0, f1, f2, f3, f4, f5, f15, f3, f4, f5, he]
        refine Ycp (p17 (by assumption) (by omega)) ?_
        simp (maxDischargeDepth := 9) only [↓gB, gV, gT, reduceIte, reduceCtorEq, Nat.reduceEqDiff, Nat.reduceAdd, Nat.reduceSub, Nat.reduceLeDiff, Nat.reduceLT, Int.reduceEq, Nat.reduceMul, f15, f0, f1, f2, f3, f4, f5, f15, f3, f4, f5, he]
        refine Ycp (p19 (by assumption) (by omega)) ?_
        simp (maxDischargeDepth := 9) only [↓gB, gV, gT, reduceIte, reduceCtorEq, Nat.reduceEqDiff, Nat.reduceAdd, Nat.reduceSub, Nat.reduceLeDiff, Nat.reduceLT, Int.reduceEq, Nat.reduceMul, f15, f0, f1, f2, f3, f4, f5, f15, f3, f4, f5, he]
        refine Ycp (p21 (by assumption) (by assumption)) ?_
        simp (maxDischargeDepth := 9) only [↓gB, gV, gT, reduceIte, reduceCtorEq, Nat.reduceEqDiff, Nat.reduceAdd, Nat.reduceSub, Nat.reduceLeDiff, Nat.reduceLT, Int.reduceEq, Nat.reduceMul, f15, f0, f1, f2, f3, f4, f5, f15, f3, f4, f5, he]
        refine Ycp (p20) ?_
        simp (maxDischargeDepth := 9) only [↓gB, gV, gT, reduceIte, reduceCtorEq, Nat.reduceEqDiff, Nat.reduceAdd, Nat.reduceSub, Nat.reduceLeDiff, Nat.reduceLT, Int.reduceEq, Nat.reduceMul, f15, f0, f1, f2, f3, f4, f5, f15, f3, f4, f5, he]
        exact Kup_val (by simp (maxDischargeDepth := 9) only [le_self, le_puts, le_put0, hle, l1, hle]) rfl
      · simp (maxDischargeDepth := 9) only [↓gB, gV, gT, reduceIte, reduceCtorEq, Nat.reduceEqDiff, Nat.reduceAdd, Nat.reduceSub, Nat.reduceLeDiff, Nat.reduceLT, Int.reduceEq, Nat.reduceMul, f15, f0, f1, f2, f3, f4, f5, f15, f3, f4, f5, he]
        refine Ycg (g18 (by assumption) (by omega)) ?_ ?_
        · exact upRSl _ _
        intro u1 G1 l1 w1
        replace hv := RSl.le hv l1
        replace hw := RSl.le hw l1
        replace hz := RSl.le hz l1
        replace hs := RSl.le hs l1
        replace hle := GH.le.trans hle l1
        obtain ⟨aw1, cw1, rfl⟩ := RSl.val w1
        simp (maxDischargeDepth := 9) only [↓gB, gV, gT, reduceIte, reduceCtorEq, Nat.reduceEqDiff, Nat.reduceAdd, Nat.reduceSub, Nat.reduceLeDiff, Nat.reduceLT, Int.reduceEq, Nat.reduceMul, f15, f0, f1, f2, f3, f4, f5, f15, f3, f4, f5, he]
        refine Ycp (p17 (by assumption) (by omega)) ?_
        simp (maxDischargeDepth := 9) only [↓gB, gV, gT, reduceIte, reduceCtorEq, Nat.reduceEqDiff, Nat.reduceAdd, Nat.reduceSub, Nat.reduceLeDiff, Nat.reduceLT, Int.reduceEq, Nat.reduceMul, f15, f0, f1, f2, f3, f4, f5, f15, f3, f4, f5, he]
        refine Ycp (p19 (by assumption) (by omega)) ?_
        simp (maxDischargeDepth := 9) only [↓gB, gV, gT, reduceIte, reduceCtorEq, Nat.reduceEqDiff, Nat.reduceAdd, Nat.reduceSub, Nat.reduceLeDiff, Nat.reduceLT, Int.reduceEq, Nat.reduceMul, f15, f0, f1, f2, f3, f4, f5, f15, f3, f4, f5, he]
        refine Ycp (p20) ?_
        simp (maxDischargeDepth := 9) only [↓gB, gV, gT, reduceIte, reduceCtorEq, Nat.reduceEqDiff, Nat.reduceAdd, Nat.reduceSub, Nat.reduceLeDiff, Nat.reduceLT, Int.reduceEq, Nat.reduceMul, f15, f0, f1, f2, f3, f4, f5, f15, f3, f4, f5, he]
        exact Kup_val (by simp (maxDischargeDepth := 9) only [le_self, le_puts, le_put0, hle, l1, hle]) rfl
end Go.Proofs.YtdepecjjahodjaaDoor
namespace Go.Proofs.YtdepecjjahodjaaDoor
open Go Go.GL
attribute [local irreducible] Ycall GCalls
set_option maxRecDepth 10000
set_option maxHeartbeats 0
open Go.RowKit
set_option maxRecDepth 10000
def G0of (W : World) : GH := fun b => (W.heap[b]?).map fun o => (o, false)
theorem holdsG0 (W : World) : GL.Holds W (G0of W) W := by
  refine ⟨Go.RowKit.Below.refl _ _, ?_, ?_, Nat.le_refl _⟩
  · intro b o t h
    unfold G0of at h
    rw [Option.map_eq_some_iff] at h
    obtain ⟨o', h1, h2⟩ := h
    cases h2; exact h1
  · intro b o h
    unfold G0of at h
    rw [Option.map_eq_some_iff] at h
    obtain ⟨o', h1, h2⟩ := h
    cases h2
theorem mapM_some {α β : Type} {f : α → Option β} : ∀ (l : List α) (r : List β), l.mapM f = some r → r.length = l.length ∧ ∀ (i : Nat) x, l[i]? = some x → f x = r[i]?
  | [], r, h => by
    rw [List.mapM_nil] at h; cases h; exact ⟨rfl, by simp⟩
  | y :: l, r, h => by
    rw [List.mapM_cons] at h
    simp only [bind, Option.bind_eq_some_iff, pure, Option.some.injEq] at h
    obtain ⟨b, hb, r', hr, rfl⟩ := h
    obtain ⟨h1, h2⟩ := mapM_some l r' hr
    refine ⟨by simp [h1], ?_⟩
    intro i x hx
    cases i with
    | zero => simp at hx; subst hx; simpa using hb
    | succ i => simp at hx; simpa using h2 i x hx
theorem cellsI_of {W : World} {a : Addr} {n : Nat} {cs : List Value} (hn : 0 < n) (h : W.cells? 0 a n = some cs) : gcellsI (G0of W) a n = some cs := by
  unfold World.cells? at h
  rw [if_pos (Nat.zero_le _)] at h
  obtain ⟨h1, h2⟩ := mapM_some _ _ h
  rw [List.length_range] at h1
  have hc : ∀ i, i < n → W.cell? (a.add i) = cs[i]? := fun i hi => h2 i i (by simp [hi])
  have h0 := hc 0 hn
  have ha0 : a.add 0 = a := by cases a; rfl
  rw [ha0, List.getElem?_eq_getElem (by omega)] at h0
  unfold World.cell? at h0
  split at h0
  case h_2 => cases h0
  rename_i c e fr hb
  split at h0
  · cases h0
  rename_i hsp
  have hspn : a.spot = none := by cases hs : a.spot <;> simp_all
  have hall : ∀ i, i < n → c[a.off + i]? = cs[i]? := by
    intro i hi
    have := hc i hi
    unfold World.cell? at this
    rw [add_block, hb] at this
    simp only [add_spot _ _ hspn, add_off, Option.isSome_none, Bool.false_eq_true, if_false] at this
    exact this
  have hlast := hall (n - 1) (by omega)
  rw [List.getElem?_eq_getElem (by omega)] at hlast
  have hsz : a.off + n ≤ c.size := by
    have := (Array.getElem?_eq_some_iff.1 hlast).1
    omega
  unfold gcellsI G0of
  simp only [hb, Option.map_some]
  rw [if_pos ⟨by rw [hspn]; rfl, hsz⟩]
  congr 1
  apply List.ext_getElem?
  intro i
  rw [List.getElem?_take]
  split
  · rename_i hi
    rw [List.getElem?_drop, Array.getElem?_toList, hall i hi]
  · rw [List.getElem?_eq_none (by omega)]
theorem exists_list {α : Type} {Q : Nat → α → Prop} : ∀ n, (∀ i, i < n → ∃ x, Q i x) → ∃ l : List α, l.length = n ∧ ∀ (i : Nat) x, l[i]? = some x → Q i x
  | 0, _ => ⟨[], rfl, by simp⟩
  | n + 1, h => by
    obtain ⟨l, h1, h2⟩ := exists_list n fun i hi => h i (by omega)
    obtain ⟨x, hx⟩ := h n (by omega)
    refine ⟨l ++ [x], by simp [h1], ?_⟩
    intro i y hy
    rw [List.getElem?_append] at hy
    split at hy
    · exact h2 i y hy
    · rename_i hi
      have : i = n := by
        by_cases e : i = n
        · exact e
        · rw [List.getElem?_eq_none (by simp; omega)] at hy; cases hy
      subst this
      simp [h1] at hy
      subst hy; exact hx
theorem wf_i64 {n : Int} (h : (Lit.int .i64 n).wf = true) : i64 n := by
  simp [Lit.wf, IntKind.min, IntKind.max, IntKind.signed, IntKind.bits] at h
  unfold i64; omega
def OT (W : World) {α : Type} (ρ : Rp α) (m : α → Nat) (T : TypeId) : Prop := ∀ (H : Type) (enc : TypeId × Value → H) (sp : Nat → Bool) (held : Bool) (fuel : Nat) (cs : List Value) (x : DataW H × List MemPlace), DataW.trod enc Tryd.prog W 0 sp held fuel T cs = some x → ∃ c : α, ρ.R (G0of W) c cs ∧ m c ≤ Rows.uptoBulk x.1
def mlist {α : Type} (m : α → Nat) (l : List α) : Nat := (l.map m).sum + 1
theorem OT.int {W : World} {T : TypeId} (hT : Tryd.prog.underlying T = some (.int .i64)) : OT W Rp.int (fun _ => 1) T := by
  intro H enc sp held fuel cs x h
  obtain ⟨n, e, hx, w⟩ := DataW.trod_int hT h
  subst e hx
  exact ⟨n, ⟨rfl, wf_i64 w⟩, by simp [Rows.uptoBulk]⟩
theorem OT.str {W : World} {T : TypeId} (hT : Tryd.prog.underlying T = some .string) : OT W Rp.str (fun s => s.size + 1) T := by
  intro H enc sp held fuel cs x h
  obtain ⟨s, e, hx, w⟩ := DataW.trod_string hT h
  subst e hx
  refine ⟨s, rfl, ?_⟩
  simp [Rows.uptoBulk]
theorem OT.bool {W : World} {T : TypeId} (hT : Tryd.prog.underlying T = some .bool) : OT W Rp.bool (fun _ => 1) T := by
  intro H enc sp held fuel cs x h
  obtain ⟨n, e, hx⟩ := DataW.trod_bool hT h
  subst e hx
  exact ⟨n, rfl, by simp [Rows.uptoBulk]⟩
theorem exists_list2 {α β : Type} {Q : Nat → α → Prop} {m : α → Nat} {m2 : β → Nat} : ∀ (els : List β), (∀ (i : Nat) e, els[i]? = some e → ∃ x, Q i x ∧ m x ≤ m2 e) → ∃ l : List α, l.length = els.length ∧ (∀ (i : Nat) x, l[i]? = some x → Q i x) ∧ (l.map m).sum ≤ (els.map m2).sum
  | [], _ => ⟨[], rfl, by simp, by simp⟩
  | e :: els, h => by
    obtain ⟨x, hx, hm⟩ := h 0 e rfl
    obtain ⟨l, h1, h2, h3⟩ := exists_list2 (Q := fun i x => Q (i + 1) x) (m := m) (m2 := m2) els (fun i e he => h (i + 1) e (by simpa using he))
    refine ⟨x :: l, by simp [h1], ?_, by simp; omega⟩
    intro i y hy
    cases i with
    | zero => simp at hy; subst hy; exact hx
    | succ i => exact h2 i y (by simpa using hy)
theorem bulkAll_sum {H : Type} : ∀ (l : List (DataW H)), Rows.uptoBulkAll l = (l.map Rows.uptoBulk).sum
  | [] => rfl
  | x :: l => by simp [Rows.uptoBulkAll, bulkAll_sum l]
theorem OT.slice {W : World} {α : Type} {ρ : Rp α} {m : α → Nat} {T e : TypeId} (hT : Tryd.prog.underlying T = some (.slice e)) (hc : Tryd.prog.cellsOf e = ρ.sz) (hpos : 0 < ρ.sz) (hel : OT W ρ m e) : OT W ρ.slice (mlist m) T := by
  intro H enc sp held fuel cs x h
  rcases DataW.trod_slice hT h with ⟨hcs, hx⟩ | ⟨a, len, cap, elems, rest, n, _, hcs, hx, _, hlc, _, hel', he, _⟩
  · subst hcs hx
    exact ⟨[], ⟨_, rfl, RSl.nil _ _⟩, by simp [mlist, Rows.uptoBulk]⟩
  · subst hcs hx
    rw [hc] at he
    have key : ∀ (i : Nat) el, elems[i]? = some el → ∃ c : α, (∃ cs, gcellsI (G0of W) (a.add (i * ρ.sz)) ρ.sz = some cs ∧ ρ.R (G0of W) c cs) ∧ m c ≤ Rows.uptoBulk el.1 := by
      intro i el hi
      have hil : i < elems.length := by
        by_cases q : i < elems.length
        · exact q
        · rw [List.getElem?_eq_none (by omega)] at hi; cases hi
      have h1 := he i (by omega)
      rw [hi, Option.bind_eq_some_iff] at h1
      obtain ⟨cs, h2, h3⟩ := h1
      obtain ⟨c, hc, hb⟩ := hel _ _ _ _ _ _ _ h3
      exact ⟨c, ⟨cs, cellsI_of hpos h2, hc⟩, hb⟩
    obtain ⟨l, h1, h2, h3⟩ := exists_list2 elems key
    refine ⟨l, ⟨_, rfl, ⟨some a, len, cap, rfl, by omega, hlc, fun hpos' => ⟨a, rfl, ?_, fun i x hx => h2 i x hx⟩⟩⟩, ?_⟩
    · obtain ⟨c, ⟨cs, hg, _⟩, _⟩ := key 0 (elems[0]'(by omega)) (List.getElem?_eq_getElem (by omega))
      have e : a.add (0 * ρ.sz) = a := by cases a; simp [Addr.add]
      rw [e] at hg
      unfold gcellsI at hg
      split at hg
      · split at hg
        · rename_i hc; have := hc.1; cases hs : a.spot <;> simp_all
        · cases hg
      · cases hg
    · simp only [mlist, Rows.uptoBulk, bulkAll_sum, List.map_map]
      have : (elems.map (Rows.uptoBulk ∘ fun x => x.1)).sum = (elems.map fun x => Rows.uptoBulk x.1).sum := rfl
      omega
theorem mlist_len {α : Type} {m : α → Nat} (h1 : ∀ x, 1 ≤ m x) (l : List α) : l.length + 1 ≤ mlist m l := by
  unfold mlist
  induction l with
  | nil => simp
  | cons x l ih => have := h1 x; simp; omega
theorem mlist_mem {α : Type} {m : α → Nat} {l : List α} {x : α} (h : x ∈ l) : m x + 1 ≤ mlist m l := by
  unfold mlist
  induction l with
  | nil => cases h
  | cons y l ih =>
    rcases List.mem_cons.1 h with rfl | h
    · simp
    · have := ih h; simp; omega
theorem OT.row {W : World} {α : Type} {ρ : Rp α} {m : List α → Nat} {T : TypeId} (h : OT W ρ.slice m T) {H : Type} {enc : TypeId × Value → H} {sp : Nat → Bool} {held : Bool} {a : Option Addr} {n c : Nat} {d : DataW H} {ps : List MemPlace} (ht : DataW.Trod enc Tryd.prog W 0 sp held T (.slice a n c) d ps) : ∃ l : List α, RSl ρ (G0of W) (.slice a n c) l ∧ m l ≤ Rows.uptoBulk d := by
  obtain ⟨fuel, hf⟩ := ht
  obtain ⟨l, ⟨v, hv, hr⟩, hm⟩ := h _ _ _ _ _ _ _ hf
  simp [Value.cells] at hv
  subst hv
  exact ⟨l, hr, hm⟩
theorem OT.agg {W : World} {α : Type} {ρ : Rp α} {m : α → Nat} {T : TypeId} (h : OT W ρ m T) {H : Type} {enc : TypeId × Value → H} {sp : Nat → Bool} {held : Bool} {xs : Array Value} {d : DataW H} {ps : List MemPlace} (ht : DataW.Trod enc Tryd.prog W 0 sp held T (.agg xs) d ps) : ∃ c : α, ρ.R (G0of W) c xs.toList ∧ m c ≤ Rows.uptoBulk d := by
  obtain ⟨fuel, hf⟩ := ht
  obtain ⟨l, hr, hm⟩ := h _ _ _ _ _ _ _ hf
  exact ⟨l, by simpa [Value.cells] using hr, hm⟩
end Go.Proofs.YtdepecjjahodjaaDoor
namespace Go.Proofs.YtdepecjjahodjaaDoor
open Go Go.GL
set_option maxRecDepth 10000
set_option maxHeartbeats 0
def mDue (x : SDue) : Nat := (x.Key.size + 1) + 1 + 1
theorem otDue {W : World} : OT W rDue mDue 34 := by
  intro H enc sp held fuel cs x h
  obtain ⟨xs, n, _, hx, hlen, hxl, hf⟩ := DataW.trod_struct Tryd.underlying34 h
  rw [show Tryd.prog.cellsOf 34 = 2 from by kernel_rfl] at hlen
  obtain ⟨x0, x1, rfl⟩ : ∃ x0 x1, cs = [x0, x1] := by
    match cs, hlen with
    | [x0, x1], _ => exact ⟨x0, x1, rfl⟩
  have hxl : xs.length = 2 := hxl
  obtain ⟨d_0, d_1, rfl⟩ : ∃ d_0 d_1, xs = [d_0, d_1] := by
    match xs, hxl with
    | [y0, y1], _ => exact ⟨y0, y1, rfl⟩
  have f_0 : DataW.trod enc Tryd.prog W 0 sp held n 9 [x0] = some d_0 := by have := hf 0 _ rfl; exact this
  have f_1 : DataW.trod enc Tryd.prog W 0 sp held n 3 [x1] = some d_1 := by have := hf 1 _ rfl; exact this
  clear hf
  obtain ⟨c_0, e_0, q_0, w_0⟩ := DataW.trod_string Tryd.underlying9 f_0
  simp only [List.cons.injEq, and_true] at e_0; subst e_0 q_0
  have z_0 := size_len c_0
  obtain ⟨c_1, e_1, q_1, w_1⟩ := DataW.trod_int Tryd.underlying3 f_1
  simp only [List.cons.injEq, and_true] at e_1; subst e_1 q_1
  subst hx
  refine ⟨⟨c_0, c_1⟩, rfl, ?_⟩
  simp only [mDue, Rows.uptoBulk, Rows.uptoBulkAll, List.map_cons, List.map_nil, ← size_len]
  omega
def mFraction (x : SFraction) : Nat := 1 + 1 + 1
theorem otFraction {W : World} : OT W rFraction mFraction 47 := by
  intro H enc sp held fuel cs x h
  obtain ⟨xs, n, _, hx, hlen, hxl, hf⟩ := DataW.trod_struct Tryd.underlying47 h
  rw [show Tryd.prog.cellsOf 47 = 2 from by kernel_rfl] at hlen
  obtain ⟨x0, x1, rfl⟩ : ∃ x0 x1, cs = [x0, x1] := by
    match cs, hlen with
    | [x0, x1], _ => exact ⟨x0, x1, rfl⟩
  have hxl : xs.length = 2 := hxl
  obtain ⟨d_0, d_1, rfl⟩ : ∃ d_0 d_1, xs = [d_0, d_1] := by
    match xs, hxl with
    | [y0, y1], _ => exact ⟨y0, y1, rfl⟩
  have f_0 : DataW.trod enc Tryd.prog W 0 sp held n 3 [x0] = some d_0 := by have := hf 0 _ rfl; exact this
  have f_1 : DataW.trod enc Tryd.prog W 0 sp held n 3 [x1] = some d_1 := by have := hf 1 _ rfl; exact this
  clear hf
  obtain ⟨c_0, e_0, q_0, w_0⟩ := DataW.trod_int Tryd.underlying3 f_0
  simp only [List.cons.injEq, and_true] at e_0; subst e_0 q_0
  obtain ⟨c_1, e_1, q_1, w_1⟩ := DataW.trod_int Tryd.underlying3 f_1
  simp only [List.cons.injEq, and_true] at e_1; subst e_1 q_1
  subst hx
  refine ⟨⟨c_0, c_1⟩, rfl, ?_⟩
  simp only [mFraction, Rows.uptoBulk, Rows.uptoBulkAll, List.map_cons, List.map_nil, ← size_len]
  omega
theorem mstr_pos (s : ByteArray) : 1 ≤ s.size + 1 := by omega
theorem strs_len {l : List ByteArray} {n : Nat} (h : mlist (fun s : ByteArray => s.size + 1) l ≤ n) (hn : n ≤ 1048576) : l.length ≤ 1048576 := by
  have h3 := mlist_len (m := fun s : ByteArray => s.size + 1) mstr_pos l
  omega
theorem dues_len {l : List SDue} {n : Nat} (h : mlist mDue l ≤ n) (hn : n ≤ 1048576) : l.length ≤ 1048576 := by
  have h1 := mlist_len (m := mDue) (fun z => by unfold mDue; omega) l
  omega
theorem fracs_len {l : List SFraction} {n : Nat} (h : mlist mFraction l ≤ n) (hn : n ≤ 1048576) : l.length ≤ 1048576 := by
  have h1 := mlist_len (m := mFraction) (fun z => by unfold mFraction; omega) l
  omega
theorem ints_len {l : List Int} {n : Nat} (h : mlist (fun _ : Int => 1) l ≤ n) (hn : n ≤ 1048576) : l.length ≤ 1048576 := by
  have h1 := mlist_len (m := fun _ : Int => 1) (fun z => by omega) l
  omega
namespace costsFairUpto
open Go.ChangeShapes Go.WideShapes Go.ChangeAt Go.RowKit
theorem own : ownKnob Tryd.prog.godebug = none := by kernel_rfl
theorem laidOut : laidOutB Tryd.prog = true := by kernel_rfl
set_option maxRecDepth 100000 in
theorem contract (H : Type) (enc : TypeId × Value → H) (W : World) (base : Nat) (args : Array Value) (ds gs : List (DataW H)) (before : List MemPlace)
    (hval : ∀ (j : Nat) t v, Tryd.f3.params[j]? = some t → args[j]? = some v → Value.okWide Tryd.prog W .any base t v)
    (hW : DataW.Whole enc Tryd.prog Tryd.f3.params.toList Rows.costsFairSpec.vars false W args.toList ds gs before) (hk : Rows.uptoSmall H (ds ++ gs) = true) :
    Calls Tryd.prog 3 args W fun e W' => ∃ v, e = .returned v ∧ Rows.costsFairSpec.post enc Tryd.prog Tryd.f3 false true false false W args v W' := by
  have hW' := hW
  obtain ⟨p, q, hA0, hV, rfl, hfz, hnd⟩ := hW
  have hA : DataW.TrodAll enc Tryd.prog W 0 (fun _ => true) true Tryd.f3.params.toList args.toList ds p := hA0
  rw [Tryd.params3] at hA hval
  obtain ⟨v0, vs0, d0, ds0, p0, q0, hargs, rfl, rfl, h0, r0⟩ := trodAll_cons hA
  obtain ⟨v1, vs1, d1, ds1, p1, q1, rfl, rfl, rfl, h1, r1⟩ := trodAll_cons r0
  obtain ⟨v2, vs2, d2, ds2, p2, q2, rfl, rfl, rfl, h2, r2⟩ := trodAll_cons r1
  obtain ⟨v3, vs3, d3, ds3, p3, q3, rfl, rfl, rfl, h3, r3⟩ := trodAll_cons r2
  obtain ⟨v4, vs4, d4, ds4, p4, q4, rfl, rfl, rfl, h4, r4⟩ := trodAll_cons r3
  obtain ⟨v5, vs5, d5, ds5, p5, q5, rfl, rfl, rfl, h5, r5⟩ := trodAll_cons r4
  obtain ⟨rfl, rfl, rfl⟩ := trodAll_nil r5
  obtain rfl : args = #[v0, v1, v2, v3, v4, v5] := by cases args; simp_all
  obtain ⟨rfl, rfl⟩ := trodVars_none hV
  have k0 := h0
  have lt0 : ∀ x ∈ p0, x.block < W.heap.size := by obtain ⟨m, hm⟩ := k0; exact DataW.trod_lt m _ _ _ hm
  obtain ⟨e0, n0, c0, rfl⟩ := okWide_slice Tryd.underlying22 (hval 0 22 v0 rfl rfl)
  obtain ⟨l0, R0, m0⟩ := OT.row (OT.slice Tryd.underlying22 (by kernel_rfl) (by decide) (OT.str Tryd.underlying9)) h0
  have k1 := h1
  have lt1 : ∀ x ∈ p1, x.block < W.heap.size := by obtain ⟨m, hm⟩ := k1; exact DataW.trod_lt m _ _ _ hm
  obtain ⟨e1, n1, c1, rfl⟩ := okWide_slice Tryd.underlying23 (hval 1 23 v1 rfl rfl)
  obtain ⟨l1, R1, m1⟩ := OT.row (OT.slice Tryd.underlying23 (by kernel_rfl) (by decide) (OT.int Tryd.underlying3)) h1
  have k2 := h2
  have lt2 : ∀ x ∈ p2, x.block < W.heap.size := by obtain ⟨m, hm⟩ := k2; exact DataW.trod_lt m _ _ _ hm
  obtain ⟨e2, n2, c2, rfl⟩ := okWide_slice Tryd.underlying24 (hval 2 24 v2 rfl rfl)
  obtain ⟨l2, R2, m2⟩ := OT.row (OT.slice Tryd.underlying24 (by kernel_rfl) (by decide) otDue) h2
  obtain ⟨a3, rfl, rfl, rfl, w3⟩ := open_int Tryd.underlying3 (hval 3 3 v3 rfl rfl) h3
  obtain ⟨a4, rfl, rfl, rfl, w4⟩ := open_int Tryd.underlying3 (hval 4 3 v4 rfl rfl) h4
  have k5 := h5
  have lt5 : ∀ x ∈ p5, x.block < W.heap.size := by obtain ⟨m, hm⟩ := k5; exact DataW.trod_lt m _ _ _ hm
  obtain ⟨e5, n5, c5, rfl⟩ := okWide_slice Tryd.underlying25 (hval 5 25 v5 rfl rfl)
  obtain ⟨l5, R5, m5⟩ := OT.row (OT.slice Tryd.underlying25 (by kernel_rfl) (by decide) otFraction) h5
  simp only [List.append_nil] at hk
  have hb : Rows.uptoBulkAll [d0, d1, d2, .lit (.int .i64 a3), .lit (.int .i64 a4), d5] ≤ 1048576 := of_decide_eq_true hk
  simp only [Rows.uptoBulkAll] at hb
  refine Calls.mono ((p3 R0 R1 R2 R5 (strs_len m0 (by omega)) (ints_len m1 (by omega)) (dues_len m2 (by omega)) (fracs_len m5 (by omega))) (G0of W) (le_refl _) W W (holdsG0 W)) fun e W' he => ?_
  obtain ⟨v, G', rfl, hh, _, rfl⟩ := he
  have bel := hh.below
  exact ⟨_, rfl, _, _, _, [], _, [], hW', trodAll_mk1 (shut_bool Tryd.underlying4 _), trodAll_cons_mk (Below.trod laidOut (by kernel_rfl) (of_decide_eq_true (by kernel_rfl)) k0 bel lt0) (trodAll_cons_mk (Below.trod laidOut (by kernel_rfl) (of_decide_eq_true (by kernel_rfl)) k1 bel lt1) (trodAll_cons_mk (Below.trod laidOut (by kernel_rfl) (of_decide_eq_true (by kernel_rfl)) k2 bel lt2) (trodAll_cons_mk (shut_int Tryd.underlying3 w3) (trodAll_cons_mk (shut_int Tryd.underlying3 w4) (trodAll_cons_mk (Below.trod laidOut (by kernel_rfl) (of_decide_eq_true (by kernel_rfl)) k5 bel lt5) trodAll_mk0))))), rfl, bel.frame _, fun h => by cases h⟩
noncomputable def laidWorld (os : Os) : World :=
  { World.holding Tryd.prog os ⟨#[], #[], []⟩ with heap := (((World.holding Tryd.prog os ⟨#[], #[], []⟩).heap.modify 4 fun o => match o with | .cells _ t fr => .cells #[.int .u8 128, .int .u8 191, .int .u8 160, .int .u8 191, .int .u8 128, .int .u8 159, .int .u8 144, .int .u8 191, .int .u8 128, .int .u8 143, .int .u8 0, .int .u8 0, .int .u8 0, .int .u8 0, .int .u8 0, .int .u8 0, .int .u8 0, .int .u8 0, .int .u8 0, .int .u8 0, .int .u8 0, .int .u8 0, .int .u8 0, .int .u8 0, .int .u8 0, .int .u8 0, .int .u8 0, .int .u8 0, .int .u8 0, .int .u8 0, .int .u8 0, .int .u8 0] t fr | o => o).modify 3 fun o => match o with | .cells _ t fr => .cells (Go.Pinned.utf8FirstZ.map fun n : Nat => Value.int .u8 (n : Int)).toArray t fr | o => o) }
set_option maxRecDepth 100000 in
theorem laid_met (os : Os) : laidMet Tryd.prog Rows.costsFairUptoRow.laid ((laidWorld os).forCall (fun _ _ => 0) ⟨#[], #[.slice none 0 0, .slice none 0 0, .slice none 0 0, .int .i64 0, .int .i64 0, .slice none 0 0], []⟩).memory := laidMet_of_run' 8 (by kernel_rfl) (by kernel_rfl)
theorem reads (os : Os) {H : Type} (enc : TypeId × Value → H) : ∃ places, DataW.whole enc Tryd.prog ((laidWorld os).forCall (fun _ _ => 0) ⟨#[], #[.slice none 0 0, .slice none 0 0, .slice none 0 0, .int .i64 0, .int .i64 0, .slice none 0 0], []⟩).memory Tryd.f3.params.toList Rows.costsFairSpec.vars false (#[.slice none 0 0, .slice none 0 0, .slice none 0 0, .int .i64 0, .int .i64 0, .slice none 0 0] : Array Value).toList 8 = some ([.nil, .nil, .nil, .lit (.int .i64 0), .lit (.int .i64 0), .nil], [], places) := ⟨[], by kernel_rfl⟩
set_option maxRecDepth 100000 in
theorem lifted (os : Os) (started : os.Started) (H : Type) (enc : TypeId × Value → H) (F : Stop.Interp) :
    ReturnsInHanded {} Tryd.checked os 3 .any ((Rows.OpenSpec.upto Rows.costsFairSpec).preRow enc Tryd.prog Tryd.f3 Rows.costsFairUptoRow.domain false Rows.costsFairUptoRow.laid) (((Rows.OpenSpec.upto Rows.costsFairSpec).at F).post enc Tryd.prog Tryd.f3 false true false false) := by
  obtain ⟨places, hx⟩ := reads os enc
  refine returnsInHanded_of_row (C := Tryd.checked) (s := Rows.OpenSpec.upto Rows.costsFairSpec) own started (by kernel_rfl) Tryd.func3
    (witness_row_at (enc := enc) (C := Tryd.checked) false (laidWorld os) #[.slice none 0 0, .slice none 0 0, .slice none 0 0, .int .i64 0, .int .i64 0, .slice none 0 0] rfl (by kernel_rfl) (by kernel_rfl) (by kernel_rfl)
      (OpenSpec.preRow_of_cond 8 hx (by kernel_rfl) (fun k hk => by cases hk; kernel_rfl) (by kernel_rfl) (laid_met os))) ?_
  intro W base args ds gs before hval hW _ hk _ _ _ _
  exact contract H enc W base args ds gs before hval hW (hk _ rfl)
theorem said : Rows.CostsFairUptoSaid :=
  OpenClaim.holds_of_cond 3 Tryd.f3 rfl rfl rfl rfl rfl rfl rfl ⟨rfl, rfl, rfl, rfl, rfl⟩ rfl rfl rfl rfl rfl (by kernel_rfl) Tryd.func3 (by kernel_rfl)
    (of_decide_eq_true (by kernel_rfl)) (by unfold Func.isWrapper; first | (rw [if_pos (by decide +kernel)]; kernel_rfl) | (rw [if_neg (by decide +kernel)]; exact ⟨rfl, rfl⟩))
    (fun os started H enc _ F => by rw [OpenClaim.pre_eq_preRow]; exact lifted os started H enc F)
theorem plain (f : FuncId) (fn : Func) (hf : Tryd.pinned.checked.prog.funcNamed "jitney/jitlaw1.CostsFair" = some f) (hfn : Tryd.pinned.checked.prog.funcs[f]? = some fn) :
    false = Tryd.pinned.checked.prog.looks [] ∧ ∀ (j : Nat) t, fn.params[j]? = some t → Tryd.pinned.checked.prog.wantsStandIn t = false := by
  obtain rfl : f = 3 := Option.some.inj ((show Tryd.prog.funcNamed "jitney/jitlaw1.CostsFair" = some 3 by kernel_rfl).symm.trans hf) |>.symm
  obtain rfl : fn = Tryd.f3 := (Option.some.inj (Tryd.func3.symm.trans hfn)).symm
  refine ⟨by kernel_rfl, fun j t ht => ?_⟩
  rw [Tryd.params3] at ht
  have hm := Array.mem_of_getElem? ht
  simp only [List.mem_toArray, List.mem_cons, List.not_mem_nil, or_false] at hm
  rcases hm with rfl | rfl | rfl | rfl | rfl | rfl
  · exact (show Tryd.prog.wantsStandIn 22 = false by kernel_rfl)
  · exact (show Tryd.prog.wantsStandIn 23 = false by kernel_rfl)
  · exact (show Tryd.prog.wantsStandIn 24 = false by kernel_rfl)
  · exact (show Tryd.prog.wantsStandIn 3 = false by kernel_rfl)
  · exact (show Tryd.prog.wantsStandIn 3 = false by kernel_rfl)
  · exact (show Tryd.prog.wantsStandIn 25 = false by kernel_rfl)
theorem proved : Rows.CostsFairUptoCardSaid :=
  Claim7.holds_tied_plain_at .later [] _ _ _ _ said (fun _ h => by cases h) (by kernel_rfl) (fun _ h => by cases h) costsFairUpto_row_tie rfl ⟨rfl, rfl⟩ (by kernel_rfl) rfl plain (by kernel_rfl)
end costsFairUpto
end Go.Proofs.YtdepecjjahodjaaDoor
