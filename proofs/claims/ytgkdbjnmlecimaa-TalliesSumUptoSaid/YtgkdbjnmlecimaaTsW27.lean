/- Proved: the law TalliesSum answers true at every input of bulk at most 1048576, and the input reads as it did. No conditions. -/
import Derived.Shelf.SlSortCmp.NoneTotal
import Derived.Test.YtgkdbjnmlecimaaRows
import Derived.WalkKit
import Derived.ProofKit
import Derived.OpenShut
import Derived.ChangeOld
import Derived.Below
import Derived.Carry
import Derived.ChangeArms
import Derived.JoinedCond
import Derived.Test.YtgkdbjnmlecimaaTsGlS
import Derived.Test.YtgkdbjnmlecimaaTsSh
import Derived.Test.YtgkdbjnmlecimaaTsW25
import Derived.Test.YtgkdbjnmlecimaaTsW26
set_option linter.unusedSimpArgs false
set_option linter.unusedVariables false
set_option linter.unusedSectionVars false
namespace Go.Proofs.Ytgkdbjnmlecimaa
open Go Go.GL
set_option maxRecDepth 10000
set_option maxHeartbeats 0
theorem g91 {G0 : GH} {n : Int} (hn0 : 0 ≤ n) (hn : n ≤ 1073741824) : Gives Try.prog G0 91 [.slice none 0 0, V n] (fun u G' => Row rTly 44 G0 G' u []) := by
  intro G hG
  refine enter Try.func91 27 #[.tmp 4] rfl Try.ntmps91 rfl (by decide +kernel) rfl ?_
  simp (maxDischargeDepth := 9) only [↓gB, gV, gT, reduceIte, reduceCtorEq, Nat.reduceEqDiff, Nat.reduceAdd, Nat.reduceSub, Nat.reduceLeDiff, Nat.reduceLT, Int.reduceEq, Nat.reduceMul]
  refine Xc_neg _ _ _ _ _ (by omega) ?_
  simp (maxDischargeDepth := 9) only [↓gB, gV, gT, reduceIte, reduceCtorEq, Nat.reduceEqDiff, Nat.reduceAdd, Nat.reduceSub, Nat.reduceLeDiff, Nat.reduceLT, Int.reduceEq, Nat.reduceMul]
  have q1 : Go.IntKind.i64.wrap (0 - 0) = 0 - 0 := wrap_id (by omega)
  simp (maxDischargeDepth := 9) only [↓gB, gV, gT, reduceIte, reduceCtorEq, Nat.reduceEqDiff, Nat.reduceAdd, Nat.reduceSub, Nat.reduceLeDiff, Nat.reduceLT, Int.reduceEq, Nat.reduceMul, q1]
  have q2 : Go.IntKind.i64.wrap (n - (0 - 0)) = n - (0 - 0) := wrap_id (by omega)
  simp (maxDischargeDepth := 9) only [↓gB, gV, gT, reduceIte, reduceCtorEq, Nat.reduceEqDiff, Nat.reduceAdd, Nat.reduceSub, Nat.reduceLeDiff, Nat.reduceLT, Int.reduceEq, Nat.reduceMul, q1, q2]
  obtain ⟨hty, hsz, hpos, ⟨z, hz, hzs⟩, hb0, hb1⟩ := sl39
  have hzo : z.cells.toList.all oneV = true := by rw [zv44] at hz; cases hz; rfl
  refine Xc_split _ _ _ _ _ (fun c1 => ?_) (fun c1 => ?_)
  · simp (maxDischargeDepth := 9) only [↓gB, gV, gT, reduceIte, reduceCtorEq, Nat.reduceEqDiff, Nat.reduceAdd, Nat.reduceSub, Nat.reduceLeDiff, Nat.reduceLT, Int.reduceEq, Nat.reduceMul, q1, q2, hb0, hzo, c1]
    refine vguard_intro (by omega) ?_
    refine gwp_appendMake (G0 := G) (n := 0) (cs := []) (z := z) hty Try.underlying3 hsz hpos hz hzs hzo hb0 hb1 (by omega) (by omega) (OV.nil _ _ _ _) (le_refl _) ?_
    intro v' G1 hov hk hle
    obtain ⟨a', c', rfl⟩ := hov.val
    simp (maxDischargeDepth := 9) only [↓gB, gV, gT, reduceIte, reduceCtorEq, Nat.reduceEqDiff, Nat.reduceAdd, Nat.reduceSub, Nat.reduceLeDiff, Nat.reduceLT, Int.reduceEq, Nat.reduceMul, q1, q2, hb0, hzo, c1, hk]
    refine vguard_intro (by omega) ?_
    exact Kup_gives (sub_refl _) hle ⟨[], (hov.shrink).base hG, Cellsof.nil _ _⟩
  · simp (maxDischargeDepth := 9) only [↓gB, gV, gT, reduceIte, reduceCtorEq, Nat.reduceEqDiff, Nat.reduceAdd, Nat.reduceSub, Nat.reduceLeDiff, Nat.reduceLT, Int.reduceEq, Nat.reduceMul, q1, q2, hb0, hzo, c1]
    exact Kup_gives (sub_refl _) (le_refl _) Row.nil
theorem g72 {G0 : GH} {r : Nat} {x y : Value} {l m : List Tly} {e : TypeId} {t : Bool} {fr : Nat × Nat} (hr : G0 r = some (.cells [x, y].toArray e fr, t)) (hx : RSl rTly G0 x l) (hy : RSl rTly G0 y m) (hn : l.length + m.length ≤ 1000000000) : Gives Try.prog G0 72 [.slice (some ⟨r, 0, none⟩) 2 2] (fun u G' => RSl rTly G' u (l ++ m)) := by
  intro G hG; replace hr := hG _ _ hr; replace hx := hx.le hG; replace hy := hy.le hG
  clear hG G0
  refine enter Try.func72 36 #[.tmp 2] rfl Try.ntmps72 rfl (by decide +kernel) rfl ?_
  obtain ⟨xa, xc, rfl⟩ := hx.val
  obtain ⟨ya, yc, rfl⟩ := hy.val
  simp (maxDischargeDepth := 9) only [↓gB, gV, gT, reduceIte, reduceCtorEq, Nat.reduceEqDiff, Nat.reduceAdd, Nat.reduceSub, Nat.reduceLeDiff, Nat.reduceLT, Int.reduceEq, Nat.reduceMul, hr, Int.cast_ofNat_Int, Int.reduceToNat, Int.zero_add, Int.reduceAdd]
  focus
    refine Xloop_intro _ _ _ _ _ (fun k f G' => ∃ (i : Int) (n : Int), k = (2 - i).toNat ∧ (i = 0 ∧ n = 0 ∨ i = 1 ∧ n = l.length ∨ i = 2 ∧ n = l.length + m.length) ∧ (G = G') ∧ f 11 = V i ∧ f 3 = V n ∧ f 0 = Go.Value.slice (Option.some { block := r, off := 0 }) 2 2 ∧ f 9 = Go.Value.slice (Option.some { block := r, off := 0 }) 2 2 ∧ f 10 = Go.Value.int Go.IntKind.i64 2) _ ⟨0, 0, rfl, ?_, rfl, by simp (maxDischargeDepth := 9) only [↓gB, gV, gT, reduceIte, reduceCtorEq, Nat.reduceEqDiff, Nat.reduceAdd, Nat.reduceSub, Nat.reduceLeDiff, Nat.reduceLT, Int.reduceEq, Nat.reduceMul, hr, Int.cast_ofNat_Int, Int.reduceToNat, Int.zero_add, Int.reduceAdd, and_self]⟩ ?_
    · omega
    rintro k f G' ⟨i, n, rfl, h, rfl, f11, f3, f0, f9, f10⟩
  rcases h with ⟨rfl, rfl⟩ | ⟨rfl, rfl⟩ | ⟨rfl, rfl⟩
  · focus
      simp (maxDischargeDepth := 9) only [↓gB, gV, gT, reduceIte, reduceCtorEq, Nat.reduceEqDiff, Nat.reduceAdd, Nat.reduceSub, Nat.reduceLeDiff, Nat.reduceLT, Int.reduceEq, Nat.reduceMul, hr, f0, f9, f10, f11, f3, Int.cast_ofNat_Int, Int.reduceToNat, Int.zero_add, Int.reduceAdd]
      refine Xc_pos _ _ _ _ _ (by omega) ?_
      simp (maxDischargeDepth := 9) only [↓gB, gV, gT, reduceIte, reduceCtorEq, Nat.reduceEqDiff, Nat.reduceAdd, Nat.reduceSub, Nat.reduceLeDiff, Nat.reduceLT, Int.reduceEq, Nat.reduceMul, hr, f0, f9, f10, f11, f3, Int.cast_ofNat_Int, Int.reduceToNat, Int.zero_add, Int.reduceAdd]
      refine vguard_intro (by omega) ?_
      have q1 : Go.IntKind.i64.wrap (↑l.length) = ↑l.length := wrap_id (by omega)
      simp (maxDischargeDepth := 9) only [↓gB, gV, gT, reduceIte, reduceCtorEq, Nat.reduceEqDiff, Nat.reduceAdd, Nat.reduceSub, Nat.reduceLeDiff, Nat.reduceLT, Int.reduceEq, Nat.reduceMul, hr, f0, f9, f10, f11, f3, q1, Int.cast_ofNat_Int, Int.reduceToNat, Int.zero_add, Int.reduceAdd]
      refine Xc_neg _ _ _ _ _ (by omega) ?_
      simp (maxDischargeDepth := 9) only [↓gB, gV, gT, reduceIte, reduceCtorEq, Nat.reduceEqDiff, Nat.reduceAdd, Nat.reduceSub, Nat.reduceLeDiff, Nat.reduceLT, Int.reduceEq, Nat.reduceMul, hr, f0, f9, f10, f11, f3, q1, Int.cast_ofNat_Int, Int.reduceToNat, Int.zero_add, Int.reduceAdd]
      have q2 : Go.IntKind.i64.wrap (1) = 1 := wrap_id (by omega)
      simp (maxDischargeDepth := 9) only [↓gB, gV, gT, reduceIte, reduceCtorEq, Nat.reduceEqDiff, Nat.reduceAdd, Nat.reduceSub, Nat.reduceLeDiff, Nat.reduceLT, Int.reduceEq, Nat.reduceMul, hr, f0, f9, f10, f11, f3, q1, q2, Int.cast_ofNat_Int, Int.reduceToNat, Int.zero_add, Int.reduceAdd]
      rw [N_lp]
      refine ⟨_, ?_, _, ?_, 1, l.length, rfl, ?_, rfl, by simp (maxDischargeDepth := 9) only [↓gB, gV, gT, reduceIte, reduceCtorEq, Nat.reduceEqDiff, Nat.reduceAdd, Nat.reduceSub, Nat.reduceLeDiff, Nat.reduceLT, Int.reduceEq, Nat.reduceMul, hr, f0, f9, f10, f11, f3, q1, q2, Int.cast_ofNat_Int, Int.reduceToNat, Int.zero_add, Int.reduceAdd, nat_succ, and_self]⟩
      · omega
      · exact sub_refl _
      · omega
  · focus
      simp (maxDischargeDepth := 9) only [↓gB, gV, gT, reduceIte, reduceCtorEq, Nat.reduceEqDiff, Nat.reduceAdd, Nat.reduceSub, Nat.reduceLeDiff, Nat.reduceLT, Int.reduceEq, Nat.reduceMul, hr, f0, f9, f10, f11, f3, Int.cast_ofNat_Int, Int.reduceToNat, Int.zero_add, Int.reduceAdd]
      refine Xc_pos _ _ _ _ _ (by omega) ?_
      simp (maxDischargeDepth := 9) only [↓gB, gV, gT, reduceIte, reduceCtorEq, Nat.reduceEqDiff, Nat.reduceAdd, Nat.reduceSub, Nat.reduceLeDiff, Nat.reduceLT, Int.reduceEq, Nat.reduceMul, hr, f0, f9, f10, f11, f3, Int.cast_ofNat_Int, Int.reduceToNat, Int.zero_add, Int.reduceAdd]
      refine vguard_intro (by omega) ?_
      have q1 : Go.IntKind.i64.wrap (↑l.length + ↑m.length) = ↑l.length + ↑m.length := wrap_id (by omega)
      simp (maxDischargeDepth := 9) only [↓gB, gV, gT, reduceIte, reduceCtorEq, Nat.reduceEqDiff, Nat.reduceAdd, Nat.reduceSub, Nat.reduceLeDiff, Nat.reduceLT, Int.reduceEq, Nat.reduceMul, hr, f0, f9, f10, f11, f3, q1, Int.cast_ofNat_Int, Int.reduceToNat, Int.zero_add, Int.reduceAdd]
      refine Xc_neg _ _ _ _ _ (by omega) ?_
      simp (maxDischargeDepth := 9) only [↓gB, gV, gT, reduceIte, reduceCtorEq, Nat.reduceEqDiff, Nat.reduceAdd, Nat.reduceSub, Nat.reduceLeDiff, Nat.reduceLT, Int.reduceEq, Nat.reduceMul, hr, f0, f9, f10, f11, f3, q1, Int.cast_ofNat_Int, Int.reduceToNat, Int.zero_add, Int.reduceAdd]
      have q2 : Go.IntKind.i64.wrap (2) = 2 := wrap_id (by omega)
      simp (maxDischargeDepth := 9) only [↓gB, gV, gT, reduceIte, reduceCtorEq, Nat.reduceEqDiff, Nat.reduceAdd, Nat.reduceSub, Nat.reduceLeDiff, Nat.reduceLT, Int.reduceEq, Nat.reduceMul, hr, f0, f9, f10, f11, f3, q1, q2, Int.cast_ofNat_Int, Int.reduceToNat, Int.zero_add, Int.reduceAdd]
      rw [N_lp]
      refine ⟨_, ?_, _, ?_, 2, l.length + m.length, rfl, ?_, rfl, by simp (maxDischargeDepth := 9) only [↓gB, gV, gT, reduceIte, reduceCtorEq, Nat.reduceEqDiff, Nat.reduceAdd, Nat.reduceSub, Nat.reduceLeDiff, Nat.reduceLT, Int.reduceEq, Nat.reduceMul, hr, f0, f9, f10, f11, f3, q1, q2, Int.cast_ofNat_Int, Int.reduceToNat, Int.zero_add, Int.reduceAdd, nat_succ, and_self]⟩
      · omega
      · exact sub_refl _
      · omega
  · simp (maxDischargeDepth := 9) only [↓gB, gV, gT, reduceIte, reduceCtorEq, Nat.reduceEqDiff, Nat.reduceAdd, Nat.reduceSub, Nat.reduceLeDiff, Nat.reduceLT, Int.reduceEq, Nat.reduceMul, hr, f0, f9, f10, f11, f3, Int.cast_ofNat_Int, Int.reduceToNat, Int.zero_add, Int.reduceAdd]
    refine Xc_neg _ _ _ _ _ (by omega) ?_
    simp (maxDischargeDepth := 9) only [↓gB, gV, gT, reduceIte, reduceCtorEq, Nat.reduceEqDiff, Nat.reduceAdd, Nat.reduceSub, Nat.reduceLeDiff, Nat.reduceLT, Int.reduceEq, Nat.reduceMul, hr, f0, f9, f10, f11, f3, Int.cast_ofNat_Int, Int.reduceToNat, Int.zero_add, Int.reduceAdd]
    refine Ycg (g91 (by omega) (by omega)) (fun _ _ _ h hu => hu.le h) ?_
    intro u G1 hle hrow
    simp (maxDischargeDepth := 9) only [↓gB, gV, gT, reduceIte, reduceCtorEq, Nat.reduceEqDiff, Nat.reduceAdd, Nat.reduceSub, Nat.reduceLeDiff, Nat.reduceLT, Int.reduceEq, Nat.reduceMul, hr, f0, f9, f10, f11, f3, Int.cast_ofNat_Int, Int.reduceToNat, Int.zero_add, Int.reduceAdd]
    focus
      refine Xloop_intro _ _ _ _ _ (fun k f G' => ∃ (i : Int) (v : Value), k = (2 - i).toNat ∧ (i = 0 ∨ i = 1 ∨ i = 2) ∧ (Row rTly 44 G G' v (if i = 0 then [] else if i = 1 then l else l ++ m)) ∧ (G.le G') ∧ f 27 = V i ∧ f 6 = v ∧ f 25 = Go.Value.slice (Option.some { block := r, off := 0 }) 2 2 ∧ f 26 = Go.Value.int Go.IntKind.i64 2) _ ⟨0, u, rfl, ?_, ?_, ?_, by simp (maxDischargeDepth := 9) only [↓gB, gV, gT, reduceIte, reduceCtorEq, Nat.reduceEqDiff, Nat.reduceAdd, Nat.reduceSub, Nat.reduceLeDiff, Nat.reduceLT, Int.reduceEq, Nat.reduceMul, hr, f0, f9, f10, f11, f3, Int.cast_ofNat_Int, Int.reduceToNat, Int.zero_add, Int.reduceAdd, and_self]⟩ ?_
      · omega
      · assumption
      · assumption
      rintro k f G' ⟨i, v, rfl, h, hrow, hle, f27, f6, f25, f26⟩
    replace hr := hle _ _ hr
    replace hx := hx.le hle
    replace hy := hy.le hle
    rcases h with rfl | rfl | rfl
    · simp (maxDischargeDepth := 9) only [↓gB, gV, gT, reduceIte, reduceCtorEq, Nat.reduceEqDiff, Nat.reduceAdd, Nat.reduceSub, Nat.reduceLeDiff, Nat.reduceLT, Int.reduceEq, Nat.reduceMul, f0, f9, f10, f11, f3, f6, f25, f26, hr, f27, Int.cast_ofNat_Int, Int.reduceToNat, Int.zero_add, Int.reduceAdd]
      refine Xc_pos _ _ _ _ _ (by omega) ?_
      simp (maxDischargeDepth := 9) only [↓gB, gV, gT, reduceIte, reduceCtorEq, Nat.reduceEqDiff, Nat.reduceAdd, Nat.reduceSub, Nat.reduceLeDiff, Nat.reduceLT, Int.reduceEq, Nat.reduceMul, f0, f9, f10, f11, f3, f6, f25, f26, hr, f27, Int.cast_ofNat_Int, Int.reduceToNat, Int.zero_add, Int.reduceAdd]
      refine vguard_intro (by omega) ?_
      refine Row.appAll sl39 (xs := []) hrow hx (by simp; omega) hle ?_
      intro v' G2 hrow2 _ hle2
      focus
        simp (maxDischargeDepth := 9) only [↓gB, gV, gT, reduceIte, reduceCtorEq, Nat.reduceEqDiff, Nat.reduceAdd, Nat.reduceSub, Nat.reduceLeDiff, Nat.reduceLT, Int.reduceEq, Nat.reduceMul, f0, f9, f10, f11, f3, f6, f25, f26, hr, f27, Int.cast_ofNat_Int, Int.reduceToNat, Int.zero_add, Int.reduceAdd]
        have q1 : Go.IntKind.i64.wrap (1) = 1 := wrap_id (by omega)
        simp (maxDischargeDepth := 9) only [↓gB, gV, gT, reduceIte, reduceCtorEq, Nat.reduceEqDiff, Nat.reduceAdd, Nat.reduceSub, Nat.reduceLeDiff, Nat.reduceLT, Int.reduceEq, Nat.reduceMul, f0, f9, f10, f11, f3, f6, f25, f26, hr, f27, q1, Int.cast_ofNat_Int, Int.reduceToNat, Int.zero_add, Int.reduceAdd]
        rw [N_lp]
        refine ⟨_, ?_, _, sub_refl _, 1, v', rfl, ?_, ?_, ?_, by simp (maxDischargeDepth := 9) only [↓gB, gV, gT, reduceIte, reduceCtorEq, Nat.reduceEqDiff, Nat.reduceAdd, Nat.reduceSub, Nat.reduceLeDiff, Nat.reduceLT, Int.reduceEq, Nat.reduceMul, f0, f9, f10, f11, f3, f6, f25, f26, hr, f27, q1, Int.cast_ofNat_Int, Int.reduceToNat, Int.zero_add, Int.reduceAdd, nat_succ, and_self]⟩
        · omega
        · omega
        · assumption
        · assumption
    · simp (maxDischargeDepth := 9) only [↓gB, gV, gT, reduceIte, reduceCtorEq, Nat.reduceEqDiff, Nat.reduceAdd, Nat.reduceSub, Nat.reduceLeDiff, Nat.reduceLT, Int.reduceEq, Nat.reduceMul, f0, f9, f10, f11, f3, f6, f25, f26, hr, f27, Int.cast_ofNat_Int, Int.reduceToNat, Int.zero_add, Int.reduceAdd]
      refine Xc_pos _ _ _ _ _ (by omega) ?_
      simp (maxDischargeDepth := 9) only [↓gB, gV, gT, reduceIte, reduceCtorEq, Nat.reduceEqDiff, Nat.reduceAdd, Nat.reduceSub, Nat.reduceLeDiff, Nat.reduceLT, Int.reduceEq, Nat.reduceMul, f0, f9, f10, f11, f3, f6, f25, f26, hr, f27, Int.cast_ofNat_Int, Int.reduceToNat, Int.zero_add, Int.reduceAdd]
      refine vguard_intro (by omega) ?_
      refine Row.appAll sl39 (xs := l) hrow hy (by omega) hle ?_
      intro v' G2 hrow2 _ hle2
      focus
        simp (maxDischargeDepth := 9) only [↓gB, gV, gT, reduceIte, reduceCtorEq, Nat.reduceEqDiff, Nat.reduceAdd, Nat.reduceSub, Nat.reduceLeDiff, Nat.reduceLT, Int.reduceEq, Nat.reduceMul, f0, f9, f10, f11, f3, f6, f25, f26, hr, f27, Int.cast_ofNat_Int, Int.reduceToNat, Int.zero_add, Int.reduceAdd]
        have q1 : Go.IntKind.i64.wrap (2) = 2 := wrap_id (by omega)
        simp (maxDischargeDepth := 9) only [↓gB, gV, gT, reduceIte, reduceCtorEq, Nat.reduceEqDiff, Nat.reduceAdd, Nat.reduceSub, Nat.reduceLeDiff, Nat.reduceLT, Int.reduceEq, Nat.reduceMul, f0, f9, f10, f11, f3, f6, f25, f26, hr, f27, q1, Int.cast_ofNat_Int, Int.reduceToNat, Int.zero_add, Int.reduceAdd]
        rw [N_lp]
        refine ⟨_, ?_, _, sub_refl _, 2, v', rfl, ?_, ?_, ?_, by simp (maxDischargeDepth := 9) only [↓gB, gV, gT, reduceIte, reduceCtorEq, Nat.reduceEqDiff, Nat.reduceAdd, Nat.reduceSub, Nat.reduceLeDiff, Nat.reduceLT, Int.reduceEq, Nat.reduceMul, f0, f9, f10, f11, f3, f6, f25, f26, hr, f27, q1, Int.cast_ofNat_Int, Int.reduceToNat, Int.zero_add, Int.reduceAdd, nat_succ, and_self]⟩
        · omega
        · omega
        · assumption
        · assumption
    · simp (maxDischargeDepth := 9) only [↓gB, gV, gT, reduceIte, reduceCtorEq, Nat.reduceEqDiff, Nat.reduceAdd, Nat.reduceSub, Nat.reduceLeDiff, Nat.reduceLT, Int.reduceEq, Nat.reduceMul, f0, f9, f10, f11, f3, f6, f25, f26, hr, f27, Int.cast_ofNat_Int, Int.reduceToNat, Int.zero_add, Int.reduceAdd]
      refine Xc_neg _ _ _ _ _ (by omega) ?_
      simp (maxDischargeDepth := 9) only [↓gB, gV, gT, reduceIte, reduceCtorEq, Nat.reduceEqDiff, Nat.reduceAdd, Nat.reduceSub, Nat.reduceLeDiff, Nat.reduceLT, Int.reduceEq, Nat.reduceMul, f0, f9, f10, f11, f3, f6, f25, f26, hr, f27, Int.cast_ofNat_Int, Int.reduceToNat, Int.zero_add, Int.reduceAdd]
      obtain ⟨G2, hs, hl, hr⟩ := hrow.fin hle
      exact Kup_gives hs hl (by simpa using hr)
end Go.Proofs.Ytgkdbjnmlecimaa
namespace Go.Proofs.Ytgkdbjnmlecimaa
open Go Go.GL
set_option maxRecDepth 10000
set_option maxHeartbeats 0
theorem p93 {G0 : GH} {a b h k : Int}  : Pure Try.prog G0 93 [.agg #[V a, V b, V h, V k]] (.bool (decide (1000000000 < k))) := by
  intro G hG
  clear hG G0
  refine enter Try.func93 6 #[.tmp 2] rfl Try.ntmps93 rfl (by decide +kernel) rfl ?_
  simp (maxDischargeDepth := 9) only [↓gB, gV, gT, reduceIte, reduceCtorEq, Nat.reduceEqDiff, Nat.reduceAdd, Nat.reduceSub, Nat.reduceLeDiff, Nat.reduceLT, Int.reduceEq, Nat.reduceMul]
  refine Yn2 fun r1 h1 => ?_
  simp (maxDischargeDepth := 9) only [↓gB, gV, gT, reduceIte, reduceCtorEq, Nat.reduceEqDiff, Nat.reduceAdd, Nat.reduceSub, Nat.reduceLeDiff, Nat.reduceLT, Int.reduceEq, Nat.reduceMul, h1]
  exact Kup_val (by simp (maxDischargeDepth := 9) only [le_self, le_puts, le_put0, h1]) rfl
def tlyOut (m : List (Key × Int)) (t : List Tly) : Int := if t.any (fun x => decide (1000000000 < x.k)) then 1 else checkTallies t
theorem g73 {G0 : GH} {r : Nat} {l : List (Key × Int)} {t : Bool} (hM : G0 r = some (mapO encK V l, t)) (hS : SortSpec 71) (hn : l.length ≤ 1048576) : Gives Try.prog G0 73 [.map (some r)] (fun u G' => ∃ m : List Tly, m.Perm (talliesP (fun n => decide (0 < n)) l) ∧ sortedT m ∧ ∃ w, (if (tlyOut l m) = 0 then RSl rTly G' w m else w = .slice none 0 0) ∧ u = .tuple #[w, V (tlyOut l m)]) := by
  intro G hG; replace hM := hG _ _ hM
  clear hG G0
  refine enter Try.func73 16 #[.tmp 2, .tmp 3] rfl Try.ntmps73 rfl (by decide +kernel) rfl ?_
  simp (maxDischargeDepth := 9) only [↓gB, gV, gT, reduceIte, reduceCtorEq, Nat.reduceEqDiff, Nat.reduceAdd, Nat.reduceSub, Nat.reduceLeDiff, Nat.reduceLT, Int.reduceEq, Nat.reduceMul, hM]
  refine Ycg (g55 hM hS hn) (fun _ _ _ h ⟨m, h1, h2, h3⟩ => ⟨m, h1, h2, h3.le h⟩) ?_
  rintro u G1 hle ⟨m, hm, hs, hr⟩
  have hml := hm.length_eq
  have hml2 : (talliesP (fun n => decide (0 < n)) l).length ≤ l.length := by unfold talliesP; rw [List.length_map]; exact List.length_filter_le _ _
  simp (maxDischargeDepth := 9) only [↓gB, gV, gT, reduceIte, reduceCtorEq, Nat.reduceEqDiff, Nat.reduceAdd, Nat.reduceSub, Nat.reduceLeDiff, Nat.reduceLT, Int.reduceEq, Nat.reduceMul, hM]
  refine Ycp (p92 (q := fun x => decide (1000000000 < x.k)) (fa := []) (fb := []) hr (of_eq_true en93) (by omega) (fun G' _ x cs hx => by cases hx; exact p93)) ?_
  rcases bool_tf (m.any (fun x => decide (1000000000 < x.k))) with c1 | c1
  · simp (maxDischargeDepth := 9) only [↓gB, gV, gT, reduceIte, reduceCtorEq, Nat.reduceEqDiff, Nat.reduceAdd, Nat.reduceSub, Nat.reduceLeDiff, Nat.reduceLT, Int.reduceEq, Nat.reduceMul, hM, c1]
    refine Kup_gives (sub_refl _) hle ?_
    exact ⟨m, hm, hs, .slice none 0 0, by simp [tlyOut, c1]⟩
  · simp (maxDischargeDepth := 9) only [↓gB, gV, gT, reduceIte, reduceCtorEq, Nat.reduceEqDiff, Nat.reduceAdd, Nat.reduceSub, Nat.reduceLeDiff, Nat.reduceLT, Int.reduceEq, Nat.reduceMul, hM, c1]
    refine Ycp (p35 (by assumption) (by omega)) ?_
    simp (maxDischargeDepth := 9) only [↓gB, gV, gT, reduceIte, reduceCtorEq, Nat.reduceEqDiff, Nat.reduceAdd, Nat.reduceSub, Nat.reduceLeDiff, Nat.reduceLT, Int.reduceEq, Nat.reduceMul, hM, c1]
    by_cases c2 : checkTallies m = 0
    · simp (maxDischargeDepth := 9) only [↓gB, gV, gT, reduceIte, reduceCtorEq, Nat.reduceEqDiff, Nat.reduceAdd, Nat.reduceSub, Nat.reduceLeDiff, Nat.reduceLT, Int.reduceEq, Nat.reduceMul, hM, c1, c2]
      refine Kup_gives (sub_refl _) hle ?_
      exact ⟨m, hm, hs, u, by simp [tlyOut, c1, c2, hr]⟩
    · simp (maxDischargeDepth := 9) only [↓gB, gV, gT, reduceIte, reduceCtorEq, Nat.reduceEqDiff, Nat.reduceAdd, Nat.reduceSub, Nat.reduceLeDiff, Nat.reduceLT, Int.reduceEq, Nat.reduceMul, hM, c1, c2]
      refine Kup_gives (sub_refl _) hle ?_
      exact ⟨m, hm, hs, .slice none 0 0, by simp [tlyOut, c1, c2]⟩
end Go.Proofs.Ytgkdbjnmlecimaa
namespace Go.Proofs.Ytgkdbjnmlecimaa
open Go Go.GL
set_option maxRecDepth 10000
set_option maxHeartbeats 0
theorem g74 {G0 : GH} {r : Nat} {l : List (Key × Int)} {t : Bool} (hM : G0 r = some (mapO encK V l, t)) (hS : SortSpec 83) (hn : l.length ≤ 1048576) : Gives Try.prog G0 74 [.map (some r)] (fun u G' => if l.any (fun p => decide (1000000000 < p.2)) then u = .tuple #[.slice none 0 0, V 1] else ∃ m : List Tly, m.Perm (talliesP (fun n => !decide (n = 0)) l) ∧ sortedT m ∧ ∃ w, (if checkTallies2 m = 0 then RSl rTly G' w m else w = .slice none 0 0) ∧ u = .tuple #[w, V (checkTallies2 m)]) := by
  intro G hG; replace hM := hG _ _ hM
  clear hG G0
  refine enter Try.func74 24 #[.tmp 2, .tmp 3] rfl Try.ntmps74 rfl (by decide +kernel) rfl ?_
  simp (maxDischargeDepth := 9) only [↓gB, gV, gT, reduceIte, reduceCtorEq, Nat.reduceEqDiff, Nat.reduceAdd, Nat.reduceSub, Nat.reduceLeDiff, Nat.reduceLT, Int.reduceEq, Nat.reduceMul, hM]
  refine mrange Try.underlying94 hM ?_
  intro it hit
  simp (maxDischargeDepth := 9) only [↓gB, gV, gT, reduceIte, reduceCtorEq, Nat.reduceEqDiff, Nat.reduceAdd, Nat.reduceSub, Nat.reduceLeDiff, Nat.reduceLT, Int.reduceEq, Nat.reduceMul, hM, hit]
  focus
    refine Xloop_intro _ _ _ _ _ (fun k f G' => ∃ (seen : Array Nat) (rest : List Nat), k = rest.length ∧ ((seen.toList ++ rest).Perm (List.range l.length)) ∧ (∀ i ∈ seen.toList, ∀ p, l[i]? = some p → ¬ 1000000000 < p.2) ∧ (G' it = some (.mapIter (some r) l.length seen l.length, true)) ∧ (G.le G') ∧ f 0 = Go.Value.map (Option.some r) ∧ f 9 = Go.Value.pointer (Option.some { block := it, off := 0 })) _ ⟨#[], List.range l.length, rfl, ?_, ?_, ?_, ?_, by simp (maxDischargeDepth := 9) only [↓gB, gV, gT, reduceIte, reduceCtorEq, Nat.reduceEqDiff, Nat.reduceAdd, Nat.reduceSub, Nat.reduceLeDiff, Nat.reduceLT, Int.reduceEq, Nat.reduceMul, hM, hit, and_self]⟩ ?_
    · rfl
    · (simp; done)
    · exact put_self _ _ _
    · (simp (maxDischargeDepth := 9) only [le_self, le_puts, le_put0, sub_self, sub_puts, sub_put0, hit]; done)
    rintro k f G' ⟨seen, rest, rfl, hp, hall, hI, hle, f0, f9⟩
  simp (maxDischargeDepth := 9) only [↓gB, gV, gT, reduceIte, reduceCtorEq, Nat.reduceEqDiff, Nat.reduceAdd, Nat.reduceSub, Nat.reduceLeDiff, Nat.reduceLT, Int.reduceEq, Nat.reduceMul, hM, hit, hI, f0, f9]
  refine mnext (hle _ _ hM) hI _ ?_ ?_
  · intro i p hpi hns
    have hil : i < l.length := by
      by_cases h : i < l.length
      · exact h
      · rw [List.getElem?_eq_none (by omega)] at hpi; cases hpi
    obtain ⟨hir, hperm2, hlen2⟩ := perm_push hp hil hns
    have hI2 := put_self G' it (.mapIter (some r) l.length (seen.push i) l.length, true)
    have hle2 := le_put_new hle hit (.mapIter (some r) l.length (seen.push i) l.length, true)
    generalize G'.put it (.mapIter (some r) l.length (seen.push i) l.length, true) = G2 at *
    simp (maxDischargeDepth := 9) only [↓gB, gV, gT, reduceIte, reduceCtorEq, Nat.reduceEqDiff, Nat.reduceAdd, Nat.reduceSub, Nat.reduceLeDiff, Nat.reduceLT, Int.reduceEq, Nat.reduceMul, hM, hit, hI, f0, f9, hI2]
    refine mentry (hle2 _ _ hM) hI2 hpi ?_
    simp (maxDischargeDepth := 9) only [↓gB, gV, gT, reduceIte, reduceCtorEq, Nat.reduceEqDiff, Nat.reduceAdd, Nat.reduceSub, Nat.reduceLeDiff, Nat.reduceLT, Int.reduceEq, Nat.reduceMul, hM, hit, hI, f0, f9, hI2, encK]
    refine Xc_split _ _ _ _ _ (fun c1 => ?_) (fun c1 => ?_)
    · simp (maxDischargeDepth := 9) only [↓gB, gV, gT, reduceIte, reduceCtorEq, Nat.reduceEqDiff, Nat.reduceAdd, Nat.reduceSub, Nat.reduceLeDiff, Nat.reduceLT, Int.reduceEq, Nat.reduceMul, hM, hit, hI, f0, f9, hI2, c1]
      have hany : l.any (fun p => decide (1000000000 < p.2)) = true := List.any_eq_true.2 ⟨p, List.mem_of_getElem? hpi, by simpa using c1⟩
      refine Kup_gives (sub_refl _) hle2 ?_
      simp [hany]
    · focus
        simp (maxDischargeDepth := 9) only [↓gB, gV, gT, reduceIte, reduceCtorEq, Nat.reduceEqDiff, Nat.reduceAdd, Nat.reduceSub, Nat.reduceLeDiff, Nat.reduceLT, Int.reduceEq, Nat.reduceMul, hM, hit, hI, f0, f9, hI2, c1]
        rw [N_lp]
        refine ⟨_, ?_, _, sub_refl _, seen.push i, rest.erase i, rfl, ?_, ?_, ?_, ?_, by simp (maxDischargeDepth := 9) only [↓gB, gV, gT, reduceIte, reduceCtorEq, Nat.reduceEqDiff, Nat.reduceAdd, Nat.reduceSub, Nat.reduceLeDiff, Nat.reduceLT, Int.reduceEq, Nat.reduceMul, hM, hit, hI, f0, f9, hI2, c1, nat_succ, and_self]⟩
        · assumption
        · assumption
        · (intro j hj q hq; rw [Array.toList_push, List.mem_append] at hj; rcases hj with hj | hj; (exact hall j hj q hq); (simp at hj; subst hj; rw [hpi] at hq; cases hq; exact c1); done)
        · assumption
        · assumption
  · intro hov
    have hr := rest_nil hp hov
    subst hr
    have hany : l.any (fun p => decide (1000000000 < p.2)) = false := by
      rw [List.any_eq_false]
      intro p hpm
      obtain ⟨i, hi, rfl⟩ := List.mem_iff_getElem.1 hpm
      simpa using hall i (hov i hi) _ (List.getElem?_eq_getElem hi)
    simp (maxDischargeDepth := 9) only [↓gB, gV, gT, reduceIte, reduceCtorEq, Nat.reduceEqDiff, Nat.reduceAdd, Nat.reduceSub, Nat.reduceLeDiff, Nat.reduceLT, Int.reduceEq, Nat.reduceMul, hM, hit, hI, f0, f9, hany]
    refine Ycg (g57 (hle _ _ hM) hS hn) (fun _ _ _ h ⟨m, h1, h2, h3⟩ => ⟨m, h1, h2, h3.le h⟩) ?_
    rintro u G1 hle1 ⟨m, hm, hs, hr⟩
    have hml := hm.length_eq
    have hml2 : (talliesP (fun n => !decide (n = 0)) l).length ≤ l.length := by unfold talliesP; rw [List.length_map]; exact List.length_filter_le _ _
    simp (maxDischargeDepth := 9) only [↓gB, gV, gT, reduceIte, reduceCtorEq, Nat.reduceEqDiff, Nat.reduceAdd, Nat.reduceSub, Nat.reduceLeDiff, Nat.reduceLT, Int.reduceEq, Nat.reduceMul, hM, hit, hI, f0, f9, hany]
    refine Ycp (p34 (by assumption) (by omega)) ?_
    simp (maxDischargeDepth := 9) only [↓gB, gV, gT, reduceIte, reduceCtorEq, Nat.reduceEqDiff, Nat.reduceAdd, Nat.reduceSub, Nat.reduceLeDiff, Nat.reduceLT, Int.reduceEq, Nat.reduceMul, hM, hit, hI, f0, f9, hany]
    by_cases c2 : checkTallies2 m = 0
    · simp (maxDischargeDepth := 9) only [↓gB, gV, gT, reduceIte, reduceCtorEq, Nat.reduceEqDiff, Nat.reduceAdd, Nat.reduceSub, Nat.reduceLeDiff, Nat.reduceLT, Int.reduceEq, Nat.reduceMul, hM, hit, hI, f0, f9, hany, c2]
      refine Kup_gives (sub_refl _) (hle.trans hle1) ?_
      exact ⟨m, hm, hs, u, by simp [c2, hr]⟩
    · simp (maxDischargeDepth := 9) only [↓gB, gV, gT, reduceIte, reduceCtorEq, Nat.reduceEqDiff, Nat.reduceAdd, Nat.reduceSub, Nat.reduceLeDiff, Nat.reduceLT, Int.reduceEq, Nat.reduceMul, hM, hit, hI, f0, f9, hany, c2]
      refine Kup_gives (sub_refl _) (hle.trans hle1) ?_
      exact ⟨m, hm, hs, .slice none 0 0, by simp [c2]⟩
theorem RSl.turn {α : Type} {ρ : Rp α} {G : GH} {v : Value} {xs : List α} {r : Nat} {o : Obj} (o' : Obj × Bool) (hr : G r = some (o, true)) (h : RSl ρ G v xs) : RSl ρ (G.put r o') v xs := h.ile (ile_put hr o')
theorem ite_up {p : Prop} [Decidable p] {A B C : Prop} (h : if p then A else C) (hab : A → B) : if p then B else C := by
  by_cases hp : p
  · rw [if_pos hp] at h ⊢; exact hab h
  · rw [if_neg hp] at h ⊢; exact h
def addK (k : Key) (n : Int) (m : List (Key × Int)) : List (Key × Int) := mset k (IntKind.i64.wrap (mget 0 k m + n)) m
def sumOf (l : List Tly) : List (Key × Int) := l.foldl (fun m x => addK (x.a, x.b, x.h) x.k m) []
theorem sumOf_snoc {l : List Tly} {i : Nat} {x : Tly} (h : l[i]? = some x) : sumOf (l.take (i + 1)) = mset (x.a, x.b, x.h) (IntKind.i64.wrap (mget 0 (x.a, x.b, x.h) (sumOf (l.take i)) + x.k)) (sumOf (l.take i)) := by
  unfold sumOf; rw [take_at h, List.foldl_append]; rfl
theorem addK_len (k : Key) (n : Int) (m : List (Key × Int)) : (addK k n m).length ≤ m.length + 1 := (mset_len _ _ _).2
theorem sumOf_len (l : List Tly) : (sumOf l).length ≤ l.length := by
  have : ∀ (l : List Tly) (m : List (Key × Int)), (l.foldl (fun m x => addK (x.a, x.b, x.h) x.k m) m).length ≤ m.length + l.length := by
    intro l
    induction l with
    | nil => intro m; simp
    | cons c l ih =>
      intro m
      have h1 := ih (addK (c.a, c.b, c.h) c.k m)
      have h2 := addK_len (c.a, c.b, c.h) c.k m
      simp only [List.foldl_cons, List.length_cons]; omega
  simpa [sumOf] using this l []
theorem g37 {G0 : GH} {x y : Value} {l m : List Tly} (hx : RSl rTly G0 x l) (hy : RSl rTly G0 y m) (hn1 : (l.length : Int) ≤ 9223372036854775807) (hn2 : (m.length : Int) ≤ 9223372036854775807) (hS : SortSpec 71) : Gives Try.prog G0 37 [x, y] (fun u G' => if ¬ orOf [checkTallies l, checkTallies m] = 0 then u = .tuple #[.slice none 0 0, V (orOf [checkTallies l, checkTallies m])] else ∃ t : List Tly, t.Perm (talliesP (fun n => decide (0 < n)) (sumOf (l ++ m))) ∧ sortedT t ∧ ∃ w, (if (tlyOut (sumOf (l ++ m)) t) = 0 then RSl rTly G' w t else w = .slice none 0 0) ∧ u = .tuple #[w, V (tlyOut (sumOf (l ++ m)) t)]) := by
  intro G hG; replace hx := hx.le hG; replace hy := hy.le hG
  clear hG G0
  refine enter Try.func37 46 #[.tmp 4, .tmp 5] rfl Try.ntmps37 rfl (by decide +kernel) rfl ?_
  obtain ⟨xa, xc, rfl⟩ := hx.val
  obtain ⟨ya, yc, rfl⟩ := hy.val
  simp (maxDischargeDepth := 9) only [↓gB, gV, gT, reduceIte, reduceCtorEq, Nat.reduceEqDiff, Nat.reduceAdd, Nat.reduceSub, Nat.reduceLeDiff, Nat.reduceLT, Int.reduceEq, Nat.reduceMul]
  refine Ycp (p35 (by assumption) (by assumption)) ?_
  simp (maxDischargeDepth := 9) only [↓gB, gV, gT, reduceIte, reduceCtorEq, Nat.reduceEqDiff, Nat.reduceAdd, Nat.reduceSub, Nat.reduceLeDiff, Nat.reduceLT, Int.reduceEq, Nat.reduceMul]
  refine Ycp (p35 (by assumption) (by assumption)) ?_
  simp (maxDischargeDepth := 9) only [↓gB, gV, gT, reduceIte, reduceCtorEq, Nat.reduceEqDiff, Nat.reduceAdd, Nat.reduceSub, Nat.reduceLeDiff, Nat.reduceLT, Int.reduceEq, Nat.reduceMul]
  refine Yn1 fun r1 h1 => ?_
  simp (maxDischargeDepth := 9) only [↓gB, gV, gT, reduceIte, reduceCtorEq, Nat.reduceEqDiff, Nat.reduceAdd, Nat.reduceSub, Nat.reduceLeDiff, Nat.reduceLT, Int.reduceEq, Nat.reduceMul, h1]
  refine Ycp (p63 (by exact put_self _ _ _)) ?_
  simp (maxDischargeDepth := 9) only [↓gB, gV, gT, reduceIte, reduceCtorEq, Nat.reduceEqDiff, Nat.reduceAdd, Nat.reduceSub, Nat.reduceLeDiff, Nat.reduceLT, Int.reduceEq, Nat.reduceMul, h1]
  by_cases he : orOf [checkTallies l, checkTallies m] = 0
  · have hc1 : checkTallies l = 0 ∧ checkTallies m = 0 := by
      rw [orOf2] at he; split at he
      · rename_i h; exact ⟨h, he⟩
      · rename_i h; exact absurd he h
    have hl1 := (ok_of hc1.1).1
    have hl2 := (ok_of hc1.2).1
    simp (maxDischargeDepth := 9) only [↓gB, gV, gT, reduceIte, reduceCtorEq, Nat.reduceEqDiff, Nat.reduceAdd, Nat.reduceSub, Nat.reduceLeDiff, Nat.reduceLT, Int.reduceEq, Nat.reduceMul, h1, he]
    refine Yn1 fun r2 h2 => ?_
    have n2 := h2
    simp only [put_none_eq, ne_eq] at n2
    simp (maxDischargeDepth := 9) only [↓gB, gV, gT, reduceIte, reduceCtorEq, Nat.reduceEqDiff, Nat.reduceAdd, Nat.reduceSub, Nat.reduceLeDiff, Nat.reduceLT, Int.reduceEq, Nat.reduceMul, h1, h2, n2, he]
    refine Yn1 fun r3 h3 => ?_
    have n3 := h3
    simp only [put_none_eq, ne_eq] at n3
    simp (maxDischargeDepth := 9) only [↓gB, gV, gT, reduceIte, reduceCtorEq, Nat.reduceEqDiff, Nat.reduceAdd, Nat.reduceSub, Nat.reduceLeDiff, Nat.reduceLT, Int.reduceEq, Nat.reduceMul, h1, h2, n2, h3, n3, he]
    refine Ycg (g72 (put_self _ _ _) (RSl.le hx (by simp (maxDischargeDepth := 9) only [le_self, le_puts, h1, h2, h3])) (RSl.le hy (by simp (maxDischargeDepth := 9) only [le_self, le_puts, h1, h2, h3])) (by omega)) (upRSl _ _) ?_
    intro v G1 hle hv
    have hG1 : G.le G1 := GH.le.trans (by simp (maxDischargeDepth := 9) only [le_self, le_puts, h1, h2, h3]) hle
    have hM1 : G1 r2 = some (.map #[] 0, true) := hle _ _ (by rw [put_pk h3 (kn_is _ _ _)]; exact put_self _ _ _)
    obtain ⟨va, vc, rfl⟩ := hv.val
    have hr2 := n2.2
    clear hle h3 n3
    simp (maxDischargeDepth := 9) only [↓gB, gV, gT, reduceIte, reduceCtorEq, Nat.reduceEqDiff, Nat.reduceAdd, Nat.reduceSub, Nat.reduceLeDiff, Nat.reduceLT, Int.reduceEq, Nat.reduceMul, h1, h2, n2, hM1, hr2]
    focus
      refine Xloop_intro _ _ _ _ _ (fun k f G' => ∃ (i : Nat), k = (l ++ m).length - i ∧ (i ≤ (l ++ m).length) ∧ (G' r2 = some (mapO encK V (sumOf ((l ++ m).take i)), true)) ∧ (RSl rTly G' (.slice va (l ++ m).length vc) (l ++ m)) ∧ (G.le G') ∧ f 25 = V i ∧ f 7 = Go.Value.map (Option.some r2) ∧ f 23 = Go.Value.slice va (l ++ m).length vc ∧ f 24 = Go.Value.int Go.IntKind.i64 ↑(l ++ m).length) _ ⟨0, rfl, ?_, ?_, ?_, ?_, by simp (maxDischargeDepth := 9) only [↓gB, gV, gT, reduceIte, reduceCtorEq, Nat.reduceEqDiff, Nat.reduceAdd, Nat.reduceSub, Nat.reduceLeDiff, Nat.reduceLT, Int.reduceEq, Nat.reduceMul, h1, h2, n2, hM1, hr2, and_self]⟩ ?_
      · omega
      · assumption
      · assumption
      · assumption
      rintro k f G' ⟨i, rfl, hi, hm, hv, hle, f25, f7, f23, f24⟩
    have hll : (l ++ m).length ≤ 1048576 := by rw [List.length_append]; omega
    simp (maxDischargeDepth := 9) only [↓gB, gV, gT, reduceIte, reduceCtorEq, Nat.reduceEqDiff, Nat.reduceAdd, Nat.reduceSub, Nat.reduceLeDiff, Nat.reduceLT, Int.reduceEq, Nat.reduceMul, h1, h2, n2, hM1, hr2, hm, f25, f7, f23, f24]
    refine Xc_split _ _ _ _ _ (fun c1 => ?_) (fun c1 => ?_)
    · focus
        simp (maxDischargeDepth := 9) only [↓gB, gV, gT, reduceIte, reduceCtorEq, Nat.reduceEqDiff, Nat.reduceAdd, Nat.reduceSub, Nat.reduceLeDiff, Nat.reduceLT, Int.reduceEq, Nat.reduceMul, h1, h2, n2, hM1, hr2, hm, f25, f7, f23, f24, c1, encK]
        obtain ⟨x1, a1, s1, m1, rfl, rfl, e1⟩ := hv.at (i) (by omega) 4 rfl
        simp (maxDischargeDepth := 9) only [↓gB, gV, gT, reduceIte, reduceCtorEq, Nat.reduceEqDiff, Nat.reduceAdd, Nat.reduceSub, Nat.reduceLeDiff, Nat.reduceLT, Int.reduceEq, Nat.reduceMul, h1, h2, n2, hM1, hr2, hm, f25, f7, f24, c1, f23, e1, encK]
        refine vguard_intro (by simp) ?_
        refine Yn2 fun r4 h4 => ?_
        simp (maxDischargeDepth := 9) only [↓gB, gV, gT, reduceIte, reduceCtorEq, Nat.reduceEqDiff, Nat.reduceAdd, Nat.reduceSub, Nat.reduceLeDiff, Nat.reduceLT, Int.reduceEq, Nat.reduceMul, h1, h2, n2, hM1, hr2, hm, f25, f7, f24, c1, f23, e1, h4, encK]
        refine Xdraw_intro [0, 1, 2, 3, 4, 5, 6, 7, 8, 9, 10, 11, 12] mixed (by kernel_rfl) (by decide +kernel) ?_
        simp (maxDischargeDepth := 9) only [↓gB, gV, gT, reduceIte, reduceCtorEq, Nat.reduceEqDiff, Nat.reduceAdd, Nat.reduceSub, Nat.reduceLeDiff, Nat.reduceLT, Int.reduceEq, Nat.reduceMul, h1, h2, n2, hM1, hr2, hm, f25, f7, f24, c1, f23, e1, h4, encK]
        have p1 := mt89.look (kv := Go.Value.agg #[Go.Value.int Go.IntKind.i64 x1.a, Go.Value.int Go.IntKind.i64 x1.b, Go.Value.int Go.IntKind.i64 x1.h]) (G := G'.put r4 (Go.Obj.cells #[Go.Value.int Go.IntKind.i64 x1.a, Go.Value.int Go.IntKind.i64 x1.b, Go.Value.int Go.IntKind.i64 x1.h, Go.Value.int Go.IntKind.i64 x1.k] 44, Bool.true)) ((put_pk (by assumption) (kn_of hm)).trans hm) (_, _, _) rfl
        simp (maxDischargeDepth := 9) only [↓gB, gV, gT, reduceIte, reduceCtorEq, Nat.reduceEqDiff, Nat.reduceAdd, Nat.reduceSub, Nat.reduceLeDiff, Nat.reduceLT, Int.reduceEq, Nat.reduceMul, h1, h2, n2, hM1, hr2, hm, f25, f7, f24, c1, f23, e1, h4, p1, encK]
        refine mt89.ment ((put_pk (by assumption) (kn_of hm)).trans hm) (_, _, _) rfl ?_
        simp (maxDischargeDepth := 9) only [↓gB, gV, gT, reduceIte, reduceCtorEq, Nat.reduceEqDiff, Nat.reduceAdd, Nat.reduceSub, Nat.reduceLeDiff, Nat.reduceLT, Int.reduceEq, Nat.reduceMul, h1, h2, n2, hM1, hr2, hm, f25, f7, f24, c1, f23, e1, h4, p1, encK]
        refine mt89.ent (put_self _ _ _) _ rfl ?_
        simp (maxDischargeDepth := 9) only [↓gB, gV, gT, reduceIte, reduceCtorEq, Nat.reduceEqDiff, Nat.reduceAdd, Nat.reduceSub, Nat.reduceLeDiff, Nat.reduceLT, Int.reduceEq, Nat.reduceMul, h1, h2, n2, hM1, hr2, hm, f25, f7, f24, c1, f23, e1, h4, p1, encK]
        have q1 : Go.IntKind.i64.wrap (↑i + 1) = ↑i + 1 := wrap_id (by omega)
        simp (maxDischargeDepth := 9) only [↓gB, gV, gT, reduceIte, reduceCtorEq, Nat.reduceEqDiff, Nat.reduceAdd, Nat.reduceSub, Nat.reduceLeDiff, Nat.reduceLT, Int.reduceEq, Nat.reduceMul, h1, h2, n2, hM1, hr2, hm, f25, f7, f24, c1, f23, e1, h4, p1, q1, encK]
        rw [N_lp]
        refine ⟨_, ?_, _, sub_refl _, i + 1, rfl, ?_, ?_, ?_, ?_, by simp (maxDischargeDepth := 9) only [↓gB, gV, gT, reduceIte, reduceCtorEq, Nat.reduceEqDiff, Nat.reduceAdd, Nat.reduceSub, Nat.reduceLeDiff, Nat.reduceLT, Int.reduceEq, Nat.reduceMul, h1, h2, n2, hM1, hr2, hm, f25, f7, f24, c1, f23, e1, h4, p1, q1, encK, nat_succ, and_self]⟩
        · omega
        · omega
        · (rw [sumOf_snoc m1]; exact put_self _ _ _; done)
        · (exact RSl.turn _ ((put_pk h4 (kn_of hm)).trans hm) (hv.put _ h4); done)
        · (simp (maxDischargeDepth := 9) only [le_self, le_puts, le_put0, sub_self, sub_puts, sub_put0, h1, h2, n2, hG1, hr2, hle, h4]; done)
    · rw [List.take_of_length_le (by omega)] at hm
      have hsl := sumOf_len (l ++ m)
      simp (maxDischargeDepth := 9) only [↓gB, gV, gT, reduceIte, reduceCtorEq, Nat.reduceEqDiff, Nat.reduceAdd, Nat.reduceSub, Nat.reduceLeDiff, Nat.reduceLT, Int.reduceEq, Nat.reduceMul, h1, h2, n2, hM1, hr2, hm, f25, f7, f23, f24, c1]
      refine Ycg (g73 hm hS (by omega)) (fun _ _ _ h ⟨t, h1, h2, w, h3, h4⟩ => ⟨t, h1, h2, w, ite_up h3 (fun q => q.le h), h4⟩) ?_
      rintro u G2 hle2 ⟨t, h1, h2, w, h3, rfl⟩
      simp (maxDischargeDepth := 9) only [↓gB, gV, gT, reduceIte, reduceCtorEq, Nat.reduceEqDiff, Nat.reduceAdd, Nat.reduceSub, Nat.reduceLeDiff, Nat.reduceLT, Int.reduceEq, Nat.reduceMul, h1, h2, n2, hM1, hr2, hm, f25, f7, f23, f24, c1]
      refine Kup_gives (sub_refl _) (hle.trans hle2) ?_
      exact ⟨t, h1, h2, w, h3, rfl⟩
  · simp (maxDischargeDepth := 9) only [↓gB, gV, gT, reduceIte, reduceCtorEq, Nat.reduceEqDiff, Nat.reduceAdd, Nat.reduceSub, Nat.reduceLeDiff, Nat.reduceLT, Int.reduceEq, Nat.reduceMul, h1, he]
    exact Kup_val (by simp (maxDischargeDepth := 9) only [le_self, le_puts, le_put0, h1]) rfl
def refOut (l : List (Key × Int)) (G' : GH) (u : Value) : Prop := if l.any (fun p => decide (1000000000 < p.2)) then u = .tuple #[.slice none 0 0, V 1] else ∃ m : List Tly, m.Perm (talliesP (fun n => !decide (n = 0)) l) ∧ sortedT m ∧ ∃ w, (if checkTallies2 m = 0 then RSl rTly G' w m else w = .slice none 0 0) ∧ u = .tuple #[w, V (checkTallies2 m)]
theorem refOut_up (l : List (Key × Int)) : UpR GH.le (fun u G => refOut l G u) := by
  intro u G G' h hu
  unfold refOut at hu ⊢
  by_cases hp : l.any (fun p => decide (1000000000 < p.2)) = true
  · rw [if_pos hp] at hu ⊢; exact hu
  · rw [if_neg hp] at hu ⊢
    obtain ⟨m, h1, h2, w, h3, h4⟩ := hu
    exact ⟨m, h1, h2, w, ite_up h3 (fun q => q.le h), h4⟩
theorem g38 {G0 : GH} {x y : Value} {l m : List Tly} (hx : RSl rTly G0 x l) (hy : RSl rTly G0 y m) (hn : l.length + m.length ≤ 1048576) (hS : SortSpec 83) : Gives Try.prog G0 38 [x, y] (fun u G' => refOut (sumOf (l ++ m)) G' u) := by
  intro G hG; replace hx := hx.le hG; replace hy := hy.le hG
  clear hG G0
  refine enter Try.func38 36 #[.tmp 4, .tmp 5] rfl Try.ntmps38 rfl (by decide +kernel) rfl ?_
  obtain ⟨xa, xc, rfl⟩ := hx.val
  obtain ⟨ya, yc, rfl⟩ := hy.val
  simp (maxDischargeDepth := 9) only [↓gB, gV, gT, reduceIte, reduceCtorEq, Nat.reduceEqDiff, Nat.reduceAdd, Nat.reduceSub, Nat.reduceLeDiff, Nat.reduceLT, Int.reduceEq, Nat.reduceMul]
  refine Yn1 fun r1 h1 => ?_
  simp (maxDischargeDepth := 9) only [↓gB, gV, gT, reduceIte, reduceCtorEq, Nat.reduceEqDiff, Nat.reduceAdd, Nat.reduceSub, Nat.reduceLeDiff, Nat.reduceLT, Int.reduceEq, Nat.reduceMul, h1]
  refine Yn1 fun r2 h2 => ?_
  have n2 := h2
  simp only [put_none_eq, ne_eq] at n2
  simp (maxDischargeDepth := 9) only [↓gB, gV, gT, reduceIte, reduceCtorEq, Nat.reduceEqDiff, Nat.reduceAdd, Nat.reduceSub, Nat.reduceLeDiff, Nat.reduceLT, Int.reduceEq, Nat.reduceMul, h1, h2, n2]
  refine Ycg (g72 (put_self _ _ _) (RSl.le hx (by simp (maxDischargeDepth := 9) only [le_self, le_puts, h1, h2])) (RSl.le hy (by simp (maxDischargeDepth := 9) only [le_self, le_puts, h1, h2])) (by omega)) (upRSl _ _) ?_
  intro v G1 hle hv
  have hG1 : G.le G1 := GH.le.trans (by simp (maxDischargeDepth := 9) only [le_self, le_puts, h1, h2]) hle
  have hM1 : G1 r1 = some (.map #[] 0, true) := hle _ _ (by rw [put_pk h2 (kn_is _ _ _)]; exact put_self _ _ _)
  obtain ⟨va, vc, rfl⟩ := hv.val
  clear hle h2 n2
  simp (maxDischargeDepth := 9) only [↓gB, gV, gT, reduceIte, reduceCtorEq, Nat.reduceEqDiff, Nat.reduceAdd, Nat.reduceSub, Nat.reduceLeDiff, Nat.reduceLT, Int.reduceEq, Nat.reduceMul, h1, hM1]
  focus
    refine Xloop_intro _ _ _ _ _ (fun k f G' => ∃ (i : Nat), k = (l ++ m).length - i ∧ (i ≤ (l ++ m).length) ∧ (G' r1 = some (mapO encK V (sumOf ((l ++ m).take i)), true)) ∧ (RSl rTly G' (.slice va (l ++ m).length vc) (l ++ m)) ∧ (G.le G') ∧ f 15 = V i ∧ f 6 = Go.Value.map (Option.some r1) ∧ f 13 = Go.Value.slice va (l ++ m).length vc ∧ f 14 = Go.Value.int Go.IntKind.i64 ↑(l ++ m).length) _ ⟨0, rfl, ?_, ?_, ?_, ?_, by simp (maxDischargeDepth := 9) only [↓gB, gV, gT, reduceIte, reduceCtorEq, Nat.reduceEqDiff, Nat.reduceAdd, Nat.reduceSub, Nat.reduceLeDiff, Nat.reduceLT, Int.reduceEq, Nat.reduceMul, h1, hM1, and_self]⟩ ?_
    · omega
    · assumption
    · assumption
    · assumption
    rintro k f G' ⟨i, rfl, hi, hm, hv, hle, f15, f6, f13, f14⟩
  have hll : (l ++ m).length ≤ 1048576 := by rw [List.length_append]; omega
  simp (maxDischargeDepth := 9) only [↓gB, gV, gT, reduceIte, reduceCtorEq, Nat.reduceEqDiff, Nat.reduceAdd, Nat.reduceSub, Nat.reduceLeDiff, Nat.reduceLT, Int.reduceEq, Nat.reduceMul, h1, hM1, hm, f15, f6, f13, f14]
  refine Xc_split _ _ _ _ _ (fun c1 => ?_) (fun c1 => ?_)
  · focus
      simp (maxDischargeDepth := 9) only [↓gB, gV, gT, reduceIte, reduceCtorEq, Nat.reduceEqDiff, Nat.reduceAdd, Nat.reduceSub, Nat.reduceLeDiff, Nat.reduceLT, Int.reduceEq, Nat.reduceMul, h1, hM1, hm, f15, f6, f13, f14, c1, encK]
      obtain ⟨x1, a1, s1, m1, rfl, rfl, e1⟩ := hv.at (i) (by omega) 4 rfl
      simp (maxDischargeDepth := 9) only [↓gB, gV, gT, reduceIte, reduceCtorEq, Nat.reduceEqDiff, Nat.reduceAdd, Nat.reduceSub, Nat.reduceLeDiff, Nat.reduceLT, Int.reduceEq, Nat.reduceMul, h1, hM1, hm, f15, f6, f14, c1, f13, e1, encK]
      refine vguard_intro (by simp) ?_
      refine Yn2 fun r3 h3 => ?_
      simp (maxDischargeDepth := 9) only [↓gB, gV, gT, reduceIte, reduceCtorEq, Nat.reduceEqDiff, Nat.reduceAdd, Nat.reduceSub, Nat.reduceLeDiff, Nat.reduceLT, Int.reduceEq, Nat.reduceMul, h1, hM1, hm, f15, f6, f14, c1, f13, e1, h3, encK]
      refine Xdraw_intro [0, 1, 2, 3, 4, 5, 6, 7, 8, 9, 10, 11, 12] mixed (by kernel_rfl) (by decide +kernel) ?_
      simp (maxDischargeDepth := 9) only [↓gB, gV, gT, reduceIte, reduceCtorEq, Nat.reduceEqDiff, Nat.reduceAdd, Nat.reduceSub, Nat.reduceLeDiff, Nat.reduceLT, Int.reduceEq, Nat.reduceMul, h1, hM1, hm, f15, f6, f14, c1, f13, e1, h3, encK]
      have p1 := mt94.look (kv := Go.Value.agg #[Go.Value.int Go.IntKind.i64 x1.a, Go.Value.int Go.IntKind.i64 x1.b, Go.Value.int Go.IntKind.i64 x1.h]) (G := G'.put r3 (Go.Obj.cells #[Go.Value.int Go.IntKind.i64 x1.a, Go.Value.int Go.IntKind.i64 x1.b, Go.Value.int Go.IntKind.i64 x1.h, Go.Value.int Go.IntKind.i64 x1.k] 44, Bool.true)) ((put_pk (by assumption) (kn_of hm)).trans hm) (_, _, _) rfl
      simp (maxDischargeDepth := 9) only [↓gB, gV, gT, reduceIte, reduceCtorEq, Nat.reduceEqDiff, Nat.reduceAdd, Nat.reduceSub, Nat.reduceLeDiff, Nat.reduceLT, Int.reduceEq, Nat.reduceMul, h1, hM1, hm, f15, f6, f14, c1, f13, e1, h3, p1, encK]
      refine mt94.ment ((put_pk (by assumption) (kn_of hm)).trans hm) (_, _, _) rfl ?_
      simp (maxDischargeDepth := 9) only [↓gB, gV, gT, reduceIte, reduceCtorEq, Nat.reduceEqDiff, Nat.reduceAdd, Nat.reduceSub, Nat.reduceLeDiff, Nat.reduceLT, Int.reduceEq, Nat.reduceMul, h1, hM1, hm, f15, f6, f14, c1, f13, e1, h3, p1, encK]
      refine mt89.ent (put_self _ _ _) _ rfl ?_
      simp (maxDischargeDepth := 9) only [↓gB, gV, gT, reduceIte, reduceCtorEq, Nat.reduceEqDiff, Nat.reduceAdd, Nat.reduceSub, Nat.reduceLeDiff, Nat.reduceLT, Int.reduceEq, Nat.reduceMul, h1, hM1, hm, f15, f6, f14, c1, f13, e1, h3, p1, encK]
      have q1 : Go.IntKind.i64.wrap (↑i + 1) = ↑i + 1 := wrap_id (by omega)
      simp (maxDischargeDepth := 9) only [↓gB, gV, gT, reduceIte, reduceCtorEq, Nat.reduceEqDiff, Nat.reduceAdd, Nat.reduceSub, Nat.reduceLeDiff, Nat.reduceLT, Int.reduceEq, Nat.reduceMul, h1, hM1, hm, f15, f6, f14, c1, f13, e1, h3, p1, q1, encK]
      rw [N_lp]
      refine ⟨_, ?_, _, sub_refl _, i + 1, rfl, ?_, ?_, ?_, ?_, by simp (maxDischargeDepth := 9) only [↓gB, gV, gT, reduceIte, reduceCtorEq, Nat.reduceEqDiff, Nat.reduceAdd, Nat.reduceSub, Nat.reduceLeDiff, Nat.reduceLT, Int.reduceEq, Nat.reduceMul, h1, hM1, hm, f15, f6, f14, c1, f13, e1, h3, p1, q1, encK, nat_succ, and_self]⟩
      · omega
      · omega
      · (rw [sumOf_snoc m1]; exact put_self _ _ _; done)
      · (exact RSl.turn _ ((put_pk h3 (kn_of hm)).trans hm) (hv.put _ h3); done)
      · (simp (maxDischargeDepth := 9) only [le_self, le_puts, le_put0, sub_self, sub_puts, sub_put0, h1, hG1, hle, h3]; done)
  · rw [List.take_of_length_le (by omega)] at hm
    have hsl := sumOf_len (l ++ m)
    simp (maxDischargeDepth := 9) only [↓gB, gV, gT, reduceIte, reduceCtorEq, Nat.reduceEqDiff, Nat.reduceAdd, Nat.reduceSub, Nat.reduceLeDiff, Nat.reduceLT, Int.reduceEq, Nat.reduceMul, h1, hM1, hm, f15, f6, f13, f14, c1]
    refine Ycg (g74 hm hS (by omega)) (refOut_up _) ?_
    rintro u G2 hle2 hu
    have hu' := hu
    unfold refOut at hu'
    have hex : ∃ w e, u = .tuple #[w, V e] := by
      split at hu'
      · exact ⟨_, _, hu'⟩
      · obtain ⟨_, _, _, w, _, h⟩ := hu'; exact ⟨_, _, h⟩
    obtain ⟨w, e, rfl⟩ := hex
    simp (maxDischargeDepth := 9) only [↓gB, gV, gT, reduceIte, reduceCtorEq, Nat.reduceEqDiff, Nat.reduceAdd, Nat.reduceSub, Nat.reduceLeDiff, Nat.reduceLT, Int.reduceEq, Nat.reduceMul, h1, hM1, hm, f15, f6, f13, f14, c1]
    refine Kup_gives (sub_refl _) (hle.trans hle2) hu
end Go.Proofs.Ytgkdbjnmlecimaa
namespace Go.Proofs.Ytgkdbjnmlecimaa
open Go Go.GL
set_option maxRecDepth 10000
set_option maxHeartbeats 0
def addP (x y h n : Int) (l : List (Key × Int)) : List (Key × Int) := if point x y then addK (x, y, h) n l else l
theorem put_same {G : GH} {r : Nat} {o : Obj × Bool} (h : G r = some o) : G.put r o = G := by
  funext c; unfold GH.put; split
  · rename_i e; rw [e, h]
  · rfl
theorem addF {G : GH} {x y h n : Int} {b r : Nat} {e : TypeId} {fr : Nat × Nat} {tb : Bool} {l : List (Key × Int)} (hb : G b = some (.cells [.map (some r)].toArray e fr, tb)) (hm : G r = some (mapO encK V l, true)) :
    GCalls Try.prog 75 [V x, V y, V h, V n, .pointer (some ⟨b, 0, none⟩)].toArray G (fun u G' => u = .tuple #[] ∧ G' = G.put r (mapO encK V (addP x y h n l), true)) := by
  refine enter Try.func75 23 #[] rfl Try.ntmps75 rfl (by decide +kernel) rfl ?_
  simp (maxDischargeDepth := 9) only [↓gB, gV, gT, reduceIte, reduceCtorEq, Nat.reduceEqDiff, Nat.reduceAdd, Nat.reduceSub, Nat.reduceLeDiff, Nat.reduceLT, Int.reduceEq, Nat.reduceMul, hb, hm]
  refine Ycp (p48) ?_
  simp (maxDischargeDepth := 9) only [↓gB, gV, gT, reduceIte, reduceCtorEq, Nat.reduceEqDiff, Nat.reduceAdd, Nat.reduceSub, Nat.reduceLeDiff, Nat.reduceLT, Int.reduceEq, Nat.reduceMul, hb, hm]
  rcases bool_tf (point x y) with c1 | c1
  · simp (maxDischargeDepth := 9) only [↓gB, gV, gT, reduceIte, reduceCtorEq, Nat.reduceEqDiff, Nat.reduceAdd, Nat.reduceSub, Nat.reduceLeDiff, Nat.reduceLT, Int.reduceEq, Nat.reduceMul, hb, hm, c1, encK]
    refine Xdraw_intro [0, 1, 2, 3, 4, 5, 6, 7, 8, 9, 10, 11] mixed (by kernel_rfl) (by decide +kernel) ?_
    simp (maxDischargeDepth := 9) only [↓gB, gV, gT, reduceIte, reduceCtorEq, Nat.reduceEqDiff, Nat.reduceAdd, Nat.reduceSub, Nat.reduceLeDiff, Nat.reduceLT, Int.reduceEq, Nat.reduceMul, hb, hm, c1, encK]
    have p1 := mt89.look (kv := Go.Value.agg #[Go.GL.V x, Go.GL.V y, Go.GL.V h]) (G := G) (by assumption) (_, _, _) rfl
    simp (maxDischargeDepth := 9) only [↓gB, gV, gT, reduceIte, reduceCtorEq, Nat.reduceEqDiff, Nat.reduceAdd, Nat.reduceSub, Nat.reduceLeDiff, Nat.reduceLT, Int.reduceEq, Nat.reduceMul, hb, hm, c1, p1, encK]
    refine mt89.ment (by assumption) (_, _, _) rfl ?_
    simp (maxDischargeDepth := 9) only [↓gB, gV, gT, reduceIte, reduceCtorEq, Nat.reduceEqDiff, Nat.reduceAdd, Nat.reduceSub, Nat.reduceLeDiff, Nat.reduceLT, Int.reduceEq, Nat.reduceMul, hb, hm, c1, p1, encK]
    refine mt89.ent (put_self _ _ _) _ rfl ?_
    simp (maxDischargeDepth := 9) only [↓gB, gV, gT, reduceIte, reduceCtorEq, Nat.reduceEqDiff, Nat.reduceAdd, Nat.reduceSub, Nat.reduceLeDiff, Nat.reduceLT, Int.reduceEq, Nat.reduceMul, hb, hm, c1, p1, encK]
    exact Kup_same ⟨rfl, by simp [addP, c1, addK]⟩
  · simp (maxDischargeDepth := 9) only [↓gB, gV, gT, reduceIte, reduceCtorEq, Nat.reduceEqDiff, Nat.reduceAdd, Nat.reduceSub, Nat.reduceLeDiff, Nat.reduceLT, Int.reduceEq, Nat.reduceMul, hb, hm, c1]
    exact Kup_same ⟨rfl, by simp [addP, c1, put_same hm]⟩
def smo1 (s d : Int) (x : Tly) (m : List (Key × Int)) : List (Key × Int) :=
  addP x.a (IntKind.i64.wrap (x.b + 1)) x.h (IntKind.i64.wrap (d * x.k)) (addP x.a (IntKind.i64.wrap (x.b - 1)) x.h (IntKind.i64.wrap (d * x.k)) (addP (IntKind.i64.wrap (x.a + 1)) x.b x.h (IntKind.i64.wrap (d * x.k)) (addP (IntKind.i64.wrap (x.a - 1)) x.b x.h (IntKind.i64.wrap (d * x.k)) (addP x.a x.b x.h (IntKind.i64.wrap (s * x.k)) m))))
def smoL (s d : Int) (l : List Tly) : List (Key × Int) := l.foldl (fun m x => smo1 s d x m) []
theorem smoL_snoc {s d : Int} {l : List Tly} {i : Nat} {x : Tly} (h : l[i]? = some x) : smoL s d (l.take (i + 1)) = smo1 s d x (smoL s d (l.take i)) := by
  unfold smoL; rw [take_at h, List.foldl_append]; rfl
theorem addP_len (x y h n : Int) (m : List (Key × Int)) : (addP x y h n m).length ≤ m.length + 1 := by
  unfold addP; split
  · exact addK_len _ _ _
  · omega
theorem smoL_len (s d : Int) (l : List Tly) : (smoL s d l).length ≤ 5 * l.length := by
  have : ∀ (l : List Tly) (m : List (Key × Int)), (l.foldl (fun m x => smo1 s d x m) m).length ≤ m.length + 5 * l.length := by
    intro l
    induction l with
    | nil => intro m; simp
    | cons c l ih =>
      intro m
      have h1 := ih (smo1 s d c m)
      have h2 : (smo1 s d c m).length ≤ m.length + 5 := by
        unfold smo1
        have e1 := addP_len c.a c.b c.h (IntKind.i64.wrap (s * c.k)) m
        generalize addP c.a c.b c.h (IntKind.i64.wrap (s * c.k)) m = m1 at *
        have e2 := addP_len (IntKind.i64.wrap (c.a - 1)) c.b c.h (IntKind.i64.wrap (d * c.k)) m1
        generalize addP (IntKind.i64.wrap (c.a - 1)) c.b c.h (IntKind.i64.wrap (d * c.k)) m1 = m2 at *
        have e3 := addP_len (IntKind.i64.wrap (c.a + 1)) c.b c.h (IntKind.i64.wrap (d * c.k)) m2
        generalize addP (IntKind.i64.wrap (c.a + 1)) c.b c.h (IntKind.i64.wrap (d * c.k)) m2 = m3 at *
        have e4 := addP_len c.a (IntKind.i64.wrap (c.b - 1)) c.h (IntKind.i64.wrap (d * c.k)) m3
        generalize addP c.a (IntKind.i64.wrap (c.b - 1)) c.h (IntKind.i64.wrap (d * c.k)) m3 = m4 at *
        have e5 := addP_len c.a (IntKind.i64.wrap (c.b + 1)) c.h (IntKind.i64.wrap (d * c.k)) m4
        omega
      simp only [List.foldl_cons, List.length_cons]; omega
  simpa [smoL] using this l []
def within1000 (s d : Int) : Bool := within s 0 1000 && within d 0 1000
def smoFault (l : List Tly) (s d : Int) : Int := if ¬ checkTallies l = 0 then checkTallies l else bi (within1000 s d)
theorem g39 {G0 : GH} {v : Value} {l : List Tly} {s d : Int} (hv : RSl rTly G0 v l) (hn : (l.length : Int) ≤ 9223372036854775807) (hS : SortSpec 71) : Gives Try.prog G0 39 [v, V s, V d] (fun u G' => if ¬ smoFault l s d = 0 then u = .tuple #[.slice none 0 0, V (smoFault l s d)] else ∃ t : List Tly, t.Perm (talliesP (fun n => decide (0 < n)) (smoL s d l)) ∧ sortedT t ∧ ∃ w, (if (tlyOut (smoL s d l) t) = 0 then RSl rTly G' w t else w = .slice none 0 0) ∧ u = .tuple #[w, V (tlyOut (smoL s d l) t)]) := by
  intro G hG; replace hv := hv.le hG
  clear hG G0
  refine enter Try.func39 99 #[.tmp 6, .tmp 7] rfl Try.ntmps39 rfl (by decide +kernel) rfl ?_
  obtain ⟨a, c, rfl⟩ := hv.val
  by_cases he : checkTallies l = 0
  · rcases bool_tf (within s 0 1000) with c1 | c1
    · rcases bool_tf (within d 0 1000) with c2 | c2
      · have hf : smoFault l s d = 0 := by simp [smoFault, he, within1000, c1, c2, bi]
        have hl1 := (ok_of he).1
        simp only [hf, not_true_eq_false, if_false]
        simp (maxDischargeDepth := 9) only [↓gB, gV, gT, reduceIte, reduceCtorEq, Nat.reduceEqDiff, Nat.reduceAdd, Nat.reduceSub, Nat.reduceLeDiff, Nat.reduceLT, Int.reduceEq, Nat.reduceMul, c1, c2, he]
        refine Ycp (p35 (by assumption) (by assumption)) ?_
        simp (maxDischargeDepth := 9) only [↓gB, gV, gT, reduceIte, reduceCtorEq, Nat.reduceEqDiff, Nat.reduceAdd, Nat.reduceSub, Nat.reduceLeDiff, Nat.reduceLT, Int.reduceEq, Nat.reduceMul, c1, c2, he]
        refine Ycp (p49) ?_
        simp (maxDischargeDepth := 9) only [↓gB, gV, gT, reduceIte, reduceCtorEq, Nat.reduceEqDiff, Nat.reduceAdd, Nat.reduceSub, Nat.reduceLeDiff, Nat.reduceLT, Int.reduceEq, Nat.reduceMul, c1, c2, he]
        refine Ycp (p49) ?_
        simp (maxDischargeDepth := 9) only [↓gB, gV, gT, reduceIte, reduceCtorEq, Nat.reduceEqDiff, Nat.reduceAdd, Nat.reduceSub, Nat.reduceLeDiff, Nat.reduceLT, Int.reduceEq, Nat.reduceMul, c1, c2, he]
        refine Yn1 fun r1 h1 => ?_
        simp (maxDischargeDepth := 9) only [↓gB, gV, gT, reduceIte, reduceCtorEq, Nat.reduceEqDiff, Nat.reduceAdd, Nat.reduceSub, Nat.reduceLeDiff, Nat.reduceLT, Int.reduceEq, Nat.reduceMul, c1, c2, h1, he]
        refine Yn2 fun r2 h2 => ?_
        have n2 := h2
        simp only [put_none_eq, ne_eq] at n2
        simp (maxDischargeDepth := 9) only [↓gB, gV, gT, reduceIte, reduceCtorEq, Nat.reduceEqDiff, Nat.reduceAdd, Nat.reduceSub, Nat.reduceLeDiff, Nat.reduceLT, Int.reduceEq, Nat.reduceMul, c1, c2, h1, h2, n2, he]
        have hne2 : r2 ≠ r1 := n2.1
        focus
          refine Xloop_intro _ _ _ _ _ (fun k f G' => ∃ (i : Nat), k = l.length - i ∧ (i ≤ l.length) ∧ (G' r2 = some (.cells [.map (some r1)].toArray 89, true)) ∧ (G' r1 = some (mapO encK V (smoL s d (l.take i)), true)) ∧ (G.le G') ∧ f 30 = V i ∧ f 1 = Go.GL.V s ∧ f 2 = Go.GL.V d ∧ f 9 = Go.Value.pointer (Option.some { block := r2, off := 0 }) ∧ f 10 = Go.Value.func (Go.Fn.func 75) #[] #[Go.Value.pointer (Option.some { block := r2, off := 0 })] ∧ f 28 = Go.Value.slice a l.length c ∧ f 29 = Go.Value.int Go.IntKind.i64 ↑l.length) _ ⟨0, rfl, ?_, ?_, ?_, ?_, by simp (maxDischargeDepth := 9) only [↓gB, gV, gT, reduceIte, reduceCtorEq, Nat.reduceEqDiff, Nat.reduceAdd, Nat.reduceSub, Nat.reduceLeDiff, Nat.reduceLT, Int.reduceEq, Nat.reduceMul, c1, c2, h1, h2, n2, hne2, List.map_toArray, and_self]⟩ ?_
          · omega
          · exact put_self _ _ _
          · (rw [put_not _ _ (Ne.symm hne2), put_self]; exact congrArg (fun o => some (o, true)) (mapO_nil encK V); done)
          · (simp (maxDischargeDepth := 9) only [le_self, le_puts, le_put0, sub_self, sub_puts, sub_put0, h1, h2, n2]; done)
          rintro k f G' ⟨i, rfl, hi, hb, hm, hle, f30, f1, f2, f9, f10, f28, f29⟩
        simp (maxDischargeDepth := 9) only [↓gB, gV, gT, reduceIte, reduceCtorEq, Nat.reduceEqDiff, Nat.reduceAdd, Nat.reduceSub, Nat.reduceLeDiff, Nat.reduceLT, Int.reduceEq, Nat.reduceMul, c1, c2, h1, h2, n2, hne2, hb, hm, f30, f1, f2, f9, f10, f28, f29]
        refine Xc_split _ _ _ _ _ (fun c3 => ?_) (fun c3 => ?_)
        · simp (maxDischargeDepth := 9) only [↓gB, gV, gT, reduceIte, reduceCtorEq, Nat.reduceEqDiff, Nat.reduceAdd, Nat.reduceSub, Nat.reduceLeDiff, Nat.reduceLT, Int.reduceEq, Nat.reduceMul, c1, c2, h1, h2, n2, hne2, hb, hm, f30, f1, f2, f9, f10, f28, f29, c3]
          obtain ⟨x1, a1, s1, m1, rfl, rfl, e1⟩ := (RSl.le hv hle).at (i) (by omega) 4 rfl
          simp (maxDischargeDepth := 9) only [↓gB, gV, gT, reduceIte, reduceCtorEq, Nat.reduceEqDiff, Nat.reduceAdd, Nat.reduceSub, Nat.reduceLeDiff, Nat.reduceLT, Int.reduceEq, Nat.reduceMul, c1, c2, h1, h2, n2, hne2, hb, hm, f30, f1, f2, f9, f10, f29, c3, f28, e1]
          refine vguard_intro (by simp) ?_
          refine Yn2 fun r3 h3 => ?_
          simp (maxDischargeDepth := 9) only [↓gB, gV, gT, reduceIte, reduceCtorEq, Nat.reduceEqDiff, Nat.reduceAdd, Nat.reduceSub, Nat.reduceLeDiff, Nat.reduceLT, Int.reduceEq, Nat.reduceMul, c1, c2, h1, h2, n2, hne2, hb, hm, f30, f1, f2, f9, f10, f29, c3, f28, e1, h3]
          refine Xdraw_intro [0, 1, 2, 3, 4, 5, 6, 7] mixed (by kernel_rfl) (by decide +kernel) ?_
          simp (maxDischargeDepth := 9) only [↓gB, gV, gT, reduceIte, reduceCtorEq, Nat.reduceEqDiff, Nat.reduceAdd, Nat.reduceSub, Nat.reduceLeDiff, Nat.reduceLT, Int.reduceEq, Nat.reduceMul, c1, c2, h1, h2, n2, hne2, hb, hm, f30, f1, f2, f9, f10, f29, c3, f28, e1, h3]
          have hb2 := (put_pk (o := (.cells [V x1.a, V x1.b, V x1.h, V x1.k].toArray 44 (0, 0), true)) h3 (kn_of hb)).trans hb
          have hm2 := (put_pk (o := (.cells [V x1.a, V x1.b, V x1.h, V x1.k].toArray 44 (0, 0), true)) h3 (kn_of hm)).trans hm
          have hq := put_self G' r3 (.cells [V x1.a, V x1.b, V x1.h, V x1.k].toArray 44 (0, 0), true)
          have hle2 := hle.trans (le_put h3 (.cells [V x1.a, V x1.b, V x1.h, V x1.k].toArray 44 (0, 0), true))
          have hne3 : r3 ≠ r1 := Ne.symm (kn_ne h3 (kn_of hm))
          generalize G'.put r3 (.cells [V x1.a, V x1.b, V x1.h, V x1.k].toArray 44 (0, 0), true) = G2 at *
          skip
          refine Ycall_intro (md := none) (addF hb2 hm2) ?_
          rintro _ _ ⟨rfl, rfl⟩
          simp (maxDischargeDepth := 9) only [↓gB, gV, gT, reduceIte, reduceCtorEq, Nat.reduceEqDiff, Nat.reduceAdd, Nat.reduceSub, Nat.reduceLeDiff, Nat.reduceLT, Int.reduceEq, Nat.reduceMul, c1, c2, h1, h2, n2, hne2, hb, hm, f30, f1, f2, f9, f10, f29, c3, f28, e1, h3, hne3, hb2, hm2, hq]
          refine Ycall_intro (md := none) (addF ((put_not _ _ hne2).trans hb2) (put_self _ _ _)) ?_
          rintro _ _ ⟨rfl, rfl⟩
          simp (maxDischargeDepth := 9) only [↓gB, gV, gT, reduceIte, reduceCtorEq, Nat.reduceEqDiff, Nat.reduceAdd, Nat.reduceSub, Nat.reduceLeDiff, Nat.reduceLT, Int.reduceEq, Nat.reduceMul, c1, c2, h1, h2, n2, hne2, hb, hm, f30, f1, f2, f9, f10, f29, c3, f28, e1, h3, hne3, hb2, hm2, hq]
          refine Ycall_intro (md := none) (addF ((put_not _ _ hne2).trans hb2) (put_self _ _ _)) ?_
          rintro _ _ ⟨rfl, rfl⟩
          simp (maxDischargeDepth := 9) only [↓gB, gV, gT, reduceIte, reduceCtorEq, Nat.reduceEqDiff, Nat.reduceAdd, Nat.reduceSub, Nat.reduceLeDiff, Nat.reduceLT, Int.reduceEq, Nat.reduceMul, c1, c2, h1, h2, n2, hne2, hb, hm, f30, f1, f2, f9, f10, f29, c3, f28, e1, h3, hne3, hb2, hm2, hq]
          refine Ycall_intro (md := none) (addF ((put_not _ _ hne2).trans hb2) (put_self _ _ _)) ?_
          rintro _ _ ⟨rfl, rfl⟩
          simp (maxDischargeDepth := 9) only [↓gB, gV, gT, reduceIte, reduceCtorEq, Nat.reduceEqDiff, Nat.reduceAdd, Nat.reduceSub, Nat.reduceLeDiff, Nat.reduceLT, Int.reduceEq, Nat.reduceMul, c1, c2, h1, h2, n2, hne2, hb, hm, f30, f1, f2, f9, f10, f29, c3, f28, e1, h3, hne3, hb2, hm2, hq]
          refine Ycall_intro (md := none) (addF ((put_not _ _ hne2).trans hb2) (put_self _ _ _)) ?_
          rintro _ _ ⟨rfl, rfl⟩
          focus
            simp (maxDischargeDepth := 9) only [↓gB, gV, gT, reduceIte, reduceCtorEq, Nat.reduceEqDiff, Nat.reduceAdd, Nat.reduceSub, Nat.reduceLeDiff, Nat.reduceLT, Int.reduceEq, Nat.reduceMul, c1, c2, h1, h2, n2, hne2, hb, hm, f30, f1, f2, f9, f10, f29, c3, f28, e1, h3, hne3, hb2, hm2, hq]
            have q1 : Go.IntKind.i64.wrap (↑i + 1) = ↑i + 1 := wrap_id (by omega)
            simp (maxDischargeDepth := 9) only [↓gB, gV, gT, reduceIte, reduceCtorEq, Nat.reduceEqDiff, Nat.reduceAdd, Nat.reduceSub, Nat.reduceLeDiff, Nat.reduceLT, Int.reduceEq, Nat.reduceMul, c1, c2, h1, h2, n2, hne2, hb, hm, f30, f1, f2, f9, f10, f29, c3, f28, e1, h3, hne3, hb2, hm2, hq, q1]
            rw [N_lp]
            refine ⟨_, ?_, _, sub_refl _, i + 1, rfl, ?_, ?_, ?_, ?_, by simp (maxDischargeDepth := 9) only [↓gB, gV, gT, reduceIte, reduceCtorEq, Nat.reduceEqDiff, Nat.reduceAdd, Nat.reduceSub, Nat.reduceLeDiff, Nat.reduceLT, Int.reduceEq, Nat.reduceMul, c1, c2, h1, h2, n2, hne2, hb, hm, f30, f1, f2, f9, f10, f29, c3, f28, e1, h3, hne3, hb2, hm2, hq, q1, nat_succ, and_self]⟩
            · omega
            · omega
            · (exact (put_not _ _ hne2).trans hb2; done)
            · (rw [smoL_snoc m1]; exact put_self _ _ _; done)
            · (simp (maxDischargeDepth := 9) only [le_self, le_puts, le_put0, sub_self, sub_puts, sub_put0, h1, h2, n2, hle, h3, hle2]; done)
        · rw [List.take_of_length_le (by omega)] at hm
          have hsl := smoL_len s d l
          simp (maxDischargeDepth := 9) only [↓gB, gV, gT, reduceIte, reduceCtorEq, Nat.reduceEqDiff, Nat.reduceAdd, Nat.reduceSub, Nat.reduceLeDiff, Nat.reduceLT, Int.reduceEq, Nat.reduceMul, c1, c2, h1, h2, n2, hne2, hb, hm, f30, f1, f2, f9, f10, f28, f29, c3]
          refine Ycg (g73 hm hS (by omega)) (fun _ _ _ h ⟨t, h1, h2, w, h3, h4⟩ => ⟨t, h1, h2, w, ite_up h3 (fun q => q.le h), h4⟩) ?_
          rintro u G2 hle2 ⟨t, h1, h2, w, h3, rfl⟩
          simp (maxDischargeDepth := 9) only [↓gB, gV, gT, reduceIte, reduceCtorEq, Nat.reduceEqDiff, Nat.reduceAdd, Nat.reduceSub, Nat.reduceLeDiff, Nat.reduceLT, Int.reduceEq, Nat.reduceMul, c1, c2, h1, h2, n2, hne2, hb, hm, f30, f1, f2, f9, f10, f28, f29, c3]
          refine Kup_gives (sub_refl _) (hle.trans hle2) ?_
          exact ⟨t, h1, h2, w, h3, rfl⟩
      · have hf : smoFault l s d = 1 := by simp [smoFault, he, within1000, c1, c2, bi]
        simp (maxDischargeDepth := 9) only [↓gB, gV, gT, reduceIte, reduceCtorEq, Nat.reduceEqDiff, Nat.reduceAdd, Nat.reduceSub, Nat.reduceLeDiff, Nat.reduceLT, Int.reduceEq, Nat.reduceMul, c1, c2, he, hf]
        refine Ycp (p35 (by assumption) (by assumption)) ?_
        simp (maxDischargeDepth := 9) only [↓gB, gV, gT, reduceIte, reduceCtorEq, Nat.reduceEqDiff, Nat.reduceAdd, Nat.reduceSub, Nat.reduceLeDiff, Nat.reduceLT, Int.reduceEq, Nat.reduceMul, c1, c2, he, hf]
        refine Ycp (p49) ?_
        simp (maxDischargeDepth := 9) only [↓gB, gV, gT, reduceIte, reduceCtorEq, Nat.reduceEqDiff, Nat.reduceAdd, Nat.reduceSub, Nat.reduceLeDiff, Nat.reduceLT, Int.reduceEq, Nat.reduceMul, c1, c2, he, hf]
        refine Ycp (p49) ?_
        simp (maxDischargeDepth := 9) only [↓gB, gV, gT, reduceIte, reduceCtorEq, Nat.reduceEqDiff, Nat.reduceAdd, Nat.reduceSub, Nat.reduceLeDiff, Nat.reduceLT, Int.reduceEq, Nat.reduceMul, c1, c2, he, hf]
        exact Kup_val (le_refl _) rfl
    · have hf : smoFault l s d = 1 := by simp [smoFault, he, within1000, c1, bi]
      simp (maxDischargeDepth := 9) only [↓gB, gV, gT, reduceIte, reduceCtorEq, Nat.reduceEqDiff, Nat.reduceAdd, Nat.reduceSub, Nat.reduceLeDiff, Nat.reduceLT, Int.reduceEq, Nat.reduceMul, c1, he, hf]
      refine Ycp (p35 (by assumption) (by assumption)) ?_
      simp (maxDischargeDepth := 9) only [↓gB, gV, gT, reduceIte, reduceCtorEq, Nat.reduceEqDiff, Nat.reduceAdd, Nat.reduceSub, Nat.reduceLeDiff, Nat.reduceLT, Int.reduceEq, Nat.reduceMul, c1, he, hf]
      refine Ycp (p49) ?_
      simp (maxDischargeDepth := 9) only [↓gB, gV, gT, reduceIte, reduceCtorEq, Nat.reduceEqDiff, Nat.reduceAdd, Nat.reduceSub, Nat.reduceLeDiff, Nat.reduceLT, Int.reduceEq, Nat.reduceMul, c1, he, hf]
      exact Kup_val (le_refl _) rfl
  · have hf : smoFault l s d = checkTallies l := by simp [smoFault, he]
    have hf0 : ¬ smoFault l s d = 0 := by rw [hf]; exact he
    simp only [hf, he, not_false_eq_true, if_true]
    simp (maxDischargeDepth := 9) only [↓gB, gV, gT, reduceIte, reduceCtorEq, Nat.reduceEqDiff, Nat.reduceAdd, Nat.reduceSub, Nat.reduceLeDiff, Nat.reduceLT, Int.reduceEq, Nat.reduceMul, he]
    refine Ycp (p35 (by assumption) (by assumption)) ?_
    simp (maxDischargeDepth := 9) only [↓gB, gV, gT, reduceIte, reduceCtorEq, Nat.reduceEqDiff, Nat.reduceAdd, Nat.reduceSub, Nat.reduceLeDiff, Nat.reduceLT, Int.reduceEq, Nat.reduceMul, he]
    exact Kup_val (le_refl _) rfl
end Go.Proofs.Ytgkdbjnmlecimaa
namespace Go.Proofs.Ytgkdbjnmlecimaa
open Go Go.GL
set_option maxRecDepth 10000
set_option maxHeartbeats 0
theorem fill3 (cells : Array Value) (i : Nat) (a b c : Value) (rest : List (Nat × Value)) (h : i * 3 + 3 ≤ cells.size) :
    Instr.fill (fun i => some (i * 3, 3)) cells ((i, .agg #[a, b, c]) :: rest) = Instr.fill (fun i => some (i * 3, 3)) (((cells.setIfInBounds (i * 3 + 0) a).setIfInBounds (i * 3 + 1) b).setIfInBounds (i * 3 + 2) c) rest := by
  have hd : ¬ (i * 3 + 3 > cells.size) := by omega
  simp [Instr.fill, agg_cells, hd, h]
theorem base120 : (Array.range (5 * 3)).map ((if 5 * 3 = 0 then #[] else (Value.agg #[.int .i64 0, .int .i64 0, .int .i64 0]).cells)[· % (if 5 * 3 = 0 then #[] else (Value.agg #[.int .i64 0, .int .i64 0, .int .i64 0]).cells).size]!) = [.int .i64 0, .int .i64 0, .int .i64 0, .int .i64 0, .int .i64 0, .int .i64 0, .int .i64 0, .int .i64 0, .int .i64 0, .int .i64 0, .int .i64 0, .int .i64 0, .int .i64 0, .int .i64 0, .int .i64 0].toArray := by kernel_rfl
theorem fill120 (x0 x1 x2 x3 x4 x5 x6 x7 x8 x9 x10 x11 x12 x13 x14 : Value) (c0 : Array Value) (hc : c0 = [.int .i64 0, .int .i64 0, .int .i64 0, .int .i64 0, .int .i64 0, .int .i64 0, .int .i64 0, .int .i64 0, .int .i64 0, .int .i64 0, .int .i64 0, .int .i64 0, .int .i64 0, .int .i64 0, .int .i64 0].toArray) : Instr.fill (fun i => some (i * 3, 3)) c0 [(0, .agg #[x0, x1, x2]), (1, .agg #[x3, x4, x5]), (2, .agg #[x6, x7, x8]), (3, .agg #[x9, x10, x11]), (4, .agg #[x12, x13, x14])] = some [x0, x1, x2, x3, x4, x5, x6, x7, x8, x9, x10, x11, x12, x13, x14].toArray := by
  rw [fill3 _ _ _ _ _ _ (by subst hc; decide)]
  rw [fill3 _ _ _ _ _ _ (by subst hc; simp)]
  rw [fill3 _ _ _ _ _ _ (by subst hc; simp)]
  rw [fill3 _ _ _ _ _ _ (by subst hc; simp)]
  rw [fill3 _ _ _ _ _ _ (by subst hc; simp)]
  subst hc
  kernel_rfl
theorem bs120_5 (x0 x1 x2 x3 x4 x5 x6 x7 x8 x9 x10 x11 x12 x13 x14 : Value) : bsCells Try.prog 120 5 [(0, .agg #[x0, x1, x2]), (1, .agg #[x3, x4, x5]), (2, .agg #[x6, x7, x8]), (3, .agg #[x9, x10, x11]), (4, .agg #[x12, x13, x14])] = some ([x0, x1, x2, x3, x4, x5, x6, x7, x8, x9, x10, x11, x12, x13, x14], 119) := by
  have h := bsCells_eq (ps := [(0, .agg #[x0, x1, x2]), (1, .agg #[x3, x4, x5]), (2, .agg #[x6, x7, x8]), (3, .agg #[x9, x10, x11]), (4, .agg #[x12, x13, x14])]) (show tyD Try.prog 120 = _ from Try.underlying120) sz119 (by decide) (by decide : 5 * 3 ≤ 2 ^ 24) zv119 (fill120 x0 x1 x2 x3 x4 x5 x6 x7 x8 x9 x10 x11 x12 x13 x14 _ base120)
  exact h
end Go.Proofs.Ytgkdbjnmlecimaa
namespace Go.Proofs.Ytgkdbjnmlecimaa
open Go Go.GL
set_option maxRecDepth 10000
set_option maxHeartbeats 0
def ref1 (x : Tly) (p : Int × Int × Int) (m : List (Key × Int)) : List (Key × Int) :=
  if point (IntKind.i64.wrap (x.a + p.1)) (IntKind.i64.wrap (x.b + p.2.1)) then addK (IntKind.i64.wrap (x.a + p.1), IntKind.i64.wrap (x.b + p.2.1), x.h) (IntKind.i64.wrap (x.k * p.2.2)) m else m
def stn (s d : Int) : List (Int × Int × Int) := [(0, 0, s), (1, 0, d), (-1, 0, d), (0, 1, d), (0, -1, d)]
def refs (s d : Int) (x : Tly) (n : Nat) (m : List (Key × Int)) : List (Key × Int) := ((stn s d).take n).foldl (fun m p => ref1 x p m) m
def refL (s d : Int) (l : List Tly) : List (Key × Int) := l.foldl (fun m x => refs s d x 5 m) []
theorem refL_snoc {s d : Int} {l : List Tly} {i : Nat} {x : Tly} (h : l[i]? = some x) : refL s d (l.take (i + 1)) = refs s d x 5 (refL s d (l.take i)) := by
  unfold refL; rw [take_at h, List.foldl_append]; rfl
theorem ref1_len (x : Tly) (p : Int × Int × Int) (m : List (Key × Int)) : (ref1 x p m).length ≤ m.length + 1 := by
  unfold ref1; split
  · exact addK_len _ _ _
  · omega
theorem refs_len (s d : Int) (x : Tly) (m : List (Key × Int)) : (refs s d x 5 m).length ≤ m.length + 5 := by
  have : ∀ (ps : List (Int × Int × Int)) (m : List (Key × Int)), (ps.foldl (fun m p => ref1 x p m) m).length ≤ m.length + ps.length := by
    intro ps
    induction ps with
    | nil => intro m; simp
    | cons c l ih =>
      intro m
      have h1 := ih (ref1 x c m)
      have h2 := ref1_len x c m
      simp only [List.foldl_cons, List.length_cons]; omega
  exact this (stn s d) m
theorem refL_len (s d : Int) (l : List Tly) : (refL s d l).length ≤ 5 * l.length := by
  have : ∀ (l : List Tly) (m : List (Key × Int)), (l.foldl (fun m x => refs s d x 5 m) m).length ≤ m.length + 5 * l.length := by
    intro l
    induction l with
    | nil => intro m; simp
    | cons c l ih =>
      intro m
      have h1 := ih (refs s d c 5 m)
      have h2 := refs_len s d c m
      simp only [List.foldl_cons, List.length_cons]; omega
  simpa [refL] using this l []
theorem refs_at {s d : Int} {x : Tly} {n : Nat} {m : List (Key × Int)} {p : Int × Int × Int} (h : (stn s d)[n]? = some p) : refs s d x (n + 1) m = ref1 x p (refs s d x n m) := by
  unfold refs; rw [take_at h, List.foldl_append]; rfl
theorem pk2 {G : GH} {a r s : Nat} {o A B : Obj × Bool} (hr : G r = none) (hs : (G.put r A) s = none) (h : G a = some o) : ((G.put r A).put s B) a = some o :=
  have e := (put_pk (o := A) hr (kn_of h)).trans h
  (put_pk hs (kn_of e)).trans e
theorem g40 {G0 : GH} {v : Value} {l : List Tly} {s d : Int} (hv : RSl rTly G0 v l) (hn : l.length ≤ 200000) (hS : SortSpec 83) : Gives Try.prog G0 40 [v, V s, V d] (fun u G' => refOut (refL s d l) G' u) := by
  intro G hG; replace hv := hv.le hG
  clear hG G0
  refine enter Try.func40 76 #[.tmp 6, .tmp 7] rfl Try.ntmps40 rfl (by decide +kernel) rfl ?_
  obtain ⟨a, c, rfl⟩ := hv.val
  simp (maxDischargeDepth := 9) only [↓gB, gV, gT, reduceIte, reduceCtorEq, Nat.reduceEqDiff, Nat.reduceAdd, Nat.reduceSub, Nat.reduceLeDiff, Nat.reduceLT, Int.reduceEq, Nat.reduceMul]
  refine Yn1 fun r1 h1 => ?_
  simp (maxDischargeDepth := 9) only [↓gB, gV, gT, reduceIte, reduceCtorEq, Nat.reduceEqDiff, Nat.reduceAdd, Nat.reduceSub, Nat.reduceLeDiff, Nat.reduceLT, Int.reduceEq, Nat.reduceMul, h1]
  focus
    refine Xloop_intro _ _ _ _ _ (fun k f G' => ∃ (i : Nat), k = l.length - i ∧ (i ≤ l.length) ∧ (G' r1 = some (mapO encK V (refL s d (l.take i)), true)) ∧ (G.le G') ∧ f 17 = V i ∧ f 1 = Go.GL.V s ∧ f 2 = Go.GL.V d ∧ f 8 = Go.Value.map (Option.some r1) ∧ f 15 = Go.Value.slice a l.length c ∧ f 16 = Go.Value.int Go.IntKind.i64 ↑l.length) _ ⟨0, rfl, ?_, ?_, ?_, by simp (maxDischargeDepth := 9) only [↓gB, gV, gT, reduceIte, reduceCtorEq, Nat.reduceEqDiff, Nat.reduceAdd, Nat.reduceSub, Nat.reduceLeDiff, Nat.reduceLT, Int.reduceEq, Nat.reduceMul, h1, List.map_toArray, and_self]⟩ ?_
    · omega
    · exact put_self _ _ _
    · (simp (maxDischargeDepth := 9) only [le_self, le_puts, le_put0, sub_self, sub_puts, sub_put0, h1]; done)
    rintro k f G' ⟨i, rfl, hi, hm, hle, f17, f1, f2, f8, f15, f16⟩
  simp (maxDischargeDepth := 9) only [↓gB, gV, gT, reduceIte, reduceCtorEq, Nat.reduceEqDiff, Nat.reduceAdd, Nat.reduceSub, Nat.reduceLeDiff, Nat.reduceLT, Int.reduceEq, Nat.reduceMul, h1, hm, f17, f1, f2, f8, f15, f16]
  refine Xc_split _ _ _ _ _ (fun c3 => ?_) (fun c3 => ?_)
  · simp (maxDischargeDepth := 9) only [↓gB, gV, gT, reduceIte, reduceCtorEq, Nat.reduceEqDiff, Nat.reduceAdd, Nat.reduceSub, Nat.reduceLeDiff, Nat.reduceLT, Int.reduceEq, Nat.reduceMul, h1, hm, f17, f1, f2, f8, f15, f16, c3, bs120_5]
    obtain ⟨x1, a1, s1, m1, rfl, rfl, e1⟩ := (RSl.le hv hle).at (i) (by omega) 4 rfl
    simp (maxDischargeDepth := 9) only [↓gB, gV, gT, reduceIte, reduceCtorEq, Nat.reduceEqDiff, Nat.reduceAdd, Nat.reduceSub, Nat.reduceLeDiff, Nat.reduceLT, Int.reduceEq, Nat.reduceMul, h1, hm, f17, f1, f2, f8, f16, c3, f15, e1, bs120_5]
    refine vguard_intro (by simp) ?_
    refine Yn2 fun r2 h2 => ?_
    simp (maxDischargeDepth := 9) only [↓gB, gV, gT, reduceIte, reduceCtorEq, Nat.reduceEqDiff, Nat.reduceAdd, Nat.reduceSub, Nat.reduceLeDiff, Nat.reduceLT, Int.reduceEq, Nat.reduceMul, h1, hm, f17, f1, f2, f8, f16, c3, f15, e1, h2, bs120_5]
    refine Yn1 fun r3 h3 => ?_
    have n3 := h3
    simp only [put_none_eq, ne_eq] at n3
    simp (maxDischargeDepth := 9) only [↓gB, gV, gT, reduceIte, reduceCtorEq, Nat.reduceEqDiff, Nat.reduceAdd, Nat.reduceSub, Nat.reduceLeDiff, Nat.reduceLT, Int.reduceEq, Nat.reduceMul, h1, hm, f17, f1, f2, f8, f16, c3, f15, e1, h2, h3, n3, bs120_5]
    have hne2 : r2 ≠ r1 := Ne.symm (kn_ne h2 (kn_of hm))
    have hne3 : r3 ≠ r1 := Ne.symm (kn_ne n3.2 (kn_of hm))
    have hm2 := (put_pk (o := (.cells [V 0, V 0, V s, V 1, V 0, V d, V (-1), V 0, V d, V 0, V 1, V d, V 0, V (-1), V d].toArray 119 (0, 0), true)) h3 (kn_of ((put_pk (o := (.cells [V x1.a, V x1.b, V x1.h, V x1.k].toArray 44 (0, 0), true)) h2 (kn_of hm)).trans hm))).trans ((put_pk (o := (.cells [V x1.a, V x1.b, V x1.h, V x1.k].toArray 44 (0, 0), true)) h2 (kn_of hm)).trans hm)
    have ht2 := (put_pk (o := (.cells [V 0, V 0, V s, V 1, V 0, V d, V (-1), V 0, V d, V 0, V 1, V d, V 0, V (-1), V d].toArray 119 (0, 0), true)) h3 (kn_of (put_self G' r2 (.cells [V x1.a, V x1.b, V x1.h, V x1.k].toArray 44 (0, 0), true)))).trans (put_self G' r2 (.cells [V x1.a, V x1.b, V x1.h, V x1.k].toArray 44 (0, 0), true))
    have hs2 := put_self (G'.put r2 (.cells [V x1.a, V x1.b, V x1.h, V x1.k].toArray 44 (0, 0), true)) r3 (.cells [V 0, V 0, V s, V 1, V 0, V d, V (-1), V 0, V d, V 0, V 1, V d, V 0, V (-1), V d].toArray 119 (0, 0), true)
    have hle2 := (hle.trans (le_put h2 (.cells [V x1.a, V x1.b, V x1.h, V x1.k].toArray 44 (0, 0), true))).trans (le_put h3 (.cells [V 0, V 0, V s, V 1, V 0, V d, V (-1), V 0, V d, V 0, V 1, V d, V 0, V (-1), V d].toArray 119 (0, 0), true))
    generalize ((G'.put r2 (.cells [V x1.a, V x1.b, V x1.h, V x1.k].toArray 44 (0, 0), true)).put r3 (.cells [V 0, V 0, V s, V 1, V 0, V d, V (-1), V 0, V d, V 0, V 1, V d, V 0, V (-1), V d].toArray 119 (0, 0), true)) = G2 at *
    focus
      refine Xloop_intro _ _ _ _ _ (fun k f G' => ∃ (j : Int) (n : Nat), k = (5 - j).toNat ∧ (j = 0 ∧ n = 0 ∨ j = 1 ∧ n = 1 ∨ j = 2 ∧ n = 2 ∨ j = 3 ∧ n = 3 ∨ j = 4 ∧ n = 4 ∨ j = 5 ∧ n = 5) ∧ (G' r1 = some (mapO encK V (refs s d x1 n (refL s d (l.take i))), true)) ∧ (G' r2 = some (.cells [V x1.a, V x1.b, V x1.h, V x1.k].toArray 44 (0, 0), true)) ∧ (G' r3 = some (.cells [V 0, V 0, V s, V 1, V 0, V d, V (-1), V 0, V d, V 0, V 1, V d, V 0, V (-1), V d].toArray 119 (0, 0), true)) ∧ (G.le G') ∧ f 33 = V j ∧ f 1 = Go.GL.V s ∧ f 2 = Go.GL.V d ∧ f 8 = Go.Value.map (Option.some r1) ∧ f 10 = Go.Value.pointer (Option.some { block := r2, off := 0 }) ∧ f 15 = Go.Value.slice (Option.some a1) l.length c ∧ f 16 = Go.Value.int Go.IntKind.i64 ↑l.length ∧ f 17 = Go.GL.V ↑i ∧ f 31 = Go.Value.slice (Option.some { block := r3, off := 0 }) 5 5 ∧ f 32 = Go.Value.int Go.IntKind.i64 5) _ ⟨0, 0, rfl, ?_, ?_, ?_, ?_, ?_, by simp (maxDischargeDepth := 9) only [↓gB, gV, gT, reduceIte, reduceCtorEq, Nat.reduceEqDiff, Nat.reduceAdd, Nat.reduceSub, Nat.reduceLeDiff, Nat.reduceLT, Int.reduceEq, Nat.reduceMul, h1, hm, f17, f1, f2, f8, f16, c3, f15, e1, h2, h3, n3, hne2, hne3, hm2, ht2, hs2, Int.cast_ofNat_Int, Int.reduceToNat, Int.zero_add, Int.reduceAdd, and_self]⟩ ?_
      · omega
      · assumption
      · assumption
      · assumption
      · assumption
      rintro k f G' ⟨j, n, rfl, hj, hm2, ht2, hs2, hle2, f33, f1, f2, f8, f10, f15, f16, f17, f31, f32⟩
    have k1 := kn_of hm2
    have k2 := kn_of ht2
    have k3 := kn_of hs2
    rcases hj with ⟨rfl, rfl⟩ | ⟨rfl, rfl⟩ | ⟨rfl, rfl⟩ | ⟨rfl, rfl⟩ | ⟨rfl, rfl⟩ | ⟨rfl, rfl⟩
    · simp (maxDischargeDepth := 9) only [↓gB, gV, gT, reduceIte, reduceCtorEq, Nat.reduceEqDiff, Nat.reduceAdd, Nat.reduceSub, Nat.reduceLeDiff, Nat.reduceLT, Int.reduceEq, Nat.reduceMul, h1, hm, f17, f1, f2, f8, f16, c3, f15, e1, h2, h3, n3, hne2, hne3, hm2, ht2, hs2, ht2, hs2, f1, f2, f8, f10, f15, f16, f17, f31, f32, k1, k2, k3, f33, hm2, Int.cast_ofNat_Int, Int.reduceToNat, Int.zero_add, Int.reduceAdd, Nat.reduceAdd]
      refine Xc_pos _ _ _ _ _ (by omega) ?_
      simp (maxDischargeDepth := 9) only [↓gB, gV, gT, reduceIte, reduceCtorEq, Nat.reduceEqDiff, Nat.reduceAdd, Nat.reduceSub, Nat.reduceLeDiff, Nat.reduceLT, Int.reduceEq, Nat.reduceMul, h1, hm, f17, f1, f2, f8, f16, c3, f15, e1, h2, h3, n3, hne2, hne3, hm2, ht2, hs2, ht2, hs2, f1, f2, f8, f10, f15, f16, f17, f31, f32, k1, k2, k3, f33, hm2, Int.cast_ofNat_Int, Int.reduceToNat, Int.zero_add, Int.reduceAdd, Nat.reduceAdd]
      refine vguard_intro (by omega) ?_
      refine Yn2 fun r4 h4 => ?_
      simp (maxDischargeDepth := 9) only [↓gB, gV, gT, reduceIte, reduceCtorEq, Nat.reduceEqDiff, Nat.reduceAdd, Nat.reduceSub, Nat.reduceLeDiff, Nat.reduceLT, Int.reduceEq, Nat.reduceMul, h1, hm, f17, f1, f2, f8, f16, c3, f15, e1, h2, h3, n3, hne2, hne3, hm2, ht2, hs2, ht2, hs2, f1, f2, f8, f10, f15, f16, f17, f31, f32, k1, k2, k3, f33, hm2, h4, Int.cast_ofNat_Int, Int.reduceToNat, Int.zero_add, Int.reduceAdd, Nat.reduceAdd]
      refine Yn2 fun r5 h5 => ?_
      have n5 := h5
      simp only [put_none_eq, ne_eq] at n5
      simp (maxDischargeDepth := 9) only [↓gB, gV, gT, reduceIte, reduceCtorEq, Nat.reduceEqDiff, Nat.reduceAdd, Nat.reduceSub, Nat.reduceLeDiff, Nat.reduceLT, Int.reduceEq, Nat.reduceMul, h1, hm, f17, f1, f2, f8, f16, c3, f15, e1, h2, h3, n3, hne2, hne3, hm2, ht2, hs2, ht2, hs2, f1, f2, f8, f10, f15, f16, f17, f31, f32, k1, k2, k3, f33, hm2, h4, h5, n5, Int.cast_ofNat_Int, Int.reduceToNat, Int.zero_add, Int.reduceAdd, Nat.reduceAdd]
      refine Ycp (p8) ?_
      simp (maxDischargeDepth := 9) only [↓gB, gV, gT, reduceIte, reduceCtorEq, Nat.reduceEqDiff, Nat.reduceAdd, Nat.reduceSub, Nat.reduceLeDiff, Nat.reduceLT, Int.reduceEq, Nat.reduceMul, h1, hm, f17, f1, f2, f8, f16, c3, f15, e1, h2, h3, n3, hne2, hne3, hm2, ht2, hs2, ht2, hs2, f1, f2, f8, f10, f15, f16, f17, f31, f32, k1, k2, k3, f33, hm2, h4, h5, n5, Int.cast_ofNat_Int, Int.reduceToNat, Int.zero_add, Int.reduceAdd, Nat.reduceAdd]
      rcases bool_tf (point (IntKind.i64.wrap (x1.a + 0)) (IntKind.i64.wrap (x1.b + 0))) with c4 | c4
      · focus
          simp (maxDischargeDepth := 9) only [↓gB, gV, gT, reduceIte, reduceCtorEq, Nat.reduceEqDiff, Nat.reduceAdd, Nat.reduceSub, Nat.reduceLeDiff, Nat.reduceLT, Int.reduceEq, Nat.reduceMul, h1, hm, f17, f1, f2, f8, f16, c3, f15, e1, h2, h3, n3, hne2, hne3, hm2, ht2, hs2, ht2, hs2, f1, f2, f8, f10, f15, f16, f17, f31, f32, k1, k2, k3, f33, hm2, h4, h5, n5, c4, Int.cast_ofNat_Int, Int.reduceToNat, Int.zero_add, Int.reduceAdd, Nat.reduceAdd, bi, encK]
          refine Xdraw_intro [0, 1, 2, 3, 4, 5, 6, 7, 8, 9, 10, 11, 12, 13, 14] mixed (by kernel_rfl) (by decide +kernel) ?_
          simp (maxDischargeDepth := 9) only [↓gB, gV, gT, reduceIte, reduceCtorEq, Nat.reduceEqDiff, Nat.reduceAdd, Nat.reduceSub, Nat.reduceLeDiff, Nat.reduceLT, Int.reduceEq, Nat.reduceMul, h1, hm, f17, f1, f2, f8, f16, c3, f15, e1, h2, h3, n3, hne2, hne3, hm2, ht2, hs2, ht2, hs2, f1, f2, f8, f10, f15, f16, f17, f31, f32, k1, k2, k3, f33, hm2, h4, h5, n5, c4, Int.cast_ofNat_Int, Int.reduceToNat, Int.zero_add, Int.reduceAdd, Nat.reduceAdd, bi, encK]
          have p1 := mt94.look (kv := Go.Value.agg #[Go.Value.int Go.IntKind.i64 (Go.IntKind.i64.wrap (x1.a + 0)), Go.Value.int Go.IntKind.i64 (Go.IntKind.i64.wrap (x1.b + 0)), Go.GL.V x1.h]) (G := (G'.put r4 (Go.Obj.cells #[Go.GL.V 0, Go.GL.V 0, Go.GL.V s] 119, Bool.true)).put r5 (Go.Obj.cells #[Go.Value.int Go.IntKind.i64 (Go.IntKind.i64.wrap (x1.a + 0)), Go.Value.int Go.IntKind.i64 (Go.IntKind.i64.wrap (x1.b + 0))] 24, Bool.true)) ((put_pk (by assumption) (kn_put _ _ _ _ (kn_of hm2))).trans ((put_pk (by assumption) (kn_of hm2)).trans hm2)) (_, _, _) rfl
          simp (maxDischargeDepth := 9) only [↓gB, gV, gT, reduceIte, reduceCtorEq, Nat.reduceEqDiff, Nat.reduceAdd, Nat.reduceSub, Nat.reduceLeDiff, Nat.reduceLT, Int.reduceEq, Nat.reduceMul, h1, hm, f17, f1, f2, f8, f16, c3, f15, e1, h2, h3, n3, hne2, hne3, hm2, ht2, hs2, ht2, hs2, f1, f2, f8, f10, f15, f16, f17, f31, f32, k1, k2, k3, f33, hm2, h4, h5, n5, c4, p1, Int.cast_ofNat_Int, Int.reduceToNat, Int.zero_add, Int.reduceAdd, Nat.reduceAdd, bi, encK]
          refine mt94.ment ((put_pk (by assumption) (kn_put _ _ _ _ (kn_of hm2))).trans ((put_pk (by assumption) (kn_of hm2)).trans hm2)) (_, _, _) rfl ?_
          simp (maxDischargeDepth := 9) only [↓gB, gV, gT, reduceIte, reduceCtorEq, Nat.reduceEqDiff, Nat.reduceAdd, Nat.reduceSub, Nat.reduceLeDiff, Nat.reduceLT, Int.reduceEq, Nat.reduceMul, h1, hm, f17, f1, f2, f8, f16, c3, f15, e1, h2, h3, n3, hne2, hne3, hm2, ht2, hs2, ht2, hs2, f1, f2, f8, f10, f15, f16, f17, f31, f32, k1, k2, k3, f33, hm2, h4, h5, n5, c4, p1, Int.cast_ofNat_Int, Int.reduceToNat, Int.zero_add, Int.reduceAdd, Nat.reduceAdd, bi, encK]
          refine mt89.ent (put_self _ _ _) _ rfl ?_
          simp (maxDischargeDepth := 9) only [↓gB, gV, gT, reduceIte, reduceCtorEq, Nat.reduceEqDiff, Nat.reduceAdd, Nat.reduceSub, Nat.reduceLeDiff, Nat.reduceLT, Int.reduceEq, Nat.reduceMul, h1, hm, f17, f1, f2, f8, f16, c3, f15, e1, h2, h3, n3, hne2, hne3, hm2, ht2, hs2, ht2, hs2, f1, f2, f8, f10, f15, f16, f17, f31, f32, k1, k2, k3, f33, hm2, h4, h5, n5, c4, p1, Int.cast_ofNat_Int, Int.reduceToNat, Int.zero_add, Int.reduceAdd, Nat.reduceAdd, bi, encK]
          have q1 : Go.IntKind.i64.wrap (1) = 1 := wrap_id (by omega)
          simp (maxDischargeDepth := 9) only [↓gB, gV, gT, reduceIte, reduceCtorEq, Nat.reduceEqDiff, Nat.reduceAdd, Nat.reduceSub, Nat.reduceLeDiff, Nat.reduceLT, Int.reduceEq, Nat.reduceMul, h1, hm, f17, f1, f2, f8, f16, c3, f15, e1, h2, h3, n3, hne2, hne3, hm2, ht2, hs2, ht2, hs2, f1, f2, f8, f10, f15, f16, f17, f31, f32, k1, k2, k3, f33, hm2, h4, h5, n5, c4, p1, q1, Int.cast_ofNat_Int, Int.reduceToNat, Int.zero_add, Int.reduceAdd, Nat.reduceAdd, bi, encK]
          rw [N_lp]
          refine ⟨_, ?_, _, sub_refl _, 1, 1, rfl, ?_, ?_, ?_, ?_, ?_, by simp (maxDischargeDepth := 9) only [↓gB, gV, gT, reduceIte, reduceCtorEq, Nat.reduceEqDiff, Nat.reduceAdd, Nat.reduceSub, Nat.reduceLeDiff, Nat.reduceLT, Int.reduceEq, Nat.reduceMul, h1, hm, f17, f1, f2, f8, f16, c3, f15, e1, h2, h3, n3, hne2, hne3, hm2, ht2, hs2, ht2, hs2, f1, f2, f8, f10, f15, f16, f17, f31, f32, k1, k2, k3, f33, hm2, h4, h5, n5, c4, p1, q1, Int.cast_ofNat_Int, Int.reduceToNat, Int.zero_add, Int.reduceAdd, Nat.reduceAdd, bi, encK, nat_succ, and_self]⟩
          · omega
          · omega
          · (rw [refs_at (n := 0) (p := (0, 0, s)) rfl, ref1, if_pos c4]; exact put_self _ _ _; done)
          · (exact (put_not _ _ hne2).trans (pk2 h4 h5 ht2); done)
          · (exact (put_not _ _ hne3).trans (pk2 h4 h5 hs2); done)
          · (simp (maxDischargeDepth := 9) only [le_self, le_puts, le_put0, sub_self, sub_puts, sub_put0, h1, hle, h2, h3, n3, hle2, hle2, h4, h5, n5]; done)
      · focus
          simp (maxDischargeDepth := 9) only [↓gB, gV, gT, reduceIte, reduceCtorEq, Nat.reduceEqDiff, Nat.reduceAdd, Nat.reduceSub, Nat.reduceLeDiff, Nat.reduceLT, Int.reduceEq, Nat.reduceMul, h1, hm, f17, f1, f2, f8, f16, c3, f15, e1, h2, h3, n3, hne2, hne3, hm2, ht2, hs2, ht2, hs2, f1, f2, f8, f10, f15, f16, f17, f31, f32, k1, k2, k3, f33, hm2, h4, h5, n5, c4, Int.cast_ofNat_Int, Int.reduceToNat, Int.zero_add, Int.reduceAdd, Nat.reduceAdd, bi]
          have q1 : Go.IntKind.i64.wrap (1) = 1 := wrap_id (by omega)
          simp (maxDischargeDepth := 9) only [↓gB, gV, gT, reduceIte, reduceCtorEq, Nat.reduceEqDiff, Nat.reduceAdd, Nat.reduceSub, Nat.reduceLeDiff, Nat.reduceLT, Int.reduceEq, Nat.reduceMul, h1, hm, f17, f1, f2, f8, f16, c3, f15, e1, h2, h3, n3, hne2, hne3, hm2, ht2, hs2, ht2, hs2, f1, f2, f8, f10, f15, f16, f17, f31, f32, k1, k2, k3, f33, hm2, h4, h5, n5, c4, q1, Int.cast_ofNat_Int, Int.reduceToNat, Int.zero_add, Int.reduceAdd, Nat.reduceAdd, bi]
          rw [N_lp]
          refine ⟨_, ?_, _, sub_refl _, 1, 1, rfl, ?_, ?_, ?_, ?_, ?_, by simp (maxDischargeDepth := 9) only [↓gB, gV, gT, reduceIte, reduceCtorEq, Nat.reduceEqDiff, Nat.reduceAdd, Nat.reduceSub, Nat.reduceLeDiff, Nat.reduceLT, Int.reduceEq, Nat.reduceMul, h1, hm, f17, f1, f2, f8, f16, c3, f15, e1, h2, h3, n3, hne2, hne3, hm2, ht2, hs2, ht2, hs2, f1, f2, f8, f10, f15, f16, f17, f31, f32, k1, k2, k3, f33, hm2, h4, h5, n5, c4, q1, Int.cast_ofNat_Int, Int.reduceToNat, Int.zero_add, Int.reduceAdd, Nat.reduceAdd, bi, nat_succ, and_self]⟩
          · omega
          · omega
          · (rw [refs_at (n := 0) (p := (0, 0, s)) rfl, ref1, if_neg (by rw [c4]; decide)]; exact pk2 h4 h5 hm2; done)
          · (exact pk2 h4 h5 ht2; done)
          · (exact pk2 h4 h5 hs2; done)
          · (simp (maxDischargeDepth := 9) only [le_self, le_puts, le_put0, sub_self, sub_puts, sub_put0, h1, hle, h2, h3, n3, hle2, hle2, h4, h5, n5]; done)
    · simp (maxDischargeDepth := 9) only [↓gB, gV, gT, reduceIte, reduceCtorEq, Nat.reduceEqDiff, Nat.reduceAdd, Nat.reduceSub, Nat.reduceLeDiff, Nat.reduceLT, Int.reduceEq, Nat.reduceMul, h1, hm, f17, f1, f2, f8, f16, c3, f15, e1, h2, h3, n3, hne2, hne3, hm2, ht2, hs2, ht2, hs2, f1, f2, f8, f10, f15, f16, f17, f31, f32, k1, k2, k3, f33, hm2, Int.cast_ofNat_Int, Int.reduceToNat, Int.zero_add, Int.reduceAdd, Nat.reduceAdd]
      refine Xc_pos _ _ _ _ _ (by omega) ?_
      simp (maxDischargeDepth := 9) only [↓gB, gV, gT, reduceIte, reduceCtorEq, Nat.reduceEqDiff, Nat.reduceAdd, Nat.reduceSub, Nat.reduceLeDiff, Nat.reduceLT, Int.reduceEq, Nat.reduceMul, h1, hm, f17, f1, f2, f8, f16, c3, f15, e1, h2, h3, n3, hne2, hne3, hm2, ht2, hs2, ht2, hs2, f1, f2, f8, f10, f15, f16, f17, f31, f32, k1, k2, k3, f33, hm2, Int.cast_ofNat_Int, Int.reduceToNat, Int.zero_add, Int.reduceAdd, Nat.reduceAdd]
      refine vguard_intro (by omega) ?_
      refine Yn2 fun r4 h4 => ?_
      simp (maxDischargeDepth := 9) only [↓gB, gV, gT, reduceIte, reduceCtorEq, Nat.reduceEqDiff, Nat.reduceAdd, Nat.reduceSub, Nat.reduceLeDiff, Nat.reduceLT, Int.reduceEq, Nat.reduceMul, h1, hm, f17, f1, f2, f8, f16, c3, f15, e1, h2, h3, n3, hne2, hne3, hm2, ht2, hs2, ht2, hs2, f1, f2, f8, f10, f15, f16, f17, f31, f32, k1, k2, k3, f33, hm2, h4, Int.cast_ofNat_Int, Int.reduceToNat, Int.zero_add, Int.reduceAdd, Nat.reduceAdd]
      refine Yn2 fun r5 h5 => ?_
      have n5 := h5
      simp only [put_none_eq, ne_eq] at n5
      simp (maxDischargeDepth := 9) only [↓gB, gV, gT, reduceIte, reduceCtorEq, Nat.reduceEqDiff, Nat.reduceAdd, Nat.reduceSub, Nat.reduceLeDiff, Nat.reduceLT, Int.reduceEq, Nat.reduceMul, h1, hm, f17, f1, f2, f8, f16, c3, f15, e1, h2, h3, n3, hne2, hne3, hm2, ht2, hs2, ht2, hs2, f1, f2, f8, f10, f15, f16, f17, f31, f32, k1, k2, k3, f33, hm2, h4, h5, n5, Int.cast_ofNat_Int, Int.reduceToNat, Int.zero_add, Int.reduceAdd, Nat.reduceAdd]
      refine Ycp (p8) ?_
      simp (maxDischargeDepth := 9) only [↓gB, gV, gT, reduceIte, reduceCtorEq, Nat.reduceEqDiff, Nat.reduceAdd, Nat.reduceSub, Nat.reduceLeDiff, Nat.reduceLT, Int.reduceEq, Nat.reduceMul, h1, hm, f17, f1, f2, f8, f16, c3, f15, e1, h2, h3, n3, hne2, hne3, hm2, ht2, hs2, ht2, hs2, f1, f2, f8, f10, f15, f16, f17, f31, f32, k1, k2, k3, f33, hm2, h4, h5, n5, Int.cast_ofNat_Int, Int.reduceToNat, Int.zero_add, Int.reduceAdd, Nat.reduceAdd]
      rcases bool_tf (point (IntKind.i64.wrap (x1.a + 1)) (IntKind.i64.wrap (x1.b + 0))) with c4 | c4
      · focus
          simp (maxDischargeDepth := 9) only [↓gB, gV, gT, reduceIte, reduceCtorEq, Nat.reduceEqDiff, Nat.reduceAdd, Nat.reduceSub, Nat.reduceLeDiff, Nat.reduceLT, Int.reduceEq, Nat.reduceMul, h1, hm, f17, f1, f2, f8, f16, c3, f15, e1, h2, h3, n3, hne2, hne3, hm2, ht2, hs2, ht2, hs2, f1, f2, f8, f10, f15, f16, f17, f31, f32, k1, k2, k3, f33, hm2, h4, h5, n5, c4, Int.cast_ofNat_Int, Int.reduceToNat, Int.zero_add, Int.reduceAdd, Nat.reduceAdd, bi, encK]
          refine Xdraw_intro [0, 1, 2, 3, 4, 5, 6, 7, 8, 9, 10, 11, 12, 13, 14] mixed (by kernel_rfl) (by decide +kernel) ?_
          simp (maxDischargeDepth := 9) only [↓gB, gV, gT, reduceIte, reduceCtorEq, Nat.reduceEqDiff, Nat.reduceAdd, Nat.reduceSub, Nat.reduceLeDiff, Nat.reduceLT, Int.reduceEq, Nat.reduceMul, h1, hm, f17, f1, f2, f8, f16, c3, f15, e1, h2, h3, n3, hne2, hne3, hm2, ht2, hs2, ht2, hs2, f1, f2, f8, f10, f15, f16, f17, f31, f32, k1, k2, k3, f33, hm2, h4, h5, n5, c4, Int.cast_ofNat_Int, Int.reduceToNat, Int.zero_add, Int.reduceAdd, Nat.reduceAdd, bi, encK]
          have p1 := mt94.look (kv := Go.Value.agg #[Go.Value.int Go.IntKind.i64 (Go.IntKind.i64.wrap (x1.a + 1)), Go.Value.int Go.IntKind.i64 (Go.IntKind.i64.wrap (x1.b + 0)), Go.GL.V x1.h]) (G := (G'.put r4 (Go.Obj.cells #[Go.GL.V 1, Go.GL.V 0, Go.GL.V d] 119, Bool.true)).put r5 (Go.Obj.cells #[Go.Value.int Go.IntKind.i64 (Go.IntKind.i64.wrap (x1.a + 1)), Go.Value.int Go.IntKind.i64 (Go.IntKind.i64.wrap (x1.b + 0))] 24, Bool.true)) ((put_pk (by assumption) (kn_put _ _ _ _ (kn_of hm2))).trans ((put_pk (by assumption) (kn_of hm2)).trans hm2)) (_, _, _) rfl
          simp (maxDischargeDepth := 9) only [↓gB, gV, gT, reduceIte, reduceCtorEq, Nat.reduceEqDiff, Nat.reduceAdd, Nat.reduceSub, Nat.reduceLeDiff, Nat.reduceLT, Int.reduceEq, Nat.reduceMul, h1, hm, f17, f1, f2, f8, f16, c3, f15, e1, h2, h3, n3, hne2, hne3, hm2, ht2, hs2, ht2, hs2, f1, f2, f8, f10, f15, f16, f17, f31, f32, k1, k2, k3, f33, hm2, h4, h5, n5, c4, p1, Int.cast_ofNat_Int, Int.reduceToNat, Int.zero_add, Int.reduceAdd, Nat.reduceAdd, bi, encK]
          refine mt94.ment ((put_pk (by assumption) (kn_put _ _ _ _ (kn_of hm2))).trans ((put_pk (by assumption) (kn_of hm2)).trans hm2)) (_, _, _) rfl ?_
          simp (maxDischargeDepth := 9) only [↓gB, gV, gT, reduceIte, reduceCtorEq, Nat.reduceEqDiff, Nat.reduceAdd, Nat.reduceSub, Nat.reduceLeDiff, Nat.reduceLT, Int.reduceEq, Nat.reduceMul, h1, hm, f17, f1, f2, f8, f16, c3, f15, e1, h2, h3, n3, hne2, hne3, hm2, ht2, hs2, ht2, hs2, f1, f2, f8, f10, f15, f16, f17, f31, f32, k1, k2, k3, f33, hm2, h4, h5, n5, c4, p1, Int.cast_ofNat_Int, Int.reduceToNat, Int.zero_add, Int.reduceAdd, Nat.reduceAdd, bi, encK]
          refine mt89.ent (put_self _ _ _) _ rfl ?_
          simp (maxDischargeDepth := 9) only [↓gB, gV, gT, reduceIte, reduceCtorEq, Nat.reduceEqDiff, Nat.reduceAdd, Nat.reduceSub, Nat.reduceLeDiff, Nat.reduceLT, Int.reduceEq, Nat.reduceMul, h1, hm, f17, f1, f2, f8, f16, c3, f15, e1, h2, h3, n3, hne2, hne3, hm2, ht2, hs2, ht2, hs2, f1, f2, f8, f10, f15, f16, f17, f31, f32, k1, k2, k3, f33, hm2, h4, h5, n5, c4, p1, Int.cast_ofNat_Int, Int.reduceToNat, Int.zero_add, Int.reduceAdd, Nat.reduceAdd, bi, encK]
          have q1 : Go.IntKind.i64.wrap (2) = 2 := wrap_id (by omega)
          simp (maxDischargeDepth := 9) only [↓gB, gV, gT, reduceIte, reduceCtorEq, Nat.reduceEqDiff, Nat.reduceAdd, Nat.reduceSub, Nat.reduceLeDiff, Nat.reduceLT, Int.reduceEq, Nat.reduceMul, h1, hm, f17, f1, f2, f8, f16, c3, f15, e1, h2, h3, n3, hne2, hne3, hm2, ht2, hs2, ht2, hs2, f1, f2, f8, f10, f15, f16, f17, f31, f32, k1, k2, k3, f33, hm2, h4, h5, n5, c4, p1, q1, Int.cast_ofNat_Int, Int.reduceToNat, Int.zero_add, Int.reduceAdd, Nat.reduceAdd, bi, encK]
          rw [N_lp]
          refine ⟨_, ?_, _, sub_refl _, 2, 2, rfl, ?_, ?_, ?_, ?_, ?_, by simp (maxDischargeDepth := 9) only [↓gB, gV, gT, reduceIte, reduceCtorEq, Nat.reduceEqDiff, Nat.reduceAdd, Nat.reduceSub, Nat.reduceLeDiff, Nat.reduceLT, Int.reduceEq, Nat.reduceMul, h1, hm, f17, f1, f2, f8, f16, c3, f15, e1, h2, h3, n3, hne2, hne3, hm2, ht2, hs2, ht2, hs2, f1, f2, f8, f10, f15, f16, f17, f31, f32, k1, k2, k3, f33, hm2, h4, h5, n5, c4, p1, q1, Int.cast_ofNat_Int, Int.reduceToNat, Int.zero_add, Int.reduceAdd, Nat.reduceAdd, bi, encK, nat_succ, and_self]⟩
          · omega
          · omega
          · (rw [refs_at (n := 1) (p := (1, 0, d)) rfl, ref1, if_pos c4]; exact put_self _ _ _; done)
          · (exact (put_not _ _ hne2).trans (pk2 h4 h5 ht2); done)
          · (exact (put_not _ _ hne3).trans (pk2 h4 h5 hs2); done)
          · (simp (maxDischargeDepth := 9) only [le_self, le_puts, le_put0, sub_self, sub_puts, sub_put0, h1, hle, h2, h3, n3, hle2, hle2, h4, h5, n5]; done)
      · focus
          simp (maxDischargeDepth := 9) only [↓gB, gV, gT, reduceIte, reduceCtorEq, Nat.reduceEqDiff, Nat.reduceAdd, Nat.reduceSub, Nat.reduceLeDiff, Nat.reduceLT, Int.reduceEq, Nat.reduceMul, h1, hm, f17, f1, f2, f8, f16, c3, f15, e1, h2, h3, n3, hne2, hne3, hm2, ht2, hs2, ht2, hs2, f1, f2, f8, f10, f15, f16, f17, f31, f32, k1, k2, k3, f33, hm2, h4, h5, n5, c4, Int.cast_ofNat_Int, Int.reduceToNat, Int.zero_add, Int.reduceAdd, Nat.reduceAdd, bi]
          have q1 : Go.IntKind.i64.wrap (2) = 2 := wrap_id (by omega)
          simp (maxDischargeDepth := 9) only [↓gB, gV, gT, reduceIte, reduceCtorEq, Nat.reduceEqDiff, Nat.reduceAdd, Nat.reduceSub, Nat.reduceLeDiff, Nat.reduceLT, Int.reduceEq, Nat.reduceMul, h1, hm, f17, f1, f2, f8, f16, c3, f15, e1, h2, h3, n3, hne2, hne3, hm2, ht2, hs2, ht2, hs2, f1, f2, f8, f10, f15, f16, f17, f31, f32, k1, k2, k3, f33, hm2, h4, h5, n5, c4, q1, Int.cast_ofNat_Int, Int.reduceToNat, Int.zero_add, Int.reduceAdd, Nat.reduceAdd, bi]
          rw [N_lp]
          refine ⟨_, ?_, _, sub_refl _, 2, 2, rfl, ?_, ?_, ?_, ?_, ?_, by simp (maxDischargeDepth := 9) only [↓gB, gV, gT, reduceIte, reduceCtorEq, Nat.reduceEqDiff, Nat.reduceAdd, Nat.reduceSub, Nat.reduceLeDiff, Nat.reduceLT, Int.reduceEq, Nat.reduceMul, h1, hm, f17, f1, f2, f8, f16, c3, f15, e1, h2, h3, n3, hne2, hne3, hm2, ht2, hs2, ht2, hs2, f1, f2, f8, f10, f15, f16, f17, f31, f32, k1, k2, k3, f33, hm2, h4, h5, n5, c4, q1, Int.cast_ofNat_Int, Int.reduceToNat, Int.zero_add, Int.reduceAdd, Nat.reduceAdd, bi, nat_succ, and_self]⟩
          · omega
          · omega
          · (rw [refs_at (n := 1) (p := (1, 0, d)) rfl, ref1, if_neg (by rw [c4]; decide)]; exact pk2 h4 h5 hm2; done)
          · (exact pk2 h4 h5 ht2; done)
          · (exact pk2 h4 h5 hs2; done)
          · (simp (maxDischargeDepth := 9) only [le_self, le_puts, le_put0, sub_self, sub_puts, sub_put0, h1, hle, h2, h3, n3, hle2, hle2, h4, h5, n5]; done)
    · simp (maxDischargeDepth := 9) only [↓gB, gV, gT, reduceIte, reduceCtorEq, Nat.reduceEqDiff, Nat.reduceAdd, Nat.reduceSub, Nat.reduceLeDiff, Nat.reduceLT, Int.reduceEq, Nat.reduceMul, h1, hm, f17, f1, f2, f8, f16, c3, f15, e1, h2, h3, n3, hne2, hne3, hm2, ht2, hs2, ht2, hs2, f1, f2, f8, f10, f15, f16, f17, f31, f32, k1, k2, k3, f33, hm2, Int.cast_ofNat_Int, Int.reduceToNat, Int.zero_add, Int.reduceAdd, Nat.reduceAdd]
      refine Xc_pos _ _ _ _ _ (by omega) ?_
      simp (maxDischargeDepth := 9) only [↓gB, gV, gT, reduceIte, reduceCtorEq, Nat.reduceEqDiff, Nat.reduceAdd, Nat.reduceSub, Nat.reduceLeDiff, Nat.reduceLT, Int.reduceEq, Nat.reduceMul, h1, hm, f17, f1, f2, f8, f16, c3, f15, e1, h2, h3, n3, hne2, hne3, hm2, ht2, hs2, ht2, hs2, f1, f2, f8, f10, f15, f16, f17, f31, f32, k1, k2, k3, f33, hm2, Int.cast_ofNat_Int, Int.reduceToNat, Int.zero_add, Int.reduceAdd, Nat.reduceAdd]
      refine vguard_intro (by omega) ?_
      refine Yn2 fun r4 h4 => ?_
      simp (maxDischargeDepth := 9) only [↓gB, gV, gT, reduceIte, reduceCtorEq, Nat.reduceEqDiff, Nat.reduceAdd, Nat.reduceSub, Nat.reduceLeDiff, Nat.reduceLT, Int.reduceEq, Nat.reduceMul, h1, hm, f17, f1, f2, f8, f16, c3, f15, e1, h2, h3, n3, hne2, hne3, hm2, ht2, hs2, ht2, hs2, f1, f2, f8, f10, f15, f16, f17, f31, f32, k1, k2, k3, f33, hm2, h4, Int.cast_ofNat_Int, Int.reduceToNat, Int.zero_add, Int.reduceAdd, Nat.reduceAdd]
      refine Yn2 fun r5 h5 => ?_
      have n5 := h5
      simp only [put_none_eq, ne_eq] at n5
      simp (maxDischargeDepth := 9) only [↓gB, gV, gT, reduceIte, reduceCtorEq, Nat.reduceEqDiff, Nat.reduceAdd, Nat.reduceSub, Nat.reduceLeDiff, Nat.reduceLT, Int.reduceEq, Nat.reduceMul, h1, hm, f17, f1, f2, f8, f16, c3, f15, e1, h2, h3, n3, hne2, hne3, hm2, ht2, hs2, ht2, hs2, f1, f2, f8, f10, f15, f16, f17, f31, f32, k1, k2, k3, f33, hm2, h4, h5, n5, Int.cast_ofNat_Int, Int.reduceToNat, Int.zero_add, Int.reduceAdd, Nat.reduceAdd]
      refine Ycp (p8) ?_
      simp (maxDischargeDepth := 9) only [↓gB, gV, gT, reduceIte, reduceCtorEq, Nat.reduceEqDiff, Nat.reduceAdd, Nat.reduceSub, Nat.reduceLeDiff, Nat.reduceLT, Int.reduceEq, Nat.reduceMul, h1, hm, f17, f1, f2, f8, f16, c3, f15, e1, h2, h3, n3, hne2, hne3, hm2, ht2, hs2, ht2, hs2, f1, f2, f8, f10, f15, f16, f17, f31, f32, k1, k2, k3, f33, hm2, h4, h5, n5, Int.cast_ofNat_Int, Int.reduceToNat, Int.zero_add, Int.reduceAdd, Nat.reduceAdd]
      rcases bool_tf (point (IntKind.i64.wrap (x1.a + (-1))) (IntKind.i64.wrap (x1.b + 0))) with c4 | c4
      · focus
          simp (maxDischargeDepth := 9) only [↓gB, gV, gT, reduceIte, reduceCtorEq, Nat.reduceEqDiff, Nat.reduceAdd, Nat.reduceSub, Nat.reduceLeDiff, Nat.reduceLT, Int.reduceEq, Nat.reduceMul, h1, hm, f17, f1, f2, f8, f16, c3, f15, e1, h2, h3, n3, hne2, hne3, hm2, ht2, hs2, ht2, hs2, f1, f2, f8, f10, f15, f16, f17, f31, f32, k1, k2, k3, f33, hm2, h4, h5, n5, c4, Int.cast_ofNat_Int, Int.reduceToNat, Int.zero_add, Int.reduceAdd, Nat.reduceAdd, bi, encK]
          refine Xdraw_intro [0, 1, 2, 3, 4, 5, 6, 7, 8, 9, 10, 11, 12, 13, 14] mixed (by kernel_rfl) (by decide +kernel) ?_
          simp (maxDischargeDepth := 9) only [↓gB, gV, gT, reduceIte, reduceCtorEq, Nat.reduceEqDiff, Nat.reduceAdd, Nat.reduceSub, Nat.reduceLeDiff, Nat.reduceLT, Int.reduceEq, Nat.reduceMul, h1, hm, f17, f1, f2, f8, f16, c3, f15, e1, h2, h3, n3, hne2, hne3, hm2, ht2, hs2, ht2, hs2, f1, f2, f8, f10, f15, f16, f17, f31, f32, k1, k2, k3, f33, hm2, h4, h5, n5, c4, Int.cast_ofNat_Int, Int.reduceToNat, Int.zero_add, Int.reduceAdd, Nat.reduceAdd, bi, encK]
          have p1 := mt94.look (kv := Go.Value.agg #[Go.Value.int Go.IntKind.i64 (Go.IntKind.i64.wrap (x1.a + -1)), Go.Value.int Go.IntKind.i64 (Go.IntKind.i64.wrap (x1.b + 0)), Go.GL.V x1.h]) (G := (G'.put r4 (Go.Obj.cells #[Go.GL.V (-1), Go.GL.V 0, Go.GL.V d] 119, Bool.true)).put r5 (Go.Obj.cells #[Go.Value.int Go.IntKind.i64 (Go.IntKind.i64.wrap (x1.a + -1)), Go.Value.int Go.IntKind.i64 (Go.IntKind.i64.wrap (x1.b + 0))] 24, Bool.true)) ((put_pk (by assumption) (kn_put _ _ _ _ (kn_of hm2))).trans ((put_pk (by assumption) (kn_of hm2)).trans hm2)) (_, _, _) rfl
          simp (maxDischargeDepth := 9) only [↓gB, gV, gT, reduceIte, reduceCtorEq, Nat.reduceEqDiff, Nat.reduceAdd, Nat.reduceSub, Nat.reduceLeDiff, Nat.reduceLT, Int.reduceEq, Nat.reduceMul, h1, hm, f17, f1, f2, f8, f16, c3, f15, e1, h2, h3, n3, hne2, hne3, hm2, ht2, hs2, ht2, hs2, f1, f2, f8, f10, f15, f16, f17, f31, f32, k1, k2, k3, f33, hm2, h4, h5, n5, c4, p1, Int.cast_ofNat_Int, Int.reduceToNat, Int.zero_add, Int.reduceAdd, Nat.reduceAdd, bi, encK]
          refine mt94.ment ((put_pk (by assumption) (kn_put _ _ _ _ (kn_of hm2))).trans ((put_pk (by assumption) (kn_of hm2)).trans hm2)) (_, _, _) rfl ?_
          simp (maxDischargeDepth := 9) only [↓gB, gV, gT, reduceIte, reduceCtorEq, Nat.reduceEqDiff, Nat.reduceAdd, Nat.reduceSub, Nat.reduceLeDiff, Nat.reduceLT, Int.reduceEq, Nat.reduceMul, h1, hm, f17, f1, f2, f8, f16, c3, f15, e1, h2, h3, n3, hne2, hne3, hm2, ht2, hs2, ht2, hs2, f1, f2, f8, f10, f15, f16, f17, f31, f32, k1, k2, k3, f33, hm2, h4, h5, n5, c4, p1, Int.cast_ofNat_Int, Int.reduceToNat, Int.zero_add, Int.reduceAdd, Nat.reduceAdd, bi, encK]
          refine mt89.ent (put_self _ _ _) _ rfl ?_
          simp (maxDischargeDepth := 9) only [↓gB, gV, gT, reduceIte, reduceCtorEq, Nat.reduceEqDiff, Nat.reduceAdd, Nat.reduceSub, Nat.reduceLeDiff, Nat.reduceLT, Int.reduceEq, Nat.reduceMul, h1, hm, f17, f1, f2, f8, f16, c3, f15, e1, h2, h3, n3, hne2, hne3, hm2, ht2, hs2, ht2, hs2, f1, f2, f8, f10, f15, f16, f17, f31, f32, k1, k2, k3, f33, hm2, h4, h5, n5, c4, p1, Int.cast_ofNat_Int, Int.reduceToNat, Int.zero_add, Int.reduceAdd, Nat.reduceAdd, bi, encK]
          have q1 : Go.IntKind.i64.wrap (3) = 3 := wrap_id (by omega)
          simp (maxDischargeDepth := 9) only [↓gB, gV, gT, reduceIte, reduceCtorEq, Nat.reduceEqDiff, Nat.reduceAdd, Nat.reduceSub, Nat.reduceLeDiff, Nat.reduceLT, Int.reduceEq, Nat.reduceMul, h1, hm, f17, f1, f2, f8, f16, c3, f15, e1, h2, h3, n3, hne2, hne3, hm2, ht2, hs2, ht2, hs2, f1, f2, f8, f10, f15, f16, f17, f31, f32, k1, k2, k3, f33, hm2, h4, h5, n5, c4, p1, q1, Int.cast_ofNat_Int, Int.reduceToNat, Int.zero_add, Int.reduceAdd, Nat.reduceAdd, bi, encK]
          rw [N_lp]
          refine ⟨_, ?_, _, sub_refl _, 3, 3, rfl, ?_, ?_, ?_, ?_, ?_, by simp (maxDischargeDepth := 9) only [↓gB, gV, gT, reduceIte, reduceCtorEq, Nat.reduceEqDiff, Nat.reduceAdd, Nat.reduceSub, Nat.reduceLeDiff, Nat.reduceLT, Int.reduceEq, Nat.reduceMul, h1, hm, f17, f1, f2, f8, f16, c3, f15, e1, h2, h3, n3, hne2, hne3, hm2, ht2, hs2, ht2, hs2, f1, f2, f8, f10, f15, f16, f17, f31, f32, k1, k2, k3, f33, hm2, h4, h5, n5, c4, p1, q1, Int.cast_ofNat_Int, Int.reduceToNat, Int.zero_add, Int.reduceAdd, Nat.reduceAdd, bi, encK, nat_succ, and_self]⟩
          · omega
          · omega
          · (rw [refs_at (n := 2) (p := ((-1), 0, d)) rfl, ref1, if_pos c4]; exact put_self _ _ _; done)
          · (exact (put_not _ _ hne2).trans (pk2 h4 h5 ht2); done)
          · (exact (put_not _ _ hne3).trans (pk2 h4 h5 hs2); done)
          · (simp (maxDischargeDepth := 9) only [le_self, le_puts, le_put0, sub_self, sub_puts, sub_put0, h1, hle, h2, h3, n3, hle2, hle2, h4, h5, n5]; done)
      · focus
          simp (maxDischargeDepth := 9) only [↓gB, gV, gT, reduceIte, reduceCtorEq, Nat.reduceEqDiff, Nat.reduceAdd, Nat.reduceSub, Nat.reduceLeDiff, Nat.reduceLT, Int.reduceEq, Nat.reduceMul, h1, hm, f17, f1, f2, f8, f16, c3, f15, e1, h2, h3, n3, hne2, hne3, hm2, ht2, hs2, ht2, hs2, f1, f2, f8, f10, f15, f16, f17, f31, f32, k1, k2, k3, f33, hm2, h4, h5, n5, c4, Int.cast_ofNat_Int, Int.reduceToNat, Int.zero_add, Int.reduceAdd, Nat.reduceAdd, bi]
          have q1 : Go.IntKind.i64.wrap (3) = 3 := wrap_id (by omega)
          simp (maxDischargeDepth := 9) only [↓gB, gV, gT, reduceIte, reduceCtorEq, Nat.reduceEqDiff, Nat.reduceAdd, Nat.reduceSub, Nat.reduceLeDiff, Nat.reduceLT, Int.reduceEq, Nat.reduceMul, h1, hm, f17, f1, f2, f8, f16, c3, f15, e1, h2, h3, n3, hne2, hne3, hm2, ht2, hs2, ht2, hs2, f1, f2, f8, f10, f15, f16, f17, f31, f32, k1, k2, k3, f33, hm2, h4, h5, n5, c4, q1, Int.cast_ofNat_Int, Int.reduceToNat, Int.zero_add, Int.reduceAdd, Nat.reduceAdd, bi]
          rw [N_lp]
          refine ⟨_, ?_, _, sub_refl _, 3, 3, rfl, ?_, ?_, ?_, ?_, ?_, by simp (maxDischargeDepth := 9) only [↓gB, gV, gT, reduceIte, reduceCtorEq, Nat.reduceEqDiff, Nat.reduceAdd, Nat.reduceSub, Nat.reduceLeDiff, Nat.reduceLT, Int.reduceEq, Nat.reduceMul, h1, hm, f17, f1, f2, f8, f16, c3, f15, e1, h2, h3, n3, hne2, hne3, hm2, ht2, hs2, ht2, hs2, f1, f2, f8, f10, f15, f16, f17, f31, f32, k1, k2, k3, f33, hm2, h4, h5, n5, c4, q1, Int.cast_ofNat_Int, Int.reduceToNat, Int.zero_add, Int.reduceAdd, Nat.reduceAdd, bi, nat_succ, and_self]⟩
          · omega
          · omega
          · (rw [refs_at (n := 2) (p := ((-1), 0, d)) rfl, ref1, if_neg (by rw [c4]; decide)]; exact pk2 h4 h5 hm2; done)
          · (exact pk2 h4 h5 ht2; done)
          · (exact pk2 h4 h5 hs2; done)
          · (simp (maxDischargeDepth := 9) only [le_self, le_puts, le_put0, sub_self, sub_puts, sub_put0, h1, hle, h2, h3, n3, hle2, hle2, h4, h5, n5]; done)
    · simp (maxDischargeDepth := 9) only [↓gB, gV, gT, reduceIte, reduceCtorEq, Nat.reduceEqDiff, Nat.reduceAdd, Nat.reduceSub, Nat.reduceLeDiff, Nat.reduceLT, Int.reduceEq, Nat.reduceMul, h1, hm, f17, f1, f2, f8, f16, c3, f15, e1, h2, h3, n3, hne2, hne3, hm2, ht2, hs2, ht2, hs2, f1, f2, f8, f10, f15, f16, f17, f31, f32, k1, k2, k3, f33, hm2, Int.cast_ofNat_Int, Int.reduceToNat, Int.zero_add, Int.reduceAdd, Nat.reduceAdd]
      refine Xc_pos _ _ _ _ _ (by omega) ?_
      simp (maxDischargeDepth := 9) only [↓gB, gV, gT, reduceIte, reduceCtorEq, Nat.reduceEqDiff, Nat.reduceAdd, Nat.reduceSub, Nat.reduceLeDiff, Nat.reduceLT, Int.reduceEq, Nat.reduceMul, h1, hm, f17, f1, f2, f8, f16, c3, f15, e1, h2, h3, n3, hne2, hne3, hm2, ht2, hs2, ht2, hs2, f1, f2, f8, f10, f15, f16, f17, f31, f32, k1, k2, k3, f33, hm2, Int.cast_ofNat_Int, Int.reduceToNat, Int.zero_add, Int.reduceAdd, Nat.reduceAdd]
      refine vguard_intro (by omega) ?_
      refine Yn2 fun r4 h4 => ?_
      simp (maxDischargeDepth := 9) only [↓gB, gV, gT, reduceIte, reduceCtorEq, Nat.reduceEqDiff, Nat.reduceAdd, Nat.reduceSub, Nat.reduceLeDiff, Nat.reduceLT, Int.reduceEq, Nat.reduceMul, h1, hm, f17, f1, f2, f8, f16, c3, f15, e1, h2, h3, n3, hne2, hne3, hm2, ht2, hs2, ht2, hs2, f1, f2, f8, f10, f15, f16, f17, f31, f32, k1, k2, k3, f33, hm2, h4, Int.cast_ofNat_Int, Int.reduceToNat, Int.zero_add, Int.reduceAdd, Nat.reduceAdd]
      refine Yn2 fun r5 h5 => ?_
      have n5 := h5
      simp only [put_none_eq, ne_eq] at n5
      simp (maxDischargeDepth := 9) only [↓gB, gV, gT, reduceIte, reduceCtorEq, Nat.reduceEqDiff, Nat.reduceAdd, Nat.reduceSub, Nat.reduceLeDiff, Nat.reduceLT, Int.reduceEq, Nat.reduceMul, h1, hm, f17, f1, f2, f8, f16, c3, f15, e1, h2, h3, n3, hne2, hne3, hm2, ht2, hs2, ht2, hs2, f1, f2, f8, f10, f15, f16, f17, f31, f32, k1, k2, k3, f33, hm2, h4, h5, n5, Int.cast_ofNat_Int, Int.reduceToNat, Int.zero_add, Int.reduceAdd, Nat.reduceAdd]
      refine Ycp (p8) ?_
      simp (maxDischargeDepth := 9) only [↓gB, gV, gT, reduceIte, reduceCtorEq, Nat.reduceEqDiff, Nat.reduceAdd, Nat.reduceSub, Nat.reduceLeDiff, Nat.reduceLT, Int.reduceEq, Nat.reduceMul, h1, hm, f17, f1, f2, f8, f16, c3, f15, e1, h2, h3, n3, hne2, hne3, hm2, ht2, hs2, ht2, hs2, f1, f2, f8, f10, f15, f16, f17, f31, f32, k1, k2, k3, f33, hm2, h4, h5, n5, Int.cast_ofNat_Int, Int.reduceToNat, Int.zero_add, Int.reduceAdd, Nat.reduceAdd]
      rcases bool_tf (point (IntKind.i64.wrap (x1.a + 0)) (IntKind.i64.wrap (x1.b + 1))) with c4 | c4
      · focus
          simp (maxDischargeDepth := 9) only [↓gB, gV, gT, reduceIte, reduceCtorEq, Nat.reduceEqDiff, Nat.reduceAdd, Nat.reduceSub, Nat.reduceLeDiff, Nat.reduceLT, Int.reduceEq, Nat.reduceMul, h1, hm, f17, f1, f2, f8, f16, c3, f15, e1, h2, h3, n3, hne2, hne3, hm2, ht2, hs2, ht2, hs2, f1, f2, f8, f10, f15, f16, f17, f31, f32, k1, k2, k3, f33, hm2, h4, h5, n5, c4, Int.cast_ofNat_Int, Int.reduceToNat, Int.zero_add, Int.reduceAdd, Nat.reduceAdd, bi, encK]
          refine Xdraw_intro [0, 1, 2, 3, 4, 5, 6, 7, 8, 9, 10, 11, 12, 13, 14] mixed (by kernel_rfl) (by decide +kernel) ?_
          simp (maxDischargeDepth := 9) only [↓gB, gV, gT, reduceIte, reduceCtorEq, Nat.reduceEqDiff, Nat.reduceAdd, Nat.reduceSub, Nat.reduceLeDiff, Nat.reduceLT, Int.reduceEq, Nat.reduceMul, h1, hm, f17, f1, f2, f8, f16, c3, f15, e1, h2, h3, n3, hne2, hne3, hm2, ht2, hs2, ht2, hs2, f1, f2, f8, f10, f15, f16, f17, f31, f32, k1, k2, k3, f33, hm2, h4, h5, n5, c4, Int.cast_ofNat_Int, Int.reduceToNat, Int.zero_add, Int.reduceAdd, Nat.reduceAdd, bi, encK]
          have p1 := mt94.look (kv := Go.Value.agg #[Go.Value.int Go.IntKind.i64 (Go.IntKind.i64.wrap (x1.a + 0)), Go.Value.int Go.IntKind.i64 (Go.IntKind.i64.wrap (x1.b + 1)), Go.GL.V x1.h]) (G := (G'.put r4 (Go.Obj.cells #[Go.GL.V 0, Go.GL.V 1, Go.GL.V d] 119, Bool.true)).put r5 (Go.Obj.cells #[Go.Value.int Go.IntKind.i64 (Go.IntKind.i64.wrap (x1.a + 0)), Go.Value.int Go.IntKind.i64 (Go.IntKind.i64.wrap (x1.b + 1))] 24, Bool.true)) ((put_pk (by assumption) (kn_put _ _ _ _ (kn_of hm2))).trans ((put_pk (by assumption) (kn_of hm2)).trans hm2)) (_, _, _) rfl
          simp (maxDischargeDepth := 9) only [↓gB, gV, gT, reduceIte, reduceCtorEq, Nat.reduceEqDiff, Nat.reduceAdd, Nat.reduceSub, Nat.reduceLeDiff, Nat.reduceLT, Int.reduceEq, Nat.reduceMul, h1, hm, f17, f1, f2, f8, f16, c3, f15, e1, h2, h3, n3, hne2, hne3, hm2, ht2, hs2, ht2, hs2, f1, f2, f8, f10, f15, f16, f17, f31, f32, k1, k2, k3, f33, hm2, h4, h5, n5, c4, p1, Int.cast_ofNat_Int, Int.reduceToNat, Int.zero_add, Int.reduceAdd, Nat.reduceAdd, bi, encK]
          refine mt94.ment ((put_pk (by assumption) (kn_put _ _ _ _ (kn_of hm2))).trans ((put_pk (by assumption) (kn_of hm2)).trans hm2)) (_, _, _) rfl ?_
          simp (maxDischargeDepth := 9) only [↓gB, gV, gT, reduceIte, reduceCtorEq, Nat.reduceEqDiff, Nat.reduceAdd, Nat.reduceSub, Nat.reduceLeDiff, Nat.reduceLT, Int.reduceEq, Nat.reduceMul, h1, hm, f17, f1, f2, f8, f16, c3, f15, e1, h2, h3, n3, hne2, hne3, hm2, ht2, hs2, ht2, hs2, f1, f2, f8, f10, f15, f16, f17, f31, f32, k1, k2, k3, f33, hm2, h4, h5, n5, c4, p1, Int.cast_ofNat_Int, Int.reduceToNat, Int.zero_add, Int.reduceAdd, Nat.reduceAdd, bi, encK]
          refine mt89.ent (put_self _ _ _) _ rfl ?_
          simp (maxDischargeDepth := 9) only [↓gB, gV, gT, reduceIte, reduceCtorEq, Nat.reduceEqDiff, Nat.reduceAdd, Nat.reduceSub, Nat.reduceLeDiff, Nat.reduceLT, Int.reduceEq, Nat.reduceMul, h1, hm, f17, f1, f2, f8, f16, c3, f15, e1, h2, h3, n3, hne2, hne3, hm2, ht2, hs2, ht2, hs2, f1, f2, f8, f10, f15, f16, f17, f31, f32, k1, k2, k3, f33, hm2, h4, h5, n5, c4, p1, Int.cast_ofNat_Int, Int.reduceToNat, Int.zero_add, Int.reduceAdd, Nat.reduceAdd, bi, encK]
          have q1 : Go.IntKind.i64.wrap (4) = 4 := wrap_id (by omega)
          simp (maxDischargeDepth := 9) only [↓gB, gV, gT, reduceIte, reduceCtorEq, Nat.reduceEqDiff, Nat.reduceAdd, Nat.reduceSub, Nat.reduceLeDiff, Nat.reduceLT, Int.reduceEq, Nat.reduceMul, h1, hm, f17, f1, f2, f8, f16, c3, f15, e1, h2, h3, n3, hne2, hne3, hm2, ht2, hs2, ht2, hs2, f1, f2, f8, f10, f15, f16, f17, f31, f32, k1, k2, k3, f33, hm2, h4, h5, n5, c4, p1, q1, Int.cast_ofNat_Int, Int.reduceToNat, Int.zero_add, Int.reduceAdd, Nat.reduceAdd, bi, encK]
          rw [N_lp]
          refine ⟨_, ?_, _, sub_refl _, 4, 4, rfl, ?_, ?_, ?_, ?_, ?_, by simp (maxDischargeDepth := 9) only [↓gB, gV, gT, reduceIte, reduceCtorEq, Nat.reduceEqDiff, Nat.reduceAdd, Nat.reduceSub, Nat.reduceLeDiff, Nat.reduceLT, Int.reduceEq, Nat.reduceMul, h1, hm, f17, f1, f2, f8, f16, c3, f15, e1, h2, h3, n3, hne2, hne3, hm2, ht2, hs2, ht2, hs2, f1, f2, f8, f10, f15, f16, f17, f31, f32, k1, k2, k3, f33, hm2, h4, h5, n5, c4, p1, q1, Int.cast_ofNat_Int, Int.reduceToNat, Int.zero_add, Int.reduceAdd, Nat.reduceAdd, bi, encK, nat_succ, and_self]⟩
          · omega
          · omega
          · (rw [refs_at (n := 3) (p := (0, 1, d)) rfl, ref1, if_pos c4]; exact put_self _ _ _; done)
          · (exact (put_not _ _ hne2).trans (pk2 h4 h5 ht2); done)
          · (exact (put_not _ _ hne3).trans (pk2 h4 h5 hs2); done)
          · (simp (maxDischargeDepth := 9) only [le_self, le_puts, le_put0, sub_self, sub_puts, sub_put0, h1, hle, h2, h3, n3, hle2, hle2, h4, h5, n5]; done)
      · focus
          simp (maxDischargeDepth := 9) only [↓gB, gV, gT, reduceIte, reduceCtorEq, Nat.reduceEqDiff, Nat.reduceAdd, Nat.reduceSub, Nat.reduceLeDiff, Nat.reduceLT, Int.reduceEq, Nat.reduceMul, h1, hm, f17, f1, f2, f8, f16, c3, f15, e1, h2, h3, n3, hne2, hne3, hm2, ht2, hs2, ht2, hs2, f1, f2, f8, f10, f15, f16, f17, f31, f32, k1, k2, k3, f33, hm2, h4, h5, n5, c4, Int.cast_ofNat_Int, Int.reduceToNat, Int.zero_add, Int.reduceAdd, Nat.reduceAdd, bi]
          have q1 : Go.IntKind.i64.wrap (4) = 4 := wrap_id (by omega)
          simp (maxDischargeDepth := 9) only [↓gB, gV, gT, reduceIte, reduceCtorEq, Nat.reduceEqDiff, Nat.reduceAdd, Nat.reduceSub, Nat.reduceLeDiff, Nat.reduceLT, Int.reduceEq, Nat.reduceMul, h1, hm, f17, f1, f2, f8, f16, c3, f15, e1, h2, h3, n3, hne2, hne3, hm2, ht2, hs2, ht2, hs2, f1, f2, f8, f10, f15, f16, f17, f31, f32, k1, k2, k3, f33, hm2, h4, h5, n5, c4, q1, Int.cast_ofNat_Int, Int.reduceToNat, Int.zero_add, Int.reduceAdd, Nat.reduceAdd, bi]
          rw [N_lp]
          refine ⟨_, ?_, _, sub_refl _, 4, 4, rfl, ?_, ?_, ?_, ?_, ?_, by simp (maxDischargeDepth := 9) only [↓gB, gV, gT, reduceIte, reduceCtorEq, Nat.reduceEqDiff, Nat.reduceAdd, Nat.reduceSub, Nat.reduceLeDiff, Nat.reduceLT, Int.reduceEq, Nat.reduceMul, h1, hm, f17, f1, f2, f8, f16, c3, f15, e1, h2, h3, n3, hne2, hne3, hm2, ht2, hs2, ht2, hs2, f1, f2, f8, f10, f15, f16, f17, f31, f32, k1, k2, k3, f33, hm2, h4, h5, n5, c4, q1, Int.cast_ofNat_Int, Int.reduceToNat, Int.zero_add, Int.reduceAdd, Nat.reduceAdd, bi, nat_succ, and_self]⟩
          · omega
          · omega
          · (rw [refs_at (n := 3) (p := (0, 1, d)) rfl, ref1, if_neg (by rw [c4]; decide)]; exact pk2 h4 h5 hm2; done)
          · (exact pk2 h4 h5 ht2; done)
          · (exact pk2 h4 h5 hs2; done)
          · (simp (maxDischargeDepth := 9) only [le_self, le_puts, le_put0, sub_self, sub_puts, sub_put0, h1, hle, h2, h3, n3, hle2, hle2, h4, h5, n5]; done)
    · simp (maxDischargeDepth := 9) only [↓gB, gV, gT, reduceIte, reduceCtorEq, Nat.reduceEqDiff, Nat.reduceAdd, Nat.reduceSub, Nat.reduceLeDiff, Nat.reduceLT, Int.reduceEq, Nat.reduceMul, h1, hm, f17, f1, f2, f8, f16, c3, f15, e1, h2, h3, n3, hne2, hne3, hm2, ht2, hs2, ht2, hs2, f1, f2, f8, f10, f15, f16, f17, f31, f32, k1, k2, k3, f33, hm2, Int.cast_ofNat_Int, Int.reduceToNat, Int.zero_add, Int.reduceAdd, Nat.reduceAdd]
      refine Xc_pos _ _ _ _ _ (by omega) ?_
      simp (maxDischargeDepth := 9) only [↓gB, gV, gT, reduceIte, reduceCtorEq, Nat.reduceEqDiff, Nat.reduceAdd, Nat.reduceSub, Nat.reduceLeDiff, Nat.reduceLT, Int.reduceEq, Nat.reduceMul, h1, hm, f17, f1, f2, f8, f16, c3, f15, e1, h2, h3, n3, hne2, hne3, hm2, ht2, hs2, ht2, hs2, f1, f2, f8, f10, f15, f16, f17, f31, f32, k1, k2, k3, f33, hm2, Int.cast_ofNat_Int, Int.reduceToNat, Int.zero_add, Int.reduceAdd, Nat.reduceAdd]
      refine vguard_intro (by omega) ?_
      refine Yn2 fun r4 h4 => ?_
      simp (maxDischargeDepth := 9) only [↓gB, gV, gT, reduceIte, reduceCtorEq, Nat.reduceEqDiff, Nat.reduceAdd, Nat.reduceSub, Nat.reduceLeDiff, Nat.reduceLT, Int.reduceEq, Nat.reduceMul, h1, hm, f17, f1, f2, f8, f16, c3, f15, e1, h2, h3, n3, hne2, hne3, hm2, ht2, hs2, ht2, hs2, f1, f2, f8, f10, f15, f16, f17, f31, f32, k1, k2, k3, f33, hm2, h4, Int.cast_ofNat_Int, Int.reduceToNat, Int.zero_add, Int.reduceAdd, Nat.reduceAdd]
      refine Yn2 fun r5 h5 => ?_
      have n5 := h5
      simp only [put_none_eq, ne_eq] at n5
      simp (maxDischargeDepth := 9) only [↓gB, gV, gT, reduceIte, reduceCtorEq, Nat.reduceEqDiff, Nat.reduceAdd, Nat.reduceSub, Nat.reduceLeDiff, Nat.reduceLT, Int.reduceEq, Nat.reduceMul, h1, hm, f17, f1, f2, f8, f16, c3, f15, e1, h2, h3, n3, hne2, hne3, hm2, ht2, hs2, ht2, hs2, f1, f2, f8, f10, f15, f16, f17, f31, f32, k1, k2, k3, f33, hm2, h4, h5, n5, Int.cast_ofNat_Int, Int.reduceToNat, Int.zero_add, Int.reduceAdd, Nat.reduceAdd]
      refine Ycp (p8) ?_
      simp (maxDischargeDepth := 9) only [↓gB, gV, gT, reduceIte, reduceCtorEq, Nat.reduceEqDiff, Nat.reduceAdd, Nat.reduceSub, Nat.reduceLeDiff, Nat.reduceLT, Int.reduceEq, Nat.reduceMul, h1, hm, f17, f1, f2, f8, f16, c3, f15, e1, h2, h3, n3, hne2, hne3, hm2, ht2, hs2, ht2, hs2, f1, f2, f8, f10, f15, f16, f17, f31, f32, k1, k2, k3, f33, hm2, h4, h5, n5, Int.cast_ofNat_Int, Int.reduceToNat, Int.zero_add, Int.reduceAdd, Nat.reduceAdd]
      rcases bool_tf (point (IntKind.i64.wrap (x1.a + 0)) (IntKind.i64.wrap (x1.b + (-1)))) with c4 | c4
      · focus
          simp (maxDischargeDepth := 9) only [↓gB, gV, gT, reduceIte, reduceCtorEq, Nat.reduceEqDiff, Nat.reduceAdd, Nat.reduceSub, Nat.reduceLeDiff, Nat.reduceLT, Int.reduceEq, Nat.reduceMul, h1, hm, f17, f1, f2, f8, f16, c3, f15, e1, h2, h3, n3, hne2, hne3, hm2, ht2, hs2, ht2, hs2, f1, f2, f8, f10, f15, f16, f17, f31, f32, k1, k2, k3, f33, hm2, h4, h5, n5, c4, Int.cast_ofNat_Int, Int.reduceToNat, Int.zero_add, Int.reduceAdd, Nat.reduceAdd, bi, encK]
          refine Xdraw_intro [0, 1, 2, 3, 4, 5, 6, 7, 8, 9, 10, 11, 12, 13, 14] mixed (by kernel_rfl) (by decide +kernel) ?_
          simp (maxDischargeDepth := 9) only [↓gB, gV, gT, reduceIte, reduceCtorEq, Nat.reduceEqDiff, Nat.reduceAdd, Nat.reduceSub, Nat.reduceLeDiff, Nat.reduceLT, Int.reduceEq, Nat.reduceMul, h1, hm, f17, f1, f2, f8, f16, c3, f15, e1, h2, h3, n3, hne2, hne3, hm2, ht2, hs2, ht2, hs2, f1, f2, f8, f10, f15, f16, f17, f31, f32, k1, k2, k3, f33, hm2, h4, h5, n5, c4, Int.cast_ofNat_Int, Int.reduceToNat, Int.zero_add, Int.reduceAdd, Nat.reduceAdd, bi, encK]
          have p1 := mt94.look (kv := Go.Value.agg #[Go.Value.int Go.IntKind.i64 (Go.IntKind.i64.wrap (x1.a + 0)), Go.Value.int Go.IntKind.i64 (Go.IntKind.i64.wrap (x1.b + -1)), Go.GL.V x1.h]) (G := (G'.put r4 (Go.Obj.cells #[Go.GL.V 0, Go.GL.V (-1), Go.GL.V d] 119, Bool.true)).put r5 (Go.Obj.cells #[Go.Value.int Go.IntKind.i64 (Go.IntKind.i64.wrap (x1.a + 0)), Go.Value.int Go.IntKind.i64 (Go.IntKind.i64.wrap (x1.b + -1))] 24, Bool.true)) ((put_pk (by assumption) (kn_put _ _ _ _ (kn_of hm2))).trans ((put_pk (by assumption) (kn_of hm2)).trans hm2)) (_, _, _) rfl
          simp (maxDischargeDepth := 9) only [↓gB, gV, gT, reduceIte, reduceCtorEq, Nat.reduceEqDiff, Nat.reduceAdd, Nat.reduceSub, Nat.reduceLeDiff, Nat.reduceLT, Int.reduceEq, Nat.reduceMul, h1, hm, f17, f1, f2, f8, f16, c3, f15, e1, h2, h3, n3, hne2, hne3, hm2, ht2, hs2, ht2, hs2, f1, f2, f8, f10, f15, f16, f17, f31, f32, k1, k2, k3, f33, hm2, h4, h5, n5, c4, p1, Int.cast_ofNat_Int, Int.reduceToNat, Int.zero_add, Int.reduceAdd, Nat.reduceAdd, bi, encK]
          refine mt94.ment ((put_pk (by assumption) (kn_put _ _ _ _ (kn_of hm2))).trans ((put_pk (by assumption) (kn_of hm2)).trans hm2)) (_, _, _) rfl ?_
          simp (maxDischargeDepth := 9) only [↓gB, gV, gT, reduceIte, reduceCtorEq, Nat.reduceEqDiff, Nat.reduceAdd, Nat.reduceSub, Nat.reduceLeDiff, Nat.reduceLT, Int.reduceEq, Nat.reduceMul, h1, hm, f17, f1, f2, f8, f16, c3, f15, e1, h2, h3, n3, hne2, hne3, hm2, ht2, hs2, ht2, hs2, f1, f2, f8, f10, f15, f16, f17, f31, f32, k1, k2, k3, f33, hm2, h4, h5, n5, c4, p1, Int.cast_ofNat_Int, Int.reduceToNat, Int.zero_add, Int.reduceAdd, Nat.reduceAdd, bi, encK]
          refine mt89.ent (put_self _ _ _) _ rfl ?_
          simp (maxDischargeDepth := 9) only [↓gB, gV, gT, reduceIte, reduceCtorEq, Nat.reduceEqDiff, Nat.reduceAdd, Nat.reduceSub, Nat.reduceLeDiff, Nat.reduceLT, Int.reduceEq, Nat.reduceMul, h1, hm, f17, f1, f2, f8, f16, c3, f15, e1, h2, h3, n3, hne2, hne3, hm2, ht2, hs2, ht2, hs2, f1, f2, f8, f10, f15, f16, f17, f31, f32, k1, k2, k3, f33, hm2, h4, h5, n5, c4, p1, Int.cast_ofNat_Int, Int.reduceToNat, Int.zero_add, Int.reduceAdd, Nat.reduceAdd, bi, encK]
          have q1 : Go.IntKind.i64.wrap (5) = 5 := wrap_id (by omega)
          simp (maxDischargeDepth := 9) only [↓gB, gV, gT, reduceIte, reduceCtorEq, Nat.reduceEqDiff, Nat.reduceAdd, Nat.reduceSub, Nat.reduceLeDiff, Nat.reduceLT, Int.reduceEq, Nat.reduceMul, h1, hm, f17, f1, f2, f8, f16, c3, f15, e1, h2, h3, n3, hne2, hne3, hm2, ht2, hs2, ht2, hs2, f1, f2, f8, f10, f15, f16, f17, f31, f32, k1, k2, k3, f33, hm2, h4, h5, n5, c4, p1, q1, Int.cast_ofNat_Int, Int.reduceToNat, Int.zero_add, Int.reduceAdd, Nat.reduceAdd, bi, encK]
          rw [N_lp]
          refine ⟨_, ?_, _, sub_refl _, 5, 5, rfl, ?_, ?_, ?_, ?_, ?_, by simp (maxDischargeDepth := 9) only [↓gB, gV, gT, reduceIte, reduceCtorEq, Nat.reduceEqDiff, Nat.reduceAdd, Nat.reduceSub, Nat.reduceLeDiff, Nat.reduceLT, Int.reduceEq, Nat.reduceMul, h1, hm, f17, f1, f2, f8, f16, c3, f15, e1, h2, h3, n3, hne2, hne3, hm2, ht2, hs2, ht2, hs2, f1, f2, f8, f10, f15, f16, f17, f31, f32, k1, k2, k3, f33, hm2, h4, h5, n5, c4, p1, q1, Int.cast_ofNat_Int, Int.reduceToNat, Int.zero_add, Int.reduceAdd, Nat.reduceAdd, bi, encK, nat_succ, and_self]⟩
          · omega
          · omega
          · (rw [refs_at (n := 4) (p := (0, (-1), d)) rfl, ref1, if_pos c4]; exact put_self _ _ _; done)
          · (exact (put_not _ _ hne2).trans (pk2 h4 h5 ht2); done)
          · (exact (put_not _ _ hne3).trans (pk2 h4 h5 hs2); done)
          · (simp (maxDischargeDepth := 9) only [le_self, le_puts, le_put0, sub_self, sub_puts, sub_put0, h1, hle, h2, h3, n3, hle2, hle2, h4, h5, n5]; done)
      · focus
          simp (maxDischargeDepth := 9) only [↓gB, gV, gT, reduceIte, reduceCtorEq, Nat.reduceEqDiff, Nat.reduceAdd, Nat.reduceSub, Nat.reduceLeDiff, Nat.reduceLT, Int.reduceEq, Nat.reduceMul, h1, hm, f17, f1, f2, f8, f16, c3, f15, e1, h2, h3, n3, hne2, hne3, hm2, ht2, hs2, ht2, hs2, f1, f2, f8, f10, f15, f16, f17, f31, f32, k1, k2, k3, f33, hm2, h4, h5, n5, c4, Int.cast_ofNat_Int, Int.reduceToNat, Int.zero_add, Int.reduceAdd, Nat.reduceAdd, bi]
          have q1 : Go.IntKind.i64.wrap (5) = 5 := wrap_id (by omega)
          simp (maxDischargeDepth := 9) only [↓gB, gV, gT, reduceIte, reduceCtorEq, Nat.reduceEqDiff, Nat.reduceAdd, Nat.reduceSub, Nat.reduceLeDiff, Nat.reduceLT, Int.reduceEq, Nat.reduceMul, h1, hm, f17, f1, f2, f8, f16, c3, f15, e1, h2, h3, n3, hne2, hne3, hm2, ht2, hs2, ht2, hs2, f1, f2, f8, f10, f15, f16, f17, f31, f32, k1, k2, k3, f33, hm2, h4, h5, n5, c4, q1, Int.cast_ofNat_Int, Int.reduceToNat, Int.zero_add, Int.reduceAdd, Nat.reduceAdd, bi]
          rw [N_lp]
          refine ⟨_, ?_, _, sub_refl _, 5, 5, rfl, ?_, ?_, ?_, ?_, ?_, by simp (maxDischargeDepth := 9) only [↓gB, gV, gT, reduceIte, reduceCtorEq, Nat.reduceEqDiff, Nat.reduceAdd, Nat.reduceSub, Nat.reduceLeDiff, Nat.reduceLT, Int.reduceEq, Nat.reduceMul, h1, hm, f17, f1, f2, f8, f16, c3, f15, e1, h2, h3, n3, hne2, hne3, hm2, ht2, hs2, ht2, hs2, f1, f2, f8, f10, f15, f16, f17, f31, f32, k1, k2, k3, f33, hm2, h4, h5, n5, c4, q1, Int.cast_ofNat_Int, Int.reduceToNat, Int.zero_add, Int.reduceAdd, Nat.reduceAdd, bi, nat_succ, and_self]⟩
          · omega
          · omega
          · (rw [refs_at (n := 4) (p := (0, (-1), d)) rfl, ref1, if_neg (by rw [c4]; decide)]; exact pk2 h4 h5 hm2; done)
          · (exact pk2 h4 h5 ht2; done)
          · (exact pk2 h4 h5 hs2; done)
          · (simp (maxDischargeDepth := 9) only [le_self, le_puts, le_put0, sub_self, sub_puts, sub_put0, h1, hle, h2, h3, n3, hle2, hle2, h4, h5, n5]; done)
    · focus
        simp (maxDischargeDepth := 9) only [↓gB, gV, gT, reduceIte, reduceCtorEq, Nat.reduceEqDiff, Nat.reduceAdd, Nat.reduceSub, Nat.reduceLeDiff, Nat.reduceLT, Int.reduceEq, Nat.reduceMul, h1, hm, f17, f1, f2, f8, f16, c3, f15, e1, h2, h3, n3, hne2, hne3, hm2, ht2, hs2, ht2, hs2, f1, f2, f8, f10, f15, f16, f17, f31, f32, k1, k2, k3, f33, hm2, Int.cast_ofNat_Int, Int.reduceToNat, Int.zero_add, Int.reduceAdd, Nat.reduceAdd]
        refine Xc_neg _ _ _ _ _ (by omega) ?_
        simp (maxDischargeDepth := 9) only [↓gB, gV, gT, reduceIte, reduceCtorEq, Nat.reduceEqDiff, Nat.reduceAdd, Nat.reduceSub, Nat.reduceLeDiff, Nat.reduceLT, Int.reduceEq, Nat.reduceMul, h1, hm, f17, f1, f2, f8, f16, c3, f15, e1, h2, h3, n3, hne2, hne3, hm2, ht2, hs2, ht2, hs2, f1, f2, f8, f10, f15, f16, f17, f31, f32, k1, k2, k3, f33, hm2, Int.cast_ofNat_Int, Int.reduceToNat, Int.zero_add, Int.reduceAdd, Nat.reduceAdd]
        have q1 : Go.IntKind.i64.wrap (↑i + 1) = ↑i + 1 := wrap_id (by omega)
        simp (maxDischargeDepth := 9) only [↓gB, gV, gT, reduceIte, reduceCtorEq, Nat.reduceEqDiff, Nat.reduceAdd, Nat.reduceSub, Nat.reduceLeDiff, Nat.reduceLT, Int.reduceEq, Nat.reduceMul, h1, hm, f17, f1, f2, f8, f16, c3, f15, e1, h2, h3, n3, hne2, hne3, hm2, ht2, hs2, ht2, hs2, f1, f2, f8, f10, f15, f16, f17, f31, f32, k1, k2, k3, f33, hm2, q1, Int.cast_ofNat_Int, Int.reduceToNat, Int.zero_add, Int.reduceAdd, Nat.reduceAdd]
        rw [N_lp]
        refine ⟨_, ?_, _, sub_refl _, i + 1, rfl, ?_, ?_, ?_, by simp (maxDischargeDepth := 9) only [↓gB, gV, gT, reduceIte, reduceCtorEq, Nat.reduceEqDiff, Nat.reduceAdd, Nat.reduceSub, Nat.reduceLeDiff, Nat.reduceLT, Int.reduceEq, Nat.reduceMul, h1, hm, f17, f1, f2, f8, f16, c3, f15, e1, h2, h3, n3, hne2, hne3, hm2, ht2, hs2, ht2, hs2, f1, f2, f8, f10, f15, f16, f17, f31, f32, k1, k2, k3, f33, hm2, q1, Int.cast_ofNat_Int, Int.reduceToNat, Int.zero_add, Int.reduceAdd, Nat.reduceAdd, nat_succ, and_self]⟩
        · omega
        · omega
        · (rw [refL_snoc m1]; exact hm2; done)
        · assumption
  · rw [List.take_of_length_le (by omega)] at hm
    have hsl := refL_len s d l
    simp (maxDischargeDepth := 9) only [↓gB, gV, gT, reduceIte, reduceCtorEq, Nat.reduceEqDiff, Nat.reduceAdd, Nat.reduceSub, Nat.reduceLeDiff, Nat.reduceLT, Int.reduceEq, Nat.reduceMul, h1, hm, f17, f1, f2, f8, f15, f16, c3]
    refine Ycg (g74 hm hS (by omega)) (refOut_up _) ?_
    rintro u G2 hle2 hu
    have hu' := hu
    unfold refOut at hu'
    have hex : ∃ w e, u = .tuple #[w, V e] := by
      split at hu'
      · exact ⟨_, _, hu'⟩
      · obtain ⟨_, _, _, w, _, h⟩ := hu'; exact ⟨_, _, h⟩
    obtain ⟨w, e, rfl⟩ := hex
    simp (maxDischargeDepth := 9) only [↓gB, gV, gT, reduceIte, reduceCtorEq, Nat.reduceEqDiff, Nat.reduceAdd, Nat.reduceSub, Nat.reduceLeDiff, Nat.reduceLT, Int.reduceEq, Nat.reduceMul, h1, hm, f17, f1, f2, f8, f15, f16, c3]
    refine Kup_gives (sub_refl _) (hle.trans hle2) hu
end Go.Proofs.Ytgkdbjnmlecimaa
namespace Go.Proofs.Ytgkdbjnmlecimaa
open Go Go.GL
set_option maxRecDepth 10000
set_option maxHeartbeats 0
theorem p6 {G0 : GH} {x y s : Int}  : Pure Try.prog G0 6 [V x, V y, V s] (if (point x y && within s 1 10000) then .tuple #[.agg #[V (fdiv x s), V (fdiv y s)], V 0] else .tuple #[.agg #[V 0, V 0], V 1]) := by
  intro G hG
  clear hG G0
  refine enter Try.func6 24 #[.cell 6 24, .tmp 7] rfl Try.ntmps6 rfl (by decide +kernel) rfl ?_
  rcases bool_tf (point x y) with c1 | c1
  · rcases bool_tf (within s 1 10000) with c2 | c2
    · have hs : s ≠ 0 := by have := (within_iff.1 c2).1; omega
      simp (maxDischargeDepth := 9) only [↓gB, gV, gT, reduceIte, reduceCtorEq, Nat.reduceEqDiff, Nat.reduceAdd, Nat.reduceSub, Nat.reduceLeDiff, Nat.reduceLT, Int.reduceEq, Nat.reduceMul, c1, c2]
      refine Yn2 fun r1 h1 => ?_
      simp (maxDischargeDepth := 9) only [↓gB, gV, gT, reduceIte, reduceCtorEq, Nat.reduceEqDiff, Nat.reduceAdd, Nat.reduceSub, Nat.reduceLeDiff, Nat.reduceLT, Int.reduceEq, Nat.reduceMul, c1, c2, h1]
      refine Ycp (p48) ?_
      simp (maxDischargeDepth := 9) only [↓gB, gV, gT, reduceIte, reduceCtorEq, Nat.reduceEqDiff, Nat.reduceAdd, Nat.reduceSub, Nat.reduceLeDiff, Nat.reduceLT, Int.reduceEq, Nat.reduceMul, c1, c2, h1]
      refine Ycp (p49) ?_
      simp (maxDischargeDepth := 9) only [↓gB, gV, gT, reduceIte, reduceCtorEq, Nat.reduceEqDiff, Nat.reduceAdd, Nat.reduceSub, Nat.reduceLeDiff, Nat.reduceLT, Int.reduceEq, Nat.reduceMul, c1, c2, h1]
      refine Ycp (p50 (by assumption)) ?_
      simp (maxDischargeDepth := 9) only [↓gB, gV, gT, reduceIte, reduceCtorEq, Nat.reduceEqDiff, Nat.reduceAdd, Nat.reduceSub, Nat.reduceLeDiff, Nat.reduceLT, Int.reduceEq, Nat.reduceMul, c1, c2, h1]
      refine Ycp (p50 (by assumption)) ?_
      simp (maxDischargeDepth := 9) only [↓gB, gV, gT, reduceIte, reduceCtorEq, Nat.reduceEqDiff, Nat.reduceAdd, Nat.reduceSub, Nat.reduceLeDiff, Nat.reduceLT, Int.reduceEq, Nat.reduceMul, c1, c2, h1]
      exact Kup_val (by simp (maxDischargeDepth := 9) only [le_self, le_puts, le_put0, h1]) rfl
    · simp (maxDischargeDepth := 9) only [↓gB, gV, gT, reduceIte, reduceCtorEq, Nat.reduceEqDiff, Nat.reduceAdd, Nat.reduceSub, Nat.reduceLeDiff, Nat.reduceLT, Int.reduceEq, Nat.reduceMul, c1, c2]
      refine Yn2 fun r1 h1 => ?_
      simp (maxDischargeDepth := 9) only [↓gB, gV, gT, reduceIte, reduceCtorEq, Nat.reduceEqDiff, Nat.reduceAdd, Nat.reduceSub, Nat.reduceLeDiff, Nat.reduceLT, Int.reduceEq, Nat.reduceMul, c1, c2, h1]
      refine Ycp (p48) ?_
      simp (maxDischargeDepth := 9) only [↓gB, gV, gT, reduceIte, reduceCtorEq, Nat.reduceEqDiff, Nat.reduceAdd, Nat.reduceSub, Nat.reduceLeDiff, Nat.reduceLT, Int.reduceEq, Nat.reduceMul, c1, c2, h1]
      refine Ycp (p49) ?_
      simp (maxDischargeDepth := 9) only [↓gB, gV, gT, reduceIte, reduceCtorEq, Nat.reduceEqDiff, Nat.reduceAdd, Nat.reduceSub, Nat.reduceLeDiff, Nat.reduceLT, Int.reduceEq, Nat.reduceMul, c1, c2, h1]
      exact Kup_val (by simp (maxDischargeDepth := 9) only [le_self, le_puts, le_put0, h1]) rfl
  · simp (maxDischargeDepth := 9) only [↓gB, gV, gT, reduceIte, reduceCtorEq, Nat.reduceEqDiff, Nat.reduceAdd, Nat.reduceSub, Nat.reduceLeDiff, Nat.reduceLT, Int.reduceEq, Nat.reduceMul, c1]
    refine Yn2 fun r1 h1 => ?_
    simp (maxDischargeDepth := 9) only [↓gB, gV, gT, reduceIte, reduceCtorEq, Nat.reduceEqDiff, Nat.reduceAdd, Nat.reduceSub, Nat.reduceLeDiff, Nat.reduceLT, Int.reduceEq, Nat.reduceMul, c1, h1]
    refine Ycp (p48) ?_
    simp (maxDischargeDepth := 9) only [↓gB, gV, gT, reduceIte, reduceCtorEq, Nat.reduceEqDiff, Nat.reduceAdd, Nat.reduceSub, Nat.reduceLeDiff, Nat.reduceLT, Int.reduceEq, Nat.reduceMul, c1, h1]
    exact Kup_val (by simp (maxDischargeDepth := 9) only [le_self, le_puts, le_put0, h1]) rfl
theorem p21 {G0 : GH}   : Pure Try.prog G0 21 [] (.bool true) := by
  intro G hG
  clear hG G0
  refine enter Try.func21 14 #[.tmp 0] rfl Try.ntmps21 rfl (by decide +kernel) rfl ?_
  have c1 : point (-1) 250 = true := by decide
  have c2 : within 100 1 10000 = true := by decide
  have c3 : fdiv (-1) 100 = -1 := by decide
  have c4 : fdiv 250 100 = 2 := by decide
  simp (maxDischargeDepth := 9) only [↓gB, gV, gT, reduceIte, reduceCtorEq, Nat.reduceEqDiff, Nat.reduceAdd, Nat.reduceSub, Nat.reduceLeDiff, Nat.reduceLT, Int.reduceEq, Nat.reduceMul, c1, c2, c3, c4]
  refine Ycp (p6) ?_
  simp (maxDischargeDepth := 9) only [↓gB, gV, gT, reduceIte, reduceCtorEq, Nat.reduceEqDiff, Nat.reduceAdd, Nat.reduceSub, Nat.reduceLeDiff, Nat.reduceLT, Int.reduceEq, Nat.reduceMul, c1, c2, c3, c4]
  refine Yn2 fun r1 h1 => ?_
  simp (maxDischargeDepth := 9) only [↓gB, gV, gT, reduceIte, reduceCtorEq, Nat.reduceEqDiff, Nat.reduceAdd, Nat.reduceSub, Nat.reduceLeDiff, Nat.reduceLT, Int.reduceEq, Nat.reduceMul, c1, c2, c3, c4, h1]
  exact Kup_val (by simp (maxDischargeDepth := 9) only [le_self, le_puts, le_put0, h1]) rfl
end Go.Proofs.Ytgkdbjnmlecimaa
namespace Go.Proofs.Ytgkdbjnmlecimaa
open Go Go.GL
set_option maxRecDepth 10000
set_option maxHeartbeats 0
theorem mset_same {κ β : Type} [DecidableEq κ] {k : κ} {v : β} {l : List (κ × β)} (h : mhas k l = true) : (mset k v l).map (·.1) = l.map (·.1) := by rw [mset_keys, if_pos h]
theorem mset_more {κ β : Type} [DecidableEq κ] {k : κ} {v : β} {l : List (κ × β)} (h : mhas k l = false) : (mset k v l).map (·.1) = l.map (·.1) ++ [k] := by rw [mset_keys, if_neg (by rw [h]; decide)]
theorem chg_cset : ∀ (l : List Tly) (y : Tly) (S : List ((Int × Int) × Bool)), (y :: l).Pairwise (fun x y => ¬ tcmp y x < 0) → mhas (y.a, y.b) S = true → (∀ c ∈ S.map (·.1), c.1 < y.a ∨ c.1 = y.a ∧ c.2 ≤ y.b) →
    ((l.foldl (fun m x => mset (x.a, x.b) true m) S).length : Int) = S.length + chg (some y) l
  | [], y, S, _, _, _ => by simp [chg]
  | x :: l, y, S, hp, hy, hS => by
    have hyx := (List.pairwise_cons.1 hp).1 x (by simp)
    rw [tcmp_lt] at hyx
    rw [List.foldl_cons]
    by_cases e : x.a = y.a ∧ x.b = y.b
    · have hs := mset_same (v := true) hy
      have hl : (mset (y.a, y.b) true S).length = S.length := by rw [← List.length_map (f := (·.1)), hs, List.length_map]
      rw [e.1, e.2, chg_cset l x _ (List.pairwise_cons.1 hp).2 (by rw [e.1, e.2, mhas_mset]; simp) (by rw [e.1, e.2, hs]; exact hS), hl]
      conv => rhs; unfold chg
      simp [e.1, e.2]
    · have hnm : mhas (x.a, x.b) S = false := by
        rw [← Bool.not_eq_true, mhas_mem]
        intro hm
        have := hS _ hm
        simp only at this
        omega
      have hs := mset_more (v := true) hnm
      have hl : (mset (x.a, x.b) true S).length = S.length + 1 := by rw [← List.length_map (f := (·.1)), hs, List.length_append, List.length_map]; rfl
      rw [chg_cset l x _ (List.pairwise_cons.1 hp).2 (by rw [mhas_mset]; simp) ?_, hl]
      · have hd : (decide (x.a = y.a) && decide (x.b = y.b)) = false := by
          rw [← Bool.not_eq_true]; simp only [Bool.and_eq_true, decide_eq_true_eq]; exact e
        conv => rhs; unfold chg
        simp only [Option.any_some, hd]
        simp; omega
      · intro c hc
        rw [hs] at hc
        rcases List.mem_append.1 hc with hc | hc
        · have := hS c hc; omega
        · simp at hc; subst hc; simp
theorem chg_cells (m : List Tly) (h : sortedT m) : chg none m = (cellSet m).length := by
  cases m with
  | nil => rfl
  | cons x l =>
    unfold cellSet
    rw [List.foldl_cons]
    rw [chg_cset l x _ h (by rw [mhas_mset]; simp) (by simp [mset])]
    rfl
theorem checks_same (l : List Tly) : checkTallies2 l = checkTallies l := by
  unfold checkTallies2 checkTallies
  by_cases h0 : 67200 < l.length
  · rw [if_pos h0, if_pos h0]
  · rw [if_neg h0, if_neg h0]
    by_cases h1 : tlyFault none l ≠ 0
    · rw [if_pos h1, if_pos h1]
    · rw [if_neg h1, if_neg h1, chg_cells]
      have := (tly_sorted (by simpa using h1 : tlyFault none l = 0)).1
      refine this.imp ?_
      intro x y h
      rw [tcmp_flip x y]; omega
def tot (k : Key) : List (Key × Int) → Int
  | [] => 0
  | p :: l => (if k = p.1 then p.2 else 0) + tot k l
theorem tot_perm (k : Key) {l m : List (Key × Int)} (h : l.Perm m) : tot k l = tot k m := by
  induction h with
  | nil => rfl
  | cons x _ ih => simp only [tot, ih]
  | swap x y l => simp only [tot]; omega
  | trans _ _ h1 h2 => exact h1.trans h2
def accK (ps : List (Key × Int)) : List (Key × Int) := ps.foldl (fun m p => addK p.1 p.2 m) []
theorem accK_tot : ∀ (ps : List (Key × Int)) (m : List (Key × Int)) (C : Int), (∀ p ∈ ps, 0 ≤ p.2 ∧ p.2 ≤ 1000000000000) → (∀ k, 0 ≤ mget 0 k m ∧ mget 0 k m ≤ C) → C + 1000000000000 * ps.length ≤ 9223372036854775807 →
    ∀ k, mget 0 k (ps.foldl (fun m p => addK p.1 p.2 m) m) = mget 0 k m + tot k ps
  | [], m, C, _, _, _, k => by simp [tot]
  | p :: ps, m, C, h1, h2, h3, k => by
    have hp := h1 p (by simp)
    simp only [List.length_cons] at h3
    have e : ∀ k, mget 0 k (addK p.1 p.2 m) = mget 0 k m + (if k = p.1 then p.2 else 0) := by
      intro k
      have hk := h2 p.1
      unfold addK
      rw [mget_mset, wrap_id (by omega)]
      split
      · rename_i q; rw [q]
      · omega
    rw [List.foldl_cons, accK_tot ps _ (C + 1000000000000) (fun q hq => h1 q (by simp [hq])) ?_ (by omega) k, e k]
    · simp only [tot]; omega
    · intro j
      have hj := h2 j
      rw [e j]
      split <;> omega
theorem accK_keys (ps : List (Key × Int)) : ((accK ps).map (·.1)).Nodup := by
  have : ∀ (ps m : List (Key × Int)), (m.map (·.1)).Nodup → ((ps.foldl (fun m p => addK p.1 p.2 m) m).map (·.1)).Nodup := by
    intro ps
    induction ps with
    | nil => intro m h; exact h
    | cons c l ih => intro m h; exact ih _ (mset_nodup _ _ h)
  exact this ps [] (by simp)
theorem accK_get {ps : List (Key × Int)} (h : ∀ p ∈ ps, 0 ≤ p.2 ∧ p.2 ≤ 1000000000000) (hn : ps.length ≤ 1000000) (k : Key) : mget 0 k (accK ps) = tot k ps := by
  unfold accK
  rw [accK_tot ps [] 0 h (by simp [mget]) (by omega) k]
  simp [mget]
theorem tot_pos (k : Key) : ∀ (ps : List (Key × Int)), (∀ p ∈ ps, 0 ≤ p.2 ∧ p.2 ≤ 1000000000000) → 0 ≤ tot k ps
  | [], _ => by simp [tot]
  | p :: ps, h => by
    have h1 := h p (by simp)
    have h2 := tot_pos k ps (fun q hq => h q (by simp [hq]))
    simp only [tot]
    split <;> omega
theorem mget_at {M : List (Key × Int)} (h : (M.map (·.1)).Nodup) {p : Key × Int} (hp : p ∈ M) : mget 0 p.1 M = p.2 := by
  induction M with
  | nil => simp at hp
  | cons q M ih =>
    simp only [List.map_cons, List.nodup_cons] at h
    unfold mget
    rcases List.mem_cons.1 hp with rfl | hp
    · simp
    · rw [if_neg, ih h.2 hp]
      intro e
      exact h.1 (e ▸ List.mem_map.2 ⟨p, hp, rfl⟩)
theorem mget_in {M : List (Key × Int)} {k : Key} (h : mget 0 k M ≠ 0) : (k, mget 0 k M) ∈ M := by
  induction M with
  | nil => simp [mget] at h
  | cons q M ih =>
    unfold mget at h ⊢
    by_cases e : k = q.1
    · rw [if_pos e, e]; simp
    · rw [if_neg e] at h ⊢; exact List.mem_cons.2 (.inr (ih h))
theorem tp_mem {M : List (Key × Int)} (hM : (M.map (·.1)).Nodup) {q : Int → Bool} (q0 : q 0 = false) (x : Tly) : x ∈ talliesP q M ↔ mget 0 (x.a, x.b, x.h) M = x.k ∧ q x.k = true := by
  unfold talliesP
  rw [List.mem_map]
  constructor
  · rintro ⟨p, hp, rfl⟩
    obtain ⟨h1, h2⟩ := List.mem_filter.1 hp
    exact ⟨mget_at hM h1, h2⟩
  · rintro ⟨h1, h2⟩
    refine ⟨((x.a, x.b, x.h), x.k), List.mem_filter.2 ⟨?_, h2⟩, rfl⟩
    have := mget_in (M := M) (k := (x.a, x.b, x.h)) (by rw [h1]; intro e; rw [e, q0] at h2; exact Bool.noConfusion h2)
    rwa [h1] at this
theorem tp_nodup {M : List (Key × Int)} (hM : (M.map (·.1)).Nodup) (q : Int → Bool) : (talliesP q M).Nodup := by
  unfold talliesP
  have h1 : (M.filter (fun p => q p.2)).Pairwise (fun x y => x.1 ≠ y.1) := (List.pairwise_map.1 hM).filter _
  refine List.pairwise_map.2 (h1.imp ?_)
  rintro ⟨⟨a, b, c⟩, d⟩ ⟨⟨a', b', c'⟩, d'⟩ h e
  simp [mkT] at e
  exact h (by simp [e])
theorem tp_perm {M N : List (Key × Int)} (hM : (M.map (·.1)).Nodup) (hN : (N.map (·.1)).Nodup) (hg : ∀ k, mget 0 k M = mget 0 k N) {q q' : Int → Bool} (q0 : q 0 = false) (q0' : q' 0 = false) (hq : ∀ k, q (mget 0 k M) = q' (mget 0 k M)) : (talliesP q M).Perm (talliesP q' N) := by
  refine (List.perm_ext_iff_of_nodup (tp_nodup hM q) (tp_nodup hN q')).2 ?_
  intro x
  rw [tp_mem hM q0, tp_mem hN q0', ← hg]
  constructor
  · rintro ⟨h1, h2⟩; exact ⟨h1, by rw [← h1] at h2 ⊢; rw [← hq]; exact h2⟩
  · rintro ⟨h1, h2⟩; exact ⟨h1, by rw [← h1] at h2 ⊢; rw [hq]; exact h2⟩
theorem tly_same {M : List (Key × Int)} (hM : (M.map (·.1)).Nodup) {q : Int → Bool} (q0 : q 0 = false) {m n : List Tly} (hm : m.Perm (talliesP q M)) (hn : n.Perm (talliesP q M)) (sm : sortedT m) (sn : sortedT n) : m = n := by
  refine List.Perm.eq_of_pairwise (le := fun x y => ¬ tcmp y x < 0) ?_ sm sn (hm.trans hn.symm)
  intro x y hx hy h1 h2
  rw [tcmp_lt] at h1 h2
  have ex := ((tp_mem hM q0 x).1 (hm.mem_iff.1 hx)).1
  have ey := ((tp_mem hM q0 y).1 (hn.mem_iff.1 hy)).1
  have e : x.a = y.a ∧ x.b = y.b ∧ x.h = y.h := by omega
  obtain ⟨a, b, c, d⟩ := x; obtain ⟨a', b', c', d'⟩ := y
  simp only at e ex ey
  obtain ⟨rfl, rfl, rfl⟩ := e
  rw [← ex, ← ey]
theorem out_same {M N : List (Key × Int)} (hM : (M.map (·.1)).Nodup) (hN : (N.map (·.1)).Nodup) (hg : ∀ k, mget 0 k M = mget 0 k N) (hp : ∀ k, 0 ≤ mget 0 k M) {t : List Tly} (ht : t.Perm (talliesP (fun n => decide (0 < n)) M)) (st : sortedT t) {G : GH} {u : Value} (hu : refOut N G u) :
    ∃ w, u = .tuple #[w, V (tlyOut M t)] ∧ (if tlyOut M t = 0 then RSl rTly G w t else w = .slice none 0 0) := by
  have hpm : (talliesP (fun n => decide (0 < n)) M).Perm (talliesP (fun n => !decide (n = 0)) N) := by
    refine tp_perm hM hN hg (by decide) (by decide) ?_
    intro k
    have := hp k
    by_cases e : mget 0 k M = 0
    · rw [e]; decide
    · rw [decide_eq_true (by omega : 0 < mget 0 k M), decide_eq_false e]; rfl
  have hany : (t.any fun x => decide (1000000000 < x.k)) = N.any (fun p => decide (1000000000 < p.2)) := by
    rw [Bool.eq_iff_iff, List.any_eq_true, List.any_eq_true]
    constructor
    · rintro ⟨x, hx, h⟩
      have h1 := ((tp_mem hM (by decide) x).1 (ht.mem_iff.1 hx)).1
      have h2 : 1000000000 < x.k := by simpa using h
      rw [hg] at h1
      exact ⟨_, mget_in (k := (x.a, x.b, x.h)) (by omega), by rw [h1]; exact h⟩
    · rintro ⟨p, hp', h⟩
      have h1 := mget_at hN hp'
      have h2 : 1000000000 < p.2 := by simpa using h
      refine ⟨mkT p, ht.mem_iff.2 ((tp_mem hM (by decide) _).2 ⟨by rw [hg]; exact h1, ?_⟩), h⟩
      show decide (0 < p.2) = true
      exact decide_eq_true (by omega)
  unfold refOut at hu
  unfold tlyOut
  rw [hany]
  split at hu
  · rename_i h
    rw [if_pos h]
    exact ⟨_, hu, by rw [if_neg (by decide)]⟩
  · rename_i h
    rw [if_neg h]
    obtain ⟨m, hm, sm, w, h1, h2⟩ := hu
    have e := tly_same hM (by decide) ht (hm.trans hpm.symm) st sm
    subst e
    rw [checks_same] at h1 h2
    exact ⟨w, h2, h1⟩
end Go.Proofs.Ytgkdbjnmlecimaa
namespace Go.Proofs.Ytgkdbjnmlecimaa
open Go Go.GL
set_option maxRecDepth 10000
set_option maxHeartbeats 0
theorem sumOf_acc (l : List Tly) : sumOf l = accK (l.map fun x => ((x.a, x.b, x.h), x.k)) := by
  unfold sumOf accK; rw [List.foldl_map]
theorem okT_iff {x : Tly} (h : okT x = true) : -10000 ≤ x.a ∧ x.a ≤ 10000 ∧ -10000 ≤ x.b ∧ x.b ≤ 10000 ∧ 1 ≤ x.k ∧ x.k ≤ 1000000000 := by
  simp only [okT, point, coord, houred, within, Bool.and_eq_true, decide_eq_true_eq] at h
  omega
theorem all_ok {l : List Tly} (h : checkTallies l = 0) : l.length ≤ 67200 ∧ ∀ x ∈ l, okT x = true := by
  unfold checkTallies at h
  split at h
  · omega
  · rename_i h0
    split at h
    · rename_i h1; omega
    · rename_i h1
      exact ⟨by omega, (tly_sorted (by simpa using h1 : tlyFault none l = 0)).2.2⟩
theorem sum_law {l m : List Tly} (hl : checkTallies l = 0) (hm : checkTallies m = 0) : ((sumOf (l ++ m)).map (·.1)).Nodup ∧ ∀ k, 0 ≤ mget 0 k (sumOf (l ++ m)) := by
  rw [sumOf_acc]
  refine ⟨accK_keys _, fun k => ?_⟩
  have hb : ∀ p ∈ ((l ++ m).map fun x => ((x.a, x.b, x.h), x.k) : List (Key × Int)), 0 ≤ p.2 ∧ p.2 ≤ 1000000000000 := by
    intro p hp
    obtain ⟨x, hx, rfl⟩ := List.mem_map.1 hp
    have : okT x = true := by
      rcases List.mem_append.1 hx with h | h
      · exact (all_ok hl).2 x h
      · exact (all_ok hm).2 x h
    have := okT_iff this
    simp only; omega
  have h1 := (all_ok hl).1
  have h2 := (all_ok hm).1
  rw [accK_get hb (by rw [List.length_map, List.length_append]; omega)]
  exact tot_pos k _ hb
def pp (a b h n : Int) : List (Key × Int) := if point a b then [((a, b, h), n)] else []
theorem pp_addP (a b h n : Int) (m : List (Key × Int)) : (pp a b h n).foldl (fun m p => addK p.1 p.2 m) m = addP a b h n m := by
  unfold pp addP; split <;> rfl
def pS (s d : Int) (x : Tly) : List (Key × Int) :=
  pp x.a x.b x.h (s * x.k) ++ (pp (x.a - 1) x.b x.h (d * x.k) ++ (pp (x.a + 1) x.b x.h (d * x.k) ++ (pp x.a (x.b - 1) x.h (d * x.k) ++ pp x.a (x.b + 1) x.h (d * x.k))))
def pR (s d : Int) (x : Tly) : List (Key × Int) :=
  pp x.a x.b x.h (s * x.k) ++ (pp (x.a + 1) x.b x.h (d * x.k) ++ (pp (x.a - 1) x.b x.h (d * x.k) ++ (pp x.a (x.b + 1) x.h (d * x.k) ++ pp x.a (x.b - 1) x.h (d * x.k))))
theorem mul_b {s k : Int} (h1 : 0 ≤ s) (h2 : s ≤ 1000) (h3 : 1 ≤ k) (h4 : k ≤ 1000000000) : 0 ≤ s * k ∧ s * k ≤ 1000000000000 := by
  constructor
  · exact Int.mul_nonneg h1 (by omega)
  · have := Int.mul_le_mul h2 h4 (by omega) (by omega : (0:Int) ≤ 1000)
    omega
theorem smo1_eq {s d : Int} {x : Tly} (hx : okT x = true) (hs : within s 0 1000 = true) (hd : within d 0 1000 = true) (m : List (Key × Int)) : smo1 s d x m = (pS s d x).foldl (fun m p => addK p.1 p.2 m) m := by
  have h := okT_iff hx
  have hs := within_iff.1 hs
  have hd := within_iff.1 hd
  have b1 := mul_b hs.1 hs.2 h.2.2.2.2.1 h.2.2.2.2.2
  have b2 := mul_b hd.1 hd.2 h.2.2.2.2.1 h.2.2.2.2.2
  unfold smo1 pS
  rw [wrap_id (by omega : -9223372036854775808 ≤ s * x.k ∧ s * x.k ≤ 9223372036854775807), wrap_id (by omega : -9223372036854775808 ≤ d * x.k ∧ d * x.k ≤ 9223372036854775807), wrap_id (by omega : -9223372036854775808 ≤ x.a - 1 ∧ x.a - 1 ≤ 9223372036854775807), wrap_id (by omega : -9223372036854775808 ≤ x.a + 1 ∧ x.a + 1 ≤ 9223372036854775807), wrap_id (by omega : -9223372036854775808 ≤ x.b - 1 ∧ x.b - 1 ≤ 9223372036854775807), wrap_id (by omega : -9223372036854775808 ≤ x.b + 1 ∧ x.b + 1 ≤ 9223372036854775807)]
  simp only [List.foldl_append, pp_addP]
theorem ref1_addP (x : Tly) (p : Int × Int × Int) (m : List (Key × Int)) : ref1 x p m = addP (IntKind.i64.wrap (x.a + p.1)) (IntKind.i64.wrap (x.b + p.2.1)) x.h (IntKind.i64.wrap (x.k * p.2.2)) m := rfl
theorem refs_eq {s d : Int} {x : Tly} (hx : okT x = true) (hs : within s 0 1000 = true) (hd : within d 0 1000 = true) (m : List (Key × Int)) : refs s d x 5 m = (pR s d x).foldl (fun m p => addK p.1 p.2 m) m := by
  have h := okT_iff hx
  have hs := within_iff.1 hs
  have hd := within_iff.1 hd
  have b1 := mul_b hs.1 hs.2 h.2.2.2.2.1 h.2.2.2.2.2
  have b2 := mul_b hd.1 hd.2 h.2.2.2.2.1 h.2.2.2.2.2
  unfold refs stn pR
  simp only [List.take, List.foldl_cons, List.foldl_nil, ref1_addP]
  rw [show x.k * s = s * x.k from Int.mul_comm _ _, show x.k * d = d * x.k from Int.mul_comm _ _, show x.a + -1 = x.a - 1 from rfl, show x.b + -1 = x.b - 1 from rfl, Int.add_zero, Int.add_zero]
  rw [wrap_id (by omega : -9223372036854775808 ≤ s * x.k ∧ s * x.k ≤ 9223372036854775807), wrap_id (by omega : -9223372036854775808 ≤ d * x.k ∧ d * x.k ≤ 9223372036854775807), wrap_id (by omega : -9223372036854775808 ≤ x.a - 1 ∧ x.a - 1 ≤ 9223372036854775807), wrap_id (by omega : -9223372036854775808 ≤ x.a + 1 ∧ x.a + 1 ≤ 9223372036854775807), wrap_id (by omega : -9223372036854775808 ≤ x.b - 1 ∧ x.b - 1 ≤ 9223372036854775807), wrap_id (by omega : -9223372036854775808 ≤ x.b + 1 ∧ x.b + 1 ≤ 9223372036854775807), wrap_id (by omega : -9223372036854775808 ≤ x.a ∧ x.a ≤ 9223372036854775807), wrap_id (by omega : -9223372036854775808 ≤ x.b ∧ x.b ≤ 9223372036854775807)]
  simp only [List.foldl_append, pp_addP]
theorem fold_flat (f : List (Key × Int) → Tly → List (Key × Int)) (g : Tly → List (Key × Int)) : ∀ (l : List Tly) (m : List (Key × Int)), (∀ x ∈ l, ∀ m, f m x = (g x).foldl (fun m p => addK p.1 p.2 m) m) → l.foldl f m = (l.flatMap g).foldl (fun m p => addK p.1 p.2 m) m
  | [], m, _ => rfl
  | x :: l, m, h => by
    rw [List.foldl_cons, List.flatMap_cons, List.foldl_append, h x (by simp), fold_flat f g l _ (fun y hy => h y (by simp [hy]))]
theorem flat_perm (f g : Tly → List (Key × Int)) (h : ∀ x, (f x).Perm (g x)) : ∀ l : List Tly, (l.flatMap f).Perm (l.flatMap g)
  | [] => List.Perm.refl _
  | x :: l => by rw [List.flatMap_cons, List.flatMap_cons]; exact (h x).append (flat_perm f g h l)
theorem pS_pR (s d : Int) (x : Tly) : (pS s d x).Perm (pR s d x) := by
  unfold pS pR
  refine List.Perm.append_left _ ?_
  generalize pp (x.a - 1) x.b x.h (d * x.k) = A
  generalize pp (x.a + 1) x.b x.h (d * x.k) = B
  refine (List.perm_append_comm_assoc A B _).trans ?_
  exact List.Perm.append_left _ (List.Perm.append_left _ List.perm_append_comm)
theorem pp_mem {a b h n : Int} {p : Key × Int} (hp : p ∈ pp a b h n) : p.2 = n := by
  unfold pp at hp; split at hp
  · simp at hp; rw [hp]
  · simp at hp
theorem pp_len (a b h n : Int) : (pp a b h n).length ≤ 1 := by unfold pp; split <;> simp
theorem pS_b {s d : Int} {x : Tly} (hx : okT x = true) (hs : within s 0 1000 = true) (hd : within d 0 1000 = true) : ∀ p ∈ pS s d x, 0 ≤ p.2 ∧ p.2 ≤ 1000000000000 := by
  have h := okT_iff hx
  have hs := within_iff.1 hs
  have hd := within_iff.1 hd
  have b1 := mul_b hs.1 hs.2 h.2.2.2.2.1 h.2.2.2.2.2
  have b2 := mul_b hd.1 hd.2 h.2.2.2.2.1 h.2.2.2.2.2
  intro p hp
  unfold pS at hp
  simp only [List.mem_append] at hp
  rcases hp with hp | hp | hp | hp | hp <;> rw [pp_mem hp] <;> assumption
theorem flat_len (f : Tly → List (Key × Int)) (h : ∀ x, (f x).length ≤ 5) : ∀ l : List Tly, (l.flatMap f).length ≤ 5 * l.length
  | [] => by simp
  | x :: l => by rw [List.flatMap_cons, List.length_append, List.length_cons]; have := h x; have := flat_len f h l; omega
theorem pS_len (s d : Int) (x : Tly) : (pS s d x).length ≤ 5 := by
  unfold pS
  simp only [List.length_append]
  have e1 := pp_len x.a x.b x.h (s * x.k)
  have e2 := pp_len (x.a - 1) x.b x.h (d * x.k)
  have e3 := pp_len (x.a + 1) x.b x.h (d * x.k)
  have e4 := pp_len x.a (x.b - 1) x.h (d * x.k)
  have e5 := pp_len x.a (x.b + 1) x.h (d * x.k)
  omega
theorem smo_law {l : List Tly} {s d : Int} (hl : checkTallies l = 0) (hs : within s 0 1000 = true) (hd : within d 0 1000 = true) :
    ((smoL s d l).map (·.1)).Nodup ∧ ((refL s d l).map (·.1)).Nodup ∧ (∀ k, mget 0 k (smoL s d l) = mget 0 k (refL s d l)) ∧ ∀ k, 0 ≤ mget 0 k (smoL s d l) := by
  obtain ⟨hn, ho⟩ := all_ok hl
  have e1 : smoL s d l = accK (l.flatMap (pS s d)) := fold_flat _ _ l [] fun x hx m => smo1_eq (ho x hx) hs hd m
  have e2 : refL s d l = accK (l.flatMap (pR s d)) := fold_flat _ _ l [] fun x hx m => refs_eq (ho x hx) hs hd m
  have hp := flat_perm (pS s d) (pR s d) (pS_pR s d) l
  have hb : ∀ p ∈ l.flatMap (pS s d), 0 ≤ p.2 ∧ p.2 ≤ 1000000000000 := by
    intro p hp
    obtain ⟨x, hx, h⟩ := List.mem_flatMap.1 hp
    exact pS_b (ho x hx) hs hd p h
  have hlen := flat_len (pS s d) (pS_len s d) l
  have hb2 : ∀ p ∈ l.flatMap (pR s d), 0 ≤ p.2 ∧ p.2 ≤ 1000000000000 := fun p h => hb p (hp.mem_iff.2 h)
  rw [e1, e2]
  refine ⟨accK_keys _, accK_keys _, fun k => ?_, fun k => ?_⟩
  · rw [accK_get hb (by omega), accK_get hb2 (by rw [← hp.length_eq]; omega), tot_perm k hp]
  · rw [accK_get hb (by omega)]; exact tot_pos k _ hb
end Go.Proofs.Ytgkdbjnmlecimaa
namespace Go.Proofs.Ytgkdbjnmlecimaa
open Go Go.GL
set_option maxRecDepth 10000
set_option maxHeartbeats 0
theorem X_assoc (rs : Array ResultVar) (K : Value → GH → Prop) (s : List It) (f : Fr) (G : GH) (a b c : Code) : X Try.prog rs K s (.seq a (.seq b c)) f G = X Try.prog rs K s (.seq (.seq a b) c) f G := by
  rw [X_seq, X_seq, X_seq]
  unfold X
  congr 1
  funext e f G
  cases e <;> rfl
theorem ite_up2 {p : Prop} [Decidable p] {A B C : Prop} (h : if p then C else A) (hab : A → B) : if p then C else B := by
  by_cases hp : p
  · rw [if_pos hp] at h ⊢; exact h
  · rw [if_neg hp] at h ⊢; exact hab h
theorem smo_ok {l : List Tly} {s d : Int} (h : smoFault l s d = 0) : checkTallies l = 0 ∧ within s 0 1000 = true ∧ within d 0 1000 = true := by
  unfold smoFault at h
  split at h
  · rename_i q; exact absurd h q
  · rename_i q
    have q : checkTallies l = 0 := by omega
    rw [bi_zero] at h
    simp only [within1000, Bool.and_eq_true] at h
    exact ⟨q, h.1, h.2⟩
theorem smo_or1 {l : List Tly} {s d : Int} (h : within1000 s d = false) : smoFault l s d = orOf [checkTallies l, 1] := by
  unfold smoFault; rw [h, orOf2]
  by_cases q : checkTallies l = 0
  · rw [if_neg (by simpa using q), if_pos q]; rfl
  · rw [if_pos q, if_neg q]
theorem smo_or0 {l : List Tly} {s d : Int} (hz : ¬ smoFault l s d = 0) (h : within1000 s d = true) : smoFault l s d = orOf [checkTallies l, 0] := by
  unfold smoFault at hz ⊢; rw [h] at hz ⊢; rw [orOf2]
  by_cases q : checkTallies l = 0
  · rw [if_neg (by simpa using q)] at hz; exact absurd rfl hz
  · rw [if_pos q, if_neg q]
theorem or3a (x y : Int) : orOf [bi false, x, y] = 1 := by simp [orOf, bi]
theorem or3b (y : Int) : orOf [bi true, bi false, y] = 1 := by simp [orOf, bi]
theorem or3c : orOf [bi true, bi true, bi false] = 1 := by simp [orOf, bi]
theorem or3d : orOf [bi true, bi true, bi true] = 0 := by simp [orOf, bi]
attribute [local irreducible] Go.GL.Pure
theorem le_put4 {G G' : GH} {r : Nat} {o : Obj × Bool} (h : G r = none) (hl : G.le G') : G.le (G'.put r o) := by
  intro b x hb
  by_cases e : b = r
  · subst e; rw [h] at hb; cases hb
  · rw [put_not G' o e]; exact hl _ _ hb
theorem exp_bad {l : List Tly} {wa wb z h cx cy : Int} (he : ¬ orOf [checkTallies l, bi (windowed wa wb), bi (zoned z), bi (point cx cy), bi (houred h)] = 0) : expected l wa wb z cx cy h = .tuple #[.agg #[V 0, V 0], .bool false, V (orOf [checkTallies l, bi (windowed wa wb), bi (zoned z), bi (point cx cy), bi (houred h)])] := by
  unfold expected
  rw [orOf2] at *
  by_cases c0 : checkTallies l = 0
  · rcases bool_tf (windowed wa wb) with c1 | c1 <;> rcases bool_tf (zoned z) with c2 | c2 <;> rcases bool_tf (point cx cy) with c3 | c3 <;> rcases bool_tf (houred h) with c4 | c4 <;> have c4' := c4 <;> unfold houred at c4' <;> simp [c0, c1, c2, c3, c4, c4', bi, orOf] at he ⊢
  · simp [c0, orOf]
theorem exp_ok {l : List Tly} {wa wb z h cx cy : Int} (he : orOf [checkTallies l, bi (windowed wa wb), bi (zoned z), bi (point cx cy), bi (houred h)] = 0) : checkTallies l = 0 ∧ windowed wa wb = true ∧ zoned z = true ∧ point cx cy = true ∧ within h 0 167 = true := by
  by_cases c0 : checkTallies l = 0
  · rcases bool_tf (windowed wa wb) with c1 | c1 <;> rcases bool_tf (zoned z) with c2 | c2 <;> rcases bool_tf (point cx cy) with c3 | c3 <;> rcases bool_tf (houred h) with c4 | c4 <;> simp [c0, c1, c2, c3, c4, bi, orOf] at he ⊢
    exact c4
  · simp [c0, orOf] at he
theorem exp_zero {l : List Tly} {wa wb z h cx cy : Int} (he : orOf [checkTallies l, bi (windowed wa wb), bi (zoned z), bi (point cx cy), bi (houred h)] = 0) (hn : weeksN wa wb z h = 0) : expected l wa wb z cx cy h = .tuple #[.agg #[V 0, V 0], .bool false, V 0] := by
  obtain ⟨c0, c1, c2, c3, c4⟩ := exp_ok he
  unfold expected
  rw [orOf2]
  simp [c0, c1, c2, c3, c4, bi, hn]
theorem exp_good {l : List Tly} {wa wb z h cx cy : Int} (he : orOf [checkTallies l, bi (windowed wa wb), bi (zoned z), bi (point cx cy), bi (houred h)] = 0) (hn : ¬ weeksN wa wb z h = 0) : expected l wa wb z cx cy h = .tuple #[lowest (manyAt l cx cy h) (weeksN wa wb z h), .bool true, V 0] := by
  obtain ⟨c0, c1, c2, c3, c4⟩ := exp_ok he
  unfold expected
  rw [orOf2]
  simp [c0, c1, c2, c3, c4, bi, hn]
theorem g5 {G0 : GH} {v w : Value} {l m : List Tly} {wa wb z h cx cy s d : Int} (hv : RSl rTly G0 v l) (hw : RSl rTly G0 w m) (hn1 : l.length ≤ 1048576) (hn2 : m.length ≤ 1048576) (hS : SortSpec 71) (hS2 : SortSpec 83) : Gives Try.prog G0 5 [v, w, .agg #[V wa, V wb], V z, V h, .agg #[V cx, V cy], V s, V d] (fun u G' => u = .bool true) := by
  intro G hG; replace hv := hv.le hG; replace hw := hw.le hG
  clear hG G0
  refine enter Try.func5 214 #[.tmp 16] rfl Try.ntmps5 rfl (by decide +kernel) rfl ?_
  obtain ⟨va, vc, rfl⟩ := hv.val
  obtain ⟨xa, xc, rfl⟩ := hw.val
  rw [X_assoc, X_assoc, X_assoc, X_assoc, X_assoc, X_assoc, X_assoc, X_seq]
  refine Xcut _ _ _ _ _ (J := fun f G2 => ∃ r1 r2, (G.le G2 ∧ G2 r1 = some (.cells [V wa, V wb].toArray 70 (0, 0), true) ∧ G2 r2 = some (.cells [V cx, V cy].toArray 24 (0, 0), true)) ∧ f 0 = .slice va l.length vc ∧ f 3 = V z ∧ f 4 = V h ∧ f 6 = V s ∧ f 7 = V d ∧ f 10 = .pointer (some ⟨r1, 0, none⟩) ∧ f 13 = .pointer (some ⟨r2, 0, none⟩) ∧ f 17 = V (checkTallies l)) ?_ ?_
  · simp (maxDischargeDepth := 9) only [↓gB, gV, gT, reduceIte, reduceCtorEq, Nat.reduceEqDiff, Nat.reduceAdd, Nat.reduceSub, Nat.reduceLeDiff, Nat.reduceLT, Int.reduceEq, Nat.reduceMul, checks_same]
    refine Yn2 fun r1 h1 => ?_
    simp (maxDischargeDepth := 9) only [↓gB, gV, gT, reduceIte, reduceCtorEq, Nat.reduceEqDiff, Nat.reduceAdd, Nat.reduceSub, Nat.reduceLeDiff, Nat.reduceLT, Int.reduceEq, Nat.reduceMul, h1, checks_same]
    refine Yn2 fun r2 h2 => ?_
    have n2 := h2
    simp only [put_none_eq, ne_eq] at n2
    simp (maxDischargeDepth := 9) only [↓gB, gV, gT, reduceIte, reduceCtorEq, Nat.reduceEqDiff, Nat.reduceAdd, Nat.reduceSub, Nat.reduceLeDiff, Nat.reduceLT, Int.reduceEq, Nat.reduceMul, h1, h2, n2, checks_same]
    refine Ycp (p34 (by exact RSl.le (by assumption) ((le_put (by assumption) _).trans (le_put (by assumption) _))) (by omega)) ?_
    simp (maxDischargeDepth := 9) only [↓gB, gV, gT, reduceIte, reduceCtorEq, Nat.reduceEqDiff, Nat.reduceAdd, Nat.reduceSub, Nat.reduceLeDiff, Nat.reduceLT, Int.reduceEq, Nat.reduceMul, h1, h2, n2, checks_same]
    have hr1 := (put_pk (o := (.cells [V cx, V cy].toArray 24 (0, 0), true)) h2 (kn_of (put_self G r1 (.cells [V wa, V wb].toArray 70 (0, 0), true)))).trans (put_self G r1 (.cells [V wa, V wb].toArray 70 (0, 0), true))
    have hr2 := put_self (G.put r1 (.cells [V wa, V wb].toArray 70 (0, 0), true)) r2 (.cells [V cx, V cy].toArray 24 (0, 0), true)
    have hle := (le_put h1 (.cells [V wa, V wb].toArray 70 (0, 0), true)).trans (le_put h2 (.cells [V cx, V cy].toArray 24 (0, 0), true))
    generalize (G.put r1 (.cells [V wa, V wb].toArray 70 (0, 0), true)).put r2 (.cells [V cx, V cy].toArray 24 (0, 0), true) = GA at *
    replace hv := hv.le hle
    replace hw := hw.le hle
    refine Ycg (g36 hv (by omega)) (upRSl _ _) ?_
    intro c1 G1 hle1 hc1
    replace hr1 := hle1 _ _ hr1
    replace hr2 := hle1 _ _ hr2
    replace hv := hv.le hle1
    replace hw := hw.le hle1
    replace hle := hle.trans hle1
    clear hle1 h2 n2 h1
    simp (maxDischargeDepth := 9) only [↓gB, gV, gT, reduceIte, reduceCtorEq, Nat.reduceEqDiff, Nat.reduceAdd, Nat.reduceSub, Nat.reduceLeDiff, Nat.reduceLT, Int.reduceEq, Nat.reduceMul, hr1, hr2, checks_same]
    refine Ycp (p35 (by assumption) (by omega)) ?_
    simp (maxDischargeDepth := 9) only [↓gB, gV, gT, reduceIte, reduceCtorEq, Nat.reduceEqDiff, Nat.reduceAdd, Nat.reduceSub, Nat.reduceLeDiff, Nat.reduceLT, Int.reduceEq, Nat.reduceMul, hr1, hr2, checks_same]
    refine Ycg (g36 hv (by omega)) (upRSl _ _) ?_
    intro c2 G2 hle2 hc2
    replace hr1 := hle2 _ _ hr1
    replace hr2 := hle2 _ _ hr2
    replace hv := hv.le hle2
    replace hw := hw.le hle2
    replace hle := hle.trans hle2
    clear hle2 hc1 G1
    simp (maxDischargeDepth := 9) only [↓gB, gV, gT, reduceIte, reduceCtorEq, Nat.reduceEqDiff, Nat.reduceAdd, Nat.reduceSub, Nat.reduceLeDiff, Nat.reduceLT, Int.reduceEq, Nat.reduceMul, hr1, hr2, checks_same]
    refine Ycg (g36 hw (by omega)) (upRSl _ _) ?_
    intro c3 G3 hle3 hc3
    replace hr1 := hle3 _ _ hr1
    replace hr2 := hle3 _ _ hr2
    replace hv := hv.le hle3
    replace hw := hw.le hle3
    replace hc2 := hc2.le hle3
    replace hle := hle.trans hle3
    clear hle3 G2
    simp (maxDischargeDepth := 9) only [↓gB, gV, gT, reduceIte, reduceCtorEq, Nat.reduceEqDiff, Nat.reduceAdd, Nat.reduceSub, Nat.reduceLeDiff, Nat.reduceLT, Int.reduceEq, Nat.reduceMul, hr1, hr2, checks_same]
    refine Ycg (g37 hc2 hc3 (by omega) (by omega) hS) ?_ ?_
    · intro u G G' h hu
      exact ite_up2 hu (fun hu => by
        obtain ⟨t, a, b, w, h3, h4⟩ := hu
        exact ⟨t, a, b, w, ite_up h3 (fun q => q.le h), h4⟩)
    intro u G4 hle4 hu
    replace hr1 := hle4 _ _ hr1
    replace hr2 := hle4 _ _ hr2
    replace hv := hv.le hle4
    replace hw := hw.le hle4
    replace hle := hle.trans hle4
    clear hle4 hc2 hc3
    by_cases he : orOf [checkTallies l, checkTallies m] = 0
    · rw [if_neg (by rw [he]; decide)] at hu
      obtain ⟨t, ht, st, w1, hw1, rfl⟩ := hu
      have he1 : checkTallies l = 0 := by
        rw [orOf2] at he; split at he
        · assumption
        · rename_i q; exact absurd he q
      have he2 : checkTallies m = 0 := by
        rw [orOf2, if_pos he1] at he; exact he
      have hl1 := (all_ok he1).1
      have hl2 := (all_ok he2).1
      simp (maxDischargeDepth := 9) only [↓gB, gV, gT, reduceIte, reduceCtorEq, Nat.reduceEqDiff, Nat.reduceAdd, Nat.reduceSub, Nat.reduceLeDiff, Nat.reduceLT, Int.reduceEq, Nat.reduceMul, hr1, hr2, checks_same, he]
      refine Ycp (p34 (by assumption) (by omega)) ?_
      simp (maxDischargeDepth := 9) only [↓gB, gV, gT, reduceIte, reduceCtorEq, Nat.reduceEqDiff, Nat.reduceAdd, Nat.reduceSub, Nat.reduceLeDiff, Nat.reduceLT, Int.reduceEq, Nat.reduceMul, hr1, hr2, checks_same, he]
      refine Yn1 fun r3 h3 => ?_
      simp (maxDischargeDepth := 9) only [↓gB, gV, gT, reduceIte, reduceCtorEq, Nat.reduceEqDiff, Nat.reduceAdd, Nat.reduceSub, Nat.reduceLeDiff, Nat.reduceLT, Int.reduceEq, Nat.reduceMul, hr1, hr2, h3, checks_same, he]
      refine Ycp (p7 (by exact put_self _ _ _)) ?_
      simp (maxDischargeDepth := 9) only [↓gB, gV, gT, reduceIte, reduceCtorEq, Nat.reduceEqDiff, Nat.reduceAdd, Nat.reduceSub, Nat.reduceLeDiff, Nat.reduceLT, Int.reduceEq, Nat.reduceMul, hr1, hr2, h3, checks_same, he]
      have hq := le_put h3 (.cells [V (checkTallies l), V (checkTallies m)].toArray 25 (0, 0), true)
      generalize G4.put r3 (.cells [V (checkTallies l), V (checkTallies m)].toArray 25 (0, 0), true) = GB at *
      replace hr1 := hq _ _ hr1
      replace hr2 := hq _ _ hr2
      replace hv := hv.le hq
      replace hw := hw.le hq
      replace hle := hle.trans hq
      replace hw1 := ite_up hw1 (fun q => q.le hq)
      clear hq h3
      refine Ycg (g38 hv hw (by omega) hS2) (refOut_up _) ?_
      intro u G5 hle5 hu
      obtain ⟨w2, rfl, hw2⟩ := out_same (sum_law he1 he2).1 (sum_law he1 he2).1 (fun _ => rfl) (sum_law he1 he2).2 ht st hu
      replace hw1 := ite_up hw1 (fun q => q.le hle5)
      replace hr1 := hle5 _ _ hr1
      replace hr2 := hle5 _ _ hr2
      replace hle := hle.trans hle5
      have htl : t.length ≤ 134400 := by
        rw [ht.length_eq]; unfold talliesP; rw [List.length_map]
        have q1 := List.length_filter_le (fun p => decide (0 < p.2)) (sumOf (l ++ m))
        have q2 := sumOf_len (l ++ m)
        rw [List.length_append] at q2
        simp only at q1 ⊢; omega
      clear hle5 hv hw
      generalize tlyOut (sumOf (l ++ m)) t = e at *
      by_cases ee : e = 0
      · subst ee
        simp only [if_true] at hw1 hw2
        simp (maxDischargeDepth := 9) only [↓gB, gV, gT, reduceIte, reduceCtorEq, Nat.reduceEqDiff, Nat.reduceAdd, Nat.reduceSub, Nat.reduceLeDiff, Nat.reduceLT, Int.reduceEq, Nat.reduceMul, hr1, hr2, checks_same]
        refine Ycp (p20 (by assumption) (by assumption) (by omega)) ?_
        simp (maxDischargeDepth := 9) only [↓gB, gV, gT, reduceIte, reduceCtorEq, Nat.reduceEqDiff, Nat.reduceAdd, Nat.reduceSub, Nat.reduceLeDiff, Nat.reduceLT, Int.reduceEq, Nat.reduceMul, hr1, hr2, checks_same]
        rw [N_cut]
        exact ⟨_, sub_refl _, r1, r2, ⟨hle, hr1, hr2⟩, rfl, rfl, rfl, rfl, rfl, rfl, rfl, rfl⟩
      · simp only [ee, if_false] at hw1 hw2
        subst hw1 hw2
        have hnil := RSl.nil rTly G5
        simp (maxDischargeDepth := 9) only [↓gB, gV, gT, reduceIte, reduceCtorEq, Nat.reduceEqDiff, Nat.reduceAdd, Nat.reduceSub, Nat.reduceLeDiff, Nat.reduceLT, Int.reduceEq, Nat.reduceMul, hr1, hr2, checks_same]
        refine Ycp (p20 (by assumption) (by assumption) (by decide)) ?_
        simp (maxDischargeDepth := 9) only [↓gB, gV, gT, reduceIte, reduceCtorEq, Nat.reduceEqDiff, Nat.reduceAdd, Nat.reduceSub, Nat.reduceLeDiff, Nat.reduceLT, Int.reduceEq, Nat.reduceMul, hr1, hr2, checks_same]
        rw [N_cut]
        exact ⟨_, sub_refl _, r1, r2, ⟨hle, hr1, hr2⟩, rfl, rfl, rfl, rfl, rfl, rfl, rfl, rfl⟩
    · rw [if_pos he] at hu
      subst hu
      have hnil := RSl.nil rTly G4
      simp (maxDischargeDepth := 9) only [↓gB, gV, gT, reduceIte, reduceCtorEq, Nat.reduceEqDiff, Nat.reduceAdd, Nat.reduceSub, Nat.reduceLeDiff, Nat.reduceLT, Int.reduceEq, Nat.reduceMul, hr1, hr2, checks_same]
      refine Ycp (p34 (by assumption) (by omega)) ?_
      simp (maxDischargeDepth := 9) only [↓gB, gV, gT, reduceIte, reduceCtorEq, Nat.reduceEqDiff, Nat.reduceAdd, Nat.reduceSub, Nat.reduceLeDiff, Nat.reduceLT, Int.reduceEq, Nat.reduceMul, hr1, hr2, checks_same]
      refine Yn1 fun r3 h3 => ?_
      simp (maxDischargeDepth := 9) only [↓gB, gV, gT, reduceIte, reduceCtorEq, Nat.reduceEqDiff, Nat.reduceAdd, Nat.reduceSub, Nat.reduceLeDiff, Nat.reduceLT, Int.reduceEq, Nat.reduceMul, hr1, hr2, h3, checks_same]
      refine Ycp (p7 (by exact put_self _ _ _)) ?_
      simp (maxDischargeDepth := 9) only [↓gB, gV, gT, reduceIte, reduceCtorEq, Nat.reduceEqDiff, Nat.reduceAdd, Nat.reduceSub, Nat.reduceLeDiff, Nat.reduceLT, Int.reduceEq, Nat.reduceMul, hr1, hr2, h3, checks_same]
      refine Xc_neg _ _ _ _ _ (by omega) ?_
      simp (maxDischargeDepth := 9) only [↓gB, gV, gT, reduceIte, reduceCtorEq, Nat.reduceEqDiff, Nat.reduceAdd, Nat.reduceSub, Nat.reduceLeDiff, Nat.reduceLT, Int.reduceEq, Nat.reduceMul, hr1, hr2, h3, checks_same]
      refine Ycp (p20 (by exact RSl.put _ (by assumption) (by assumption)) (by exact RSl.put _ (by assumption) (by assumption)) (by decide)) ?_
      simp (maxDischargeDepth := 9) only [↓gB, gV, gT, reduceIte, reduceCtorEq, Nat.reduceEqDiff, Nat.reduceAdd, Nat.reduceSub, Nat.reduceLeDiff, Nat.reduceLT, Int.reduceEq, Nat.reduceMul, hr1, hr2, h3, checks_same]
      have hq := le_put h3 (.cells [V (checkTallies l), V (checkTallies m)].toArray 25 (0, 0), true)
      rw [N_cut]
      exact ⟨_, sub_refl _, r1, r2, ⟨hle.trans hq, hq _ _ hr1, hq _ _ hr2⟩, rfl, rfl, rfl, rfl, rfl, rfl, rfl, rfl⟩
  · rintro f G2 ⟨r1, r2, ⟨hle, hr1, hr2⟩, f0, f3, f4, f6, f7, f10, f13, f17⟩
    rw [X_assoc, X_assoc, X_assoc, X_seq]
    refine Xcut _ _ _ _ _ (J := fun f G2 => ∃ r1 r2, (G.le G2 ∧ G2 r1 = some (.cells [V wa, V wb].toArray 70 (0, 0), true) ∧ G2 r2 = some (.cells [V cx, V cy].toArray 24 (0, 0), true)) ∧ f 0 = .slice va l.length vc ∧ f 3 = V z ∧ f 4 = V h ∧ f 10 = .pointer (some ⟨r1, 0, none⟩) ∧ f 13 = .pointer (some ⟨r2, 0, none⟩) ∧ f 17 = V (checkTallies l)) ?_ ?_
    · replace hv := hv.le hle
      simp (maxDischargeDepth := 9) only [↓gB, gV, gT, reduceIte, reduceCtorEq, Nat.reduceEqDiff, Nat.reduceAdd, Nat.reduceSub, Nat.reduceLeDiff, Nat.reduceLT, Int.reduceEq, Nat.reduceMul, hr1, hr2, f0, f3, f4, f6, f7, f10, f13, f17]
      refine Ycg (g36 hv (by omega)) (upRSl _ _) ?_
      intro c2 G3 hle3 hc2
      replace hr1 := hle3 _ _ hr1
      replace hr2 := hle3 _ _ hr2
      replace hv := hv.le hle3
      replace hle := hle.trans hle3
      clear hle3 G2
      simp (maxDischargeDepth := 9) only [↓gB, gV, gT, reduceIte, reduceCtorEq, Nat.reduceEqDiff, Nat.reduceAdd, Nat.reduceSub, Nat.reduceLeDiff, Nat.reduceLT, Int.reduceEq, Nat.reduceMul, f0, f3, f4, f6, f7, f10, f13, f17, hr1, hr2]
      refine Ycg (g39 hc2 (by omega) hS) ?_ ?_
      · intro u G G' h hu
        exact ite_up2 hu (fun hu => by
          obtain ⟨t, a, b, w, h3, h4⟩ := hu
          exact ⟨t, a, b, w, ite_up h3 (fun q => q.le h), h4⟩)
      intro u G4 hle4 hu
      replace hr1 := hle4 _ _ hr1
      replace hr2 := hle4 _ _ hr2
      replace hv := hv.le hle4
      replace hle := hle.trans hle4
      clear hle4 hc2
      by_cases he : smoFault l s d = 0
      · rw [if_neg (by rw [he]; decide)] at hu
        obtain ⟨t, ht, st, w1, hw1, rfl⟩ := hu
        obtain ⟨he1, c5, c6⟩ := smo_ok he
        have hl1 := (all_ok he1).1
        have hs := within_iff.1 c5
        have hd := within_iff.1 c6
        have a1 : ¬ s < 0 := by omega
        have a2 : ¬ 1000 < s := by omega
        have a3 : ¬ d < 0 := by omega
        have a4 : ¬ 1000 < d := by omega
        have e0 : orOf [checkTallies l, 0] = 0 := by rw [he1]; rfl
        simp (maxDischargeDepth := 9) only [↓gB, gV, gT, reduceIte, reduceCtorEq, Nat.reduceEqDiff, Nat.reduceAdd, Nat.reduceSub, Nat.reduceLeDiff, Nat.reduceLT, Int.reduceEq, Nat.reduceMul, f0, f3, f4, f6, f7, f10, f13, f17, hr1, hr2, c5, c6, e0, a1, a2, a3, a4]
        refine Ycp (p26) ?_
        simp (maxDischargeDepth := 9) only [↓gB, gV, gT, reduceIte, reduceCtorEq, Nat.reduceEqDiff, Nat.reduceAdd, Nat.reduceSub, Nat.reduceLeDiff, Nat.reduceLT, Int.reduceEq, Nat.reduceMul, f0, f3, f4, f6, f7, f10, f13, f17, hr1, hr2, c5, c6, e0, a1, a2, a3, a4]
        refine Yn1 fun r3 h3 => ?_
        simp (maxDischargeDepth := 9) only [↓gB, gV, gT, reduceIte, reduceCtorEq, Nat.reduceEqDiff, Nat.reduceAdd, Nat.reduceSub, Nat.reduceLeDiff, Nat.reduceLT, Int.reduceEq, Nat.reduceMul, f0, f3, f4, f6, f7, f10, f13, f17, hr1, hr2, c5, c6, h3, e0, a1, a2, a3, a4]
        refine Ycp (p7 (by exact put_self _ _ _)) ?_
        simp (maxDischargeDepth := 9) only [↓gB, gV, gT, reduceIte, reduceCtorEq, Nat.reduceEqDiff, Nat.reduceAdd, Nat.reduceSub, Nat.reduceLeDiff, Nat.reduceLT, Int.reduceEq, Nat.reduceMul, f0, f3, f4, f6, f7, f10, f13, f17, hr1, hr2, c5, c6, h3, e0, a1, a2, a3, a4]
        have hq := le_put h3 (.cells [V (checkTallies l), V 0].toArray 25 (0, 0), true)
        generalize G4.put r3 (.cells [V (checkTallies l), V 0].toArray 25 (0, 0), true) = GB at *
        replace hr1 := hq _ _ hr1
        replace hr2 := hq _ _ hr2
        replace hv := hv.le hq
        replace hle := hle.trans hq
        replace hw1 := ite_up hw1 (fun q => q.le hq)
        clear hq h3
        refine Ycg (g40 hv (by omega) hS2) (refOut_up _) ?_
        intro u G5 hle5 hu
        obtain ⟨n1, n2, n3, n4⟩ := smo_law he1 c5 c6
        obtain ⟨w2, rfl, hw2⟩ := out_same n1 n2 n3 n4 ht st hu
        replace hw1 := ite_up hw1 (fun q => q.le hle5)
        replace hr1 := hle5 _ _ hr1
        replace hr2 := hle5 _ _ hr2
        replace hle := hle.trans hle5
        have htl : t.length ≤ 336000 := by
          rw [ht.length_eq]; unfold talliesP; rw [List.length_map]
          have q1 := List.length_filter_le (fun p => decide (0 < p.2)) (smoL s d l)
          have q2 := smoL_len s d l
          simp only at q1 ⊢; omega
        clear hle5 hv
        generalize tlyOut (smoL s d l) t = e at *
        by_cases ee : e = 0
        · subst ee
          simp only [if_true] at hw1 hw2
          simp (maxDischargeDepth := 9) only [↓gB, gV, gT, reduceIte, reduceCtorEq, Nat.reduceEqDiff, Nat.reduceAdd, Nat.reduceSub, Nat.reduceLeDiff, Nat.reduceLT, Int.reduceEq, Nat.reduceMul, f0, f3, f4, f6, f7, f10, f13, f17, c5, c6, hr1, hr2]
          refine Ycp (p20 (by assumption) (by assumption) (by omega)) ?_
          simp (maxDischargeDepth := 9) only [↓gB, gV, gT, reduceIte, reduceCtorEq, Nat.reduceEqDiff, Nat.reduceAdd, Nat.reduceSub, Nat.reduceLeDiff, Nat.reduceLT, Int.reduceEq, Nat.reduceMul, f0, f3, f4, f6, f7, f10, f13, f17, c5, c6, hr1, hr2]
          rw [N_cut]
          exact ⟨_, sub_refl _, r1, r2, ⟨hle, hr1, hr2⟩, f0, f3, f4, f10, f13, f17⟩
        · simp only [ee, if_false] at hw1 hw2
          subst hw1 hw2
          have hnil := RSl.nil rTly G5
          simp (maxDischargeDepth := 9) only [↓gB, gV, gT, reduceIte, reduceCtorEq, Nat.reduceEqDiff, Nat.reduceAdd, Nat.reduceSub, Nat.reduceLeDiff, Nat.reduceLT, Int.reduceEq, Nat.reduceMul, f0, f3, f4, f6, f7, f10, f13, f17, c5, c6, hr1, hr2]
          refine Ycp (p20 (by assumption) (by assumption) (by decide)) ?_
          simp (maxDischargeDepth := 9) only [↓gB, gV, gT, reduceIte, reduceCtorEq, Nat.reduceEqDiff, Nat.reduceAdd, Nat.reduceSub, Nat.reduceLeDiff, Nat.reduceLT, Int.reduceEq, Nat.reduceMul, f0, f3, f4, f6, f7, f10, f13, f17, c5, c6, hr1, hr2]
          rw [N_cut]
          exact ⟨_, sub_refl _, r1, r2, ⟨hle, hr1, hr2⟩, f0, f3, f4, f10, f13, f17⟩
      · rw [if_pos he] at hu
        have hnil := RSl.nil rTly G4
        by_cases a1 : s < 0
        · have e1 := smo_or1 (l := l) (show within1000 s d = false by unfold within1000 within; simp; omega)
          rw [e1] at he hu
          subst hu
          simp (maxDischargeDepth := 9) only [↓gB, gV, gT, reduceIte, reduceCtorEq, Nat.reduceEqDiff, Nat.reduceAdd, Nat.reduceSub, Nat.reduceLeDiff, Nat.reduceLT, Int.reduceEq, Nat.reduceMul, f0, f3, f4, f6, f7, f10, f13, f17, hr1, hr2, he, a1]
          refine Ycp (p26) ?_
          simp (maxDischargeDepth := 9) only [↓gB, gV, gT, reduceIte, reduceCtorEq, Nat.reduceEqDiff, Nat.reduceAdd, Nat.reduceSub, Nat.reduceLeDiff, Nat.reduceLT, Int.reduceEq, Nat.reduceMul, f0, f3, f4, f6, f7, f10, f13, f17, hr1, hr2, he, a1]
          refine Yn1 fun r3 h3 => ?_
          simp (maxDischargeDepth := 9) only [↓gB, gV, gT, reduceIte, reduceCtorEq, Nat.reduceEqDiff, Nat.reduceAdd, Nat.reduceSub, Nat.reduceLeDiff, Nat.reduceLT, Int.reduceEq, Nat.reduceMul, f0, f3, f4, f6, f7, f10, f13, f17, hr1, hr2, h3, he, a1]
          refine Ycp (p7 (by exact put_self _ _ _)) ?_
          simp (maxDischargeDepth := 9) only [↓gB, gV, gT, reduceIte, reduceCtorEq, Nat.reduceEqDiff, Nat.reduceAdd, Nat.reduceSub, Nat.reduceLeDiff, Nat.reduceLT, Int.reduceEq, Nat.reduceMul, f0, f3, f4, f6, f7, f10, f13, f17, hr1, hr2, h3, he, a1]
          refine Ycp (p20 (by exact RSl.put _ (by assumption) (by assumption)) (by exact RSl.put _ (by assumption) (by assumption)) (by decide)) ?_
          simp (maxDischargeDepth := 9) only [↓gB, gV, gT, reduceIte, reduceCtorEq, Nat.reduceEqDiff, Nat.reduceAdd, Nat.reduceSub, Nat.reduceLeDiff, Nat.reduceLT, Int.reduceEq, Nat.reduceMul, f0, f3, f4, f6, f7, f10, f13, f17, hr1, hr2, h3, he, a1]
          have hq := le_put h3 (.cells [V (checkTallies l), V 1].toArray 25 (0, 0), true)
          rw [N_cut]
          exact ⟨_, sub_refl _, r1, r2, ⟨hle.trans hq, hq _ _ hr1, hq _ _ hr2⟩, f0, f3, f4, f10, f13, f17⟩
        by_cases a2 : 1000 < s
        · have e1 := smo_or1 (l := l) (show within1000 s d = false by unfold within1000 within; simp; omega)
          rw [e1] at he hu
          subst hu
          simp (maxDischargeDepth := 9) only [↓gB, gV, gT, reduceIte, reduceCtorEq, Nat.reduceEqDiff, Nat.reduceAdd, Nat.reduceSub, Nat.reduceLeDiff, Nat.reduceLT, Int.reduceEq, Nat.reduceMul, f0, f3, f4, f6, f7, f10, f13, f17, hr1, hr2, he, a1, a2]
          refine Ycp (p26) ?_
          simp (maxDischargeDepth := 9) only [↓gB, gV, gT, reduceIte, reduceCtorEq, Nat.reduceEqDiff, Nat.reduceAdd, Nat.reduceSub, Nat.reduceLeDiff, Nat.reduceLT, Int.reduceEq, Nat.reduceMul, f0, f3, f4, f6, f7, f10, f13, f17, hr1, hr2, he, a1, a2]
          refine Yn1 fun r3 h3 => ?_
          simp (maxDischargeDepth := 9) only [↓gB, gV, gT, reduceIte, reduceCtorEq, Nat.reduceEqDiff, Nat.reduceAdd, Nat.reduceSub, Nat.reduceLeDiff, Nat.reduceLT, Int.reduceEq, Nat.reduceMul, f0, f3, f4, f6, f7, f10, f13, f17, hr1, hr2, h3, he, a1, a2]
          refine Ycp (p7 (by exact put_self _ _ _)) ?_
          simp (maxDischargeDepth := 9) only [↓gB, gV, gT, reduceIte, reduceCtorEq, Nat.reduceEqDiff, Nat.reduceAdd, Nat.reduceSub, Nat.reduceLeDiff, Nat.reduceLT, Int.reduceEq, Nat.reduceMul, f0, f3, f4, f6, f7, f10, f13, f17, hr1, hr2, h3, he, a1, a2]
          refine Ycp (p20 (by exact RSl.put _ (by assumption) (by assumption)) (by exact RSl.put _ (by assumption) (by assumption)) (by decide)) ?_
          simp (maxDischargeDepth := 9) only [↓gB, gV, gT, reduceIte, reduceCtorEq, Nat.reduceEqDiff, Nat.reduceAdd, Nat.reduceSub, Nat.reduceLeDiff, Nat.reduceLT, Int.reduceEq, Nat.reduceMul, f0, f3, f4, f6, f7, f10, f13, f17, hr1, hr2, h3, he, a1, a2]
          have hq := le_put h3 (.cells [V (checkTallies l), V 1].toArray 25 (0, 0), true)
          rw [N_cut]
          exact ⟨_, sub_refl _, r1, r2, ⟨hle.trans hq, hq _ _ hr1, hq _ _ hr2⟩, f0, f3, f4, f10, f13, f17⟩
        by_cases a3 : d < 0
        · have e1 := smo_or1 (l := l) (show within1000 s d = false by unfold within1000 within; simp; omega)
          rw [e1] at he hu
          subst hu
          simp (maxDischargeDepth := 9) only [↓gB, gV, gT, reduceIte, reduceCtorEq, Nat.reduceEqDiff, Nat.reduceAdd, Nat.reduceSub, Nat.reduceLeDiff, Nat.reduceLT, Int.reduceEq, Nat.reduceMul, f0, f3, f4, f6, f7, f10, f13, f17, hr1, hr2, he, a1, a2, a3]
          refine Ycp (p26) ?_
          simp (maxDischargeDepth := 9) only [↓gB, gV, gT, reduceIte, reduceCtorEq, Nat.reduceEqDiff, Nat.reduceAdd, Nat.reduceSub, Nat.reduceLeDiff, Nat.reduceLT, Int.reduceEq, Nat.reduceMul, f0, f3, f4, f6, f7, f10, f13, f17, hr1, hr2, he, a1, a2, a3]
          refine Yn1 fun r3 h3 => ?_
          simp (maxDischargeDepth := 9) only [↓gB, gV, gT, reduceIte, reduceCtorEq, Nat.reduceEqDiff, Nat.reduceAdd, Nat.reduceSub, Nat.reduceLeDiff, Nat.reduceLT, Int.reduceEq, Nat.reduceMul, f0, f3, f4, f6, f7, f10, f13, f17, hr1, hr2, h3, he, a1, a2, a3]
          refine Ycp (p7 (by exact put_self _ _ _)) ?_
          simp (maxDischargeDepth := 9) only [↓gB, gV, gT, reduceIte, reduceCtorEq, Nat.reduceEqDiff, Nat.reduceAdd, Nat.reduceSub, Nat.reduceLeDiff, Nat.reduceLT, Int.reduceEq, Nat.reduceMul, f0, f3, f4, f6, f7, f10, f13, f17, hr1, hr2, h3, he, a1, a2, a3]
          refine Ycp (p20 (by exact RSl.put _ (by assumption) (by assumption)) (by exact RSl.put _ (by assumption) (by assumption)) (by decide)) ?_
          simp (maxDischargeDepth := 9) only [↓gB, gV, gT, reduceIte, reduceCtorEq, Nat.reduceEqDiff, Nat.reduceAdd, Nat.reduceSub, Nat.reduceLeDiff, Nat.reduceLT, Int.reduceEq, Nat.reduceMul, f0, f3, f4, f6, f7, f10, f13, f17, hr1, hr2, h3, he, a1, a2, a3]
          have hq := le_put h3 (.cells [V (checkTallies l), V 1].toArray 25 (0, 0), true)
          rw [N_cut]
          exact ⟨_, sub_refl _, r1, r2, ⟨hle.trans hq, hq _ _ hr1, hq _ _ hr2⟩, f0, f3, f4, f10, f13, f17⟩
        by_cases a4 : 1000 < d
        · have e1 := smo_or1 (l := l) (show within1000 s d = false by unfold within1000 within; simp; omega)
          rw [e1] at he hu
          subst hu
          simp (maxDischargeDepth := 9) only [↓gB, gV, gT, reduceIte, reduceCtorEq, Nat.reduceEqDiff, Nat.reduceAdd, Nat.reduceSub, Nat.reduceLeDiff, Nat.reduceLT, Int.reduceEq, Nat.reduceMul, f0, f3, f4, f6, f7, f10, f13, f17, hr1, hr2, he, a1, a2, a3, a4]
          refine Ycp (p26) ?_
          simp (maxDischargeDepth := 9) only [↓gB, gV, gT, reduceIte, reduceCtorEq, Nat.reduceEqDiff, Nat.reduceAdd, Nat.reduceSub, Nat.reduceLeDiff, Nat.reduceLT, Int.reduceEq, Nat.reduceMul, f0, f3, f4, f6, f7, f10, f13, f17, hr1, hr2, he, a1, a2, a3, a4]
          refine Yn1 fun r3 h3 => ?_
          simp (maxDischargeDepth := 9) only [↓gB, gV, gT, reduceIte, reduceCtorEq, Nat.reduceEqDiff, Nat.reduceAdd, Nat.reduceSub, Nat.reduceLeDiff, Nat.reduceLT, Int.reduceEq, Nat.reduceMul, f0, f3, f4, f6, f7, f10, f13, f17, hr1, hr2, h3, he, a1, a2, a3, a4]
          refine Ycp (p7 (by exact put_self _ _ _)) ?_
          simp (maxDischargeDepth := 9) only [↓gB, gV, gT, reduceIte, reduceCtorEq, Nat.reduceEqDiff, Nat.reduceAdd, Nat.reduceSub, Nat.reduceLeDiff, Nat.reduceLT, Int.reduceEq, Nat.reduceMul, f0, f3, f4, f6, f7, f10, f13, f17, hr1, hr2, h3, he, a1, a2, a3, a4]
          refine Ycp (p20 (by exact RSl.put _ (by assumption) (by assumption)) (by exact RSl.put _ (by assumption) (by assumption)) (by decide)) ?_
          simp (maxDischargeDepth := 9) only [↓gB, gV, gT, reduceIte, reduceCtorEq, Nat.reduceEqDiff, Nat.reduceAdd, Nat.reduceSub, Nat.reduceLeDiff, Nat.reduceLT, Int.reduceEq, Nat.reduceMul, f0, f3, f4, f6, f7, f10, f13, f17, hr1, hr2, h3, he, a1, a2, a3, a4]
          have hq := le_put h3 (.cells [V (checkTallies l), V 1].toArray 25 (0, 0), true)
          rw [N_cut]
          exact ⟨_, sub_refl _, r1, r2, ⟨hle.trans hq, hq _ _ hr1, hq _ _ hr2⟩, f0, f3, f4, f10, f13, f17⟩
        have e1 := smo_or0 he (show within1000 s d = true by unfold within1000 within; simp; omega)
        rw [e1] at he hu
        subst hu
        simp (maxDischargeDepth := 9) only [↓gB, gV, gT, reduceIte, reduceCtorEq, Nat.reduceEqDiff, Nat.reduceAdd, Nat.reduceSub, Nat.reduceLeDiff, Nat.reduceLT, Int.reduceEq, Nat.reduceMul, f0, f3, f4, f6, f7, f10, f13, f17, hr1, hr2, he, a1, a2, a3, a4]
        refine Ycp (p26) ?_
        simp (maxDischargeDepth := 9) only [↓gB, gV, gT, reduceIte, reduceCtorEq, Nat.reduceEqDiff, Nat.reduceAdd, Nat.reduceSub, Nat.reduceLeDiff, Nat.reduceLT, Int.reduceEq, Nat.reduceMul, f0, f3, f4, f6, f7, f10, f13, f17, hr1, hr2, he, a1, a2, a3, a4]
        refine Yn1 fun r3 h3 => ?_
        simp (maxDischargeDepth := 9) only [↓gB, gV, gT, reduceIte, reduceCtorEq, Nat.reduceEqDiff, Nat.reduceAdd, Nat.reduceSub, Nat.reduceLeDiff, Nat.reduceLT, Int.reduceEq, Nat.reduceMul, f0, f3, f4, f6, f7, f10, f13, f17, hr1, hr2, h3, he, a1, a2, a3, a4]
        refine Ycp (p7 (by exact put_self _ _ _)) ?_
        simp (maxDischargeDepth := 9) only [↓gB, gV, gT, reduceIte, reduceCtorEq, Nat.reduceEqDiff, Nat.reduceAdd, Nat.reduceSub, Nat.reduceLeDiff, Nat.reduceLT, Int.reduceEq, Nat.reduceMul, f0, f3, f4, f6, f7, f10, f13, f17, hr1, hr2, h3, he, a1, a2, a3, a4]
        refine Ycp (p20 (by exact RSl.put _ (by assumption) (by assumption)) (by exact RSl.put _ (by assumption) (by assumption)) (by decide)) ?_
        simp (maxDischargeDepth := 9) only [↓gB, gV, gT, reduceIte, reduceCtorEq, Nat.reduceEqDiff, Nat.reduceAdd, Nat.reduceSub, Nat.reduceLeDiff, Nat.reduceLT, Int.reduceEq, Nat.reduceMul, f0, f3, f4, f6, f7, f10, f13, f17, hr1, hr2, h3, he, a1, a2, a3, a4]
        have hq := le_put h3 (.cells [V (checkTallies l), V 0].toArray 25 (0, 0), true)
        rw [N_cut]
        exact ⟨_, sub_refl _, r1, r2, ⟨hle.trans hq, hq _ _ hr1, hq _ _ hr2⟩, f0, f3, f4, f10, f13, f17⟩
    · rintro f G2 ⟨r1, r2, ⟨hle, hr1, hr2⟩, f0, f3, f4, f10, f13, f17⟩
      rw [X_assoc, X_assoc, X_seq]
      refine Xcut _ _ _ _ _ (J := fun f G2 => ∃ r1 r2, (G.le G2 ∧ G2 r1 = some (.cells [V wa, V wb].toArray 70 (0, 0), true) ∧ G2 r2 = some (.cells [V cx, V cy].toArray 24 (0, 0), true)) ∧ f 0 = .slice va l.length vc ∧ f 3 = V z ∧ f 4 = V h ∧ f 10 = .pointer (some ⟨r1, 0, none⟩) ∧ f 13 = .pointer (some ⟨r2, 0, none⟩) ∧ f 17 = V (checkTallies l)) ?_ ?_
      · rcases bool_tf (windowed wa wb) with c1 | c1
        · rcases bool_tf (zoned z) with c2 | c2
          · rcases bool_tf (houred h) with c3 | c3
            · have ch : within h 0 167 = true := c3
              have k1 := kn_of hr1
              have k2 := kn_of hr2
              simp (maxDischargeDepth := 9) only [↓gB, gV, gT, reduceIte, reduceCtorEq, Nat.reduceEqDiff, Nat.reduceAdd, Nat.reduceSub, Nat.reduceLeDiff, Nat.reduceLT, Int.reduceEq, Nat.reduceMul, hr1, hr2, f0, f3, f4, f6, f7, f10, f13, f17, hr1, hr2, f0, f3, f4, f10, f13, f17, c1, c2, c3, ch, k1, k2, or3d]
              refine Ycp (p41) ?_
              simp (maxDischargeDepth := 9) only [↓gB, gV, gT, reduceIte, reduceCtorEq, Nat.reduceEqDiff, Nat.reduceAdd, Nat.reduceSub, Nat.reduceLeDiff, Nat.reduceLT, Int.reduceEq, Nat.reduceMul, hr1, hr2, f0, f3, f4, f6, f7, f10, f13, f17, hr1, hr2, f0, f3, f4, f10, f13, f17, c1, c2, c3, ch, k1, k2, or3d]
              refine Ycp (p42) ?_
              simp (maxDischargeDepth := 9) only [↓gB, gV, gT, reduceIte, reduceCtorEq, Nat.reduceEqDiff, Nat.reduceAdd, Nat.reduceSub, Nat.reduceLeDiff, Nat.reduceLT, Int.reduceEq, Nat.reduceMul, hr1, hr2, f0, f3, f4, f6, f7, f10, f13, f17, hr1, hr2, f0, f3, f4, f10, f13, f17, c1, c2, c3, ch, k1, k2, or3d]
              refine Ycp (p13) ?_
              simp (maxDischargeDepth := 9) only [↓gB, gV, gT, reduceIte, reduceCtorEq, Nat.reduceEqDiff, Nat.reduceAdd, Nat.reduceSub, Nat.reduceLeDiff, Nat.reduceLT, Int.reduceEq, Nat.reduceMul, hr1, hr2, f0, f3, f4, f6, f7, f10, f13, f17, hr1, hr2, f0, f3, f4, f10, f13, f17, c1, c2, c3, ch, k1, k2, or3d]
              refine Ycp (p43) ?_
              simp (maxDischargeDepth := 9) only [↓gB, gV, gT, reduceIte, reduceCtorEq, Nat.reduceEqDiff, Nat.reduceAdd, Nat.reduceSub, Nat.reduceLeDiff, Nat.reduceLT, Int.reduceEq, Nat.reduceMul, hr1, hr2, f0, f3, f4, f6, f7, f10, f13, f17, hr1, hr2, f0, f3, f4, f10, f13, f17, c1, c2, c3, ch, k1, k2, or3d]
              refine Yn1 fun r3 h3 => ?_
              simp (maxDischargeDepth := 9) only [↓gB, gV, gT, reduceIte, reduceCtorEq, Nat.reduceEqDiff, Nat.reduceAdd, Nat.reduceSub, Nat.reduceLeDiff, Nat.reduceLT, Int.reduceEq, Nat.reduceMul, hr1, hr2, f0, f3, f4, f6, f7, f10, f13, f17, hr1, hr2, f0, f3, f4, f10, f13, f17, c1, c2, c3, ch, k1, k2, h3, or3d]
              refine Ycp (p7b (by exact put_self _ _ _)) ?_
              simp (maxDischargeDepth := 9) only [↓gB, gV, gT, reduceIte, reduceCtorEq, Nat.reduceEqDiff, Nat.reduceAdd, Nat.reduceSub, Nat.reduceLeDiff, Nat.reduceLT, Int.reduceEq, Nat.reduceMul, hr1, hr2, f0, f3, f4, f6, f7, f10, f13, f17, hr1, hr2, f0, f3, f4, f10, f13, f17, c1, c2, c3, ch, k1, k2, h3, or3d]
              refine Ycp (p44 (by assumption) (by assumption) (by assumption)) ?_
              simp (maxDischargeDepth := 9) only [↓gB, gV, gT, reduceIte, reduceCtorEq, Nat.reduceEqDiff, Nat.reduceAdd, Nat.reduceSub, Nat.reduceLeDiff, Nat.reduceLT, Int.reduceEq, Nat.reduceMul, hr1, hr2, f0, f3, f4, f6, f7, f10, f13, f17, hr1, hr2, f0, f3, f4, f10, f13, f17, c1, c2, c3, ch, k1, k2, h3, or3d]
              rw [N_cut]
              exact ⟨_, sub_refl _, r1, r2, ⟨hle.trans (le_put h3 _), le_put h3 _ _ _ hr1, le_put h3 _ _ _ hr2⟩, f0, f3, f4, f10, f13, f17⟩
            · simp (maxDischargeDepth := 9) only [↓gB, gV, gT, reduceIte, reduceCtorEq, Nat.reduceEqDiff, Nat.reduceAdd, Nat.reduceSub, Nat.reduceLeDiff, Nat.reduceLT, Int.reduceEq, Nat.reduceMul, hr1, hr2, f0, f3, f4, f6, f7, f10, f13, f17, hr1, hr2, f0, f3, f4, f10, f13, f17, c1, c2, c3, or3c]
              refine Ycp (p41) ?_
              simp (maxDischargeDepth := 9) only [↓gB, gV, gT, reduceIte, reduceCtorEq, Nat.reduceEqDiff, Nat.reduceAdd, Nat.reduceSub, Nat.reduceLeDiff, Nat.reduceLT, Int.reduceEq, Nat.reduceMul, hr1, hr2, f0, f3, f4, f6, f7, f10, f13, f17, hr1, hr2, f0, f3, f4, f10, f13, f17, c1, c2, c3, or3c]
              refine Ycp (p42) ?_
              simp (maxDischargeDepth := 9) only [↓gB, gV, gT, reduceIte, reduceCtorEq, Nat.reduceEqDiff, Nat.reduceAdd, Nat.reduceSub, Nat.reduceLeDiff, Nat.reduceLT, Int.reduceEq, Nat.reduceMul, hr1, hr2, f0, f3, f4, f6, f7, f10, f13, f17, hr1, hr2, f0, f3, f4, f10, f13, f17, c1, c2, c3, or3c]
              refine Ycp (p13) ?_
              simp (maxDischargeDepth := 9) only [↓gB, gV, gT, reduceIte, reduceCtorEq, Nat.reduceEqDiff, Nat.reduceAdd, Nat.reduceSub, Nat.reduceLeDiff, Nat.reduceLT, Int.reduceEq, Nat.reduceMul, hr1, hr2, f0, f3, f4, f6, f7, f10, f13, f17, hr1, hr2, f0, f3, f4, f10, f13, f17, c1, c2, c3, or3c]
              refine Ycp (p43) ?_
              simp (maxDischargeDepth := 9) only [↓gB, gV, gT, reduceIte, reduceCtorEq, Nat.reduceEqDiff, Nat.reduceAdd, Nat.reduceSub, Nat.reduceLeDiff, Nat.reduceLT, Int.reduceEq, Nat.reduceMul, hr1, hr2, f0, f3, f4, f6, f7, f10, f13, f17, hr1, hr2, f0, f3, f4, f10, f13, f17, c1, c2, c3, or3c]
              refine Yn1 fun r3 h3 => ?_
              simp (maxDischargeDepth := 9) only [↓gB, gV, gT, reduceIte, reduceCtorEq, Nat.reduceEqDiff, Nat.reduceAdd, Nat.reduceSub, Nat.reduceLeDiff, Nat.reduceLT, Int.reduceEq, Nat.reduceMul, hr1, hr2, f0, f3, f4, f6, f7, f10, f13, f17, hr1, hr2, f0, f3, f4, f10, f13, f17, c1, c2, c3, h3, or3c]
              refine Ycp (p7b (by exact put_self _ _ _)) ?_
              simp (maxDischargeDepth := 9) only [↓gB, gV, gT, reduceIte, reduceCtorEq, Nat.reduceEqDiff, Nat.reduceAdd, Nat.reduceSub, Nat.reduceLeDiff, Nat.reduceLT, Int.reduceEq, Nat.reduceMul, hr1, hr2, f0, f3, f4, f6, f7, f10, f13, f17, hr1, hr2, f0, f3, f4, f10, f13, f17, c1, c2, c3, h3, or3c]
              rw [N_cut]
              exact ⟨_, sub_refl _, r1, r2, ⟨hle.trans (le_put h3 _), le_put h3 _ _ _ hr1, le_put h3 _ _ _ hr2⟩, f0, f3, f4, f10, f13, f17⟩
          · simp (maxDischargeDepth := 9) only [↓gB, gV, gT, reduceIte, reduceCtorEq, Nat.reduceEqDiff, Nat.reduceAdd, Nat.reduceSub, Nat.reduceLeDiff, Nat.reduceLT, Int.reduceEq, Nat.reduceMul, hr1, hr2, f0, f3, f4, f6, f7, f10, f13, f17, hr1, hr2, f0, f3, f4, f10, f13, f17, c1, c2, or3b]
            refine Ycp (p41) ?_
            simp (maxDischargeDepth := 9) only [↓gB, gV, gT, reduceIte, reduceCtorEq, Nat.reduceEqDiff, Nat.reduceAdd, Nat.reduceSub, Nat.reduceLeDiff, Nat.reduceLT, Int.reduceEq, Nat.reduceMul, hr1, hr2, f0, f3, f4, f6, f7, f10, f13, f17, hr1, hr2, f0, f3, f4, f10, f13, f17, c1, c2, or3b]
            refine Ycp (p42) ?_
            simp (maxDischargeDepth := 9) only [↓gB, gV, gT, reduceIte, reduceCtorEq, Nat.reduceEqDiff, Nat.reduceAdd, Nat.reduceSub, Nat.reduceLeDiff, Nat.reduceLT, Int.reduceEq, Nat.reduceMul, hr1, hr2, f0, f3, f4, f6, f7, f10, f13, f17, hr1, hr2, f0, f3, f4, f10, f13, f17, c1, c2, or3b]
            refine Ycp (p13) ?_
            simp (maxDischargeDepth := 9) only [↓gB, gV, gT, reduceIte, reduceCtorEq, Nat.reduceEqDiff, Nat.reduceAdd, Nat.reduceSub, Nat.reduceLeDiff, Nat.reduceLT, Int.reduceEq, Nat.reduceMul, hr1, hr2, f0, f3, f4, f6, f7, f10, f13, f17, hr1, hr2, f0, f3, f4, f10, f13, f17, c1, c2, or3b]
            refine Ycp (p43) ?_
            simp (maxDischargeDepth := 9) only [↓gB, gV, gT, reduceIte, reduceCtorEq, Nat.reduceEqDiff, Nat.reduceAdd, Nat.reduceSub, Nat.reduceLeDiff, Nat.reduceLT, Int.reduceEq, Nat.reduceMul, hr1, hr2, f0, f3, f4, f6, f7, f10, f13, f17, hr1, hr2, f0, f3, f4, f10, f13, f17, c1, c2, or3b]
            refine Yn1 fun r3 h3 => ?_
            simp (maxDischargeDepth := 9) only [↓gB, gV, gT, reduceIte, reduceCtorEq, Nat.reduceEqDiff, Nat.reduceAdd, Nat.reduceSub, Nat.reduceLeDiff, Nat.reduceLT, Int.reduceEq, Nat.reduceMul, hr1, hr2, f0, f3, f4, f6, f7, f10, f13, f17, hr1, hr2, f0, f3, f4, f10, f13, f17, c1, c2, h3, or3b]
            refine Ycp (p7b (by exact put_self _ _ _)) ?_
            simp (maxDischargeDepth := 9) only [↓gB, gV, gT, reduceIte, reduceCtorEq, Nat.reduceEqDiff, Nat.reduceAdd, Nat.reduceSub, Nat.reduceLeDiff, Nat.reduceLT, Int.reduceEq, Nat.reduceMul, hr1, hr2, f0, f3, f4, f6, f7, f10, f13, f17, hr1, hr2, f0, f3, f4, f10, f13, f17, c1, c2, h3, or3b]
            rw [N_cut]
            exact ⟨_, sub_refl _, r1, r2, ⟨hle.trans (le_put h3 _), le_put h3 _ _ _ hr1, le_put h3 _ _ _ hr2⟩, f0, f3, f4, f10, f13, f17⟩
        · simp (maxDischargeDepth := 9) only [↓gB, gV, gT, reduceIte, reduceCtorEq, Nat.reduceEqDiff, Nat.reduceAdd, Nat.reduceSub, Nat.reduceLeDiff, Nat.reduceLT, Int.reduceEq, Nat.reduceMul, hr1, hr2, f0, f3, f4, f6, f7, f10, f13, f17, hr1, hr2, f0, f3, f4, f10, f13, f17, c1, or3a]
          refine Ycp (p41) ?_
          simp (maxDischargeDepth := 9) only [↓gB, gV, gT, reduceIte, reduceCtorEq, Nat.reduceEqDiff, Nat.reduceAdd, Nat.reduceSub, Nat.reduceLeDiff, Nat.reduceLT, Int.reduceEq, Nat.reduceMul, hr1, hr2, f0, f3, f4, f6, f7, f10, f13, f17, hr1, hr2, f0, f3, f4, f10, f13, f17, c1, or3a]
          refine Ycp (p42) ?_
          simp (maxDischargeDepth := 9) only [↓gB, gV, gT, reduceIte, reduceCtorEq, Nat.reduceEqDiff, Nat.reduceAdd, Nat.reduceSub, Nat.reduceLeDiff, Nat.reduceLT, Int.reduceEq, Nat.reduceMul, hr1, hr2, f0, f3, f4, f6, f7, f10, f13, f17, hr1, hr2, f0, f3, f4, f10, f13, f17, c1, or3a]
          refine Ycp (p13) ?_
          simp (maxDischargeDepth := 9) only [↓gB, gV, gT, reduceIte, reduceCtorEq, Nat.reduceEqDiff, Nat.reduceAdd, Nat.reduceSub, Nat.reduceLeDiff, Nat.reduceLT, Int.reduceEq, Nat.reduceMul, hr1, hr2, f0, f3, f4, f6, f7, f10, f13, f17, hr1, hr2, f0, f3, f4, f10, f13, f17, c1, or3a]
          refine Ycp (p43) ?_
          simp (maxDischargeDepth := 9) only [↓gB, gV, gT, reduceIte, reduceCtorEq, Nat.reduceEqDiff, Nat.reduceAdd, Nat.reduceSub, Nat.reduceLeDiff, Nat.reduceLT, Int.reduceEq, Nat.reduceMul, hr1, hr2, f0, f3, f4, f6, f7, f10, f13, f17, hr1, hr2, f0, f3, f4, f10, f13, f17, c1, or3a]
          refine Yn1 fun r3 h3 => ?_
          simp (maxDischargeDepth := 9) only [↓gB, gV, gT, reduceIte, reduceCtorEq, Nat.reduceEqDiff, Nat.reduceAdd, Nat.reduceSub, Nat.reduceLeDiff, Nat.reduceLT, Int.reduceEq, Nat.reduceMul, hr1, hr2, f0, f3, f4, f6, f7, f10, f13, f17, hr1, hr2, f0, f3, f4, f10, f13, f17, c1, h3, or3a]
          refine Ycp (p7b (by exact put_self _ _ _)) ?_
          simp (maxDischargeDepth := 9) only [↓gB, gV, gT, reduceIte, reduceCtorEq, Nat.reduceEqDiff, Nat.reduceAdd, Nat.reduceSub, Nat.reduceLeDiff, Nat.reduceLT, Int.reduceEq, Nat.reduceMul, hr1, hr2, f0, f3, f4, f6, f7, f10, f13, f17, hr1, hr2, f0, f3, f4, f10, f13, f17, c1, h3, or3a]
          rw [N_cut]
          exact ⟨_, sub_refl _, r1, r2, ⟨hle.trans (le_put h3 _), le_put h3 _ _ _ hr1, le_put h3 _ _ _ hr2⟩, f0, f3, f4, f10, f13, f17⟩
      · rintro f G2 ⟨r1, r2, ⟨hle, hr1, hr2⟩, f0, f3, f4, f10, f13, f17⟩
        replace hv := hv.le hle
        simp (maxDischargeDepth := 9) only [↓gB, gV, gT, reduceIte, reduceCtorEq, Nat.reduceEqDiff, Nat.reduceAdd, Nat.reduceSub, Nat.reduceLeDiff, Nat.reduceLT, Int.reduceEq, Nat.reduceMul, hr1, hr2, f0, f3, f4, f6, f7, f10, f13, f17, hr1, hr2, f0, f3, f4, f10, f13, f17, hr1, hr2, f0, f3, f4, f10, f13, f17]
        refine Xdraw_intro [0, 2, 3, 4, 5, 1, 6, 7, 8, 9, 10, 11, 12, 13, 14] mixed (by kernel_rfl) (by decide +kernel) ?_
        simp (maxDischargeDepth := 9) only [↓gB, gV, gT, reduceIte, reduceCtorEq, Nat.reduceEqDiff, Nat.reduceAdd, Nat.reduceSub, Nat.reduceLeDiff, Nat.reduceLT, Int.reduceEq, Nat.reduceMul, hr1, hr2, f0, f3, f4, f6, f7, f10, f13, f17, hr1, hr2, f0, f3, f4, f10, f13, f17, hr1, hr2, f0, f3, f4, f10, f13, f17]
        refine Ycg (g36 hv (by omega)) (upRSl _ _) ?_
        intro c2 G3 hle3 hc2
        have hro1 := hr1
        have hro2 := hr2
        have hvo := hv
        have hleo := hle
        have ko1 := kn_of hr1
        have ko2 := kn_of hr2
        replace hr1 := hle3 _ _ hr1
        replace hr2 := hle3 _ _ hr2
        replace hv := hv.le hle3
        replace hle := hle.trans hle3
        have k1 := kn_of hr1
        have k2 := kn_of hr2
        by_cases he : orOf [checkTallies l, bi (windowed wa wb), bi (zoned z), bi (point cx cy), bi (houred h)] = 0
        · obtain ⟨d0, c1, c2, c3, ch⟩ := exp_ok he
          have he' : orOf [checkTallies l, bi true, bi true, bi true, bi (houred h)] = 0 := by rw [c1, c2, c3] at he; exact he
          have hb := @weeks_bd wa wb z h c1
          have hmd := @many_bd l (all_ok d0).2 cx cy h
          have hl1 := (all_ok d0).1
          by_cases hn0 : weeksN wa wb z h = 0
          · have hx := exp_zero he hn0
            simp (maxDischargeDepth := 9) only [↓gB, gV, gT, reduceIte, reduceCtorEq, Nat.reduceEqDiff, Nat.reduceAdd, Nat.reduceSub, Nat.reduceLeDiff, Nat.reduceLT, Int.reduceEq, Nat.reduceMul, hr1, hr2, f0, f3, f4, f6, f7, f10, f13, f17, hr1, hr2, f0, f3, f4, f10, f13, f17, f0, f3, f4, f10, f13, f17, hro1, hro2, ko1, ko2, hr1, hr2, k1, k2, c1, c2, c3, ch, hx, he, he', hn0]
            refine Ycp (p45 (by assumption) (by omega)) ?_
            simp (maxDischargeDepth := 9) only [↓gB, gV, gT, reduceIte, reduceCtorEq, Nat.reduceEqDiff, Nat.reduceAdd, Nat.reduceSub, Nat.reduceLeDiff, Nat.reduceLT, Int.reduceEq, Nat.reduceMul, hr1, hr2, f0, f3, f4, f6, f7, f10, f13, f17, hr1, hr2, f0, f3, f4, f10, f13, f17, f0, f3, f4, f10, f13, f17, hro1, hro2, ko1, ko2, hr1, hr2, k1, k2, c1, c2, c3, ch, hx, he, he', hn0]
            refine Yn3 fun r3 h3 k3 => ?_
            simp (maxDischargeDepth := 9) only [↓gB, gV, gT, reduceIte, reduceCtorEq, Nat.reduceEqDiff, Nat.reduceAdd, Nat.reduceSub, Nat.reduceLeDiff, Nat.reduceLT, Int.reduceEq, Nat.reduceMul, hr1, hr2, f0, f3, f4, f6, f7, f10, f13, f17, hr1, hr2, f0, f3, f4, f10, f13, f17, f0, f3, f4, f10, f13, f17, hro1, hro2, ko1, ko2, hr1, hr2, k1, k2, c1, c2, c3, ch, h3, hx, he, he', hn0]
            refine Xdraw_intro [0, 1, 3, 5, 6, 7, 8, 10, 2, 4, 9, 11, 12, 13, 14] mixed (by kernel_rfl) (by decide +kernel) ?_
            simp (maxDischargeDepth := 9) only [↓gB, gV, gT, reduceIte, reduceCtorEq, Nat.reduceEqDiff, Nat.reduceAdd, Nat.reduceSub, Nat.reduceLeDiff, Nat.reduceLT, Int.reduceEq, Nat.reduceMul, hr1, hr2, f0, f3, f4, f6, f7, f10, f13, f17, hr1, hr2, f0, f3, f4, f10, f13, f17, f0, f3, f4, f10, f13, f17, hro1, hro2, ko1, ko2, hr1, hr2, k1, k2, c1, c2, c3, ch, h3, hx, he, he', hn0]
            have hq := le_put4 (o := (.cells [V 0, V 0].toArray 79 (0, 0), true)) h3 hle3
            replace hr1 := hq _ _ hro1
            replace hr2 := hq _ _ hro2
            replace hv := hvo.le hq
            replace hle := hleo.trans hq
            have hf := put_self G3 r3 (.cells [V 0, V 0].toArray 79 (0, 0), true)
            have k3' := kn_of hf
            generalize G3.put r3 (.cells [V 0, V 0].toArray 79 (0, 0), true) = G4 at *
            have k1 := kn_of hr1
            have k2 := kn_of hr2
            simp (maxDischargeDepth := 9) only [↓gB, gV, gT, reduceIte, reduceCtorEq, Nat.reduceEqDiff, Nat.reduceAdd, Nat.reduceSub, Nat.reduceLeDiff, Nat.reduceLT, Int.reduceEq, Nat.reduceMul, hr1, hr2, f0, f3, f4, f6, f7, f10, f13, f17, hr1, hr2, f0, f3, f4, f10, f13, f17, f0, f3, f4, f10, f13, f17, hro1, hro2, ko1, ko2, k1, k2, c1, c2, c3, ch, h3, hr1, hr2, hf, k3', k1, k2, hx, he, he', hn0]
            refine Ycp (p42) ?_
            simp (maxDischargeDepth := 9) only [↓gB, gV, gT, reduceIte, reduceCtorEq, Nat.reduceEqDiff, Nat.reduceAdd, Nat.reduceSub, Nat.reduceLeDiff, Nat.reduceLT, Int.reduceEq, Nat.reduceMul, hr1, hr2, f0, f3, f4, f6, f7, f10, f13, f17, hr1, hr2, f0, f3, f4, f10, f13, f17, f0, f3, f4, f10, f13, f17, hro1, hro2, ko1, ko2, k1, k2, c1, c2, c3, ch, h3, hr1, hr2, hf, k3', k1, k2, hx, he, he', hn0]
            refine Ycp (p13) ?_
            simp (maxDischargeDepth := 9) only [↓gB, gV, gT, reduceIte, reduceCtorEq, Nat.reduceEqDiff, Nat.reduceAdd, Nat.reduceSub, Nat.reduceLeDiff, Nat.reduceLT, Int.reduceEq, Nat.reduceMul, hr1, hr2, f0, f3, f4, f6, f7, f10, f13, f17, hr1, hr2, f0, f3, f4, f10, f13, f17, f0, f3, f4, f10, f13, f17, hro1, hro2, ko1, ko2, k1, k2, c1, c2, c3, ch, h3, hr1, hr2, hf, k3', k1, k2, hx, he, he', hn0]
            refine Ycp (p8) ?_
            simp (maxDischargeDepth := 9) only [↓gB, gV, gT, reduceIte, reduceCtorEq, Nat.reduceEqDiff, Nat.reduceAdd, Nat.reduceSub, Nat.reduceLeDiff, Nat.reduceLT, Int.reduceEq, Nat.reduceMul, hr1, hr2, f0, f3, f4, f6, f7, f10, f13, f17, hr1, hr2, f0, f3, f4, f10, f13, f17, f0, f3, f4, f10, f13, f17, hro1, hro2, ko1, ko2, k1, k2, c1, c2, c3, ch, h3, hr1, hr2, hf, k3', k1, k2, hx, he, he', hn0]
            refine Ycp (p43) ?_
            simp (maxDischargeDepth := 9) only [↓gB, gV, gT, reduceIte, reduceCtorEq, Nat.reduceEqDiff, Nat.reduceAdd, Nat.reduceSub, Nat.reduceLeDiff, Nat.reduceLT, Int.reduceEq, Nat.reduceMul, hr1, hr2, f0, f3, f4, f6, f7, f10, f13, f17, hr1, hr2, f0, f3, f4, f10, f13, f17, f0, f3, f4, f10, f13, f17, hro1, hro2, ko1, ko2, k1, k2, c1, c2, c3, ch, h3, hr1, hr2, hf, k3', k1, k2, hx, he, he', hn0]
            refine Yn1 fun r4 h4 => ?_
            simp (maxDischargeDepth := 9) only [↓gB, gV, gT, reduceIte, reduceCtorEq, Nat.reduceEqDiff, Nat.reduceAdd, Nat.reduceSub, Nat.reduceLeDiff, Nat.reduceLT, Int.reduceEq, Nat.reduceMul, hr1, hr2, f0, f3, f4, f6, f7, f10, f13, f17, hr1, hr2, f0, f3, f4, f10, f13, f17, f0, f3, f4, f10, f13, f17, hro1, hro2, ko1, ko2, k1, k2, c1, c2, c3, ch, h3, hr1, hr2, hf, k3', k1, k2, h4, hx, he, he', hn0]
            refine Ycp (p7d (by exact put_self _ _ _)) ?_
            simp (maxDischargeDepth := 9) only [↓gB, gV, gT, reduceIte, reduceCtorEq, Nat.reduceEqDiff, Nat.reduceAdd, Nat.reduceSub, Nat.reduceLeDiff, Nat.reduceLT, Int.reduceEq, Nat.reduceMul, hr1, hr2, f0, f3, f4, f6, f7, f10, f13, f17, hr1, hr2, f0, f3, f4, f10, f13, f17, f0, f3, f4, f10, f13, f17, hro1, hro2, ko1, ko2, k1, k2, c1, c2, c3, ch, h3, hr1, hr2, hf, k3', k1, k2, h4, hx, he, he', hn0]
            refine Ycp (p44 (by assumption) (by assumption) (by assumption)) ?_
            simp (maxDischargeDepth := 9) only [↓gB, gV, gT, reduceIte, reduceCtorEq, Nat.reduceEqDiff, Nat.reduceAdd, Nat.reduceSub, Nat.reduceLeDiff, Nat.reduceLT, Int.reduceEq, Nat.reduceMul, hr1, hr2, f0, f3, f4, f6, f7, f10, f13, f17, hr1, hr2, f0, f3, f4, f10, f13, f17, f0, f3, f4, f10, f13, f17, hro1, hro2, ko1, ko2, k1, k2, c1, c2, c3, ch, h3, hr1, hr2, hf, k3', k1, k2, h4, hx, he, he', hn0]
            refine Ycp (p21) ?_
            simp (maxDischargeDepth := 9) only [↓gB, gV, gT, reduceIte, reduceCtorEq, Nat.reduceEqDiff, Nat.reduceAdd, Nat.reduceSub, Nat.reduceLeDiff, Nat.reduceLT, Int.reduceEq, Nat.reduceMul, hr1, hr2, f0, f3, f4, f6, f7, f10, f13, f17, hr1, hr2, f0, f3, f4, f10, f13, f17, f0, f3, f4, f10, f13, f17, hro1, hro2, ko1, ko2, k1, k2, c1, c2, c3, ch, h3, hr1, hr2, hf, k3', k1, k2, h4, hx, he, he', hn0]
            exact Kup_val (by simp (maxDischargeDepth := 9) only [le_self, le_puts, le_put0, hle, hle, hle3, hleo, h3, hq, hle, h4]) rfl
          · obtain ⟨p, q, hpq⟩ : ∃ p q, lowest (manyAt l cx cy h) (weeksN wa wb z h) = .agg #[V p, V q] := ⟨_, _, rfl⟩
            have hx := (exp_good he hn0).trans (by rw [hpq])
            simp (maxDischargeDepth := 9) only [↓gB, gV, gT, reduceIte, reduceCtorEq, Nat.reduceEqDiff, Nat.reduceAdd, Nat.reduceSub, Nat.reduceLeDiff, Nat.reduceLT, Int.reduceEq, Nat.reduceMul, hr1, hr2, f0, f3, f4, f6, f7, f10, f13, f17, hr1, hr2, f0, f3, f4, f10, f13, f17, f0, f3, f4, f10, f13, f17, hro1, hro2, ko1, ko2, hr1, hr2, k1, k2, c1, c2, c3, ch, hx, he, he', hn0]
            refine Ycp (p45 (by assumption) (by omega)) ?_
            simp (maxDischargeDepth := 9) only [↓gB, gV, gT, reduceIte, reduceCtorEq, Nat.reduceEqDiff, Nat.reduceAdd, Nat.reduceSub, Nat.reduceLeDiff, Nat.reduceLT, Int.reduceEq, Nat.reduceMul, hr1, hr2, f0, f3, f4, f6, f7, f10, f13, f17, hr1, hr2, f0, f3, f4, f10, f13, f17, f0, f3, f4, f10, f13, f17, hro1, hro2, ko1, ko2, hr1, hr2, k1, k2, c1, c2, c3, ch, hx, he, he', hn0]
            refine Yn3 fun r3 h3 k3 => ?_
            simp (maxDischargeDepth := 9) only [↓gB, gV, gT, reduceIte, reduceCtorEq, Nat.reduceEqDiff, Nat.reduceAdd, Nat.reduceSub, Nat.reduceLeDiff, Nat.reduceLT, Int.reduceEq, Nat.reduceMul, hr1, hr2, f0, f3, f4, f6, f7, f10, f13, f17, hr1, hr2, f0, f3, f4, f10, f13, f17, f0, f3, f4, f10, f13, f17, hro1, hro2, ko1, ko2, hr1, hr2, k1, k2, c1, c2, c3, ch, h3, hx, he, he', hn0]
            refine Xdraw_intro [0, 1, 3, 5, 6, 7, 8, 10, 2, 4, 9, 11, 12, 13, 14] mixed (by kernel_rfl) (by decide +kernel) ?_
            simp (maxDischargeDepth := 9) only [↓gB, gV, gT, reduceIte, reduceCtorEq, Nat.reduceEqDiff, Nat.reduceAdd, Nat.reduceSub, Nat.reduceLeDiff, Nat.reduceLT, Int.reduceEq, Nat.reduceMul, hr1, hr2, f0, f3, f4, f6, f7, f10, f13, f17, hr1, hr2, f0, f3, f4, f10, f13, f17, f0, f3, f4, f10, f13, f17, hro1, hro2, ko1, ko2, hr1, hr2, k1, k2, c1, c2, c3, ch, h3, hx, he, he', hn0]
            have hq := le_put4 (o := (.cells [V p, V q].toArray 79 (0, 0), true)) h3 hle3
            replace hr1 := hq _ _ hro1
            replace hr2 := hq _ _ hro2
            replace hv := hvo.le hq
            replace hle := hleo.trans hq
            have hf := put_self G3 r3 (.cells [V p, V q].toArray 79 (0, 0), true)
            have k3' := kn_of hf
            generalize G3.put r3 (.cells [V p, V q].toArray 79 (0, 0), true) = G4 at *
            have k1 := kn_of hr1
            have k2 := kn_of hr2
            simp (maxDischargeDepth := 9) only [↓gB, gV, gT, reduceIte, reduceCtorEq, Nat.reduceEqDiff, Nat.reduceAdd, Nat.reduceSub, Nat.reduceLeDiff, Nat.reduceLT, Int.reduceEq, Nat.reduceMul, hr1, hr2, f0, f3, f4, f6, f7, f10, f13, f17, hr1, hr2, f0, f3, f4, f10, f13, f17, f0, f3, f4, f10, f13, f17, hro1, hro2, ko1, ko2, k1, k2, c1, c2, c3, ch, h3, hr1, hr2, hf, k3', k1, k2, hx, he, he', hn0, hpq]
            refine Ycp (p42) ?_
            simp (maxDischargeDepth := 9) only [↓gB, gV, gT, reduceIte, reduceCtorEq, Nat.reduceEqDiff, Nat.reduceAdd, Nat.reduceSub, Nat.reduceLeDiff, Nat.reduceLT, Int.reduceEq, Nat.reduceMul, hr1, hr2, f0, f3, f4, f6, f7, f10, f13, f17, hr1, hr2, f0, f3, f4, f10, f13, f17, f0, f3, f4, f10, f13, f17, hro1, hro2, ko1, ko2, k1, k2, c1, c2, c3, ch, h3, hr1, hr2, hf, k3', k1, k2, hx, he, he', hn0, hpq]
            refine Ycp (p13) ?_
            simp (maxDischargeDepth := 9) only [↓gB, gV, gT, reduceIte, reduceCtorEq, Nat.reduceEqDiff, Nat.reduceAdd, Nat.reduceSub, Nat.reduceLeDiff, Nat.reduceLT, Int.reduceEq, Nat.reduceMul, hr1, hr2, f0, f3, f4, f6, f7, f10, f13, f17, hr1, hr2, f0, f3, f4, f10, f13, f17, f0, f3, f4, f10, f13, f17, hro1, hro2, ko1, ko2, k1, k2, c1, c2, c3, ch, h3, hr1, hr2, hf, k3', k1, k2, hx, he, he', hn0, hpq]
            refine Ycp (p8) ?_
            simp (maxDischargeDepth := 9) only [↓gB, gV, gT, reduceIte, reduceCtorEq, Nat.reduceEqDiff, Nat.reduceAdd, Nat.reduceSub, Nat.reduceLeDiff, Nat.reduceLT, Int.reduceEq, Nat.reduceMul, hr1, hr2, f0, f3, f4, f6, f7, f10, f13, f17, hr1, hr2, f0, f3, f4, f10, f13, f17, f0, f3, f4, f10, f13, f17, hro1, hro2, ko1, ko2, k1, k2, c1, c2, c3, ch, h3, hr1, hr2, hf, k3', k1, k2, hx, he, he', hn0, hpq]
            refine Ycp (p43) ?_
            simp (maxDischargeDepth := 9) only [↓gB, gV, gT, reduceIte, reduceCtorEq, Nat.reduceEqDiff, Nat.reduceAdd, Nat.reduceSub, Nat.reduceLeDiff, Nat.reduceLT, Int.reduceEq, Nat.reduceMul, hr1, hr2, f0, f3, f4, f6, f7, f10, f13, f17, hr1, hr2, f0, f3, f4, f10, f13, f17, f0, f3, f4, f10, f13, f17, hro1, hro2, ko1, ko2, k1, k2, c1, c2, c3, ch, h3, hr1, hr2, hf, k3', k1, k2, hx, he, he', hn0, hpq]
            refine Yn1 fun r4 h4 => ?_
            simp (maxDischargeDepth := 9) only [↓gB, gV, gT, reduceIte, reduceCtorEq, Nat.reduceEqDiff, Nat.reduceAdd, Nat.reduceSub, Nat.reduceLeDiff, Nat.reduceLT, Int.reduceEq, Nat.reduceMul, hr1, hr2, f0, f3, f4, f6, f7, f10, f13, f17, hr1, hr2, f0, f3, f4, f10, f13, f17, f0, f3, f4, f10, f13, f17, hro1, hro2, ko1, ko2, k1, k2, c1, c2, c3, ch, h3, hr1, hr2, hf, k3', k1, k2, h4, hx, he, he', hn0, hpq]
            refine Ycp (p7d (by exact put_self _ _ _)) ?_
            simp (maxDischargeDepth := 9) only [↓gB, gV, gT, reduceIte, reduceCtorEq, Nat.reduceEqDiff, Nat.reduceAdd, Nat.reduceSub, Nat.reduceLeDiff, Nat.reduceLT, Int.reduceEq, Nat.reduceMul, hr1, hr2, f0, f3, f4, f6, f7, f10, f13, f17, hr1, hr2, f0, f3, f4, f10, f13, f17, f0, f3, f4, f10, f13, f17, hro1, hro2, ko1, ko2, k1, k2, c1, c2, c3, ch, h3, hr1, hr2, hf, k3', k1, k2, h4, hx, he, he', hn0, hpq]
            refine Ycp (p44 (by assumption) (by assumption) (by assumption)) ?_
            simp (maxDischargeDepth := 9) only [↓gB, gV, gT, reduceIte, reduceCtorEq, Nat.reduceEqDiff, Nat.reduceAdd, Nat.reduceSub, Nat.reduceLeDiff, Nat.reduceLT, Int.reduceEq, Nat.reduceMul, hr1, hr2, f0, f3, f4, f6, f7, f10, f13, f17, hr1, hr2, f0, f3, f4, f10, f13, f17, f0, f3, f4, f10, f13, f17, hro1, hro2, ko1, ko2, k1, k2, c1, c2, c3, ch, h3, hr1, hr2, hf, k3', k1, k2, h4, hx, he, he', hn0, hpq]
            refine Xdraw_intro [0, 1, 2, 3, 4, 5, 6, 7, 8, 9, 11, 12, 13, 10, 14, 15, 16, 17, 18, 19, 20, 21] mixed (by kernel_rfl) (by decide +kernel) ?_
            simp (maxDischargeDepth := 9) only [↓gB, gV, gT, reduceIte, reduceCtorEq, Nat.reduceEqDiff, Nat.reduceAdd, Nat.reduceSub, Nat.reduceLeDiff, Nat.reduceLT, Int.reduceEq, Nat.reduceMul, hr1, hr2, f0, f3, f4, f6, f7, f10, f13, f17, hr1, hr2, f0, f3, f4, f10, f13, f17, f0, f3, f4, f10, f13, f17, hro1, hro2, ko1, ko2, k1, k2, c1, c2, c3, ch, h3, hr1, hr2, hf, k3', k1, k2, h4, hx, he, he', hn0, hpq]
            refine Ycp (p47 (by exact RSl.put _ (by assumption) (by assumption)) (by omega)) ?_
            simp (maxDischargeDepth := 9) only [↓gB, gV, gT, reduceIte, reduceCtorEq, Nat.reduceEqDiff, Nat.reduceAdd, Nat.reduceSub, Nat.reduceLeDiff, Nat.reduceLT, Int.reduceEq, Nat.reduceMul, hr1, hr2, f0, f3, f4, f6, f7, f10, f13, f17, hr1, hr2, f0, f3, f4, f10, f13, f17, f0, f3, f4, f10, f13, f17, hro1, hro2, ko1, ko2, k1, k2, c1, c2, c3, ch, h3, hr1, hr2, hf, k3', k1, k2, h4, hx, he, he', hn0, hpq]
            refine Ycp (p44 (by assumption) (by assumption) (by assumption)) ?_
            simp (maxDischargeDepth := 9) only [↓gB, gV, gT, reduceIte, reduceCtorEq, Nat.reduceEqDiff, Nat.reduceAdd, Nat.reduceSub, Nat.reduceLeDiff, Nat.reduceLT, Int.reduceEq, Nat.reduceMul, hr1, hr2, f0, f3, f4, f6, f7, f10, f13, f17, hr1, hr2, f0, f3, f4, f10, f13, f17, f0, f3, f4, f10, f13, f17, hro1, hro2, ko1, ko2, k1, k2, c1, c2, c3, ch, h3, hr1, hr2, hf, k3', k1, k2, h4, hx, he, he', hn0, hpq]
            refine Ycp (p46 (by omega) (by omega) (by omega) (by omega)) ?_
            simp (maxDischargeDepth := 9) only [↓gB, gV, gT, reduceIte, reduceCtorEq, Nat.reduceEqDiff, Nat.reduceAdd, Nat.reduceSub, Nat.reduceLeDiff, Nat.reduceLT, Int.reduceEq, Nat.reduceMul, hr1, hr2, f0, f3, f4, f6, f7, f10, f13, f17, hr1, hr2, f0, f3, f4, f10, f13, f17, f0, f3, f4, f10, f13, f17, hro1, hro2, ko1, ko2, k1, k2, c1, c2, c3, ch, h3, hr1, hr2, hf, k3', k1, k2, h4, hx, he, he', hn0, hpq]
            refine Ycp (p21) ?_
            simp (maxDischargeDepth := 9) only [↓gB, gV, gT, reduceIte, reduceCtorEq, Nat.reduceEqDiff, Nat.reduceAdd, Nat.reduceSub, Nat.reduceLeDiff, Nat.reduceLT, Int.reduceEq, Nat.reduceMul, hr1, hr2, f0, f3, f4, f6, f7, f10, f13, f17, hr1, hr2, f0, f3, f4, f10, f13, f17, f0, f3, f4, f10, f13, f17, hro1, hro2, ko1, ko2, k1, k2, c1, c2, c3, ch, h3, hr1, hr2, hf, k3', k1, k2, h4, hx, he, he', hn0, hpq]
            exact Kup_val (by simp (maxDischargeDepth := 9) only [le_self, le_puts, le_put0, hle, hle, hle3, hleo, h3, hq, hle, h4]) rfl
        · have hx := exp_bad he
          simp (maxDischargeDepth := 9) only [↓gB, gV, gT, reduceIte, reduceCtorEq, Nat.reduceEqDiff, Nat.reduceAdd, Nat.reduceSub, Nat.reduceLeDiff, Nat.reduceLT, Int.reduceEq, Nat.reduceMul, hr1, hr2, f0, f3, f4, f6, f7, f10, f13, f17, hr1, hr2, f0, f3, f4, f10, f13, f17, f0, f3, f4, f10, f13, f17, hro1, hro2, ko1, ko2, hr1, hr2, k1, k2, hx, he]
          refine Ycp (p45 (by assumption) (by omega)) ?_
          simp (maxDischargeDepth := 9) only [↓gB, gV, gT, reduceIte, reduceCtorEq, Nat.reduceEqDiff, Nat.reduceAdd, Nat.reduceSub, Nat.reduceLeDiff, Nat.reduceLT, Int.reduceEq, Nat.reduceMul, hr1, hr2, f0, f3, f4, f6, f7, f10, f13, f17, hr1, hr2, f0, f3, f4, f10, f13, f17, f0, f3, f4, f10, f13, f17, hro1, hro2, ko1, ko2, hr1, hr2, k1, k2, hx, he]
          refine Yn3 fun r3 h3 k3 => ?_
          simp (maxDischargeDepth := 9) only [↓gB, gV, gT, reduceIte, reduceCtorEq, Nat.reduceEqDiff, Nat.reduceAdd, Nat.reduceSub, Nat.reduceLeDiff, Nat.reduceLT, Int.reduceEq, Nat.reduceMul, hr1, hr2, f0, f3, f4, f6, f7, f10, f13, f17, hr1, hr2, f0, f3, f4, f10, f13, f17, f0, f3, f4, f10, f13, f17, hro1, hro2, ko1, ko2, hr1, hr2, k1, k2, h3, hx, he]
          refine Xdraw_intro [0, 1, 3, 5, 6, 7, 8, 10, 2, 4, 9, 11, 12, 13, 14] mixed (by kernel_rfl) (by decide +kernel) ?_
          simp (maxDischargeDepth := 9) only [↓gB, gV, gT, reduceIte, reduceCtorEq, Nat.reduceEqDiff, Nat.reduceAdd, Nat.reduceSub, Nat.reduceLeDiff, Nat.reduceLT, Int.reduceEq, Nat.reduceMul, hr1, hr2, f0, f3, f4, f6, f7, f10, f13, f17, hr1, hr2, f0, f3, f4, f10, f13, f17, f0, f3, f4, f10, f13, f17, hro1, hro2, ko1, ko2, hr1, hr2, k1, k2, h3, hx, he]
          have hq := le_put4 (o := (.cells [V 0, V 0].toArray 79 (0, 0), true)) h3 hle3
          replace hr1 := hq _ _ hro1
          replace hr2 := hq _ _ hro2
          replace hv := hvo.le hq
          replace hle := hleo.trans hq
          have hf := put_self G3 r3 (.cells [V 0, V 0].toArray 79 (0, 0), true)
          have k3' := kn_of hf
          generalize G3.put r3 (.cells [V 0, V 0].toArray 79 (0, 0), true) = G4 at *
          have k1 := kn_of hr1
          have k2 := kn_of hr2
          simp (maxDischargeDepth := 9) only [↓gB, gV, gT, reduceIte, reduceCtorEq, Nat.reduceEqDiff, Nat.reduceAdd, Nat.reduceSub, Nat.reduceLeDiff, Nat.reduceLT, Int.reduceEq, Nat.reduceMul, hr1, hr2, f0, f3, f4, f6, f7, f10, f13, f17, hr1, hr2, f0, f3, f4, f10, f13, f17, f0, f3, f4, f10, f13, f17, hro1, hro2, ko1, ko2, k1, k2, h3, hr1, hr2, hf, k3', k1, k2, hx, he]
          refine Ycp (p42) ?_
          simp (maxDischargeDepth := 9) only [↓gB, gV, gT, reduceIte, reduceCtorEq, Nat.reduceEqDiff, Nat.reduceAdd, Nat.reduceSub, Nat.reduceLeDiff, Nat.reduceLT, Int.reduceEq, Nat.reduceMul, hr1, hr2, f0, f3, f4, f6, f7, f10, f13, f17, hr1, hr2, f0, f3, f4, f10, f13, f17, f0, f3, f4, f10, f13, f17, hro1, hro2, ko1, ko2, k1, k2, h3, hr1, hr2, hf, k3', k1, k2, hx, he]
          refine Ycp (p13) ?_
          simp (maxDischargeDepth := 9) only [↓gB, gV, gT, reduceIte, reduceCtorEq, Nat.reduceEqDiff, Nat.reduceAdd, Nat.reduceSub, Nat.reduceLeDiff, Nat.reduceLT, Int.reduceEq, Nat.reduceMul, hr1, hr2, f0, f3, f4, f6, f7, f10, f13, f17, hr1, hr2, f0, f3, f4, f10, f13, f17, f0, f3, f4, f10, f13, f17, hro1, hro2, ko1, ko2, k1, k2, h3, hr1, hr2, hf, k3', k1, k2, hx, he]
          refine Ycp (p8) ?_
          simp (maxDischargeDepth := 9) only [↓gB, gV, gT, reduceIte, reduceCtorEq, Nat.reduceEqDiff, Nat.reduceAdd, Nat.reduceSub, Nat.reduceLeDiff, Nat.reduceLT, Int.reduceEq, Nat.reduceMul, hr1, hr2, f0, f3, f4, f6, f7, f10, f13, f17, hr1, hr2, f0, f3, f4, f10, f13, f17, f0, f3, f4, f10, f13, f17, hro1, hro2, ko1, ko2, k1, k2, h3, hr1, hr2, hf, k3', k1, k2, hx, he]
          refine Ycp (p43) ?_
          simp (maxDischargeDepth := 9) only [↓gB, gV, gT, reduceIte, reduceCtorEq, Nat.reduceEqDiff, Nat.reduceAdd, Nat.reduceSub, Nat.reduceLeDiff, Nat.reduceLT, Int.reduceEq, Nat.reduceMul, hr1, hr2, f0, f3, f4, f6, f7, f10, f13, f17, hr1, hr2, f0, f3, f4, f10, f13, f17, f0, f3, f4, f10, f13, f17, hro1, hro2, ko1, ko2, k1, k2, h3, hr1, hr2, hf, k3', k1, k2, hx, he]
          refine Yn1 fun r4 h4 => ?_
          simp (maxDischargeDepth := 9) only [↓gB, gV, gT, reduceIte, reduceCtorEq, Nat.reduceEqDiff, Nat.reduceAdd, Nat.reduceSub, Nat.reduceLeDiff, Nat.reduceLT, Int.reduceEq, Nat.reduceMul, hr1, hr2, f0, f3, f4, f6, f7, f10, f13, f17, hr1, hr2, f0, f3, f4, f10, f13, f17, f0, f3, f4, f10, f13, f17, hro1, hro2, ko1, ko2, k1, k2, h3, hr1, hr2, hf, k3', k1, k2, h4, hx, he]
          refine Ycp (p7d (by exact put_self _ _ _)) ?_
          simp (maxDischargeDepth := 9) only [↓gB, gV, gT, reduceIte, reduceCtorEq, Nat.reduceEqDiff, Nat.reduceAdd, Nat.reduceSub, Nat.reduceLeDiff, Nat.reduceLT, Int.reduceEq, Nat.reduceMul, hr1, hr2, f0, f3, f4, f6, f7, f10, f13, f17, hr1, hr2, f0, f3, f4, f10, f13, f17, f0, f3, f4, f10, f13, f17, hro1, hro2, ko1, ko2, k1, k2, h3, hr1, hr2, hf, k3', k1, k2, h4, hx, he]
          refine Ycp (p21) ?_
          simp (maxDischargeDepth := 9) only [↓gB, gV, gT, reduceIte, reduceCtorEq, Nat.reduceEqDiff, Nat.reduceAdd, Nat.reduceSub, Nat.reduceLeDiff, Nat.reduceLT, Int.reduceEq, Nat.reduceMul, hr1, hr2, f0, f3, f4, f6, f7, f10, f13, f17, hr1, hr2, f0, f3, f4, f10, f13, f17, f0, f3, f4, f10, f13, f17, hro1, hro2, ko1, ko2, k1, k2, h3, hr1, hr2, hf, k3', k1, k2, h4, hx, he]
          exact Kup_val (by simp (maxDischargeDepth := 9) only [le_self, le_puts, le_put0, hle, hle, hle3, hleo, h3, hq, hle, h4]) rfl
end Go.Proofs.Ytgkdbjnmlecimaa
namespace Go.Proofs.Ytgkdbjnmlecimaa
open Go Go.GL
set_option maxRecDepth 10000
set_option maxHeartbeats 0
set_option maxRecDepth 10000
theorem ltOf_tcmp (x y : Tly) : ltOf tcmp x y = decide (x.a < y.a ∨ x.a = y.a ∧ (x.b < y.b ∨ x.b = y.b ∧ x.h < y.h)) := by
  unfold ltOf
  rw [Bool.eq_iff_iff, decide_eq_true_iff, decide_eq_true_iff]; exact tcmp_lt x y
theorem swoT : Go.Sort.SWO (ltOf tcmp) where
  irrefl x := by rw [ltOf_tcmp]; simp
  trans x y z h1 h2 := by rw [ltOf_tcmp] at *; simp only [decide_eq_true_eq] at *; omega
  ntrans x y z h1 h2 := by rw [ltOf_tcmp] at *; simp only [decide_eq_false_iff_not] at *; omega
instance : Inhabited Tly := ⟨⟨0, 0, 0, 0⟩⟩
theorem sortSpec (g : Nat) (hg : GL.Enters Try.prog g) (hc : ∀ x y G, GCalls Try.prog g #[.agg (encT x).toArray, .agg (encT y).toArray] G (fun u G' => G.le G' ∧ u = .int .i64 (tcmp x y))) : SortSpec g := by
  have eg : ∀ args w, (callFunc g args).run Try.prog w = .ok (.enter g args) w := by
    intro args w
    obtain ⟨fn, hf, h1, h2⟩ := hg
    cases hb : fn.body with
    | none => rw [hb] at h2; cases h2
    | some c => exact enters_of hf h1 hb args w
  constructor
  · intro p cap G w0 w hw
    have h := AnyF.slices_SortFunc_none Try.sortT p cap (.func (.func g) #[] #[]) w
    change Calls Try.prog 82 _ _ _ at h
    refine h.mono ?_
    rintro e w' ⟨rfl, rfl⟩
    exact ⟨_, G, rfl, hw, rfl, rfl⟩
  · intro l hl G b cap c e hb hcap htake
    have := gsort (P := Try.prog) (n := 82) (g := g) (enc := encT) (k := 4) (cf := tcmp) (fun _ => rfl) (fun blk cap d w hcmp hH hblk hsz =>
      AnyQ.slices_SortFunc Try.sortT 4 Try.isAgg44 Try.sizeOf44 encT (fun _ => rfl) (fun x v hv => by simp [encT] at hv; rcases hv with rfl | rfl | rfl | rfl <;> rfl) tcmp swoT g #[] blk 0 cap d w eg hcmp hH hblk hsz) hc l hl (cap := cap) hb hcap htake
    refine this.mono ?_
    rintro v G' ⟨rfl, l', hp, hs, c', h1, h2, h3⟩
    refine ⟨rfl, l', hp, ?_, c', h1, h2, h3⟩
    refine hs.imp ?_
    intro x y h
    simpa [ltOf] using h
theorem sortA : SortSpec 71 := sortSpec 71 (of_eq_true en71) (fun x y G => p71 (a := x.a) (b := x.b) (h := x.h) (m := x.k) (c := y.a) (d := y.b) (k := y.h) (n := y.k) (G0 := G) G (fun _ _ h => h))
theorem sortB : SortSpec 83 := sortSpec 83 (of_eq_true en83) (fun x y G => p83 (a := x.a) (b := x.b) (h := x.h) (m := x.k) (c := y.a) (d := y.b) (k := y.h) (n := y.k) (G0 := G) G (fun _ _ h => h))
end Go.Proofs.Ytgkdbjnmlecimaa
namespace Go.Proofs.Ytgkdbjnmlecimaa
open Go Go.GL
set_option maxRecDepth 10000
set_option maxHeartbeats 0
open Go.RowKit
set_option maxRecDepth 10000
def G0of (W : World) : GH := fun b => (W.heap[b]?).map fun o => (o, false)
theorem holdsG0 (W : World) : GL.Holds W (G0of W) W := by
  refine ⟨Go.RowKit.Below.refl _ _, ?_, ?_, Nat.le_refl _⟩
  · intro b o t h
    unfold G0of at h
    rw [Option.map_eq_some_iff] at h
    obtain ⟨o', h1, h2⟩ := h
    cases h2; exact h1
  · intro b o h
    unfold G0of at h
    rw [Option.map_eq_some_iff] at h
    obtain ⟨o', h1, h2⟩ := h
    cases h2
theorem mapM_some {α β : Type} {f : α → Option β} : ∀ (l : List α) (r : List β), l.mapM f = some r → r.length = l.length ∧ ∀ (i : Nat) x, l[i]? = some x → f x = r[i]?
  | [], r, h => by
    rw [List.mapM_nil] at h; cases h; exact ⟨rfl, by simp⟩
  | y :: l, r, h => by
    rw [List.mapM_cons] at h
    simp only [bind, Option.bind_eq_some_iff, pure, Option.some.injEq] at h
    obtain ⟨b, hb, r', hr, rfl⟩ := h
    obtain ⟨h1, h2⟩ := mapM_some l r' hr
    refine ⟨by simp [h1], ?_⟩
    intro i x hx
    cases i with
    | zero => simp at hx; subst hx; simpa using hb
    | succ i => simp at hx; simpa using h2 i x hx
theorem cellsI_of {W : World} {a : Addr} {n : Nat} {cs : List Value} (hn : 0 < n) (h : W.cells? 0 a n = some cs) : gcellsI (G0of W) a n = some cs := by
  unfold World.cells? at h
  rw [if_pos (Nat.zero_le _)] at h
  obtain ⟨h1, h2⟩ := mapM_some _ _ h
  rw [List.length_range] at h1
  have hc : ∀ i, i < n → W.cell? (a.add i) = cs[i]? := fun i hi => h2 i i (by simp [hi])
  have h0 := hc 0 hn
  have ha0 : a.add 0 = a := by cases a; rfl
  rw [ha0, List.getElem?_eq_getElem (by omega)] at h0
  unfold World.cell? at h0
  split at h0
  case h_2 => cases h0
  rename_i c e fr hb
  split at h0
  · cases h0
  rename_i hsp
  have hspn : a.spot = none := by cases hs : a.spot <;> simp_all
  have hall : ∀ i, i < n → c[a.off + i]? = cs[i]? := by
    intro i hi
    have := hc i hi
    unfold World.cell? at this
    rw [add_block, hb] at this
    simp only [add_spot _ _ hspn, add_off, Option.isSome_none, Bool.false_eq_true, if_false] at this
    exact this
  have hlast := hall (n - 1) (by omega)
  rw [List.getElem?_eq_getElem (by omega)] at hlast
  have hsz : a.off + n ≤ c.size := by
    have := (Array.getElem?_eq_some_iff.1 hlast).1
    omega
  unfold gcellsI G0of
  simp only [hb, Option.map_some]
  rw [if_pos ⟨by rw [hspn]; rfl, hsz⟩]
  congr 1
  apply List.ext_getElem?
  intro i
  rw [List.getElem?_take]
  split
  · rename_i hi
    rw [List.getElem?_drop, Array.getElem?_toList, hall i hi]
  · rw [List.getElem?_eq_none (by omega)]
theorem exists_list {α : Type} {Q : Nat → α → Prop} : ∀ n, (∀ i, i < n → ∃ x, Q i x) → ∃ l : List α, l.length = n ∧ ∀ (i : Nat) x, l[i]? = some x → Q i x
  | 0, _ => ⟨[], rfl, by simp⟩
  | n + 1, h => by
    obtain ⟨l, h1, h2⟩ := exists_list n fun i hi => h i (by omega)
    obtain ⟨x, hx⟩ := h n (by omega)
    refine ⟨l ++ [x], by simp [h1], ?_⟩
    intro i y hy
    rw [List.getElem?_append] at hy
    split at hy
    · exact h2 i y hy
    · rename_i hi
      have : i = n := by
        by_cases e : i = n
        · exact e
        · rw [List.getElem?_eq_none (by simp; omega)] at hy; cases hy
      subst this
      simp [h1] at hy
      subst hy; exact hx
theorem wf_i64 {n : Int} (h : (Lit.int .i64 n).wf = true) : i64 n := by
  simp [Lit.wf, IntKind.min, IntKind.max, IntKind.signed, IntKind.bits] at h
  unfold i64; omega
def OT (W : World) {α : Type} (ρ : Rp α) (m : α → Nat) (T : TypeId) : Prop := ∀ (H : Type) (enc : TypeId × Value → H) (sp : Nat → Bool) (held : Bool) (fuel : Nat) (cs : List Value) (x : DataW H × List MemPlace), DataW.trod enc Try.prog W 0 sp held fuel T cs = some x → ∃ c : α, ρ.R (G0of W) c cs ∧ m c ≤ Rows.uptoBulk x.1
def mlist {α : Type} (m : α → Nat) (l : List α) : Nat := (l.map m).sum + 1
theorem OT.int {W : World} {T : TypeId} (hT : Try.prog.underlying T = some (.int .i64)) : OT W Rp.int (fun _ => 1) T := by
  intro H enc sp held fuel cs x h
  obtain ⟨n, e, hx, w⟩ := DataW.trod_int hT h
  subst e hx
  exact ⟨n, ⟨rfl, wf_i64 w⟩, by simp [Rows.uptoBulk]⟩
theorem OT.str {W : World} {T : TypeId} (hT : Try.prog.underlying T = some .string) : OT W Rp.str (fun s => s.size + 1) T := by
  intro H enc sp held fuel cs x h
  obtain ⟨s, e, hx, w⟩ := DataW.trod_string hT h
  subst e hx
  refine ⟨s, rfl, ?_⟩
  simp [Rows.uptoBulk]
theorem OT.bool {W : World} {T : TypeId} (hT : Try.prog.underlying T = some .bool) : OT W Rp.bool (fun _ => 1) T := by
  intro H enc sp held fuel cs x h
  obtain ⟨n, e, hx⟩ := DataW.trod_bool hT h
  subst e hx
  exact ⟨n, rfl, by simp [Rows.uptoBulk]⟩
theorem exists_list2 {α β : Type} {Q : Nat → α → Prop} {m : α → Nat} {m2 : β → Nat} : ∀ (els : List β), (∀ (i : Nat) e, els[i]? = some e → ∃ x, Q i x ∧ m x ≤ m2 e) → ∃ l : List α, l.length = els.length ∧ (∀ (i : Nat) x, l[i]? = some x → Q i x) ∧ (l.map m).sum ≤ (els.map m2).sum
  | [], _ => ⟨[], rfl, by simp, by simp⟩
  | e :: els, h => by
    obtain ⟨x, hx, hm⟩ := h 0 e rfl
    obtain ⟨l, h1, h2, h3⟩ := exists_list2 (Q := fun i x => Q (i + 1) x) (m := m) (m2 := m2) els (fun i e he => h (i + 1) e (by simpa using he))
    refine ⟨x :: l, by simp [h1], ?_, by simp; omega⟩
    intro i y hy
    cases i with
    | zero => simp at hy; subst hy; exact hx
    | succ i => exact h2 i y (by simpa using hy)
theorem bulkAll_sum {H : Type} : ∀ (l : List (DataW H)), Rows.uptoBulkAll l = (l.map Rows.uptoBulk).sum
  | [] => rfl
  | x :: l => by simp [Rows.uptoBulkAll, bulkAll_sum l]
theorem OT.slice {W : World} {α : Type} {ρ : Rp α} {m : α → Nat} {T e : TypeId} (hT : Try.prog.underlying T = some (.slice e)) (hc : Try.prog.cellsOf e = ρ.sz) (hpos : 0 < ρ.sz) (hel : OT W ρ m e) : OT W ρ.slice (mlist m) T := by
  intro H enc sp held fuel cs x h
  rcases DataW.trod_slice hT h with ⟨hcs, hx⟩ | ⟨a, len, cap, elems, rest, n, _, hcs, hx, _, hlc, _, hel', he, _⟩
  · subst hcs hx
    exact ⟨[], ⟨_, rfl, RSl.nil _ _⟩, by simp [mlist, Rows.uptoBulk]⟩
  · subst hcs hx
    rw [hc] at he
    have key : ∀ (i : Nat) el, elems[i]? = some el → ∃ c : α, (∃ cs, gcellsI (G0of W) (a.add (i * ρ.sz)) ρ.sz = some cs ∧ ρ.R (G0of W) c cs) ∧ m c ≤ Rows.uptoBulk el.1 := by
      intro i el hi
      have hil : i < elems.length := by
        by_cases q : i < elems.length
        · exact q
        · rw [List.getElem?_eq_none (by omega)] at hi; cases hi
      have h1 := he i (by omega)
      rw [hi, Option.bind_eq_some_iff] at h1
      obtain ⟨cs, h2, h3⟩ := h1
      obtain ⟨c, hc, hb⟩ := hel _ _ _ _ _ _ _ h3
      exact ⟨c, ⟨cs, cellsI_of hpos h2, hc⟩, hb⟩
    obtain ⟨l, h1, h2, h3⟩ := exists_list2 elems key
    refine ⟨l, ⟨_, rfl, ⟨some a, len, cap, rfl, by omega, hlc, fun hpos' => ⟨a, rfl, ?_, fun i x hx => h2 i x hx⟩⟩⟩, ?_⟩
    · obtain ⟨c, ⟨cs, hg, _⟩, _⟩ := key 0 (elems[0]'(by omega)) (List.getElem?_eq_getElem (by omega))
      have e : a.add (0 * ρ.sz) = a := by cases a; simp [Addr.add]
      rw [e] at hg
      unfold gcellsI at hg
      split at hg
      · split at hg
        · rename_i hc; have := hc.1; cases hs : a.spot <;> simp_all
        · cases hg
      · cases hg
    · simp only [mlist, Rows.uptoBulk, bulkAll_sum, List.map_map]
      have : (elems.map (Rows.uptoBulk ∘ fun x => x.1)).sum = (elems.map fun x => Rows.uptoBulk x.1).sum := rfl
      omega
theorem mlist_len {α : Type} {m : α → Nat} (h1 : ∀ x, 1 ≤ m x) (l : List α) : l.length + 1 ≤ mlist m l := by
  unfold mlist
  induction l with
  | nil => simp
  | cons x l ih => have := h1 x; simp; omega
theorem mlist_mem {α : Type} {m : α → Nat} {l : List α} {x : α} (h : x ∈ l) : m x + 1 ≤ mlist m l := by
  unfold mlist
  induction l with
  | nil => cases h
  | cons y l ih =>
    rcases List.mem_cons.1 h with rfl | h
    · simp
    · have := ih h; simp; omega
theorem OT.row {W : World} {α : Type} {ρ : Rp α} {m : List α → Nat} {T : TypeId} (h : OT W ρ.slice m T) {H : Type} {enc : TypeId × Value → H} {sp : Nat → Bool} {held : Bool} {a : Option Addr} {n c : Nat} {d : DataW H} {ps : List MemPlace} (ht : DataW.Trod enc Try.prog W 0 sp held T (.slice a n c) d ps) : ∃ l : List α, RSl ρ (G0of W) (.slice a n c) l ∧ m l ≤ Rows.uptoBulk d := by
  obtain ⟨fuel, hf⟩ := ht
  obtain ⟨l, ⟨v, hv, hr⟩, hm⟩ := h _ _ _ _ _ _ _ hf
  simp [Value.cells] at hv
  subst hv
  exact ⟨l, hr, hm⟩
theorem OT.agg {W : World} {α : Type} {ρ : Rp α} {m : α → Nat} {T : TypeId} (h : OT W ρ m T) {H : Type} {enc : TypeId × Value → H} {sp : Nat → Bool} {held : Bool} {xs : Array Value} {d : DataW H} {ps : List MemPlace} (ht : DataW.Trod enc Try.prog W 0 sp held T (.agg xs) d ps) : ∃ c : α, ρ.R (G0of W) c xs.toList ∧ m c ≤ Rows.uptoBulk d := by
  obtain ⟨fuel, hf⟩ := ht
  obtain ⟨l, hr, hm⟩ := h _ _ _ _ _ _ _ hf
  exact ⟨l, by simpa [Value.cells] using hr, hm⟩
end Go.Proofs.Ytgkdbjnmlecimaa
namespace Go.Proofs.Ytgkdbjnmlecimaa
open Go Go.GL
set_option maxRecDepth 10000
set_option maxHeartbeats 0
structure SWindow where
  From : Int
  To : Int
deriving DecidableEq
def rWindow : Rp SWindow where
  sz := 2
  R G x cs := cs = [.int .i64 x.From, .int .i64 x.To]
  len := by rintro G x cs rfl; rfl
  ile := by rintro G G' x cs hl hv; exact hv
  one := by rintro G x cs rfl; rfl
structure SCell where
  X : Int
  Y : Int
deriving DecidableEq
def rCell : Rp SCell where
  sz := 2
  R G x cs := cs = [.int .i64 x.X, .int .i64 x.Y]
  len := by rintro G x cs rfl; rfl
  ile := by rintro G G' x cs hl hv; exact hv
  one := by rintro G x cs rfl; rfl
def mWindow (x : SWindow) : Nat := 1 + 1 + 1
theorem otWindow {W : World} : OT W rWindow mWindow 70 := by
  intro H enc sp held fuel cs x h
  obtain ⟨xs, n, _, hx, hlen, hxl, hf⟩ := DataW.trod_struct Try.underlying70 h
  rw [show Try.prog.cellsOf 70 = 2 from by kernel_rfl] at hlen
  obtain ⟨x0, x1, rfl⟩ : ∃ x0 x1, cs = [x0, x1] := by
    match cs, hlen with
    | [x0, x1], _ => exact ⟨x0, x1, rfl⟩
  have hxl : xs.length = 2 := hxl
  obtain ⟨d_0, d_1, rfl⟩ : ∃ d_0 d_1, xs = [d_0, d_1] := by
    match xs, hxl with
    | [y0, y1], _ => exact ⟨y0, y1, rfl⟩
  have f_0 : DataW.trod enc Try.prog W 0 sp held n 3 [x0] = some d_0 := by have := hf 0 _ rfl; exact this
  have f_1 : DataW.trod enc Try.prog W 0 sp held n 3 [x1] = some d_1 := by have := hf 1 _ rfl; exact this
  clear hf
  obtain ⟨c_0, e_0, q_0, w_0⟩ := DataW.trod_int Try.underlying3 f_0
  simp only [List.cons.injEq, and_true] at e_0; subst e_0 q_0
  obtain ⟨c_1, e_1, q_1, w_1⟩ := DataW.trod_int Try.underlying3 f_1
  simp only [List.cons.injEq, and_true] at e_1; subst e_1 q_1
  subst hx
  refine ⟨⟨c_0, c_1⟩, rfl, ?_⟩
  simp only [mWindow, Rows.uptoBulk, Rows.uptoBulkAll, List.map_cons, List.map_nil, Array.length_toList, ByteArray.size]
  omega
def mCell (x : SCell) : Nat := 1 + 1 + 1
theorem otCell {W : World} : OT W rCell mCell 24 := by
  intro H enc sp held fuel cs x h
  obtain ⟨xs, n, _, hx, hlen, hxl, hf⟩ := DataW.trod_struct Try.underlying24 h
  rw [show Try.prog.cellsOf 24 = 2 from by kernel_rfl] at hlen
  obtain ⟨x0, x1, rfl⟩ : ∃ x0 x1, cs = [x0, x1] := by
    match cs, hlen with
    | [x0, x1], _ => exact ⟨x0, x1, rfl⟩
  have hxl : xs.length = 2 := hxl
  obtain ⟨d_0, d_1, rfl⟩ : ∃ d_0 d_1, xs = [d_0, d_1] := by
    match xs, hxl with
    | [y0, y1], _ => exact ⟨y0, y1, rfl⟩
  have f_0 : DataW.trod enc Try.prog W 0 sp held n 3 [x0] = some d_0 := by have := hf 0 _ rfl; exact this
  have f_1 : DataW.trod enc Try.prog W 0 sp held n 3 [x1] = some d_1 := by have := hf 1 _ rfl; exact this
  clear hf
  obtain ⟨c_0, e_0, q_0, w_0⟩ := DataW.trod_int Try.underlying3 f_0
  simp only [List.cons.injEq, and_true] at e_0; subst e_0 q_0
  obtain ⟨c_1, e_1, q_1, w_1⟩ := DataW.trod_int Try.underlying3 f_1
  simp only [List.cons.injEq, and_true] at e_1; subst e_1 q_1
  subst hx
  refine ⟨⟨c_0, c_1⟩, rfl, ?_⟩
  simp only [mCell, Rows.uptoBulk, Rows.uptoBulkAll, List.map_cons, List.map_nil, Array.length_toList, ByteArray.size]
  omega
def mTly (_ : Tly) : Nat := 1
theorem otTly {W : World} : OT W rTly mTly 44 := by
  intro H enc sp held fuel cs x h
  obtain ⟨xs, n, _, hx, hlen, hxl, hf⟩ := DataW.trod_struct Try.underlying44 h
  rw [show Try.prog.cellsOf 44 = 4 from by kernel_rfl] at hlen
  obtain ⟨x0, x1, x2, x3, rfl⟩ : ∃ x0 x1 x2 x3, cs = [x0, x1, x2, x3] := by
    match cs, hlen with
    | [x0, x1, x2, x3], _ => exact ⟨x0, x1, x2, x3, rfl⟩
  have hxl : xs.length = 3 := hxl
  have f0 : DataW.trod enc Try.prog W 0 sp held n 24 [x0, x1] = xs[0]? := hf 0 _ rfl
  have f1 : DataW.trod enc Try.prog W 0 sp held n 3 [x2] = xs[1]? := hf 1 _ rfl
  have f2 : DataW.trod enc Try.prog W 0 sp held n 3 [x3] = xs[2]? := hf 2 _ rfl
  rw [List.getElem?_eq_getElem (by omega)] at f0 f1 f2
  obtain ⟨c, hc, _⟩ := otCell _ _ _ _ _ _ _ f0
  obtain ⟨n1, e1, _, w1⟩ := DataW.trod_int Try.underlying3 f1
  obtain ⟨n2, e2, _, w2⟩ := DataW.trod_int Try.underlying3 f2
  have hc : [x0, x1] = [.int .i64 c.X, .int .i64 c.Y] := hc
  simp only [List.cons.injEq, and_true] at hc e1 e2
  obtain ⟨rfl, rfl⟩ := hc
  subst e1 e2 hx
  exact ⟨⟨c.X, c.Y, n1, n2⟩, rfl, by simp [mTly, Rows.uptoBulk]⟩
theorem tlen {l : List Tly} {n : Nat} (h : mlist mTly l ≤ n) (hn : n ≤ 1048576) : l.length ≤ 1048576 := by
  have := mlist_len (m := mTly) (fun _ => Nat.le_refl 1) l
  omega
end Go.Proofs.Ytgkdbjnmlecimaa
namespace Go.Proofs.Ytgkdbjnmlecimaa
open Go Go.GL
set_option maxRecDepth 10000
set_option maxHeartbeats 0
namespace talliesSumUpto
open Go.ChangeShapes Go.WideShapes Go.ChangeAt Go.RowKit
theorem own : ownKnob Try.prog.godebug = none := by kernel_rfl
theorem laidOut : laidOutB Try.prog = true := by kernel_rfl
set_option maxRecDepth 100000 in
theorem contract (H : Type) (enc : TypeId × Value → H) (W : World) (base : Nat) (args : Array Value) (ds gs : List (DataW H)) (before : List MemPlace)
    (hval : ∀ (j : Nat) t v, Try.f5.params[j]? = some t → args[j]? = some v → Value.okWide Try.prog W .any base t v)
    (hW : DataW.Whole enc Try.prog Try.f5.params.toList Rows.talliesSumSpec.vars false W args.toList ds gs before) (hk : Rows.uptoSmall H (ds ++ gs) = true) :
    Calls Try.prog 5 args W fun e W' => ∃ v, e = .returned v ∧ Rows.talliesSumSpec.post enc Try.prog Try.f5 false true false false W args v W' := by
  have hW' := hW
  obtain ⟨p, q, hA0, hV, rfl, hfz, hnd⟩ := hW
  have hA : DataW.TrodAll enc Try.prog W 0 (fun _ => true) true Try.f5.params.toList args.toList ds p := hA0
  rw [Try.params5] at hA hval
  obtain ⟨v0, vs0, d0, ds0, p0, q0, hargs, rfl, rfl, h0, r0⟩ := trodAll_cons hA
  obtain ⟨v1, vs1, d1, ds1, p1, q1, rfl, rfl, rfl, h1, r1⟩ := trodAll_cons r0
  obtain ⟨v2, vs2, d2, ds2, p2, q2, rfl, rfl, rfl, h2, r2⟩ := trodAll_cons r1
  obtain ⟨v3, vs3, d3, ds3, p3, q3, rfl, rfl, rfl, h3, r3⟩ := trodAll_cons r2
  obtain ⟨v4, vs4, d4, ds4, p4, q4, rfl, rfl, rfl, h4, r4⟩ := trodAll_cons r3
  obtain ⟨v5, vs5, d5, ds5, p5, q5, rfl, rfl, rfl, h5, r5⟩ := trodAll_cons r4
  obtain ⟨v6, vs6, d6, ds6, p6, q6, rfl, rfl, rfl, h6, r6⟩ := trodAll_cons r5
  obtain ⟨v7, vs7, d7, ds7, p7, q7, rfl, rfl, rfl, h7, r7⟩ := trodAll_cons r6
  obtain ⟨rfl, rfl, rfl⟩ := trodAll_nil r7
  obtain rfl : args = #[v0, v1, v2, v3, v4, v5, v6, v7] := by cases args; simp_all
  obtain ⟨rfl, rfl⟩ := trodVars_none hV
  have k0 := h0
  have lt0 : ∀ x ∈ p0, x.block < W.heap.size := by obtain ⟨m, hm⟩ := k0; exact DataW.trod_lt m _ _ _ hm
  obtain ⟨e0, n0, c0, rfl⟩ := okWide_slice Try.underlying39 (hval 0 39 v0 rfl rfl)
  obtain ⟨l0, R0, m0⟩ := OT.row (OT.slice Try.underlying39 (by kernel_rfl) (by decide) otTly) h0
  have k1 := h1
  have lt1 : ∀ x ∈ p1, x.block < W.heap.size := by obtain ⟨m, hm⟩ := k1; exact DataW.trod_lt m _ _ _ hm
  obtain ⟨e1, n1, c1, rfl⟩ := okWide_slice Try.underlying39 (hval 1 39 v1 rfl rfl)
  obtain ⟨l1, R1, m1⟩ := OT.row (OT.slice Try.underlying39 (by kernel_rfl) (by decide) otTly) h1
  have k2 := h2
  have lt2 : ∀ x ∈ p2, x.block < W.heap.size := by obtain ⟨m, hm⟩ := k2; exact DataW.trod_lt m _ _ _ hm
  obtain ⟨x2, rfl, z2⟩ := okWide_struct Try.underlying70 (hval 2 70 v2 rfl rfl)
  obtain ⟨c2, q2, m2⟩ := OT.agg otWindow h2
  obtain ⟨x2⟩ := x2
  have e2 := q2
  have e2 : x2 = _ := e2
  subst e2
  obtain ⟨a3, rfl, rfl, rfl, w3⟩ := open_int Try.underlying3 (hval 3 3 v3 rfl rfl) h3
  obtain ⟨a4, rfl, rfl, rfl, w4⟩ := open_int Try.underlying3 (hval 4 3 v4 rfl rfl) h4
  have k5 := h5
  have lt5 : ∀ x ∈ p5, x.block < W.heap.size := by obtain ⟨m, hm⟩ := k5; exact DataW.trod_lt m _ _ _ hm
  obtain ⟨x5, rfl, z5⟩ := okWide_struct Try.underlying24 (hval 5 24 v5 rfl rfl)
  obtain ⟨c5, q5, m5⟩ := OT.agg otCell h5
  obtain ⟨x5⟩ := x5
  have e5 := q5
  have e5 : x5 = _ := e5
  subst e5
  obtain ⟨a6, rfl, rfl, rfl, w6⟩ := open_int Try.underlying3 (hval 6 3 v6 rfl rfl) h6
  obtain ⟨a7, rfl, rfl, rfl, w7⟩ := open_int Try.underlying3 (hval 7 3 v7 rfl rfl) h7
  simp only [List.append_nil] at hk
  have hb : Rows.uptoBulkAll [d0, d1, d2, .lit (.int .i64 a3), .lit (.int .i64 a4), d5, .lit (.int .i64 a6), .lit (.int .i64 a7)] ≤ 1048576 := of_decide_eq_true hk
  simp only [Rows.uptoBulkAll] at hb
  refine Calls.mono ((g5 R0 R1 (tlen m0 (by omega)) (tlen m1 (by omega)) sortA sortB) (G0of W) (le_refl _) W W (holdsG0 W)) fun e W' he => ?_
  obtain ⟨v, G', rfl, hh, _, rfl⟩ := he
  have bel := hh.below
  exact ⟨_, rfl, _, _, _, [], _, [], hW', trodAll_mk1 (shut_bool Try.underlying4 _), trodAll_cons_mk (Below.trod laidOut (by kernel_rfl) (of_decide_eq_true (by kernel_rfl)) k0 bel lt0) (trodAll_cons_mk (Below.trod laidOut (by kernel_rfl) (of_decide_eq_true (by kernel_rfl)) k1 bel lt1) (trodAll_cons_mk (Below.trod laidOut (by kernel_rfl) (of_decide_eq_true (by kernel_rfl)) k2 bel lt2) (trodAll_cons_mk (shut_int Try.underlying3 w3) (trodAll_cons_mk (shut_int Try.underlying3 w4) (trodAll_cons_mk (Below.trod laidOut (by kernel_rfl) (of_decide_eq_true (by kernel_rfl)) k5 bel lt5) (trodAll_cons_mk (shut_int Try.underlying3 w6) (trodAll_cons_mk (shut_int Try.underlying3 w7) trodAll_mk0))))))), rfl, bel.frame _, fun h => by cases h⟩
set_option maxRecDepth 100000 in
theorem lifted (os : Os) (started : os.Started) (H : Type) (enc : TypeId × Value → H) (F : Stop.Interp) :
    ReturnsInHanded {} Try.checked os 5 .any ((Rows.OpenSpec.upto Rows.talliesSumSpec).pre6 enc Try.prog Try.f5 Rows.talliesSumUptoRow.domain false) (((Rows.OpenSpec.upto Rows.talliesSumSpec).at F).post enc Try.prog Try.f5 false true false false) := by
  refine returnsInHanded_of_cond (C := Try.checked) (s := Rows.OpenSpec.upto Rows.talliesSumSpec) (k := Rows.uptoSmall) rfl own started (by kernel_rfl) Try.func5
    (OpenSpec.witness (enc := enc) (C := Try.checked) (s := Rows.OpenSpec.upto Rows.talliesSumSpec) (k := Rows.uptoSmall) rfl false ⟨#[], #[.slice none 0 0, .slice none 0 0, .agg #[.int .i64 0, .int .i64 0], .int .i64 0, .int .i64 0, .agg #[.int .i64 0, .int .i64 0], .int .i64 0, .int .i64 0], []⟩ 8 (by kernel_rfl) (by kernel_rfl) (by kernel_rfl)
      (x := ([.nil, .nil, .agg [.lit (.int .i64 0), .lit (.int .i64 0)], .lit (.int .i64 0), .lit (.int .i64 0), .agg [.lit (.int .i64 0), .lit (.int .i64 0)], .lit (.int .i64 0), .lit (.int .i64 0)], [], [])) (by kernel_rfl) rfl (by kernel_rfl)) ?_
  intro W base args ds gs before hval hW _ hk _
  exact contract H enc W base args ds gs before hval hW hk
theorem proved : Rows.TalliesSumUptoSaid :=
  OpenClaim.holds_of_cond 5 Try.f5 rfl rfl rfl rfl rfl rfl rfl ⟨rfl, rfl, rfl, rfl, rfl⟩ rfl rfl rfl rfl rfl (by kernel_rfl) Try.func5 (by kernel_rfl)
    (of_decide_eq_true (by kernel_rfl)) (by unfold Func.isWrapper; first | (rw [if_pos (by decide +kernel)]; kernel_rfl) | (rw [if_neg (by decide +kernel)]; exact ⟨rfl, rfl⟩))
    (fun os started H enc _ F => lifted os started H enc F)
end talliesSumUpto
end Go.Proofs.Ytgkdbjnmlecimaa
