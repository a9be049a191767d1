/- Proved: Walk and Length are as specified for all roads and arcs (statement DrivesWalkedUptoCardSaid) -/
import Derived.Test.YtjhfhacdjmokaaaGreatDoorRows
import Derived.WalkKit
import Derived.ProofKit
import Derived.OpenShut
import Derived.ChangeOld
import Derived.Below
import Derived.Carry
import Derived.ChangeArms
import Derived.JoinedCond
import Derived.Test.YtjhfhacdjmokaaaGreatDoorCards
import Derived.Test.YtjhfhacdjmokaaaGreatDoorTie
import Derived.Deep.DeepHandedRow
import Derived.Test.YtjhfhacdjmokaaaGreatDoorDwGlMk
import Derived.Test.YtjhfhacdjmokaaaGreatDoorDwSh
import Derived.Test.YtjhfhacdjmokaaaGreatDoorDwW28
import Derived.Test.YtjhfhacdjmokaaaGreatDoorDwW29
import Derived.Test.YtjhfhacdjmokaaaGreatDoorDwW30
set_option linter.unusedSimpArgs false
set_option linter.unusedVariables false
set_option linter.unusedSectionVars false
namespace Go.Proofs.YtjhfhacdjmokaaaGreatDoor
open Go Go.GL
attribute [local irreducible] Ycall GCalls
set_option maxRecDepth 10000
set_option maxHeartbeats 0
def longOf (ar : List SArc) (k : ByteArray) : Int := match ar[(keyAt SArc.Key ar k).toNat]? with | some x => x.Long | none => 0
def lenTo (ar : List SArc) (l : List ByteArray) : Nat → Int
  | 0 => 0
  | i + 1 => match l[i]? with | some s => IntKind.i64.wrap (lenTo ar l i + longOf ar s) | none => lenTo ar l i
theorem lenTo_0 (ar : List SArc) (l : List ByteArray) : lenTo ar l 0 = 0 := rfl
theorem long_at {ar : List SArc} {x : SArc} {k : ByteArray} (m : ar[(keyAt SArc.Key ar k).toNat]? = some x) : longOf ar k = x.Long := by unfold longOf; rw [m]
theorem lenTo_next {ar : List SArc} {l : List ByteArray} {i : Nat} {s : ByteArray} (h : l[i]? = some s) : lenTo ar l (i + 1) = IntKind.i64.wrap (lenTo ar l i + longOf ar s) := by
  conv => lhs; unfold lenTo
  rw [h]
theorem wg_keys {ar : List SArc} {bs : List SBan} : ∀ {l : List ByteArray} {here : ByteArray} {p : Option ByteArray}, wGo ar bs here p l = 0 → ∀ s ∈ l, 0 ≤ keyAt SArc.Key ar s
  | [], _, _, _ => by intro s hs; cases hs
  | t :: l, here, p, h => by
    unfold wGo at h
    split at h
    · rename_i h0
      intro s hs
      rcases List.mem_cons.1 hs with rfl | hs
      · unfold wBad at h0
        split at h0
        · cases h0
        · omega
      · exact wg_keys h s hs
    · rename_i h0; exact absurd h h0
theorem walk_keys {ar : List SArc} {bs : List SBan} {fr : ByteArray} {l : List ByteArray} (h : walkE ar bs fr l = 0) : l.length ≤ 2000 ∧ ∀ s ∈ l, 0 ≤ keyAt SArc.Key ar s := by
  unfold walkE at h
  split at h
  · cases h
  · exact ⟨by omega, wg_keys h⟩
theorem roads_ok {ns : List SNode} {ar : List SArc} {bs : List SBan} (h : roadsE ns ar bs = 0) : ns.length ≤ 500 ∧ rising SNode.Key ns ∧ ar.length ≤ 2000 ∧ rising SArc.Key ar ∧ bs.length ≤ 1000 ∧ bansUp bs ∧ ∀ x ∈ ar, knotsE x.Knots = 0 := by
  unfold roadsE at h
  split at h
  · rename_i q; exact absurd h q
  rename_i h1
  split at h
  · cases h
  rename_i h2
  split at h
  · rename_i q; exact absurd h q
  rename_i h3
  split at h
  · cases h
  rename_i h4
  have h1' := nodes_rise (Decidable.not_not.1 h1)
  have h3' : chk (arcBad ns) none ar = 0 := Decidable.not_not.1 h3
  refine ⟨h1'.1, h1'.2, by omega, arcs_rise h3', by omega, bans_up h, ?_⟩
  intro x hx
  obtain ⟨i, hi, rfl⟩ := List.mem_iff_getElem.1 hx
  have hb := chk_prev h3' (List.getElem?_eq_getElem hi)
  unfold arcBad at hb
  repeat (split at hb; · cases hb)
  exact hb
theorem p11 {G0 : GH} {w vl : Value} {ar : List SArc} {l : List ByteArray} {va ua : Option Addr} {vn vc un uc : Nat} (hw : RSl rArc G0 w ar) (hv : RSl Rp.str G0 vl l) (hm : ar.length ≤ 1000000000) (hl : l.length ≤ 1000000000) (hk : ∀ s ∈ l, 0 ≤ keyAt SArc.Key ar s) : Pure Tryz.prog G0 11 [.agg #[.slice va vn vc, w, .slice ua un uc], vl] (V (lenTo ar l l.length)) := by
  intro G hG; replace hw := hw.le hG; replace hv := hv.le hG
  clear hG G0
  refine enter Tryz.func11 26 #[.tmp 4] rfl Tryz.ntmps11 rfl (by decide +kernel) rfl ?_
  obtain ⟨a, c, rfl⟩ := hv.val
  obtain ⟨wa, wc, rfl⟩ := hw.val
  simp (maxDischargeDepth := 9) only [↓gB, gV, gT, reduceIte, reduceCtorEq, Nat.reduceEqDiff, Nat.reduceAdd, Nat.reduceSub, Nat.reduceLeDiff, Nat.reduceLT, Int.reduceEq, Nat.reduceMul, List.map_toArray, List.map_cons, List.map_nil, Value.cells]
  refine Yn2 fun r1 h1 => ?_
  simp (maxDischargeDepth := 9) only [↓gB, gV, gT, reduceIte, reduceCtorEq, Nat.reduceEqDiff, Nat.reduceAdd, Nat.reduceSub, Nat.reduceLeDiff, Nat.reduceLT, Int.reduceEq, Nat.reduceMul, h1, List.map_toArray, List.map_cons, List.map_nil, Value.cells]
  focus
    refine Xloop_intro _ _ _ _ _ (fun k f G' => ∃ (i : Nat), k = l.length - i ∧ (i ≤ l.length) ∧ (G' r1 = some (.cells [.slice va vn vc, .slice wa ar.length wc, .slice ua un uc].toArray 26 (0, 0), true)) ∧ (RSl rArc G' (.slice wa ar.length wc) ar) ∧ (RSl Rp.str G' (.slice a l.length c) l) ∧ (G.le G') ∧ f 10 = V i ∧ f 5 = V (lenTo ar l i) ∧ f 2 = Go.Value.pointer (Option.some { block := r1, off := 0 }) ∧ f 8 = Go.Value.slice a l.length c ∧ f 9 = Go.Value.int Go.IntKind.i64 ↑l.length) _ ⟨0, rfl, ?_, ?_, ?_, ?_, ?_, by simp (maxDischargeDepth := 9) only [↓gB, gV, gT, reduceIte, reduceCtorEq, Nat.reduceEqDiff, Nat.reduceAdd, Nat.reduceSub, Nat.reduceLeDiff, Nat.reduceLT, Int.reduceEq, Nat.reduceMul, h1, lenTo_0, and_self]⟩ ?_
    · omega
    · exact put_self _ _ _
    · exact RSl.put _ (by assumption) (by assumption)
    · exact RSl.put _ (by assumption) (by assumption)
    · (simp (maxDischargeDepth := 9) only [le_self, le_puts, le_put0, sub_self, sub_puts, sub_put0, h1]; done)
    rintro k f G' ⟨i, rfl, hi, hr, hw, hv, hle, f10, f5, f2, f8, f9⟩
  simp (maxDischargeDepth := 9) only [↓gB, gV, gT, reduceIte, reduceCtorEq, Nat.reduceEqDiff, Nat.reduceAdd, Nat.reduceSub, Nat.reduceLeDiff, Nat.reduceLT, Int.reduceEq, Nat.reduceMul, h1, hr, f10, f5, f2, f8, f9]
  refine Xc_split _ _ _ _ _ (fun c1 => ?_) (fun c1 => ?_)
  · obtain ⟨s, helx⟩ : ∃ s, l[i]? = some s := ⟨_, List.getElem?_eq_getElem (by omega)⟩
    have hk0 := hk s (List.mem_of_getElem? helx)
    obtain ⟨k, hkk⟩ := Int.eq_ofNat_of_zero_le hk0
    obtain ⟨x, hely, hxs⟩ := keyAt_get hkk
    have hkl : k < ar.length := (List.getElem?_eq_some_iff.1 hely).1
    have hlo : longOf ar s = x.Long := long_at (by rw [hkk]; exact hely)
    have hnx := lenTo_next (ar := ar) helx
    rw [hlo] at hnx
    focus
      simp (maxDischargeDepth := 9) only [↓gB, gV, gT, reduceIte, reduceCtorEq, Nat.reduceEqDiff, Nat.reduceAdd, Nat.reduceSub, Nat.reduceLeDiff, Nat.reduceLT, Int.reduceEq, Nat.reduceMul, h1, hr, f10, f5, f2, f8, f9, c1, hkk, hnx]
      obtain ⟨x1, a1, s1, m1, rfl, rfl, e1⟩ := hv.at1 (i) (by omega) rfl
      obtain rfl := el_eq helx m1
      simp (maxDischargeDepth := 9) only [↓gB, gV, gT, reduceIte, reduceCtorEq, Nat.reduceEqDiff, Nat.reduceAdd, Nat.reduceSub, Nat.reduceLeDiff, Nat.reduceLT, Int.reduceEq, Nat.reduceMul, h1, hr, f10, f5, f2, f9, c1, f8, e1, hkk, hnx]
      refine vguard_intro (by simp) ?_
      refine Xdraw_intro [0, 1, 2, 3, 4, 5, 6, 7, 8, 9, 10] mixed (by kernel_rfl) (by decide +kernel) ?_
      simp (maxDischargeDepth := 9) only [↓gB, gV, gT, reduceIte, reduceCtorEq, Nat.reduceEqDiff, Nat.reduceAdd, Nat.reduceSub, Nat.reduceLeDiff, Nat.reduceLT, Int.reduceEq, Nat.reduceMul, h1, hr, f10, f5, f2, f9, c1, f8, e1, hkk, hnx]
      refine Ycp (p33 (by assumption) (by omega)) ?_
      simp (maxDischargeDepth := 9) only [↓gB, gV, gT, reduceIte, reduceCtorEq, Nat.reduceEqDiff, Nat.reduceAdd, Nat.reduceSub, Nat.reduceLeDiff, Nat.reduceLT, Int.reduceEq, Nat.reduceMul, h1, hr, f10, f5, f2, f9, c1, f8, e1, hkk, hnx]
      obtain ⟨x2, a2, s2, m2, rfl, ⟨v2, rfl, w2⟩, e2⟩ := hw.at (k) (by omega) 5 rfl
      obtain rfl := el_eq hely m2
      obtain ⟨aw2, cw2, rfl⟩ := RSl.val w2
      simp (maxDischargeDepth := 9) only [↓gB, gV, gT, reduceIte, reduceCtorEq, Nat.reduceEqDiff, Nat.reduceAdd, Nat.reduceSub, Nat.reduceLeDiff, Nat.reduceLT, Int.reduceEq, Nat.reduceMul, h1, f10, f5, f2, f9, c1, f8, e1, hr, e2, hkk, hnx]
      refine vguard_intro (by omega) ?_
      have q1 : Go.IntKind.i64.wrap (↑i + 1) = ↑i + 1 := wrap_id (by omega)
      simp (maxDischargeDepth := 9) only [↓gB, gV, gT, reduceIte, reduceCtorEq, Nat.reduceEqDiff, Nat.reduceAdd, Nat.reduceSub, Nat.reduceLeDiff, Nat.reduceLT, Int.reduceEq, Nat.reduceMul, h1, f10, f5, f2, f9, c1, f8, e1, hr, e2, q1, hkk, hnx]
      rw [N_lp]
      refine ⟨_, ?_, _, sub_refl _, i + 1, rfl, ?_, ?_, ?_, ?_, ?_, by simp (maxDischargeDepth := 9) only [↓gB, gV, gT, reduceIte, reduceCtorEq, Nat.reduceEqDiff, Nat.reduceAdd, Nat.reduceSub, Nat.reduceLeDiff, Nat.reduceLT, Int.reduceEq, Nat.reduceMul, h1, f10, f5, f2, f9, c1, f8, e1, hr, e2, q1, hkk, hnx, nat_succ, and_self]⟩
      · omega
      · omega
      · assumption
      · assumption
      · assumption
      · assumption
  · obtain rfl : i = l.length := by omega
    simp (maxDischargeDepth := 9) only [↓gB, gV, gT, reduceIte, reduceCtorEq, Nat.reduceEqDiff, Nat.reduceAdd, Nat.reduceSub, Nat.reduceLeDiff, Nat.reduceLT, Int.reduceEq, Nat.reduceMul, h1, hr, f2, f8, f9, f10, f5, c1]
    exact Kup_val (by simp (maxDischargeDepth := 9) only [le_self, le_puts, le_put0, h1, hle]) rfl
theorem p7 {G0 : GH} {v w u vl : Value} {ns : List SNode} {ar : List SArc} {bs : List SBan} {l : List ByteArray} (h0 : RSl rNode G0 v ns) (hw : RSl rArc G0 w ar) (hu : RSl rBan G0 u bs) (hv : RSl Rp.str G0 vl l) (hn : ns.length ≤ 1000000000) (hm : ar.length ≤ 1000000000) (hk : ∀ x ∈ ar, x.Knots.length ≤ 1000000000) (hb : bs.length ≤ 1000000000) (hl : l.length ≤ 1000000000) : Pure Tryz.prog G0 7 [.agg #[v, w, u], vl] (if roadsE ns ar bs = 0 ∧ walkE ar bs ⟨#[]⟩ l = 0 then .tuple #[V (lenTo ar l l.length), V 0] else .tuple #[V 0, V (if roadsE ns ar bs = 0 then walkE ar bs ⟨#[]⟩ l else roadsE ns ar bs)]) := by
  intro G hG; replace h0 := h0.le hG; replace hw := hw.le hG; replace hu := hu.le hG; replace hv := hv.le hG
  clear hG G0
  refine enter Tryz.func7 38 #[.tmp 4, .tmp 5] rfl Tryz.ntmps7 rfl (by decide +kernel) rfl ?_
  obtain ⟨a, c, rfl⟩ := hv.val
  obtain ⟨va, vc, rfl⟩ := h0.val
  obtain ⟨wa, wc, rfl⟩ := hw.val
  obtain ⟨ua, uc, rfl⟩ := hu.val
  by_cases he : roadsE ns ar bs = 0
  · obtain ⟨q1, q2, q3, q4, q5, q6, q7⟩ := roads_ok he
    by_cases he2 : walkE ar bs ⟨#[]⟩ l = 0
    · obtain ⟨hl2, hks⟩ := walk_keys he2
      simp (maxDischargeDepth := 9) only [↓gB, gV, gT, reduceIte, reduceCtorEq, Nat.reduceEqDiff, Nat.reduceAdd, Nat.reduceSub, Nat.reduceLeDiff, Nat.reduceLT, Int.reduceEq, Nat.reduceMul, he, he2, List.map_toArray, List.map_cons, List.map_nil, Value.cells]
      refine Yn2 fun r1 h1 => ?_
      simp (maxDischargeDepth := 9) only [↓gB, gV, gT, reduceIte, reduceCtorEq, Nat.reduceEqDiff, Nat.reduceAdd, Nat.reduceSub, Nat.reduceLeDiff, Nat.reduceLT, Int.reduceEq, Nat.reduceMul, h1, he, he2, List.map_toArray, List.map_cons, List.map_nil, Value.cells]
      refine Ycp (p18 (by exact RSl.put _ (by assumption) (by assumption)) (by exact RSl.put _ (by assumption) (by assumption)) (by exact RSl.put _ (by assumption) (by assumption)) (by assumption) (by assumption) (by assumption) (by assumption)) ?_
      simp (maxDischargeDepth := 9) only [↓gB, gV, gT, reduceIte, reduceCtorEq, Nat.reduceEqDiff, Nat.reduceAdd, Nat.reduceSub, Nat.reduceLeDiff, Nat.reduceLT, Int.reduceEq, Nat.reduceMul, h1, he, he2, List.map_toArray, List.map_cons, List.map_nil, Value.cells]
      refine Ycp (p21 (by exact put_self _ _ _) (by exact RSl.put _ (by assumption) (by assumption)) (by exact RSl.put _ (by assumption) (by assumption)) (by exact RSl.put _ (by assumption) (by assumption)) (by assumption) (by assumption) (by assumption) (by assumption) (by assumption)) ?_
      simp (maxDischargeDepth := 9) only [↓gB, gV, gT, reduceIte, reduceCtorEq, Nat.reduceEqDiff, Nat.reduceAdd, Nat.reduceSub, Nat.reduceLeDiff, Nat.reduceLT, Int.reduceEq, Nat.reduceMul, h1, he, he2, List.map_toArray, List.map_cons, List.map_nil, Value.cells]
      focus
        refine Xloop_intro _ _ _ _ _ (fun k f G' => ∃ (i : Nat), k = l.length - i ∧ (i ≤ l.length) ∧ (G' r1 = some (.cells [.slice va ns.length vc, .slice wa ar.length wc, .slice ua bs.length uc].toArray 26 (0, 0), true)) ∧ (RSl rArc G' (.slice wa ar.length wc) ar) ∧ (RSl Rp.str G' (.slice a l.length c) l) ∧ (G.le G') ∧ f 23 = V i ∧ f 8 = V (lenTo ar l i) ∧ f 2 = Go.Value.pointer (Option.some { block := r1, off := 0 }) ∧ f 21 = Go.Value.slice a l.length c ∧ f 22 = Go.Value.int Go.IntKind.i64 ↑l.length) _ ⟨0, rfl, ?_, ?_, ?_, ?_, ?_, by simp (maxDischargeDepth := 9) only [↓gB, gV, gT, reduceIte, reduceCtorEq, Nat.reduceEqDiff, Nat.reduceAdd, Nat.reduceSub, Nat.reduceLeDiff, Nat.reduceLT, Int.reduceEq, Nat.reduceMul, h1, lenTo_0, and_self]⟩ ?_
        · omega
        · exact put_self _ _ _
        · exact RSl.put _ (by assumption) (by assumption)
        · exact RSl.put _ (by assumption) (by assumption)
        · (simp (maxDischargeDepth := 9) only [le_self, le_puts, le_put0, sub_self, sub_puts, sub_put0, h1]; done)
        rintro k f G' ⟨i, rfl, hi, hr, hw, hv, hle, f23, f8, f2, f21, f22⟩
      simp (maxDischargeDepth := 9) only [↓gB, gV, gT, reduceIte, reduceCtorEq, Nat.reduceEqDiff, Nat.reduceAdd, Nat.reduceSub, Nat.reduceLeDiff, Nat.reduceLT, Int.reduceEq, Nat.reduceMul, h1, hr, f23, f8, f2, f21, f22]
      refine Xc_split _ _ _ _ _ (fun c1 => ?_) (fun c1 => ?_)
      · obtain ⟨s, helx⟩ : ∃ s, l[i]? = some s := ⟨_, List.getElem?_eq_getElem (by omega)⟩
        have hk0 := hks s (List.mem_of_getElem? helx)
        obtain ⟨k, hkk⟩ := Int.eq_ofNat_of_zero_le hk0
        obtain ⟨x, hely, hxs⟩ := keyAt_get hkk
        have hkl : k < ar.length := (List.getElem?_eq_some_iff.1 hely).1
        have hlo : longOf ar s = x.Long := long_at (by rw [hkk]; exact hely)
        have hnx := lenTo_next (ar := ar) helx
        rw [hlo] at hnx
        focus
          simp (maxDischargeDepth := 9) only [↓gB, gV, gT, reduceIte, reduceCtorEq, Nat.reduceEqDiff, Nat.reduceAdd, Nat.reduceSub, Nat.reduceLeDiff, Nat.reduceLT, Int.reduceEq, Nat.reduceMul, h1, hr, f23, f8, f2, f21, f22, c1, hkk, hnx]
          obtain ⟨x1, a1, s1, m1, rfl, rfl, e1⟩ := hv.at1 (i) (by omega) rfl
          obtain rfl := el_eq helx m1
          simp (maxDischargeDepth := 9) only [↓gB, gV, gT, reduceIte, reduceCtorEq, Nat.reduceEqDiff, Nat.reduceAdd, Nat.reduceSub, Nat.reduceLeDiff, Nat.reduceLT, Int.reduceEq, Nat.reduceMul, h1, hr, f23, f8, f2, f22, c1, f21, e1, hkk, hnx]
          refine vguard_intro (by simp) ?_
          refine Xdraw_intro [0, 1, 2, 3, 4, 5, 6, 7, 8, 9] mixed (by kernel_rfl) (by decide +kernel) ?_
          simp (maxDischargeDepth := 9) only [↓gB, gV, gT, reduceIte, reduceCtorEq, Nat.reduceEqDiff, Nat.reduceAdd, Nat.reduceSub, Nat.reduceLeDiff, Nat.reduceLT, Int.reduceEq, Nat.reduceMul, h1, hr, f23, f8, f2, f22, c1, f21, e1, hkk, hnx]
          refine Ycp (p23 (by assumption) (by assumption) (by omega) (by assumption)) ?_
          simp (maxDischargeDepth := 9) only [↓gB, gV, gT, reduceIte, reduceCtorEq, Nat.reduceEqDiff, Nat.reduceAdd, Nat.reduceSub, Nat.reduceLeDiff, Nat.reduceLT, Int.reduceEq, Nat.reduceMul, h1, hr, f23, f8, f2, f22, c1, f21, e1, hkk, hnx]
          obtain ⟨x2, a2, s2, m2, rfl, ⟨v2, rfl, w2⟩, e2⟩ := hw.at (k) (by omega) 5 rfl
          obtain rfl := el_eq hely m2
          obtain ⟨aw2, cw2, rfl⟩ := RSl.val w2
          simp (maxDischargeDepth := 9) only [↓gB, gV, gT, reduceIte, reduceCtorEq, Nat.reduceEqDiff, Nat.reduceAdd, Nat.reduceSub, Nat.reduceLeDiff, Nat.reduceLT, Int.reduceEq, Nat.reduceMul, h1, f23, f8, f2, f22, c1, f21, e1, hr, e2, hkk, hnx]
          refine vguard_intro (by omega) ?_
          have q8 : Go.IntKind.i64.wrap (↑i + 1) = ↑i + 1 := wrap_id (by omega)
          simp (maxDischargeDepth := 9) only [↓gB, gV, gT, reduceIte, reduceCtorEq, Nat.reduceEqDiff, Nat.reduceAdd, Nat.reduceSub, Nat.reduceLeDiff, Nat.reduceLT, Int.reduceEq, Nat.reduceMul, h1, f23, f8, f2, f22, c1, f21, e1, hr, e2, q8, hkk, hnx]
          rw [N_lp]
          refine ⟨_, ?_, _, sub_refl _, i + 1, rfl, ?_, ?_, ?_, ?_, ?_, by simp (maxDischargeDepth := 9) only [↓gB, gV, gT, reduceIte, reduceCtorEq, Nat.reduceEqDiff, Nat.reduceAdd, Nat.reduceSub, Nat.reduceLeDiff, Nat.reduceLT, Int.reduceEq, Nat.reduceMul, h1, f23, f8, f2, f22, c1, f21, e1, hr, e2, q8, hkk, hnx, nat_succ, and_self]⟩
          · omega
          · omega
          · assumption
          · assumption
          · assumption
          · assumption
      · obtain rfl : i = l.length := by omega
        simp (maxDischargeDepth := 9) only [↓gB, gV, gT, reduceIte, reduceCtorEq, Nat.reduceEqDiff, Nat.reduceAdd, Nat.reduceSub, Nat.reduceLeDiff, Nat.reduceLT, Int.reduceEq, Nat.reduceMul, h1, hr, f2, f21, f22, f23, f8, c1]
        exact Kup_val (by simp (maxDischargeDepth := 9) only [le_self, le_puts, le_put0, h1, hle]) rfl
    · simp (maxDischargeDepth := 9) only [↓gB, gV, gT, reduceIte, reduceCtorEq, Nat.reduceEqDiff, Nat.reduceAdd, Nat.reduceSub, Nat.reduceLeDiff, Nat.reduceLT, Int.reduceEq, Nat.reduceMul, he, he2, List.map_toArray, List.map_cons, List.map_nil, Value.cells]
      refine Yn2 fun r1 h1 => ?_
      simp (maxDischargeDepth := 9) only [↓gB, gV, gT, reduceIte, reduceCtorEq, Nat.reduceEqDiff, Nat.reduceAdd, Nat.reduceSub, Nat.reduceLeDiff, Nat.reduceLT, Int.reduceEq, Nat.reduceMul, h1, he, he2, List.map_toArray, List.map_cons, List.map_nil, Value.cells]
      refine Ycp (p18 (by exact RSl.put _ (by assumption) (by assumption)) (by exact RSl.put _ (by assumption) (by assumption)) (by exact RSl.put _ (by assumption) (by assumption)) (by assumption) (by assumption) (by assumption) (by assumption)) ?_
      simp (maxDischargeDepth := 9) only [↓gB, gV, gT, reduceIte, reduceCtorEq, Nat.reduceEqDiff, Nat.reduceAdd, Nat.reduceSub, Nat.reduceLeDiff, Nat.reduceLT, Int.reduceEq, Nat.reduceMul, h1, he, he2, List.map_toArray, List.map_cons, List.map_nil, Value.cells]
      refine Ycp (p21 (by exact put_self _ _ _) (by exact RSl.put _ (by assumption) (by assumption)) (by exact RSl.put _ (by assumption) (by assumption)) (by exact RSl.put _ (by assumption) (by assumption)) (by assumption) (by assumption) (by assumption) (by assumption) (by assumption)) ?_
      simp (maxDischargeDepth := 9) only [↓gB, gV, gT, reduceIte, reduceCtorEq, Nat.reduceEqDiff, Nat.reduceAdd, Nat.reduceSub, Nat.reduceLeDiff, Nat.reduceLT, Int.reduceEq, Nat.reduceMul, h1, he, he2, List.map_toArray, List.map_cons, List.map_nil, Value.cells]
      exact Kup_val (by simp (maxDischargeDepth := 9) only [le_self, le_puts, le_put0, h1]) rfl
  · simp (maxDischargeDepth := 9) only [↓gB, gV, gT, reduceIte, reduceCtorEq, Nat.reduceEqDiff, Nat.reduceAdd, Nat.reduceSub, Nat.reduceLeDiff, Nat.reduceLT, Int.reduceEq, Nat.reduceMul, he, List.map_toArray, List.map_cons, List.map_nil, Value.cells]
    refine Yn2 fun r1 h1 => ?_
    simp (maxDischargeDepth := 9) only [↓gB, gV, gT, reduceIte, reduceCtorEq, Nat.reduceEqDiff, Nat.reduceAdd, Nat.reduceSub, Nat.reduceLeDiff, Nat.reduceLT, Int.reduceEq, Nat.reduceMul, h1, he, List.map_toArray, List.map_cons, List.map_nil, Value.cells]
    refine Ycp (p18 (by exact RSl.put _ (by assumption) (by assumption)) (by exact RSl.put _ (by assumption) (by assumption)) (by exact RSl.put _ (by assumption) (by assumption)) (by assumption) (by assumption) (by assumption) (by assumption)) ?_
    simp (maxDischargeDepth := 9) only [↓gB, gV, gT, reduceIte, reduceCtorEq, Nat.reduceEqDiff, Nat.reduceAdd, Nat.reduceSub, Nat.reduceLeDiff, Nat.reduceLT, Int.reduceEq, Nat.reduceMul, h1, he, List.map_toArray, List.map_cons, List.map_nil, Value.cells]
    exact Kup_val (by simp (maxDischargeDepth := 9) only [le_self, le_puts, le_put0, h1]) rfl
end Go.Proofs.YtjhfhacdjmokaaaGreatDoor
namespace Go.Proofs.YtjhfhacdjmokaaaGreatDoor
open Go Go.GL
attribute [local irreducible] Ycall GCalls
set_option maxRecDepth 10000
set_option maxHeartbeats 0
def knotsOf (ar : List SArc) (k : ByteArray) : List SKnot := match ar[(keyAt SArc.Key ar k).toNat]? with | some x => x.Knots | none => []
def tmTo (ar : List SArc) (l : List ByteArray) (t : Int) : Nat → Int
  | 0 => t
  | i + 1 => match l[i]? with | some s => tmTo ar l t i + timeF (knotsOf ar s) (tmTo ar l t i) | none => tmTo ar l t i
def timesTo (ar : List SArc) (l : List ByteArray) (t : Int) (i : Nat) : List Int := (List.range (i + 1)).map (tmTo ar l t)
def walkOk (ar : List SArc) (l : List ByteArray) (t : Int) : Prop := ∀ i, i < l.length → tmTo ar l t (i + 1) < 345686400000
theorem tmTo_0 (ar : List SArc) (l : List ByteArray) (t : Int) : tmTo ar l t 0 = t := rfl
theorem knots_at {ar : List SArc} {x : SArc} {k : ByteArray} (m : ar[(keyAt SArc.Key ar k).toNat]? = some x) : knotsOf ar k = x.Knots := by unfold knotsOf; rw [m]
theorem tmTo_next {ar : List SArc} {l : List ByteArray} {t : Int} {i : Nat} {s : ByteArray} (h : l[i]? = some s) : tmTo ar l t (i + 1) = tmTo ar l t i + timeF (knotsOf ar s) (tmTo ar l t i) := by
  conv => lhs; unfold tmTo
  rw [h]
theorem times_0 (ar : List SArc) (l : List ByteArray) (t : Int) : timesTo ar l t 0 = [t] := rfl
theorem times_next (ar : List SArc) (l : List ByteArray) (t : Int) (i : Nat) : timesTo ar l t (i + 1) = timesTo ar l t i ++ [tmTo ar l t (i + 1)] := by
  unfold timesTo; rw [List.range_succ, List.map_append]; rfl
theorem times_len (ar : List SArc) (l : List ByteArray) (t : Int) (i : Nat) : (timesTo ar l t i).length = i + 1 := by unfold timesTo; simp
theorem g15 {G0 : GH} {w vl : Value} {ar : List SArc} {l : List ByteArray} {t : Int} {va ua : Option Addr} {vn vc un uc : Nat} (hw : RSl rArc G0 w ar) (hv : RSl Rp.str G0 vl l) (hm : ar.length ≤ 1000000000) (hl : l.length ≤ 2000) (hk : ∀ s ∈ l, 0 ≤ keyAt SArc.Key ar s) (hq : ∀ x ∈ ar, knotsE x.Knots = 0) (ht0 : 0 ≤ t) (ht1 : t < 345686400000) (hok : walkOk ar l t) : Gives Tryz.prog G0 15 [.agg #[.slice va vn vc, w, .slice ua un uc], vl, V t] (fun u G' => ∃ x, RSl Rp.int G' x (timesTo ar l t l.length) ∧ u = .tuple #[x, .bool true]) := by
  intro G hG; replace hw := hw.le hG; replace hv := hv.le hG
  clear hG G0
  refine enter Tryz.func15 38 #[.tmp 6, .tmp 7] rfl Tryz.ntmps15 rfl (by decide +kernel) rfl ?_
  obtain ⟨a, c, rfl⟩ := hv.val
  obtain ⟨wa, wc, rfl⟩ := hw.val
  simp (maxDischargeDepth := 9) only [↓gB, gV, gT, reduceIte, reduceCtorEq, Nat.reduceEqDiff, Nat.reduceAdd, Nat.reduceSub, Nat.reduceLeDiff, Nat.reduceLT, Int.reduceEq, Nat.reduceMul, List.map_toArray, List.map_cons, List.map_nil, Value.cells]
  refine Yn2 fun r1 h1 => ?_
  simp (maxDischargeDepth := 9) only [↓gB, gV, gT, reduceIte, reduceCtorEq, Nat.reduceEqDiff, Nat.reduceAdd, Nat.reduceSub, Nat.reduceLeDiff, Nat.reduceLT, Int.reduceEq, Nat.reduceMul, h1, List.map_toArray, List.map_cons, List.map_nil, Value.cells]
  refine Yn2 fun r2 h2 => ?_
  have n2 := h2
  simp only [put_none_eq, ne_eq] at n2
  simp (maxDischargeDepth := 9) only [↓gB, gV, gT, reduceIte, reduceCtorEq, Nat.reduceEqDiff, Nat.reduceAdd, Nat.reduceSub, Nat.reduceLeDiff, Nat.reduceLT, Int.reduceEq, Nat.reduceMul, h1, h2, n2, List.map_toArray, List.map_cons, List.map_nil, Value.cells]
  focus
    refine Xloop_intro _ _ _ _ _ (fun k f G' => ∃ (i : Nat) (o : Value), k = l.length - i ∧ (i ≤ l.length) ∧ (0 ≤ tmTo ar l t i ∧ tmTo ar l t i < 345686400000) ∧ (G' r1 = some (.cells [.slice va vn vc, .slice wa ar.length wc, .slice ua un uc].toArray 26 (0, 0), true)) ∧ (Row Rp.int 3 G G' o (timesTo ar l t i)) ∧ (RSl rArc G' (.slice wa ar.length wc) ar) ∧ (RSl Rp.str G' (.slice a l.length c) l) ∧ (G.le G') ∧ f 15 = V i ∧ f 2 = V (tmTo ar l t i) ∧ f 8 = o ∧ f 3 = Go.Value.pointer (Option.some { block := r1, off := 0 }) ∧ f 13 = Go.Value.slice a l.length c ∧ f 14 = Go.Value.int Go.IntKind.i64 ↑l.length) _ ⟨0, .slice (some ⟨r2, 0, none⟩) 1 1, rfl, ?_, ?_, ?_, ?_, ?_, ?_, ?_, by simp (maxDischargeDepth := 9) only [↓gB, gV, gT, reduceIte, reduceCtorEq, Nat.reduceEqDiff, Nat.reduceAdd, Nat.reduceSub, Nat.reduceLeDiff, Nat.reduceLT, Int.reduceEq, Nat.reduceMul, h1, h2, n2, tmTo_0, times_0, and_self]⟩ ?_
    · omega
    · (exact ⟨ht0, ht1⟩; done)
    · ((rw [put_pk h2 (kn_is _ _ _)]; exact put_self _ _ _); done)
    · ((rw [times_0]; exact Row.cell1 (put_self _ _ _) n2.2 ⟨rfl, by omega, by omega⟩); done)
    · exact RSl.put _ (by assumption) (RSl.put _ (by assumption) (by assumption))
    · exact RSl.put _ (by assumption) (RSl.put _ (by assumption) (by assumption))
    · (simp (maxDischargeDepth := 9) only [le_self, le_puts, le_put0, sub_self, sub_puts, sub_put0, h1, h2, n2]; done)
    rintro k f G' ⟨i, o, rfl, hi, hi0, hr, ho, hw, hv, hle, f15, f2, f8, f3, f13, f14⟩
  have htl := times_len ar l t i
  simp (maxDischargeDepth := 9) only [↓gB, gV, gT, reduceIte, reduceCtorEq, Nat.reduceEqDiff, Nat.reduceAdd, Nat.reduceSub, Nat.reduceLeDiff, Nat.reduceLT, Int.reduceEq, Nat.reduceMul, h1, h2, n2, hr, f15, f2, f8, f3, f13, f14]
  refine Xc_split _ _ _ _ _ (fun c1 => ?_) (fun c1 => ?_)
  · obtain ⟨s, helx⟩ : ∃ s, l[i]? = some s := ⟨_, List.getElem?_eq_getElem (by omega)⟩
    have hk0 := hk s (List.mem_of_getElem? helx)
    obtain ⟨k, hkk⟩ := Int.eq_ofNat_of_zero_le hk0
    obtain ⟨x, hely, hxs⟩ := keyAt_get hkk
    have hkl : k < ar.length := (List.getElem?_eq_some_iff.1 hely).1
    have hkn : knotsOf ar s = x.Knots := knots_at (by rw [hkk]; exact hely)
    have hxq := hq x (List.mem_of_getElem? hely)
    have hnx := tmTo_next (ar := ar) (t := t) helx
    have hnt := times_next ar l t i
    rw [hkn] at hnx
    have htb := time_b hxq (tmTo ar l t i)
    have hok1 := hok i (by omega)
    have hww : IntKind.i64.wrap (tmTo ar l t i + timeF x.Knots (tmTo ar l t i)) = tmTo ar l t (i + 1) := by rw [hnx]; exact wrap_id (by omega)
    have hge : ¬ 345686400000 ≤ tmTo ar l t (i + 1) := by omega
    focus
      simp (maxDischargeDepth := 9) only [↓gB, gV, gT, reduceIte, reduceCtorEq, Nat.reduceEqDiff, Nat.reduceAdd, Nat.reduceSub, Nat.reduceLeDiff, Nat.reduceLT, Int.reduceEq, Nat.reduceMul, h1, h2, n2, hr, f15, f2, f8, f3, f13, f14, c1, hww, hkk, hge]
      obtain ⟨x1, a1, s1, m1, rfl, rfl, e1⟩ := hv.at1 (i) (by omega) rfl
      obtain rfl := el_eq helx m1
      simp (maxDischargeDepth := 9) only [↓gB, gV, gT, reduceIte, reduceCtorEq, Nat.reduceEqDiff, Nat.reduceAdd, Nat.reduceSub, Nat.reduceLeDiff, Nat.reduceLT, Int.reduceEq, Nat.reduceMul, h1, h2, n2, hr, f15, f2, f8, f3, f14, c1, hww, f13, e1, hkk, hge]
      refine vguard_intro (by simp) ?_
      refine Xdraw_intro [0, 1, 2, 3, 4, 8, 5, 6, 7, 9, 10, 11] mixed (by kernel_rfl) (by decide +kernel) ?_
      simp (maxDischargeDepth := 9) only [↓gB, gV, gT, reduceIte, reduceCtorEq, Nat.reduceEqDiff, Nat.reduceAdd, Nat.reduceSub, Nat.reduceLeDiff, Nat.reduceLT, Int.reduceEq, Nat.reduceMul, h1, h2, n2, hr, f15, f2, f8, f3, f14, c1, hww, f13, e1, hkk, hge]
      refine Ycp (p33 (by assumption) (by omega)) ?_
      simp (maxDischargeDepth := 9) only [↓gB, gV, gT, reduceIte, reduceCtorEq, Nat.reduceEqDiff, Nat.reduceAdd, Nat.reduceSub, Nat.reduceLeDiff, Nat.reduceLT, Int.reduceEq, Nat.reduceMul, h1, h2, n2, hr, f15, f2, f8, f3, f14, c1, hww, f13, e1, hkk, hge]
      obtain ⟨x2, a2, s2, m2, rfl, ⟨v2, rfl, w2⟩, e2⟩ := hw.at (k) (by omega) 5 rfl
      obtain rfl := el_eq hely m2
      obtain ⟨aw2, cw2, rfl⟩ := RSl.val w2
      simp (maxDischargeDepth := 9) only [↓gB, gV, gT, reduceIte, reduceCtorEq, Nat.reduceEqDiff, Nat.reduceAdd, Nat.reduceSub, Nat.reduceLeDiff, Nat.reduceLT, Int.reduceEq, Nat.reduceMul, h1, n2, f15, f2, f8, f3, f14, c1, hww, f13, e1, h2, hr, e2, hkk, hge]
      refine vguard_intro (by omega) ?_
      refine Ycp (p35 (by assumption) (by assumption) (by omega) (by omega)) ?_
      simp (maxDischargeDepth := 9) only [↓gB, gV, gT, reduceIte, reduceCtorEq, Nat.reduceEqDiff, Nat.reduceAdd, Nat.reduceSub, Nat.reduceLeDiff, Nat.reduceLT, Int.reduceEq, Nat.reduceMul, h1, n2, f15, f2, f8, f3, f14, c1, hww, f13, e1, h2, hr, e2, hkk, hge]
      refine Yn2 fun r3 h3 => ?_
      simp (maxDischargeDepth := 9) only [↓gB, gV, gT, reduceIte, reduceCtorEq, Nat.reduceEqDiff, Nat.reduceAdd, Nat.reduceSub, Nat.reduceLeDiff, Nat.reduceLT, Int.reduceEq, Nat.reduceMul, h1, n2, f15, f2, f8, f3, f14, c1, hww, f13, e1, h2, hr, e2, h3, hkk, hge]
      refine Row.app1 sl28 (Row.put _ h3 ho) (by exact put_self _ _ _) (y := _) ⟨rfl, (by first | exact (RSl.put _ h3 hv) | exact (RSl.put _ h3 hw) | exact (RSl.put _ h3 w2) | omega | decide | assumption | (unfold i64; omega) | (unfold i64 at *; omega) | (constructor <;> omega))⟩ (by omega) (GH.le.trans hle (le_put h3 _)) fun v1 G1 w1 k1 l1 => ?_
      replace hv := RSl.appd (RSl.put _ h3 hv) (Row.put _ h3 ho) k1
      replace hw := RSl.appd (RSl.put _ h3 hw) (Row.put _ h3 ho) k1
      (have nt := Row.notTy ho hr (by decide); replace hr := k1 _ _ ((GH.le.trans (le_refl _) (le_put h3 _)) _ _ hr) nt; clear nt)
      replace w2 := RSl.appd (RSl.put _ h3 w2) (Row.put _ h3 ho) k1
      simp (maxDischargeDepth := 9) only [↓gB, gV, gT, reduceIte, reduceCtorEq, Nat.reduceEqDiff, Nat.reduceAdd, Nat.reduceSub, Nat.reduceLeDiff, Nat.reduceLT, Int.reduceEq, Nat.reduceMul, h1, n2, f15, f2, f8, f3, f14, c1, hww, f13, e1, h2, e2, h3, k1, hr, hkk, hge]
      have q1 : Go.IntKind.i64.wrap (↑i + 1) = ↑i + 1 := wrap_id (by omega)
      simp (maxDischargeDepth := 9) only [↓gB, gV, gT, reduceIte, reduceCtorEq, Nat.reduceEqDiff, Nat.reduceAdd, Nat.reduceSub, Nat.reduceLeDiff, Nat.reduceLT, Int.reduceEq, Nat.reduceMul, h1, n2, f15, f2, f8, f3, f14, c1, hww, f13, e1, h2, e2, h3, k1, hr, q1, hkk, hge]
      rw [N_lp]
      refine ⟨_, ?_, _, sub_refl _, i + 1, v1, rfl, ?_, ?_, ?_, ?_, ?_, ?_, ?_, by simp (maxDischargeDepth := 9) only [↓gB, gV, gT, reduceIte, reduceCtorEq, Nat.reduceEqDiff, Nat.reduceAdd, Nat.reduceSub, Nat.reduceLeDiff, Nat.reduceLT, Int.reduceEq, Nat.reduceMul, h1, n2, f15, f2, f8, f3, f14, c1, hww, f13, e1, h2, e2, h3, k1, hr, q1, hkk, hge, nat_succ, and_self]⟩
      · omega
      · omega
      · omega
      · assumption
      · ((rw [hnt]; exact w1); done)
      · assumption
      · assumption
      · assumption
  · obtain rfl : i = l.length := by omega
    simp (maxDischargeDepth := 9) only [↓gB, gV, gT, reduceIte, reduceCtorEq, Nat.reduceEqDiff, Nat.reduceAdd, Nat.reduceSub, Nat.reduceLeDiff, Nat.reduceLT, Int.reduceEq, Nat.reduceMul, h1, h2, n2, hr, f8, f3, f13, f14, f15, f2, c1]
    obtain ⟨G2, hs, hl, hr⟩ := ho.fin hle
    exact Kup_gives hs hl ⟨_, hr, rfl⟩
end Go.Proofs.YtjhfhacdjmokaaaGreatDoor
namespace Go.Proofs.YtjhfhacdjmokaaaGreatDoor
open Go Go.GL
attribute [local irreducible] Ycall GCalls
set_option maxRecDepth 10000
set_option maxHeartbeats 0
theorem p15 {G0 : GH} {w vl : Value} {ar : List SArc} {l : List ByteArray} {t : Int} {va ua : Option Addr} {vn vc un uc : Nat} (hw : RSl rArc G0 w ar) (hv : RSl Rp.str G0 vl l) (hm : ar.length ≤ 1000000000) (hl : l.length ≤ 2000) (hk : ∀ s ∈ l, 0 ≤ keyAt SArc.Key ar s) (hq : ∀ x ∈ ar, knotsE x.Knots = 0) (ht0 : 0 ≤ t) (ht1 : t < 345686400000) (hok : ¬ walkOk ar l t) : Pure Tryz.prog G0 15 [.agg #[.slice va vn vc, w, .slice ua un uc], vl, V t] (.tuple #[.slice none 0 0, .bool false]) := by
  intro G hG; replace hw := hw.le hG; replace hv := hv.le hG
  clear hG G0
  refine enter Tryz.func15 38 #[.tmp 6, .tmp 7] rfl Tryz.ntmps15 rfl (by decide +kernel) rfl ?_
  obtain ⟨a, c, rfl⟩ := hv.val
  obtain ⟨wa, wc, rfl⟩ := hw.val
  simp (maxDischargeDepth := 9) only [↓gB, gV, gT, reduceIte, reduceCtorEq, Nat.reduceEqDiff, Nat.reduceAdd, Nat.reduceSub, Nat.reduceLeDiff, Nat.reduceLT, Int.reduceEq, Nat.reduceMul, List.map_toArray, List.map_cons, List.map_nil, Value.cells]
  refine Yn2 fun r1 h1 => ?_
  simp (maxDischargeDepth := 9) only [↓gB, gV, gT, reduceIte, reduceCtorEq, Nat.reduceEqDiff, Nat.reduceAdd, Nat.reduceSub, Nat.reduceLeDiff, Nat.reduceLT, Int.reduceEq, Nat.reduceMul, h1, List.map_toArray, List.map_cons, List.map_nil, Value.cells]
  refine Yn2 fun r2 h2 => ?_
  have n2 := h2
  simp only [put_none_eq, ne_eq] at n2
  simp (maxDischargeDepth := 9) only [↓gB, gV, gT, reduceIte, reduceCtorEq, Nat.reduceEqDiff, Nat.reduceAdd, Nat.reduceSub, Nat.reduceLeDiff, Nat.reduceLT, Int.reduceEq, Nat.reduceMul, h1, h2, n2, List.map_toArray, List.map_cons, List.map_nil, Value.cells]
  focus
    refine Xloop_intro _ _ _ _ _ (fun k f G' => ∃ (i : Nat) (o : Value), k = l.length - i ∧ (i ≤ l.length) ∧ (0 ≤ tmTo ar l t i ∧ tmTo ar l t i < 345686400000) ∧ (∀ j, j < i → tmTo ar l t (j + 1) < 345686400000) ∧ (G' r1 = some (.cells [.slice va vn vc, .slice wa ar.length wc, .slice ua un uc].toArray 26 (0, 0), true)) ∧ (Row Rp.int 3 G G' o (timesTo ar l t i)) ∧ (RSl rArc G' (.slice wa ar.length wc) ar) ∧ (RSl Rp.str G' (.slice a l.length c) l) ∧ (G.le G') ∧ f 15 = V i ∧ f 2 = V (tmTo ar l t i) ∧ f 8 = o ∧ f 3 = Go.Value.pointer (Option.some { block := r1, off := 0 }) ∧ f 13 = Go.Value.slice a l.length c ∧ f 14 = Go.Value.int Go.IntKind.i64 ↑l.length) _ ⟨0, .slice (some ⟨r2, 0, none⟩) 1 1, rfl, ?_, ?_, ?_, ?_, ?_, ?_, ?_, ?_, by simp (maxDischargeDepth := 9) only [↓gB, gV, gT, reduceIte, reduceCtorEq, Nat.reduceEqDiff, Nat.reduceAdd, Nat.reduceSub, Nat.reduceLeDiff, Nat.reduceLT, Int.reduceEq, Nat.reduceMul, h1, h2, n2, tmTo_0, times_0, and_self]⟩ ?_
    · omega
    · (exact ⟨ht0, ht1⟩; done)
    · omega
    · ((rw [put_pk h2 (kn_is _ _ _)]; exact put_self _ _ _); done)
    · ((rw [times_0]; exact Row.cell1 (put_self _ _ _) n2.2 ⟨rfl, by omega, by omega⟩); done)
    · exact RSl.put _ (by assumption) (RSl.put _ (by assumption) (by assumption))
    · exact RSl.put _ (by assumption) (RSl.put _ (by assumption) (by assumption))
    · (simp (maxDischargeDepth := 9) only [le_self, le_puts, le_put0, sub_self, sub_puts, sub_put0, h1, h2, n2]; done)
    rintro k f G' ⟨i, o, rfl, hi, hi0, hall, hr, ho, hw, hv, hle, f15, f2, f8, f3, f13, f14⟩
  have htl := times_len ar l t i
  simp (maxDischargeDepth := 9) only [↓gB, gV, gT, reduceIte, reduceCtorEq, Nat.reduceEqDiff, Nat.reduceAdd, Nat.reduceSub, Nat.reduceLeDiff, Nat.reduceLT, Int.reduceEq, Nat.reduceMul, h1, h2, n2, hr, f15, f2, f8, f3, f13, f14]
  refine Xc_split _ _ _ _ _ (fun c1 => ?_) (fun c1 => ?_)
  · obtain ⟨s, helx⟩ : ∃ s, l[i]? = some s := ⟨_, List.getElem?_eq_getElem (by omega)⟩
    have hk0 := hk s (List.mem_of_getElem? helx)
    obtain ⟨k, hkk⟩ := Int.eq_ofNat_of_zero_le hk0
    obtain ⟨x, hely, hxs⟩ := keyAt_get hkk
    have hkl : k < ar.length := (List.getElem?_eq_some_iff.1 hely).1
    have hkn : knotsOf ar s = x.Knots := knots_at (by rw [hkk]; exact hely)
    have hxq := hq x (List.mem_of_getElem? hely)
    have hnx := tmTo_next (ar := ar) (t := t) helx
    have hnt := times_next ar l t i
    rw [hkn] at hnx
    have htb := time_b hxq (tmTo ar l t i)
    have hww : IntKind.i64.wrap (tmTo ar l t i + timeF x.Knots (tmTo ar l t i)) = tmTo ar l t (i + 1) := by rw [hnx]; exact wrap_id (by omega)
    by_cases hge : 345686400000 ≤ tmTo ar l t (i + 1)
    · simp (maxDischargeDepth := 9) only [↓gB, gV, gT, reduceIte, reduceCtorEq, Nat.reduceEqDiff, Nat.reduceAdd, Nat.reduceSub, Nat.reduceLeDiff, Nat.reduceLT, Int.reduceEq, Nat.reduceMul, h1, h2, n2, hr, f15, f2, f8, f3, f13, f14, c1, hww, hkk, hge]
      obtain ⟨x1, a1, s1, m1, rfl, rfl, e1⟩ := hv.at1 (i) (by omega) rfl
      obtain rfl := el_eq helx m1
      simp (maxDischargeDepth := 9) only [↓gB, gV, gT, reduceIte, reduceCtorEq, Nat.reduceEqDiff, Nat.reduceAdd, Nat.reduceSub, Nat.reduceLeDiff, Nat.reduceLT, Int.reduceEq, Nat.reduceMul, h1, h2, n2, hr, f15, f2, f8, f3, f14, c1, hww, f13, e1, hkk, hge]
      refine vguard_intro (by simp) ?_
      refine Xdraw_intro [0, 1, 2, 3, 4, 8, 5, 6, 7, 9, 10, 11] mixed (by kernel_rfl) (by decide +kernel) ?_
      simp (maxDischargeDepth := 9) only [↓gB, gV, gT, reduceIte, reduceCtorEq, Nat.reduceEqDiff, Nat.reduceAdd, Nat.reduceSub, Nat.reduceLeDiff, Nat.reduceLT, Int.reduceEq, Nat.reduceMul, h1, h2, n2, hr, f15, f2, f8, f3, f14, c1, hww, f13, e1, hkk, hge]
      refine Ycp (p33 (by assumption) (by omega)) ?_
      simp (maxDischargeDepth := 9) only [↓gB, gV, gT, reduceIte, reduceCtorEq, Nat.reduceEqDiff, Nat.reduceAdd, Nat.reduceSub, Nat.reduceLeDiff, Nat.reduceLT, Int.reduceEq, Nat.reduceMul, h1, h2, n2, hr, f15, f2, f8, f3, f14, c1, hww, f13, e1, hkk, hge]
      obtain ⟨x2, a2, s2, m2, rfl, ⟨v2, rfl, w2⟩, e2⟩ := hw.at (k) (by omega) 5 rfl
      obtain rfl := el_eq hely m2
      obtain ⟨aw2, cw2, rfl⟩ := RSl.val w2
      simp (maxDischargeDepth := 9) only [↓gB, gV, gT, reduceIte, reduceCtorEq, Nat.reduceEqDiff, Nat.reduceAdd, Nat.reduceSub, Nat.reduceLeDiff, Nat.reduceLT, Int.reduceEq, Nat.reduceMul, h1, n2, f15, f2, f8, f3, f14, c1, hww, f13, e1, h2, hr, e2, hkk, hge]
      refine vguard_intro (by omega) ?_
      refine Ycp (p35 (by assumption) (by assumption) (by omega) (by omega)) ?_
      simp (maxDischargeDepth := 9) only [↓gB, gV, gT, reduceIte, reduceCtorEq, Nat.reduceEqDiff, Nat.reduceAdd, Nat.reduceSub, Nat.reduceLeDiff, Nat.reduceLT, Int.reduceEq, Nat.reduceMul, h1, n2, f15, f2, f8, f3, f14, c1, hww, f13, e1, h2, hr, e2, hkk, hge]
      exact Kup_val (by simp (maxDischargeDepth := 9) only [le_self, le_puts, le_put0, h1, n2, hle, h2]) rfl
    · focus
        simp (maxDischargeDepth := 9) only [↓gB, gV, gT, reduceIte, reduceCtorEq, Nat.reduceEqDiff, Nat.reduceAdd, Nat.reduceSub, Nat.reduceLeDiff, Nat.reduceLT, Int.reduceEq, Nat.reduceMul, h1, h2, n2, hr, f15, f2, f8, f3, f13, f14, c1, hww, hkk, hge]
        obtain ⟨x1, a1, s1, m1, rfl, rfl, e1⟩ := hv.at1 (i) (by omega) rfl
        obtain rfl := el_eq helx m1
        simp (maxDischargeDepth := 9) only [↓gB, gV, gT, reduceIte, reduceCtorEq, Nat.reduceEqDiff, Nat.reduceAdd, Nat.reduceSub, Nat.reduceLeDiff, Nat.reduceLT, Int.reduceEq, Nat.reduceMul, h1, h2, n2, hr, f15, f2, f8, f3, f14, c1, hww, f13, e1, hkk, hge]
        refine vguard_intro (by simp) ?_
        refine Xdraw_intro [0, 1, 2, 3, 4, 8, 5, 6, 7, 9, 10, 11] mixed (by kernel_rfl) (by decide +kernel) ?_
        simp (maxDischargeDepth := 9) only [↓gB, gV, gT, reduceIte, reduceCtorEq, Nat.reduceEqDiff, Nat.reduceAdd, Nat.reduceSub, Nat.reduceLeDiff, Nat.reduceLT, Int.reduceEq, Nat.reduceMul, h1, h2, n2, hr, f15, f2, f8, f3, f14, c1, hww, f13, e1, hkk, hge]
        refine Ycp (p33 (by assumption) (by omega)) ?_
        simp (maxDischargeDepth := 9) only [↓gB, gV, gT, reduceIte, reduceCtorEq, Nat.reduceEqDiff, Nat.reduceAdd, Nat.reduceSub, Nat.reduceLeDiff, Nat.reduceLT, Int.reduceEq, Nat.reduceMul, h1, h2, n2, hr, f15, f2, f8, f3, f14, c1, hww, f13, e1, hkk, hge]
        obtain ⟨x2, a2, s2, m2, rfl, ⟨v2, rfl, w2⟩, e2⟩ := hw.at (k) (by omega) 5 rfl
        obtain rfl := el_eq hely m2
        obtain ⟨aw2, cw2, rfl⟩ := RSl.val w2
        simp (maxDischargeDepth := 9) only [↓gB, gV, gT, reduceIte, reduceCtorEq, Nat.reduceEqDiff, Nat.reduceAdd, Nat.reduceSub, Nat.reduceLeDiff, Nat.reduceLT, Int.reduceEq, Nat.reduceMul, h1, n2, f15, f2, f8, f3, f14, c1, hww, f13, e1, h2, hr, e2, hkk, hge]
        refine vguard_intro (by omega) ?_
        refine Ycp (p35 (by assumption) (by assumption) (by omega) (by omega)) ?_
        simp (maxDischargeDepth := 9) only [↓gB, gV, gT, reduceIte, reduceCtorEq, Nat.reduceEqDiff, Nat.reduceAdd, Nat.reduceSub, Nat.reduceLeDiff, Nat.reduceLT, Int.reduceEq, Nat.reduceMul, h1, n2, f15, f2, f8, f3, f14, c1, hww, f13, e1, h2, hr, e2, hkk, hge]
        refine Yn2 fun r3 h3 => ?_
        simp (maxDischargeDepth := 9) only [↓gB, gV, gT, reduceIte, reduceCtorEq, Nat.reduceEqDiff, Nat.reduceAdd, Nat.reduceSub, Nat.reduceLeDiff, Nat.reduceLT, Int.reduceEq, Nat.reduceMul, h1, n2, f15, f2, f8, f3, f14, c1, hww, f13, e1, h2, hr, e2, h3, hkk, hge]
        refine Row.app1 sl28 (Row.put _ h3 ho) (by exact put_self _ _ _) (y := _) ⟨rfl, (by first | exact (RSl.put _ h3 hv) | exact (RSl.put _ h3 hw) | exact (RSl.put _ h3 w2) | omega | decide | assumption | (unfold i64; omega) | (unfold i64 at *; omega) | (constructor <;> omega))⟩ (by omega) (GH.le.trans hle (le_put h3 _)) fun v1 G1 w1 k1 l1 => ?_
        replace hv := RSl.appd (RSl.put _ h3 hv) (Row.put _ h3 ho) k1
        replace hw := RSl.appd (RSl.put _ h3 hw) (Row.put _ h3 ho) k1
        (have nt := Row.notTy ho hr (by decide); replace hr := k1 _ _ ((GH.le.trans (le_refl _) (le_put h3 _)) _ _ hr) nt; clear nt)
        replace w2 := RSl.appd (RSl.put _ h3 w2) (Row.put _ h3 ho) k1
        simp (maxDischargeDepth := 9) only [↓gB, gV, gT, reduceIte, reduceCtorEq, Nat.reduceEqDiff, Nat.reduceAdd, Nat.reduceSub, Nat.reduceLeDiff, Nat.reduceLT, Int.reduceEq, Nat.reduceMul, h1, n2, f15, f2, f8, f3, f14, c1, hww, f13, e1, h2, e2, h3, k1, hr, hkk, hge]
        have q1 : Go.IntKind.i64.wrap (↑i + 1) = ↑i + 1 := wrap_id (by omega)
        simp (maxDischargeDepth := 9) only [↓gB, gV, gT, reduceIte, reduceCtorEq, Nat.reduceEqDiff, Nat.reduceAdd, Nat.reduceSub, Nat.reduceLeDiff, Nat.reduceLT, Int.reduceEq, Nat.reduceMul, h1, n2, f15, f2, f8, f3, f14, c1, hww, f13, e1, h2, e2, h3, k1, hr, q1, hkk, hge]
        rw [N_lp]
        refine ⟨_, ?_, _, sub_refl _, i + 1, v1, rfl, ?_, ?_, ?_, ?_, ?_, ?_, ?_, ?_, by simp (maxDischargeDepth := 9) only [↓gB, gV, gT, reduceIte, reduceCtorEq, Nat.reduceEqDiff, Nat.reduceAdd, Nat.reduceSub, Nat.reduceLeDiff, Nat.reduceLT, Int.reduceEq, Nat.reduceMul, h1, n2, f15, f2, f8, f3, f14, c1, hww, f13, e1, h2, e2, h3, k1, hr, q1, hkk, hge, nat_succ, and_self]⟩
        · omega
        · omega
        · omega
        · ((intro j hj; by_cases e : j = i; (subst e; omega); exact hall j (by omega)); done)
        · assumption
        · ((rw [hnt]; exact w1); done)
        · assumption
        · assumption
        · assumption
  · obtain rfl : i = l.length := by omega
    exact absurd hall hok
end Go.Proofs.YtjhfhacdjmokaaaGreatDoor
namespace Go.Proofs.YtjhfhacdjmokaaaGreatDoor
open Go Go.GL
attribute [local irreducible] Ycall GCalls
set_option maxRecDepth 10000
set_option maxHeartbeats 0
theorem g4 {G0 : GH} {v w u vl : Value} {ns : List SNode} {ar : List SArc} {bs : List SBan} {fr : ByteArray} {l : List ByteArray} {t : Int} (h0 : RSl rNode G0 v ns) (hw : RSl rArc G0 w ar) (hu : RSl rBan G0 u bs) (hv : RSl Rp.str G0 vl l) (hn : ns.length ≤ 1000000000) (hm : ar.length ≤ 1000000000) (hk : ∀ x ∈ ar, x.Knots.length ≤ 1000000000) (hb : bs.length ≤ 1000000000) (hl : l.length ≤ 1000000000) (he : roadsE ns ar bs = 0) (hnk : 0 ≤ keyAt SNode.Key ns fr) (hmo : moment t = true) (he2 : walkE ar bs fr l = 0) (hok : walkOk ar l t) : Gives Tryz.prog G0 4 [.agg #[v, w, u], .string fr, vl, V t] (fun u G' => ∃ x, RSl Rp.int G' x (timesTo ar l t l.length) ∧ u = .tuple #[x, V 0]) := by
  intro G hG; replace h0 := h0.le hG; replace hw := hw.le hG; replace hu := hu.le hG; replace hv := hv.le hG
  clear hG G0
  refine enter Tryz.func4 59 #[.tmp 8, .tmp 9] rfl Tryz.ntmps4 rfl (by decide +kernel) rfl ?_
  obtain ⟨a, c, rfl⟩ := hv.val
  obtain ⟨va, vc, rfl⟩ := h0.val
  obtain ⟨wa, wc, rfl⟩ := hw.val
  obtain ⟨ua, uc, rfl⟩ := hu.val
  obtain ⟨q1, q2, q3, q4, q5, q6, q7⟩ := roads_ok he
  obtain ⟨hl2, hks⟩ := walk_keys he2
  have hmb := within_iff.1 (show within t 0 345686399999 = true from hmo)
  have ht0 : 0 ≤ t := hmb.1
  have ht1 : t < 345686400000 := by omega
  have hnk' : ¬ keyAt SNode.Key ns fr < 0 := by omega
  simp (maxDischargeDepth := 9) only [↓gB, gV, gT, reduceIte, reduceCtorEq, Nat.reduceEqDiff, Nat.reduceAdd, Nat.reduceSub, Nat.reduceLeDiff, Nat.reduceLT, Int.reduceEq, Nat.reduceMul, hmo, he, he2, hnk', List.map_toArray, List.map_cons, List.map_nil, Value.cells]
  refine Yn2 fun r1 h1 => ?_
  simp (maxDischargeDepth := 9) only [↓gB, gV, gT, reduceIte, reduceCtorEq, Nat.reduceEqDiff, Nat.reduceAdd, Nat.reduceSub, Nat.reduceLeDiff, Nat.reduceLT, Int.reduceEq, Nat.reduceMul, hmo, h1, he, he2, hnk', List.map_toArray, List.map_cons, List.map_nil, Value.cells]
  refine Ycp (p18 (by exact RSl.put _ (by assumption) (by assumption)) (by exact RSl.put _ (by assumption) (by assumption)) (by exact RSl.put _ (by assumption) (by assumption)) (by assumption) (by assumption) (by assumption) (by assumption)) ?_
  simp (maxDischargeDepth := 9) only [↓gB, gV, gT, reduceIte, reduceCtorEq, Nat.reduceEqDiff, Nat.reduceAdd, Nat.reduceSub, Nat.reduceLeDiff, Nat.reduceLT, Int.reduceEq, Nat.reduceMul, hmo, h1, he, he2, hnk', List.map_toArray, List.map_cons, List.map_nil, Value.cells]
  refine Ycp (p19 (by exact put_self _ _ _) (by exact RSl.put _ (by assumption) (by assumption)) (by omega) (by assumption)) ?_
  simp (maxDischargeDepth := 9) only [↓gB, gV, gT, reduceIte, reduceCtorEq, Nat.reduceEqDiff, Nat.reduceAdd, Nat.reduceSub, Nat.reduceLeDiff, Nat.reduceLT, Int.reduceEq, Nat.reduceMul, hmo, h1, he, he2, hnk', List.map_toArray, List.map_cons, List.map_nil, Value.cells]
  refine Ycp (p20) ?_
  simp (maxDischargeDepth := 9) only [↓gB, gV, gT, reduceIte, reduceCtorEq, Nat.reduceEqDiff, Nat.reduceAdd, Nat.reduceSub, Nat.reduceLeDiff, Nat.reduceLT, Int.reduceEq, Nat.reduceMul, hmo, h1, he, he2, hnk', List.map_toArray, List.map_cons, List.map_nil, Value.cells]
  refine Ycp (p21 (by exact put_self _ _ _) (by exact RSl.put _ (by assumption) (by assumption)) (by exact RSl.put _ (by assumption) (by assumption)) (by exact RSl.put _ (by assumption) (by assumption)) (by assumption) (by assumption) (by assumption) (by assumption) (by assumption)) ?_
  simp (maxDischargeDepth := 9) only [↓gB, gV, gT, reduceIte, reduceCtorEq, Nat.reduceEqDiff, Nat.reduceAdd, Nat.reduceSub, Nat.reduceLeDiff, Nat.reduceLT, Int.reduceEq, Nat.reduceMul, hmo, h1, he, he2, hnk', List.map_toArray, List.map_cons, List.map_nil, Value.cells]
  refine Yn2 fun r2 h2 => ?_
  have n2 := h2
  simp only [put_none_eq, ne_eq] at n2
  simp (maxDischargeDepth := 9) only [↓gB, gV, gT, reduceIte, reduceCtorEq, Nat.reduceEqDiff, Nat.reduceAdd, Nat.reduceSub, Nat.reduceLeDiff, Nat.reduceLT, Int.reduceEq, Nat.reduceMul, hmo, h1, h2, n2, he, he2, hnk', List.map_toArray, List.map_cons, List.map_nil, Value.cells]
  focus
    refine Xloop_intro _ _ _ _ _ (fun k f G' => ∃ (i : Nat) (o : Value), k = l.length - i ∧ (i ≤ l.length) ∧ (0 ≤ tmTo ar l t i ∧ tmTo ar l t i < 345686400000) ∧ (G' r1 = some (.cells [.slice va ns.length vc, .slice wa ar.length wc, .slice ua bs.length uc].toArray 26 (0, 0), true)) ∧ (Row Rp.int 3 G G' o (timesTo ar l t i)) ∧ (RSl rArc G' (.slice wa ar.length wc) ar) ∧ (RSl Rp.str G' (.slice a l.length c) l) ∧ (G.le G') ∧ f 38 = V i ∧ f 3 = V (tmTo ar l t i) ∧ f 12 = o ∧ f 4 = Go.Value.pointer (Option.some { block := r1, off := 0 }) ∧ f 36 = Go.Value.slice a l.length c ∧ f 37 = Go.Value.int Go.IntKind.i64 ↑l.length) _ ⟨0, .slice (some ⟨r2, 0, none⟩) 1 1, rfl, ?_, ?_, ?_, ?_, ?_, ?_, ?_, by simp (maxDischargeDepth := 9) only [↓gB, gV, gT, reduceIte, reduceCtorEq, Nat.reduceEqDiff, Nat.reduceAdd, Nat.reduceSub, Nat.reduceLeDiff, Nat.reduceLT, Int.reduceEq, Nat.reduceMul, hmo, h1, h2, n2, tmTo_0, times_0, and_self]⟩ ?_
    · omega
    · (exact ⟨ht0, ht1⟩; done)
    · ((rw [put_pk h2 (kn_is _ _ _)]; exact put_self _ _ _); done)
    · ((rw [times_0]; exact Row.cell1 (put_self _ _ _) n2.2 ⟨rfl, by omega, by omega⟩); done)
    · exact RSl.put _ (by assumption) (RSl.put _ (by assumption) (by assumption))
    · exact RSl.put _ (by assumption) (RSl.put _ (by assumption) (by assumption))
    · (simp (maxDischargeDepth := 9) only [le_self, le_puts, le_put0, sub_self, sub_puts, sub_put0, h1, h2, n2]; done)
    rintro k f G' ⟨i, o, rfl, hi, hi0, hr, ho, hw, hv, hle, f38, f3, f12, f4, f36, f37⟩
  have htl := times_len ar l t i
  simp (maxDischargeDepth := 9) only [↓gB, gV, gT, reduceIte, reduceCtorEq, Nat.reduceEqDiff, Nat.reduceAdd, Nat.reduceSub, Nat.reduceLeDiff, Nat.reduceLT, Int.reduceEq, Nat.reduceMul, hmo, h1, h2, n2, hr, f38, f3, f12, f4, f36, f37]
  refine Xc_split _ _ _ _ _ (fun c1 => ?_) (fun c1 => ?_)
  · obtain ⟨s, helx⟩ : ∃ s, l[i]? = some s := ⟨_, List.getElem?_eq_getElem (by omega)⟩
    have hk0 := hks s (List.mem_of_getElem? helx)
    obtain ⟨k, hkk⟩ := Int.eq_ofNat_of_zero_le hk0
    obtain ⟨x, hely, hxs⟩ := keyAt_get hkk
    have hkl : k < ar.length := (List.getElem?_eq_some_iff.1 hely).1
    have hkn : knotsOf ar s = x.Knots := knots_at (by rw [hkk]; exact hely)
    have hxq := q7 x (List.mem_of_getElem? hely)
    have hnx := tmTo_next (ar := ar) (t := t) helx
    have hnt := times_next ar l t i
    rw [hkn] at hnx
    have htb := time_b hxq (tmTo ar l t i)
    have hok1 := hok i (by omega)
    have hww : IntKind.i64.wrap (tmTo ar l t i + timeF x.Knots (tmTo ar l t i)) = tmTo ar l t (i + 1) := by rw [hnx]; exact wrap_id (by omega)
    have hge : ¬ 345686400000 ≤ tmTo ar l t (i + 1) := by omega
    simp (maxDischargeDepth := 9) only [↓gB, gV, gT, reduceIte, reduceCtorEq, Nat.reduceEqDiff, Nat.reduceAdd, Nat.reduceSub, Nat.reduceLeDiff, Nat.reduceLT, Int.reduceEq, Nat.reduceMul, hmo, h1, h2, n2, hr, f38, f3, f12, f4, f36, f37, c1, hww, hkk, hge]
    obtain ⟨x1, a1, s1, m1, rfl, rfl, e1⟩ := hv.at1 (i) (by omega) rfl
    obtain rfl := el_eq helx m1
    simp (maxDischargeDepth := 9) only [↓gB, gV, gT, reduceIte, reduceCtorEq, Nat.reduceEqDiff, Nat.reduceAdd, Nat.reduceSub, Nat.reduceLeDiff, Nat.reduceLT, Int.reduceEq, Nat.reduceMul, hmo, h1, h2, n2, hr, f38, f3, f12, f4, f37, c1, hww, f36, e1, hkk, hge]
    refine vguard_intro (by simp) ?_
    refine Xdraw_intro [0, 1, 2, 3, 6, 4, 5, 7, 8, 9] mixed (by kernel_rfl) (by decide +kernel) ?_
    simp (maxDischargeDepth := 9) only [↓gB, gV, gT, reduceIte, reduceCtorEq, Nat.reduceEqDiff, Nat.reduceAdd, Nat.reduceSub, Nat.reduceLeDiff, Nat.reduceLT, Int.reduceEq, Nat.reduceMul, hmo, h1, h2, n2, hr, f38, f3, f12, f4, f37, c1, hww, f36, e1, hkk, hge]
    refine Ycp (p23 (by assumption) (by assumption) (by omega) (by assumption)) ?_
    simp (maxDischargeDepth := 9) only [↓gB, gV, gT, reduceIte, reduceCtorEq, Nat.reduceEqDiff, Nat.reduceAdd, Nat.reduceSub, Nat.reduceLeDiff, Nat.reduceLT, Int.reduceEq, Nat.reduceMul, hmo, h1, h2, n2, hr, f38, f3, f12, f4, f37, c1, hww, f36, e1, hkk, hge]
    obtain ⟨x2, a2, s2, m2, rfl, ⟨v2, rfl, w2⟩, e2⟩ := hw.at (k) (by omega) 5 rfl
    obtain rfl := el_eq hely m2
    obtain ⟨aw2, cw2, rfl⟩ := RSl.val w2
    simp (maxDischargeDepth := 9) only [↓gB, gV, gT, reduceIte, reduceCtorEq, Nat.reduceEqDiff, Nat.reduceAdd, Nat.reduceSub, Nat.reduceLeDiff, Nat.reduceLT, Int.reduceEq, Nat.reduceMul, hmo, h1, n2, f38, f3, f12, f4, f37, c1, hww, f36, e1, h2, hr, e2, hkk, hge]
    refine vguard_intro (by omega) ?_
    obtain ⟨y, cs, hy1, hy2, hy3, hy4, hy5, hy6⟩ := hw.at' k hkl 5 rfl
    obtain rfl := el_eq hely hy1
    obtain ⟨kv, rfl, hkv⟩ := hy2
    refine Ycp (p22 hkv hxq hi0.1 (by omega) (hy4 4 (by omega))) ?_
    focus
      simp (maxDischargeDepth := 9) only [↓gB, gV, gT, reduceIte, reduceCtorEq, Nat.reduceEqDiff, Nat.reduceAdd, Nat.reduceSub, Nat.reduceLeDiff, Nat.reduceLT, Int.reduceEq, Nat.reduceMul, hmo, h1, n2, f38, f3, f12, f4, f37, c1, hww, f36, e1, h2, hr, e2, hy6, hy3, hy4, hy5, hkk, hge]
      refine Yn2 fun r3 h3 => ?_
      simp (maxDischargeDepth := 9) only [↓gB, gV, gT, reduceIte, reduceCtorEq, Nat.reduceEqDiff, Nat.reduceAdd, Nat.reduceSub, Nat.reduceLeDiff, Nat.reduceLT, Int.reduceEq, Nat.reduceMul, hmo, h1, n2, f38, f3, f12, f4, f37, c1, hww, f36, e1, h2, hr, e2, hy6, hy3, hy4, hy5, h3, hkk, hge]
      refine Row.app1 sl28 (Row.put _ h3 ho) (by exact put_self _ _ _) (y := _) ⟨rfl, (by first | exact (RSl.put _ h3 hv) | exact (RSl.put _ h3 hw) | exact (RSl.put _ h3 w2) | exact (RSl.put _ h3 hkv) | omega | decide | assumption | (unfold i64; omega) | (unfold i64 at *; omega) | (constructor <;> omega))⟩ (by omega) (GH.le.trans hle (le_put h3 _)) fun v1 G1 w1 k1 l1 => ?_
      replace hv := RSl.appd (RSl.put _ h3 hv) (Row.put _ h3 ho) k1
      replace hw := RSl.appd (RSl.put _ h3 hw) (Row.put _ h3 ho) k1
      (have nt := Row.notTy ho hr (by decide); replace hr := k1 _ _ ((GH.le.trans (le_refl _) (le_put h3 _)) _ _ hr) nt; clear nt)
      replace w2 := RSl.appd (RSl.put _ h3 w2) (Row.put _ h3 ho) k1
      replace hkv := RSl.appd (RSl.put _ h3 hkv) (Row.put _ h3 ho) k1
      simp (maxDischargeDepth := 9) only [↓gB, gV, gT, reduceIte, reduceCtorEq, Nat.reduceEqDiff, Nat.reduceAdd, Nat.reduceSub, Nat.reduceLeDiff, Nat.reduceLT, Int.reduceEq, Nat.reduceMul, hmo, h1, n2, f38, f3, f12, f4, f37, c1, hww, f36, e1, h2, e2, hy6, hy3, hy4, hy5, h3, k1, hr, hkk, hge]
      have q8 : Go.IntKind.i64.wrap (↑i + 1) = ↑i + 1 := wrap_id (by omega)
      simp (maxDischargeDepth := 9) only [↓gB, gV, gT, reduceIte, reduceCtorEq, Nat.reduceEqDiff, Nat.reduceAdd, Nat.reduceSub, Nat.reduceLeDiff, Nat.reduceLT, Int.reduceEq, Nat.reduceMul, hmo, h1, n2, f38, f3, f12, f4, f37, c1, hww, f36, e1, h2, e2, hy6, hy3, hy4, hy5, h3, k1, hr, q8, hkk, hge]
      rw [N_lp]
      refine ⟨_, ?_, _, sub_refl _, i + 1, v1, rfl, ?_, ?_, ?_, ?_, ?_, ?_, ?_, by simp (maxDischargeDepth := 9) only [↓gB, gV, gT, reduceIte, reduceCtorEq, Nat.reduceEqDiff, Nat.reduceAdd, Nat.reduceSub, Nat.reduceLeDiff, Nat.reduceLT, Int.reduceEq, Nat.reduceMul, hmo, h1, n2, f38, f3, f12, f4, f37, c1, hww, f36, e1, h2, e2, hy6, hy3, hy4, hy5, h3, k1, hr, q8, hkk, hge, nat_succ, and_self]⟩
      · omega
      · omega
      · omega
      · assumption
      · ((rw [hnt]; exact w1); done)
      · assumption
      · assumption
      · assumption
  · obtain rfl : i = l.length := by omega
    simp (maxDischargeDepth := 9) only [↓gB, gV, gT, reduceIte, reduceCtorEq, Nat.reduceEqDiff, Nat.reduceAdd, Nat.reduceSub, Nat.reduceLeDiff, Nat.reduceLT, Int.reduceEq, Nat.reduceMul, hmo, h1, h2, n2, hr, f12, f4, f36, f37, f38, f3, c1]
    obtain ⟨G2, hs, hl, hr⟩ := ho.fin hle
    exact Kup_gives hs hl ⟨_, hr, rfl⟩
end Go.Proofs.YtjhfhacdjmokaaaGreatDoor
namespace Go.Proofs.YtjhfhacdjmokaaaGreatDoor
open Go Go.GL
attribute [local irreducible] Ycall GCalls
set_option maxRecDepth 10000
set_option maxHeartbeats 0
def walkN (ns : List SNode) (ar : List SArc) (bs : List SBan) (fr : ByteArray) (l : List ByteArray) (t : Int) : Int :=
  if roadsE ns ar bs ≠ 0 then roadsE ns ar bs else if keyAt SNode.Key ns fr < 0 then 8 else if moment t = false then 1 else if walkE ar bs fr l ≠ 0 then walkE ar bs fr l else 12
theorem p4 {G0 : GH} {v w u vl : Value} {ns : List SNode} {ar : List SArc} {bs : List SBan} {fr : ByteArray} {l : List ByteArray} {t : Int} (h0 : RSl rNode G0 v ns) (hw : RSl rArc G0 w ar) (hu : RSl rBan G0 u bs) (hv : RSl Rp.str G0 vl l) (hn : ns.length ≤ 1000000000) (hm : ar.length ≤ 1000000000) (hk : ∀ x ∈ ar, x.Knots.length ≤ 1000000000) (hb : bs.length ≤ 1000000000) (hl : l.length ≤ 1000000000) (hne : ¬ (roadsE ns ar bs = 0 ∧ 0 ≤ keyAt SNode.Key ns fr ∧ moment t = true ∧ walkE ar bs fr l = 0 ∧ walkOk ar l t)) : Pure Tryz.prog G0 4 [.agg #[v, w, u], .string fr, vl, V t] (.tuple #[.slice none 0 0, V (walkN ns ar bs fr l t)]) := by
  intro G hG; replace h0 := h0.le hG; replace hw := hw.le hG; replace hu := hu.le hG; replace hv := hv.le hG
  clear hG G0
  refine enter Tryz.func4 59 #[.tmp 8, .tmp 9] rfl Tryz.ntmps4 rfl (by decide +kernel) rfl ?_
  obtain ⟨a, c, rfl⟩ := hv.val
  obtain ⟨va, vc, rfl⟩ := h0.val
  obtain ⟨wa, wc, rfl⟩ := hw.val
  obtain ⟨ua, uc, rfl⟩ := hu.val
  by_cases he : roadsE ns ar bs = 0
  rotate_left
  · have e : walkN ns ar bs fr l t = roadsE ns ar bs := if_pos he
    rw [e]
    simp (maxDischargeDepth := 9) only [↓gB, gV, gT, reduceIte, reduceCtorEq, Nat.reduceEqDiff, Nat.reduceAdd, Nat.reduceSub, Nat.reduceLeDiff, Nat.reduceLT, Int.reduceEq, Nat.reduceMul, he, List.map_toArray, List.map_cons, List.map_nil, Value.cells]
    refine Yn2 fun r1 h1 => ?_
    simp (maxDischargeDepth := 9) only [↓gB, gV, gT, reduceIte, reduceCtorEq, Nat.reduceEqDiff, Nat.reduceAdd, Nat.reduceSub, Nat.reduceLeDiff, Nat.reduceLT, Int.reduceEq, Nat.reduceMul, h1, he, List.map_toArray, List.map_cons, List.map_nil, Value.cells]
    refine Ycp (p18 (by exact RSl.put _ (by assumption) (by assumption)) (by exact RSl.put _ (by assumption) (by assumption)) (by exact RSl.put _ (by assumption) (by assumption)) (by assumption) (by assumption) (by assumption) (by assumption)) ?_
    simp (maxDischargeDepth := 9) only [↓gB, gV, gT, reduceIte, reduceCtorEq, Nat.reduceEqDiff, Nat.reduceAdd, Nat.reduceSub, Nat.reduceLeDiff, Nat.reduceLT, Int.reduceEq, Nat.reduceMul, h1, he, List.map_toArray, List.map_cons, List.map_nil, Value.cells]
    exact Kup_val (by simp (maxDischargeDepth := 9) only [le_self, le_puts, le_put0, h1]) rfl
  obtain ⟨q1, q2, q3, q4, q5, q6, q7⟩ := roads_ok he
  by_cases hnk : keyAt SNode.Key ns fr < 0
  · have e : walkN ns ar bs fr l t = 8 := by unfold walkN; rw [if_neg (by simpa using he), if_pos hnk]
    rw [e]
    simp (maxDischargeDepth := 9) only [↓gB, gV, gT, reduceIte, reduceCtorEq, Nat.reduceEqDiff, Nat.reduceAdd, Nat.reduceSub, Nat.reduceLeDiff, Nat.reduceLT, Int.reduceEq, Nat.reduceMul, he, hnk, List.map_toArray, List.map_cons, List.map_nil, Value.cells]
    refine Yn2 fun r1 h1 => ?_
    simp (maxDischargeDepth := 9) only [↓gB, gV, gT, reduceIte, reduceCtorEq, Nat.reduceEqDiff, Nat.reduceAdd, Nat.reduceSub, Nat.reduceLeDiff, Nat.reduceLT, Int.reduceEq, Nat.reduceMul, h1, he, hnk, List.map_toArray, List.map_cons, List.map_nil, Value.cells]
    refine Ycp (p18 (by exact RSl.put _ (by assumption) (by assumption)) (by exact RSl.put _ (by assumption) (by assumption)) (by exact RSl.put _ (by assumption) (by assumption)) (by assumption) (by assumption) (by assumption) (by assumption)) ?_
    simp (maxDischargeDepth := 9) only [↓gB, gV, gT, reduceIte, reduceCtorEq, Nat.reduceEqDiff, Nat.reduceAdd, Nat.reduceSub, Nat.reduceLeDiff, Nat.reduceLT, Int.reduceEq, Nat.reduceMul, h1, he, hnk, List.map_toArray, List.map_cons, List.map_nil, Value.cells]
    refine Ycp (p19 (by exact put_self _ _ _) (by exact RSl.put _ (by assumption) (by assumption)) (by omega) (by assumption)) ?_
    simp (maxDischargeDepth := 9) only [↓gB, gV, gT, reduceIte, reduceCtorEq, Nat.reduceEqDiff, Nat.reduceAdd, Nat.reduceSub, Nat.reduceLeDiff, Nat.reduceLT, Int.reduceEq, Nat.reduceMul, h1, he, hnk, List.map_toArray, List.map_cons, List.map_nil, Value.cells]
    exact Kup_val (by simp (maxDischargeDepth := 9) only [le_self, le_puts, le_put0, h1]) rfl
  by_cases hmo : moment t = true
  rotate_left
  · have hmo' : moment t = false := by simpa using hmo
    have e : walkN ns ar bs fr l t = 1 := by unfold walkN; rw [if_neg (by simpa using he), if_neg hnk, if_pos hmo']
    rw [e]
    simp (maxDischargeDepth := 9) only [↓gB, gV, gT, reduceIte, reduceCtorEq, Nat.reduceEqDiff, Nat.reduceAdd, Nat.reduceSub, Nat.reduceLeDiff, Nat.reduceLT, Int.reduceEq, Nat.reduceMul, hmo', he, hnk, List.map_toArray, List.map_cons, List.map_nil, Value.cells]
    refine Yn2 fun r1 h1 => ?_
    simp (maxDischargeDepth := 9) only [↓gB, gV, gT, reduceIte, reduceCtorEq, Nat.reduceEqDiff, Nat.reduceAdd, Nat.reduceSub, Nat.reduceLeDiff, Nat.reduceLT, Int.reduceEq, Nat.reduceMul, hmo', h1, he, hnk, List.map_toArray, List.map_cons, List.map_nil, Value.cells]
    refine Ycp (p18 (by exact RSl.put _ (by assumption) (by assumption)) (by exact RSl.put _ (by assumption) (by assumption)) (by exact RSl.put _ (by assumption) (by assumption)) (by assumption) (by assumption) (by assumption) (by assumption)) ?_
    simp (maxDischargeDepth := 9) only [↓gB, gV, gT, reduceIte, reduceCtorEq, Nat.reduceEqDiff, Nat.reduceAdd, Nat.reduceSub, Nat.reduceLeDiff, Nat.reduceLT, Int.reduceEq, Nat.reduceMul, hmo', h1, he, hnk, List.map_toArray, List.map_cons, List.map_nil, Value.cells]
    refine Ycp (p19 (by exact put_self _ _ _) (by exact RSl.put _ (by assumption) (by assumption)) (by omega) (by assumption)) ?_
    simp (maxDischargeDepth := 9) only [↓gB, gV, gT, reduceIte, reduceCtorEq, Nat.reduceEqDiff, Nat.reduceAdd, Nat.reduceSub, Nat.reduceLeDiff, Nat.reduceLT, Int.reduceEq, Nat.reduceMul, hmo', h1, he, hnk, List.map_toArray, List.map_cons, List.map_nil, Value.cells]
    refine Ycp (p20) ?_
    simp (maxDischargeDepth := 9) only [↓gB, gV, gT, reduceIte, reduceCtorEq, Nat.reduceEqDiff, Nat.reduceAdd, Nat.reduceSub, Nat.reduceLeDiff, Nat.reduceLT, Int.reduceEq, Nat.reduceMul, hmo', h1, he, hnk, List.map_toArray, List.map_cons, List.map_nil, Value.cells]
    exact Kup_val (by simp (maxDischargeDepth := 9) only [le_self, le_puts, le_put0, h1]) rfl
  have hmof : ¬ moment t = false := by rw [hmo]; decide
  by_cases he2 : walkE ar bs fr l = 0
  rotate_left
  · have e : walkN ns ar bs fr l t = walkE ar bs fr l := by unfold walkN; rw [if_neg (by simpa using he), if_neg hnk, if_neg hmof, if_pos he2]
    rw [e]
    simp (maxDischargeDepth := 9) only [↓gB, gV, gT, reduceIte, reduceCtorEq, Nat.reduceEqDiff, Nat.reduceAdd, Nat.reduceSub, Nat.reduceLeDiff, Nat.reduceLT, Int.reduceEq, Nat.reduceMul, hmo, he, hnk, he2, List.map_toArray, List.map_cons, List.map_nil, Value.cells]
    refine Yn2 fun r1 h1 => ?_
    simp (maxDischargeDepth := 9) only [↓gB, gV, gT, reduceIte, reduceCtorEq, Nat.reduceEqDiff, Nat.reduceAdd, Nat.reduceSub, Nat.reduceLeDiff, Nat.reduceLT, Int.reduceEq, Nat.reduceMul, hmo, h1, he, hnk, he2, List.map_toArray, List.map_cons, List.map_nil, Value.cells]
    refine Ycp (p18 (by exact RSl.put _ (by assumption) (by assumption)) (by exact RSl.put _ (by assumption) (by assumption)) (by exact RSl.put _ (by assumption) (by assumption)) (by assumption) (by assumption) (by assumption) (by assumption)) ?_
    simp (maxDischargeDepth := 9) only [↓gB, gV, gT, reduceIte, reduceCtorEq, Nat.reduceEqDiff, Nat.reduceAdd, Nat.reduceSub, Nat.reduceLeDiff, Nat.reduceLT, Int.reduceEq, Nat.reduceMul, hmo, h1, he, hnk, he2, List.map_toArray, List.map_cons, List.map_nil, Value.cells]
    refine Ycp (p19 (by exact put_self _ _ _) (by exact RSl.put _ (by assumption) (by assumption)) (by omega) (by assumption)) ?_
    simp (maxDischargeDepth := 9) only [↓gB, gV, gT, reduceIte, reduceCtorEq, Nat.reduceEqDiff, Nat.reduceAdd, Nat.reduceSub, Nat.reduceLeDiff, Nat.reduceLT, Int.reduceEq, Nat.reduceMul, hmo, h1, he, hnk, he2, List.map_toArray, List.map_cons, List.map_nil, Value.cells]
    refine Ycp (p20) ?_
    simp (maxDischargeDepth := 9) only [↓gB, gV, gT, reduceIte, reduceCtorEq, Nat.reduceEqDiff, Nat.reduceAdd, Nat.reduceSub, Nat.reduceLeDiff, Nat.reduceLT, Int.reduceEq, Nat.reduceMul, hmo, h1, he, hnk, he2, List.map_toArray, List.map_cons, List.map_nil, Value.cells]
    refine Ycp (p21 (by exact put_self _ _ _) (by exact RSl.put _ (by assumption) (by assumption)) (by exact RSl.put _ (by assumption) (by assumption)) (by exact RSl.put _ (by assumption) (by assumption)) (by assumption) (by assumption) (by assumption) (by assumption) (by assumption)) ?_
    simp (maxDischargeDepth := 9) only [↓gB, gV, gT, reduceIte, reduceCtorEq, Nat.reduceEqDiff, Nat.reduceAdd, Nat.reduceSub, Nat.reduceLeDiff, Nat.reduceLT, Int.reduceEq, Nat.reduceMul, hmo, h1, he, hnk, he2, List.map_toArray, List.map_cons, List.map_nil, Value.cells]
    exact Kup_val (by simp (maxDischargeDepth := 9) only [le_self, le_puts, le_put0, h1]) rfl
  have e : walkN ns ar bs fr l t = 12 := by unfold walkN; rw [if_neg (by simpa using he), if_neg hnk, if_neg hmof, if_neg (by simpa using he2)]
  rw [e]
  have hok : ¬ walkOk ar l t := fun q => hne ⟨he, by omega, hmo, he2, q⟩
  obtain ⟨hl2, hks⟩ := walk_keys he2
  have hmb := within_iff.1 (show within t 0 345686399999 = true from hmo)
  have ht0 : 0 ≤ t := hmb.1
  have ht1 : t < 345686400000 := by omega
  simp (maxDischargeDepth := 9) only [↓gB, gV, gT, reduceIte, reduceCtorEq, Nat.reduceEqDiff, Nat.reduceAdd, Nat.reduceSub, Nat.reduceLeDiff, Nat.reduceLT, Int.reduceEq, Nat.reduceMul, hmo, he, he2, hnk, List.map_toArray, List.map_cons, List.map_nil, Value.cells]
  refine Yn2 fun r1 h1 => ?_
  simp (maxDischargeDepth := 9) only [↓gB, gV, gT, reduceIte, reduceCtorEq, Nat.reduceEqDiff, Nat.reduceAdd, Nat.reduceSub, Nat.reduceLeDiff, Nat.reduceLT, Int.reduceEq, Nat.reduceMul, hmo, h1, he, he2, hnk, List.map_toArray, List.map_cons, List.map_nil, Value.cells]
  refine Ycp (p18 (by exact RSl.put _ (by assumption) (by assumption)) (by exact RSl.put _ (by assumption) (by assumption)) (by exact RSl.put _ (by assumption) (by assumption)) (by assumption) (by assumption) (by assumption) (by assumption)) ?_
  simp (maxDischargeDepth := 9) only [↓gB, gV, gT, reduceIte, reduceCtorEq, Nat.reduceEqDiff, Nat.reduceAdd, Nat.reduceSub, Nat.reduceLeDiff, Nat.reduceLT, Int.reduceEq, Nat.reduceMul, hmo, h1, he, he2, hnk, List.map_toArray, List.map_cons, List.map_nil, Value.cells]
  refine Ycp (p19 (by exact put_self _ _ _) (by exact RSl.put _ (by assumption) (by assumption)) (by omega) (by assumption)) ?_
  simp (maxDischargeDepth := 9) only [↓gB, gV, gT, reduceIte, reduceCtorEq, Nat.reduceEqDiff, Nat.reduceAdd, Nat.reduceSub, Nat.reduceLeDiff, Nat.reduceLT, Int.reduceEq, Nat.reduceMul, hmo, h1, he, he2, hnk, List.map_toArray, List.map_cons, List.map_nil, Value.cells]
  refine Ycp (p20) ?_
  simp (maxDischargeDepth := 9) only [↓gB, gV, gT, reduceIte, reduceCtorEq, Nat.reduceEqDiff, Nat.reduceAdd, Nat.reduceSub, Nat.reduceLeDiff, Nat.reduceLT, Int.reduceEq, Nat.reduceMul, hmo, h1, he, he2, hnk, List.map_toArray, List.map_cons, List.map_nil, Value.cells]
  refine Ycp (p21 (by exact put_self _ _ _) (by exact RSl.put _ (by assumption) (by assumption)) (by exact RSl.put _ (by assumption) (by assumption)) (by exact RSl.put _ (by assumption) (by assumption)) (by assumption) (by assumption) (by assumption) (by assumption) (by assumption)) ?_
  simp (maxDischargeDepth := 9) only [↓gB, gV, gT, reduceIte, reduceCtorEq, Nat.reduceEqDiff, Nat.reduceAdd, Nat.reduceSub, Nat.reduceLeDiff, Nat.reduceLT, Int.reduceEq, Nat.reduceMul, hmo, h1, he, he2, hnk, List.map_toArray, List.map_cons, List.map_nil, Value.cells]
  refine Yn2 fun r2 h2 => ?_
  have n2 := h2
  simp only [put_none_eq, ne_eq] at n2
  simp (maxDischargeDepth := 9) only [↓gB, gV, gT, reduceIte, reduceCtorEq, Nat.reduceEqDiff, Nat.reduceAdd, Nat.reduceSub, Nat.reduceLeDiff, Nat.reduceLT, Int.reduceEq, Nat.reduceMul, hmo, h1, h2, n2, he, he2, hnk, List.map_toArray, List.map_cons, List.map_nil, Value.cells]
  focus
    refine Xloop_intro _ _ _ _ _ (fun k f G' => ∃ (i : Nat) (o : Value), k = l.length - i ∧ (i ≤ l.length) ∧ (0 ≤ tmTo ar l t i ∧ tmTo ar l t i < 345686400000) ∧ (∀ j, j < i → tmTo ar l t (j + 1) < 345686400000) ∧ (G' r1 = some (.cells [.slice va ns.length vc, .slice wa ar.length wc, .slice ua bs.length uc].toArray 26 (0, 0), true)) ∧ (Row Rp.int 3 G G' o (timesTo ar l t i)) ∧ (RSl rArc G' (.slice wa ar.length wc) ar) ∧ (RSl Rp.str G' (.slice a l.length c) l) ∧ (G.le G') ∧ f 38 = V i ∧ f 3 = V (tmTo ar l t i) ∧ f 12 = o ∧ f 4 = Go.Value.pointer (Option.some { block := r1, off := 0 }) ∧ f 36 = Go.Value.slice a l.length c ∧ f 37 = Go.Value.int Go.IntKind.i64 ↑l.length) _ ⟨0, .slice (some ⟨r2, 0, none⟩) 1 1, rfl, ?_, ?_, ?_, ?_, ?_, ?_, ?_, ?_, by simp (maxDischargeDepth := 9) only [↓gB, gV, gT, reduceIte, reduceCtorEq, Nat.reduceEqDiff, Nat.reduceAdd, Nat.reduceSub, Nat.reduceLeDiff, Nat.reduceLT, Int.reduceEq, Nat.reduceMul, hmo, h1, h2, n2, tmTo_0, times_0, and_self]⟩ ?_
    · omega
    · (exact ⟨ht0, ht1⟩; done)
    · omega
    · ((rw [put_pk h2 (kn_is _ _ _)]; exact put_self _ _ _); done)
    · ((rw [times_0]; exact Row.cell1 (put_self _ _ _) n2.2 ⟨rfl, by omega, by omega⟩); done)
    · exact RSl.put _ (by assumption) (RSl.put _ (by assumption) (by assumption))
    · exact RSl.put _ (by assumption) (RSl.put _ (by assumption) (by assumption))
    · (simp (maxDischargeDepth := 9) only [le_self, le_puts, le_put0, sub_self, sub_puts, sub_put0, h1, h2, n2]; done)
    rintro k f G' ⟨i, o, rfl, hi, hi0, hall, hr, ho, hw, hv, hle, f38, f3, f12, f4, f36, f37⟩
  have htl := times_len ar l t i
  simp (maxDischargeDepth := 9) only [↓gB, gV, gT, reduceIte, reduceCtorEq, Nat.reduceEqDiff, Nat.reduceAdd, Nat.reduceSub, Nat.reduceLeDiff, Nat.reduceLT, Int.reduceEq, Nat.reduceMul, hmo, h1, h2, n2, hr, f38, f3, f12, f4, f36, f37]
  refine Xc_split _ _ _ _ _ (fun c1 => ?_) (fun c1 => ?_)
  · obtain ⟨s, helx⟩ : ∃ s, l[i]? = some s := ⟨_, List.getElem?_eq_getElem (by omega)⟩
    have hk0 := hks s (List.mem_of_getElem? helx)
    obtain ⟨k, hkk⟩ := Int.eq_ofNat_of_zero_le hk0
    obtain ⟨x, hely, hxs⟩ := keyAt_get hkk
    have hkl : k < ar.length := (List.getElem?_eq_some_iff.1 hely).1
    have hkn : knotsOf ar s = x.Knots := knots_at (by rw [hkk]; exact hely)
    have hxq := q7 x (List.mem_of_getElem? hely)
    have hnx := tmTo_next (ar := ar) (t := t) helx
    have hnt := times_next ar l t i
    rw [hkn] at hnx
    have htb := time_b hxq (tmTo ar l t i)
    have hww : IntKind.i64.wrap (tmTo ar l t i + timeF x.Knots (tmTo ar l t i)) = tmTo ar l t (i + 1) := by rw [hnx]; exact wrap_id (by omega)
    by_cases hge : 345686400000 ≤ tmTo ar l t (i + 1)
    · simp (maxDischargeDepth := 9) only [↓gB, gV, gT, reduceIte, reduceCtorEq, Nat.reduceEqDiff, Nat.reduceAdd, Nat.reduceSub, Nat.reduceLeDiff, Nat.reduceLT, Int.reduceEq, Nat.reduceMul, hmo, h1, h2, n2, hr, f38, f3, f12, f4, f36, f37, c1, hww, hkk, hge]
      obtain ⟨x1, a1, s1, m1, rfl, rfl, e1⟩ := hv.at1 (i) (by omega) rfl
      obtain rfl := el_eq helx m1
      simp (maxDischargeDepth := 9) only [↓gB, gV, gT, reduceIte, reduceCtorEq, Nat.reduceEqDiff, Nat.reduceAdd, Nat.reduceSub, Nat.reduceLeDiff, Nat.reduceLT, Int.reduceEq, Nat.reduceMul, hmo, h1, h2, n2, hr, f38, f3, f12, f4, f37, c1, hww, f36, e1, hkk, hge]
      refine vguard_intro (by simp) ?_
      refine Xdraw_intro [0, 1, 2, 3, 6, 4, 5, 7, 8, 9] mixed (by kernel_rfl) (by decide +kernel) ?_
      simp (maxDischargeDepth := 9) only [↓gB, gV, gT, reduceIte, reduceCtorEq, Nat.reduceEqDiff, Nat.reduceAdd, Nat.reduceSub, Nat.reduceLeDiff, Nat.reduceLT, Int.reduceEq, Nat.reduceMul, hmo, h1, h2, n2, hr, f38, f3, f12, f4, f37, c1, hww, f36, e1, hkk, hge]
      refine Ycp (p23 (by assumption) (by assumption) (by omega) (by assumption)) ?_
      simp (maxDischargeDepth := 9) only [↓gB, gV, gT, reduceIte, reduceCtorEq, Nat.reduceEqDiff, Nat.reduceAdd, Nat.reduceSub, Nat.reduceLeDiff, Nat.reduceLT, Int.reduceEq, Nat.reduceMul, hmo, h1, h2, n2, hr, f38, f3, f12, f4, f37, c1, hww, f36, e1, hkk, hge]
      obtain ⟨x2, a2, s2, m2, rfl, ⟨v2, rfl, w2⟩, e2⟩ := hw.at (k) (by omega) 5 rfl
      obtain rfl := el_eq hely m2
      obtain ⟨aw2, cw2, rfl⟩ := RSl.val w2
      simp (maxDischargeDepth := 9) only [↓gB, gV, gT, reduceIte, reduceCtorEq, Nat.reduceEqDiff, Nat.reduceAdd, Nat.reduceSub, Nat.reduceLeDiff, Nat.reduceLT, Int.reduceEq, Nat.reduceMul, hmo, h1, n2, f38, f3, f12, f4, f37, c1, hww, f36, e1, h2, hr, e2, hkk, hge]
      refine vguard_intro (by omega) ?_
      obtain ⟨y, cs, hy1, hy2, hy3, hy4, hy5, hy6⟩ := hw.at' k hkl 5 rfl
      obtain rfl := el_eq hely hy1
      obtain ⟨kv, rfl, hkv⟩ := hy2
      refine Ycp (p22 hkv hxq hi0.1 (by omega) (hy4 4 (by omega))) ?_
      simp (maxDischargeDepth := 9) only [↓gB, gV, gT, reduceIte, reduceCtorEq, Nat.reduceEqDiff, Nat.reduceAdd, Nat.reduceSub, Nat.reduceLeDiff, Nat.reduceLT, Int.reduceEq, Nat.reduceMul, hmo, h1, n2, f38, f3, f12, f4, f37, c1, hww, f36, e1, h2, hr, e2, hy6, hy3, hy4, hy5, hkk, hge]
      exact Kup_val (by simp (maxDischargeDepth := 9) only [le_self, le_puts, le_put0, h1, n2, hle, h2]) rfl
    · simp (maxDischargeDepth := 9) only [↓gB, gV, gT, reduceIte, reduceCtorEq, Nat.reduceEqDiff, Nat.reduceAdd, Nat.reduceSub, Nat.reduceLeDiff, Nat.reduceLT, Int.reduceEq, Nat.reduceMul, hmo, h1, h2, n2, hr, f38, f3, f12, f4, f36, f37, c1, hww, hkk, hge]
      obtain ⟨x1, a1, s1, m1, rfl, rfl, e1⟩ := hv.at1 (i) (by omega) rfl
      obtain rfl := el_eq helx m1
      simp (maxDischargeDepth := 9) only [↓gB, gV, gT, reduceIte, reduceCtorEq, Nat.reduceEqDiff, Nat.reduceAdd, Nat.reduceSub, Nat.reduceLeDiff, Nat.reduceLT, Int.reduceEq, Nat.reduceMul, hmo, h1, h2, n2, hr, f38, f3, f12, f4, f37, c1, hww, f36, e1, hkk, hge]
      refine vguard_intro (by simp) ?_
      refine Xdraw_intro [0, 1, 2, 3, 6, 4, 5, 7, 8, 9] mixed (by kernel_rfl) (by decide +kernel) ?_
      simp (maxDischargeDepth := 9) only [↓gB, gV, gT, reduceIte, reduceCtorEq, Nat.reduceEqDiff, Nat.reduceAdd, Nat.reduceSub, Nat.reduceLeDiff, Nat.reduceLT, Int.reduceEq, Nat.reduceMul, hmo, h1, h2, n2, hr, f38, f3, f12, f4, f37, c1, hww, f36, e1, hkk, hge]
      refine Ycp (p23 (by assumption) (by assumption) (by omega) (by assumption)) ?_
      simp (maxDischargeDepth := 9) only [↓gB, gV, gT, reduceIte, reduceCtorEq, Nat.reduceEqDiff, Nat.reduceAdd, Nat.reduceSub, Nat.reduceLeDiff, Nat.reduceLT, Int.reduceEq, Nat.reduceMul, hmo, h1, h2, n2, hr, f38, f3, f12, f4, f37, c1, hww, f36, e1, hkk, hge]
      obtain ⟨x2, a2, s2, m2, rfl, ⟨v2, rfl, w2⟩, e2⟩ := hw.at (k) (by omega) 5 rfl
      obtain rfl := el_eq hely m2
      obtain ⟨aw2, cw2, rfl⟩ := RSl.val w2
      simp (maxDischargeDepth := 9) only [↓gB, gV, gT, reduceIte, reduceCtorEq, Nat.reduceEqDiff, Nat.reduceAdd, Nat.reduceSub, Nat.reduceLeDiff, Nat.reduceLT, Int.reduceEq, Nat.reduceMul, hmo, h1, n2, f38, f3, f12, f4, f37, c1, hww, f36, e1, h2, hr, e2, hkk, hge]
      refine vguard_intro (by omega) ?_
      obtain ⟨y, cs, hy1, hy2, hy3, hy4, hy5, hy6⟩ := hw.at' k hkl 5 rfl
      obtain rfl := el_eq hely hy1
      obtain ⟨kv, rfl, hkv⟩ := hy2
      refine Ycp (p22 hkv hxq hi0.1 (by omega) (hy4 4 (by omega))) ?_
      focus
        simp (maxDischargeDepth := 9) only [↓gB, gV, gT, reduceIte, reduceCtorEq, Nat.reduceEqDiff, Nat.reduceAdd, Nat.reduceSub, Nat.reduceLeDiff, Nat.reduceLT, Int.reduceEq, Nat.reduceMul, hmo, h1, n2, f38, f3, f12, f4, f37, c1, hww, f36, e1, h2, hr, e2, hy6, hy3, hy4, hy5, hkk, hge]
        refine Yn2 fun r3 h3 => ?_
        simp (maxDischargeDepth := 9) only [↓gB, gV, gT, reduceIte, reduceCtorEq, Nat.reduceEqDiff, Nat.reduceAdd, Nat.reduceSub, Nat.reduceLeDiff, Nat.reduceLT, Int.reduceEq, Nat.reduceMul, hmo, h1, n2, f38, f3, f12, f4, f37, c1, hww, f36, e1, h2, hr, e2, hy6, hy3, hy4, hy5, h3, hkk, hge]
        refine Row.app1 sl28 (Row.put _ h3 ho) (by exact put_self _ _ _) (y := _) ⟨rfl, (by first | exact (RSl.put _ h3 hv) | exact (RSl.put _ h3 hw) | exact (RSl.put _ h3 w2) | exact (RSl.put _ h3 hkv) | omega | decide | assumption | (unfold i64; omega) | (unfold i64 at *; omega) | (constructor <;> omega))⟩ (by omega) (GH.le.trans hle (le_put h3 _)) fun v1 G1 w1 k1 l1 => ?_
        replace hv := RSl.appd (RSl.put _ h3 hv) (Row.put _ h3 ho) k1
        replace hw := RSl.appd (RSl.put _ h3 hw) (Row.put _ h3 ho) k1
        (have nt := Row.notTy ho hr (by decide); replace hr := k1 _ _ ((GH.le.trans (le_refl _) (le_put h3 _)) _ _ hr) nt; clear nt)
        replace w2 := RSl.appd (RSl.put _ h3 w2) (Row.put _ h3 ho) k1
        replace hkv := RSl.appd (RSl.put _ h3 hkv) (Row.put _ h3 ho) k1
        simp (maxDischargeDepth := 9) only [↓gB, gV, gT, reduceIte, reduceCtorEq, Nat.reduceEqDiff, Nat.reduceAdd, Nat.reduceSub, Nat.reduceLeDiff, Nat.reduceLT, Int.reduceEq, Nat.reduceMul, hmo, h1, n2, f38, f3, f12, f4, f37, c1, hww, f36, e1, h2, e2, hy6, hy3, hy4, hy5, h3, k1, hr, hkk, hge]
        have q8 : Go.IntKind.i64.wrap (↑i + 1) = ↑i + 1 := wrap_id (by omega)
        simp (maxDischargeDepth := 9) only [↓gB, gV, gT, reduceIte, reduceCtorEq, Nat.reduceEqDiff, Nat.reduceAdd, Nat.reduceSub, Nat.reduceLeDiff, Nat.reduceLT, Int.reduceEq, Nat.reduceMul, hmo, h1, n2, f38, f3, f12, f4, f37, c1, hww, f36, e1, h2, e2, hy6, hy3, hy4, hy5, h3, k1, hr, q8, hkk, hge]
        rw [N_lp]
        refine ⟨_, ?_, _, sub_refl _, i + 1, v1, rfl, ?_, ?_, ?_, ?_, ?_, ?_, ?_, ?_, by simp (maxDischargeDepth := 9) only [↓gB, gV, gT, reduceIte, reduceCtorEq, Nat.reduceEqDiff, Nat.reduceAdd, Nat.reduceSub, Nat.reduceLeDiff, Nat.reduceLT, Int.reduceEq, Nat.reduceMul, hmo, h1, n2, f38, f3, f12, f4, f37, c1, hww, f36, e1, h2, e2, hy6, hy3, hy4, hy5, h3, k1, hr, q8, hkk, hge, nat_succ, and_self]⟩
        · omega
        · omega
        · omega
        · ((intro j hj; by_cases e : j = i; (subst e; omega); exact hall j (by omega)); done)
        · assumption
        · ((rw [hnt]; exact w1); done)
        · assumption
        · assumption
        · assumption
  · obtain rfl : i = l.length := by omega
    exact absurd hall hok
end Go.Proofs.YtjhfhacdjmokaaaGreatDoor
namespace Go.Proofs.YtjhfhacdjmokaaaGreatDoor
open Go Go.GL
attribute [local irreducible] Ycall GCalls
set_option maxRecDepth 10000
set_option maxHeartbeats 0
theorem time_ok {x : SArc} {t : Int} (he : timeE x t = 0) : knotsE x.Knots = 0 ∧ 0 ≤ t ∧ t ≤ 345686399999 := by
  unfold timeE at he
  rw [orOf2] at he
  split at he
  · rename_i h
    refine ⟨one_ok h, within_iff.1 ?_⟩
    unfold bi at he
    split at he
    · rename_i q; exact q
    · cases he
  · rename_i h; exact absurd he h
theorem two_cells {G : GH} (a b : ByteArray) : Cellsof rNode G [nodeOf a, nodeOf b] [.string a, V 0, V 0, .string b, V 0, V 0] := ⟨[[.string a, V 0, V 0], [.string b, V 0, V 0]], by simp, rfl, by
  intro i y c h1 h2
  match i with
  | 0 => simp at h1 h2; subst h1 h2; rfl
  | 1 => simp at h1 h2; subst h1 h2; rfl
  | i + 2 => simp at h2⟩
end Go.Proofs.YtjhfhacdjmokaaaGreatDoor
namespace Go.Proofs.YtjhfhacdjmokaaaGreatDoor
open Go Go.GL
attribute [local irreducible] Ycall GCalls
set_option maxRecDepth 10000
set_option maxHeartbeats 0
theorem p17 {G0 : GH} {v w : Value} {l m : List Int} (hv : RSl Rp.int G0 v l) (hw : RSl Rp.int G0 w m) (hn : (l.length : Int) ≤ 9223372036854775807) : Pure Tryz.prog G0 17 [v, w] (.bool (decide (l = m))) := by
  intro G hG; replace hv := hv.le hG; replace hw := hw.le hG
  clear hG G0
  refine enter Tryz.func17 26 #[.tmp 4] rfl Tryz.ntmps17 rfl (by decide +kernel) rfl ?_
  obtain ⟨a, c, rfl⟩ := hv.val
  obtain ⟨b, d, rfl⟩ := hw.val
  simp (maxDischargeDepth := 9) only [↓gB, gV, gT, reduceIte, reduceCtorEq, Nat.reduceEqDiff, Nat.reduceAdd, Nat.reduceSub, Nat.reduceLeDiff, Nat.reduceLT, Int.reduceEq, Nat.reduceMul]
  refine Xc_split _ _ _ _ _ (fun hlen => ?_) (fun hlen => ?_)
  · simp (maxDischargeDepth := 9) only [↓gB, gV, gT, reduceIte, reduceCtorEq, Nat.reduceEqDiff, Nat.reduceAdd, Nat.reduceSub, Nat.reduceLeDiff, Nat.reduceLT, Int.reduceEq, Nat.reduceMul]
    refine Kup_val (le_refl _) ?_
    have hne : l ≠ m := by (rintro rfl; exact hlen rfl)
    simp [hne]
  · simp (maxDischargeDepth := 9) only [↓gB, gV, gT, reduceIte, reduceCtorEq, Nat.reduceEqDiff, Nat.reduceAdd, Nat.reduceSub, Nat.reduceLeDiff, Nat.reduceLT, Int.reduceEq, Nat.reduceMul]
    focus
      refine Xloop_intro _ _ _ _ _ (fun k f G' => ∃ (i : Nat), k = l.length - i ∧ (i ≤ l.length) ∧ (l.take i = m.take i) ∧ (G = G') ∧ f 13 = V i ∧ f 0 = Go.Value.slice a l.length c ∧ f 1 = Go.Value.slice b m.length d ∧ f 12 = Go.Value.int Go.IntKind.i64 ↑l.length) _ ⟨0, rfl, ?_, ?_, rfl, by simp (maxDischargeDepth := 9) only [↓gB, gV, gT, reduceIte, reduceCtorEq, Nat.reduceEqDiff, Nat.reduceAdd, Nat.reduceSub, Nat.reduceLeDiff, Nat.reduceLT, Int.reduceEq, Nat.reduceMul, and_self]⟩ ?_
      · omega
      · rfl
      rintro k f G' ⟨i, rfl, hi, h, rfl, f13, f0, f1, f12⟩
    focus
      simp (maxDischargeDepth := 9) only [↓gB, gV, gT, reduceIte, reduceCtorEq, Nat.reduceEqDiff, Nat.reduceAdd, Nat.reduceSub, Nat.reduceLeDiff, Nat.reduceLT, Int.reduceEq, Nat.reduceMul, f13, f0, f1, f12]
      refine Xc_split _ _ _ _ _ (fun c1 => ?_) (fun c1 => ?_)
      rotate_left 1
      focus
        simp (maxDischargeDepth := 9) only [↓gB, gV, gT, reduceIte, reduceCtorEq, Nat.reduceEqDiff, Nat.reduceAdd, Nat.reduceSub, Nat.reduceLeDiff, Nat.reduceLT, Int.reduceEq, Nat.reduceMul, f13, f0, f1, f12, c1]
        refine Kup_val (le_refl _) ?_
        focus ((have e : l = m := by (rw [← List.take_of_length_le (l := l) (i := i) (by omega), h, List.take_of_length_le (by omega)])); simp [e]; done)
      rotate_right 1
      simp (maxDischargeDepth := 9) only [↓gB, gV, gT, reduceIte, reduceCtorEq, Nat.reduceEqDiff, Nat.reduceAdd, Nat.reduceSub, Nat.reduceLeDiff, Nat.reduceLT, Int.reduceEq, Nat.reduceMul, f13, f0, f1, f12, c1]
      refine Xdraw_intro [0, 1, 2, 3, 4, 5, 6, 7, 8] mixed (by kernel_rfl) (by decide +kernel) ?_
      simp (maxDischargeDepth := 9) only [↓gB, gV, gT, reduceIte, reduceCtorEq, Nat.reduceEqDiff, Nat.reduceAdd, Nat.reduceSub, Nat.reduceLeDiff, Nat.reduceLT, Int.reduceEq, Nat.reduceMul, f13, f0, f1, f12, c1]
      obtain ⟨x1, a1, s1, m1, rfl, ⟨rfl, w1⟩, e1⟩ := hv.at1 (i) (by omega) rfl
      simp (maxDischargeDepth := 9) only [↓gB, gV, gT, reduceIte, reduceCtorEq, Nat.reduceEqDiff, Nat.reduceAdd, Nat.reduceSub, Nat.reduceLeDiff, Nat.reduceLT, Int.reduceEq, Nat.reduceMul, f13, f1, f12, c1, f0, e1]
      refine vguard_intro (by simp) ?_
      obtain ⟨x2, a2, s2, m2, rfl, ⟨rfl, w2⟩, e2⟩ := hw.at1 (i) (by omega) rfl
      simp (maxDischargeDepth := 9) only [↓gB, gV, gT, reduceIte, reduceCtorEq, Nat.reduceEqDiff, Nat.reduceAdd, Nat.reduceSub, Nat.reduceLeDiff, Nat.reduceLT, Int.reduceEq, Nat.reduceMul, f13, f12, c1, f0, e1, f1, e2]
      refine vguard_intro (by omega) ?_
      refine Xc_split _ _ _ _ _ (fun c2 => ?_) (fun c2 => ?_)
      rotate_left 1
      focus
        simp (maxDischargeDepth := 9) only [↓gB, gV, gT, reduceIte, reduceCtorEq, Nat.reduceEqDiff, Nat.reduceAdd, Nat.reduceSub, Nat.reduceLeDiff, Nat.reduceLT, Int.reduceEq, Nat.reduceMul, f13, f12, c1, f0, e1, f1, e2, c2]
        have q1 : Go.IntKind.i64.wrap (↑i + 1) = ↑i + 1 := wrap_id (by omega)
        simp (maxDischargeDepth := 9) only [↓gB, gV, gT, reduceIte, reduceCtorEq, Nat.reduceEqDiff, Nat.reduceAdd, Nat.reduceSub, Nat.reduceLeDiff, Nat.reduceLT, Int.reduceEq, Nat.reduceMul, f13, f12, c1, f0, e1, f1, e2, c2, q1]
        rw [N_lp]
        refine ⟨_, ?_, _, ?_, i + 1, rfl, ?_, ?_, rfl, by simp (maxDischargeDepth := 9) only [↓gB, gV, gT, reduceIte, reduceCtorEq, Nat.reduceEqDiff, Nat.reduceAdd, Nat.reduceSub, Nat.reduceLeDiff, Nat.reduceLT, Int.reduceEq, Nat.reduceMul, f13, f12, c1, f0, e1, f1, e2, c2, q1, nat_succ, and_self]⟩
        · omega
        · exact sub_refl _
        · omega
        · (rw [take_at m1, take_at m2, h, show x1 = x2 by first | assumption | omega]; done)
      rotate_right 1
      simp (maxDischargeDepth := 9) only [↓gB, gV, gT, reduceIte, reduceCtorEq, Nat.reduceEqDiff, Nat.reduceAdd, Nat.reduceSub, Nat.reduceLeDiff, Nat.reduceLT, Int.reduceEq, Nat.reduceMul, f13, f12, c1, f0, e1, f1, e2, c2]
      refine Kup_val (le_refl _) ?_
      focus ((have e : l ≠ m := by (rintro rfl; rw [m1] at m2; cases m2; simp_all)); simp [e]; done)
theorem p13 {G0 : GH} {vl : Value} {ns : List SNode} {key : ByteArray} {wa ua : Option Addr} {wn wc un uc : Nat} (hv : RSl rNode G0 vl ns) (hn : ns.length ≤ 1000000000) : Pure Tryz.prog G0 13 [.agg #[vl, .slice wa wn wc, .slice ua un uc], .string key] (V (if keyAt SNode.Key ns key < 0 then 8 else 0)) := by
  intro G hG; replace hv := hv.le hG
  clear hG G0
  refine enter Tryz.func13 9 #[.tmp 4] rfl Tryz.ntmps13 rfl (by decide +kernel) rfl ?_
  obtain ⟨a, c, rfl⟩ := hv.val
  simp (maxDischargeDepth := 9) only [↓gB, gV, gT, reduceIte, reduceCtorEq, Nat.reduceEqDiff, Nat.reduceAdd, Nat.reduceSub, Nat.reduceLeDiff, Nat.reduceLT, Int.reduceEq, Nat.reduceMul, List.map_toArray, List.map_cons, List.map_nil, Value.cells]
  refine Yn2 fun r1 h1 => ?_
  simp (maxDischargeDepth := 9) only [↓gB, gV, gT, reduceIte, reduceCtorEq, Nat.reduceEqDiff, Nat.reduceAdd, Nat.reduceSub, Nat.reduceLeDiff, Nat.reduceLT, Int.reduceEq, Nat.reduceMul, h1, List.map_toArray, List.map_cons, List.map_nil, Value.cells]
  refine Ycp (p29 (by exact RSl.put _ (by assumption) (by assumption)) (by omega)) ?_
  simp (maxDischargeDepth := 9) only [↓gB, gV, gT, reduceIte, reduceCtorEq, Nat.reduceEqDiff, Nat.reduceAdd, Nat.reduceSub, Nat.reduceLeDiff, Nat.reduceLT, Int.reduceEq, Nat.reduceMul, h1, List.map_toArray, List.map_cons, List.map_nil, Value.cells]
  focus
    refine Xc_split _ _ _ _ _ (fun c1 => ?_) (fun c1 => ?_)
    rotate_left 1
    focus
      simp (maxDischargeDepth := 9) only [↓gB, gV, gT, reduceIte, reduceCtorEq, Nat.reduceEqDiff, Nat.reduceAdd, Nat.reduceSub, Nat.reduceLeDiff, Nat.reduceLT, Int.reduceEq, Nat.reduceMul, h1, c1]
      exact Kup_val (by simp (maxDischargeDepth := 9) only [le_self, le_puts, le_put0, h1]) rfl
    rotate_right 1
    simp (maxDischargeDepth := 9) only [↓gB, gV, gT, reduceIte, reduceCtorEq, Nat.reduceEqDiff, Nat.reduceAdd, Nat.reduceSub, Nat.reduceLeDiff, Nat.reduceLT, Int.reduceEq, Nat.reduceMul, h1, c1]
    exact Kup_val (by simp (maxDischargeDepth := 9) only [le_self, le_puts, le_put0, h1]) rfl
end Go.Proofs.YtjhfhacdjmokaaaGreatDoor
namespace Go.Proofs.YtjhfhacdjmokaaaGreatDoor
open Go Go.GL
attribute [local irreducible] Ycall GCalls
set_option maxRecDepth 10000
set_option maxHeartbeats 0
theorem wN1 {ns : List SNode} {ar : List SArc} {bs : List SBan} {fr : ByteArray} {l : List ByteArray} {t : Int} (he : roadsE ns ar bs ≠ 0) : walkN ns ar bs fr l t = roadsE ns ar bs := if_pos he
theorem wN2 {ns : List SNode} {ar : List SArc} {bs : List SBan} {fr : ByteArray} {l : List ByteArray} {t : Int} (he : roadsE ns ar bs = 0) (h : keyAt SNode.Key ns fr < 0) : walkN ns ar bs fr l t = 8 := by unfold walkN; rw [if_neg (by simpa using he), if_pos h]
theorem wN3 {ns : List SNode} {ar : List SArc} {bs : List SBan} {fr : ByteArray} {l : List ByteArray} {t : Int} (he : roadsE ns ar bs = 0) (h : ¬ keyAt SNode.Key ns fr < 0) (h2 : moment t = false) : walkN ns ar bs fr l t = 1 := by unfold walkN; rw [if_neg (by simpa using he), if_neg h, if_pos h2]
theorem wN4 {ns : List SNode} {ar : List SArc} {bs : List SBan} {fr : ByteArray} {l : List ByteArray} {t : Int} (he : roadsE ns ar bs = 0) (h : ¬ keyAt SNode.Key ns fr < 0) (h2 : moment t = true) (h3 : walkE ar bs fr l ≠ 0) : walkN ns ar bs fr l t = walkE ar bs fr l := by unfold walkN; rw [if_neg (by simpa using he), if_neg h, if_neg (by rw [h2]; decide), if_pos h3]
theorem wN5 {ns : List SNode} {ar : List SArc} {bs : List SBan} {fr : ByteArray} {l : List ByteArray} {t : Int} (he : roadsE ns ar bs = 0) (h : ¬ keyAt SNode.Key ns fr < 0) (h2 : moment t = true) (h3 : walkE ar bs fr l = 0) : walkN ns ar bs fr l t = 12 := by unfold walkN; rw [if_neg (by simpa using he), if_neg h, if_neg (by rw [h2]; decide), if_neg (by simpa using h3)]
theorem p3 {G0 : GH} {v w u0 vl : Value} {ns : List SNode} {ar : List SArc} {bs : List SBan} {fr : ByteArray} {l : List ByteArray} {t : Int} (hv : RSl rNode G0 v ns) (hw : RSl rArc G0 w ar) (hu : RSl rBan G0 u0 bs) (hs : RSl Rp.str G0 vl l) (hn : ns.length ≤ 1000000000) (hm : ar.length ≤ 1000000000) (hk : ∀ y ∈ ar, y.Knots.length ≤ 1000000000) (hb : bs.length ≤ 1000000000) (hl : l.length ≤ 1000000000) : Pure Tryz.prog G0 3 [.agg #[v, w, u0], .string fr, vl, V t] (.bool true) := by
  intro G hG; replace hv := hv.le hG; replace hw := hw.le hG; replace hu := hu.le hG; replace hs := hs.le hG
  clear hG G0
  refine enter Tryz.func3 121 #[.tmp 8] rfl Tryz.ntmps3 rfl (by decide +kernel) rfl ?_
  obtain ⟨va, vc, rfl⟩ := hv.val
  obtain ⟨wa, wc, rfl⟩ := hw.val
  obtain ⟨ua, uc, rfl⟩ := hu.val
  obtain ⟨a, c, rfl⟩ := hs.val
  simp (maxDischargeDepth := 9) only [↓gB, gV, gT, reduceIte, reduceCtorEq, Nat.reduceEqDiff, Nat.reduceAdd, Nat.reduceSub, Nat.reduceLeDiff, Nat.reduceLT, Int.reduceEq, Nat.reduceMul]
  refine Yn2 fun r1 h1 => ?_
  simp (maxDischargeDepth := 9) only [↓gB, gV, gT, reduceIte, reduceCtorEq, Nat.reduceEqDiff, Nat.reduceAdd, Nat.reduceSub, Nat.reduceLeDiff, Nat.reduceLT, Int.reduceEq, Nat.reduceMul, h1]
  have l1 := le_put h1 ((Go.Obj.cells #[Go.Value.slice va ns.length vc, Go.Value.slice wa ar.length wc, Go.Value.slice ua bs.length uc] 26, Bool.true))
  have y1 := put_self G r1 ((Go.Obj.cells #[Go.Value.slice va ns.length vc, Go.Value.slice wa ar.length wc, Go.Value.slice ua bs.length uc] 26, Bool.true))
  generalize GH.put G r1 ((Go.Obj.cells #[Go.Value.slice va ns.length vc, Go.Value.slice wa ar.length wc, Go.Value.slice ua bs.length uc] 26, Bool.true)) = G1 at *
  replace hv := RSl.le hv l1
  replace hw := RSl.le hw l1
  replace hu := RSl.le hu l1
  replace hs := RSl.le hs l1
  refine Ycg (g5 (by assumption) (by assumption) (by assumption) (by assumption) (by assumption) (by assumption) (by assumption)) ?_ ?_
  · exact fun _ _ _ hl q => by obtain ⟨z0, z0', z0'', w0''', w0'''', w0''''', rfl⟩ := q; exact ⟨z0, z0', z0'', (by first | exact w0''' | exact RSl.le w0''' hl | exact Row.le w0''' hl | exact hl _ _ w0''' | exact GH.le.trans w0''' hl), (by first | exact w0'''' | exact RSl.le w0'''' hl | exact Row.le w0'''' hl | exact hl _ _ w0'''' | exact GH.le.trans w0'''' hl), (by first | exact w0''''' | exact RSl.le w0''''' hl | exact Row.le w0''''' hl | exact hl _ _ w0''''' | exact GH.le.trans w0''''' hl), rfl⟩
  intro u2 G2 l2 w2
  replace l1 := GH.le.trans l1 l2
  replace y1 := l2 _ _ y1
  replace hv := RSl.le hv l2
  replace hw := RSl.le hw l2
  replace hu := RSl.le hu l2
  replace hs := RSl.le hs l2
  obtain ⟨z2, z2', z2'', w2''', w2'''', w2''''', rfl⟩ := w2
  obtain ⟨aw2''', cw2''', rfl⟩ := RSl.val w2'''
  obtain ⟨aw2'''', cw2'''', rfl⟩ := RSl.val w2''''
  obtain ⟨aw2''''', cw2''''', rfl⟩ := RSl.val w2'''''
  simp (maxDischargeDepth := 9) only [↓gB, gV, gT, reduceIte, reduceCtorEq, Nat.reduceEqDiff, Nat.reduceAdd, Nat.reduceSub, Nat.reduceLeDiff, Nat.reduceLT, Int.reduceEq, Nat.reduceMul, h1, y1]
  refine Ycg (g6 (by assumption) (by assumption)) ?_ ?_
  · exact upRSl _ _
  intro u3 G3 l3 w3
  replace l2 := GH.le.trans l2 l3
  replace l1 := GH.le.trans l1 l3
  replace y1 := l3 _ _ y1
  replace hv := RSl.le hv l3
  replace hw := RSl.le hw l3
  replace hu := RSl.le hu l3
  replace hs := RSl.le hs l3
  replace w2''' := RSl.le w2''' l3
  replace w2'''' := RSl.le w2'''' l3
  replace w2''''' := RSl.le w2''''' l3
  obtain ⟨aw3, cw3, rfl⟩ := RSl.val w3
  simp (maxDischargeDepth := 9) only [↓gB, gV, gT, reduceIte, reduceCtorEq, Nat.reduceEqDiff, Nat.reduceAdd, Nat.reduceSub, Nat.reduceLeDiff, Nat.reduceLT, Int.reduceEq, Nat.reduceMul, h1, y1]
  have k1 := kn_of y1
  have hO1 : ∀ x : Int, orOf [8, x] = 8 := fun _ => rfl
  have hO2 : orOf [0, bi false] = 1 := rfl
  have hO3 : orOf [0, bi true] = 0 := rfl
  by_cases he : roadsE ns ar bs = 0
  rotate_left
  · have hg : ¬ (roadsE ns ar bs = 0 ∧ 0 ≤ keyAt SNode.Key ns fr ∧ moment t = true ∧ walkE ar bs fr l = 0 ∧ walkOk ar l t) := fun q => he q.1
    have hN := wN1 (fr := fr) (l := l) (t := t) he
    refine Ycp (p4 (by assumption) (by assumption) (by assumption) (by assumption) (by assumption) (by assumption) (by assumption) (by assumption) (by assumption) (by assumption)) ?_
    simp (maxDischargeDepth := 9) only [↓gB, gV, gT, reduceIte, reduceCtorEq, Nat.reduceEqDiff, Nat.reduceAdd, Nat.reduceSub, Nat.reduceLeDiff, Nat.reduceLT, Int.reduceEq, Nat.reduceMul, h1, y1, k1, hO1, hO2, hO3, false_and, true_and, and_false, and_true, he, hN]
    refine Ycg (g5 (by assumption) (by assumption) (by assumption) (by assumption) (by assumption) (by assumption) (by assumption)) ?_ ?_
    · exact fun _ _ _ hl q => by obtain ⟨z0, z0', z0'', w0''', w0'''', w0''''', rfl⟩ := q; exact ⟨z0, z0', z0'', (by first | exact w0''' | exact RSl.le w0''' hl | exact Row.le w0''' hl | exact hl _ _ w0''' | exact GH.le.trans w0''' hl), (by first | exact w0'''' | exact RSl.le w0'''' hl | exact Row.le w0'''' hl | exact hl _ _ w0'''' | exact GH.le.trans w0'''' hl), (by first | exact w0''''' | exact RSl.le w0''''' hl | exact Row.le w0''''' hl | exact hl _ _ w0''''' | exact GH.le.trans w0''''' hl), rfl⟩
    intro u4 G4 l4 w4
    replace l3 := GH.le.trans l3 l4
    replace l2 := GH.le.trans l2 l4
    replace l1 := GH.le.trans l1 l4
    replace y1 := l4 _ _ y1
    replace hv := RSl.le hv l4
    replace hw := RSl.le hw l4
    replace hu := RSl.le hu l4
    replace hs := RSl.le hs l4
    replace w2''' := RSl.le w2''' l4
    replace w2'''' := RSl.le w2'''' l4
    replace w2''''' := RSl.le w2''''' l4
    replace w3 := RSl.le w3 l4
    replace k1 := kn_le l4 k1
    obtain ⟨z4, z4', z4'', w4''', w4'''', w4''''', rfl⟩ := w4
    obtain ⟨aw4''', cw4''', rfl⟩ := RSl.val w4'''
    obtain ⟨aw4'''', cw4'''', rfl⟩ := RSl.val w4''''
    obtain ⟨aw4''''', cw4''''', rfl⟩ := RSl.val w4'''''
    simp (maxDischargeDepth := 9) only [↓gB, gV, gT, reduceIte, reduceCtorEq, Nat.reduceEqDiff, Nat.reduceAdd, Nat.reduceSub, Nat.reduceLeDiff, Nat.reduceLT, Int.reduceEq, Nat.reduceMul, h1, y1, k1, hO1, hO2, hO3, false_and, true_and, and_false, and_true, he, hN]
    refine Ycg (g6 (by assumption) (by assumption)) ?_ ?_
    · exact upRSl _ _
    intro u5 G5 l5 w5
    replace l4 := GH.le.trans l4 l5
    replace l3 := GH.le.trans l3 l5
    replace l2 := GH.le.trans l2 l5
    replace l1 := GH.le.trans l1 l5
    replace y1 := l5 _ _ y1
    replace hv := RSl.le hv l5
    replace hw := RSl.le hw l5
    replace hu := RSl.le hu l5
    replace hs := RSl.le hs l5
    replace w2''' := RSl.le w2''' l5
    replace w2'''' := RSl.le w2'''' l5
    replace w2''''' := RSl.le w2''''' l5
    replace w3 := RSl.le w3 l5
    replace k1 := kn_le l5 k1
    replace w4''' := RSl.le w4''' l5
    replace w4'''' := RSl.le w4'''' l5
    replace w4''''' := RSl.le w4''''' l5
    obtain ⟨aw5, cw5, rfl⟩ := RSl.val w5
    simp (maxDischargeDepth := 9) only [↓gB, gV, gT, reduceIte, reduceCtorEq, Nat.reduceEqDiff, Nat.reduceAdd, Nat.reduceSub, Nat.reduceLeDiff, Nat.reduceLT, Int.reduceEq, Nat.reduceMul, h1, y1, k1, hO1, hO2, hO3, false_and, true_and, and_false, and_true, he, hN]
    refine Ycp (p7 (by assumption) (by assumption) (by assumption) (by assumption) (by assumption) (by assumption) (by assumption) (by assumption) (by assumption)) ?_
    simp (maxDischargeDepth := 9) only [↓gB, gV, gT, reduceIte, reduceCtorEq, Nat.reduceEqDiff, Nat.reduceAdd, Nat.reduceSub, Nat.reduceLeDiff, Nat.reduceLT, Int.reduceEq, Nat.reduceMul, h1, y1, k1, hO1, hO2, hO3, false_and, true_and, and_false, and_true, he, hN]
    refine Ycp (p8 (by assumption) (by assumption) (by assumption) (by assumption) (by assumption) (by assumption) (by assumption)) ?_
    simp (maxDischargeDepth := 9) only [↓gB, gV, gT, reduceIte, reduceCtorEq, Nat.reduceEqDiff, Nat.reduceAdd, Nat.reduceSub, Nat.reduceLeDiff, Nat.reduceLT, Int.reduceEq, Nat.reduceMul, h1, y1, k1, hO1, hO2, hO3, false_and, true_and, and_false, and_true, he, hN]
    refine Ycp (p9) ?_
    simp (maxDischargeDepth := 9) only [↓gB, gV, gT, reduceIte, reduceCtorEq, Nat.reduceEqDiff, Nat.reduceAdd, Nat.reduceSub, Nat.reduceLeDiff, Nat.reduceLT, Int.reduceEq, Nat.reduceMul, h1, y1, k1, hO1, hO2, hO3, false_and, true_and, and_false, and_true, he, hN]
    exact Kup_val (by simp (maxDischargeDepth := 9) only [le_self, le_puts, le_put0, h1, l5, l4, l3, l2, l1]) rfl
  have hq := roads_ok he
  obtain ⟨hq1, hq2, hq3, hq4, hq5, hq6, hq7⟩ := roads_ok he
  by_cases hL : walkE ar bs ⟨#[]⟩ l = 0
  · obtain ⟨hLl, hLks⟩ := walk_keys hL
    by_cases hk1 : keyAt SNode.Key ns fr < 0
    · have hg : ¬ (roadsE ns ar bs = 0 ∧ 0 ≤ keyAt SNode.Key ns fr ∧ moment t = true ∧ walkE ar bs fr l = 0 ∧ walkOk ar l t) := fun q => absurd q.2.1 (by omega)
      have hN := wN2 (bs := bs) (l := l) (t := t) he hk1
      refine Ycp (p4 (by assumption) (by assumption) (by assumption) (by assumption) (by assumption) (by assumption) (by assumption) (by assumption) (by assumption) (by assumption)) ?_
      simp (maxDischargeDepth := 9) only [↓gB, gV, gT, reduceIte, reduceCtorEq, Nat.reduceEqDiff, Nat.reduceAdd, Nat.reduceSub, Nat.reduceLeDiff, Nat.reduceLT, Int.reduceEq, Nat.reduceMul, h1, y1, k1, hO1, hO2, hO3, false_and, true_and, and_false, and_true, he, hL, hk1, hN]
      refine Ycg (g5 (by assumption) (by assumption) (by assumption) (by assumption) (by assumption) (by assumption) (by assumption)) ?_ ?_
      · exact fun _ _ _ hl q => by obtain ⟨z0, z0', z0'', w0''', w0'''', w0''''', rfl⟩ := q; exact ⟨z0, z0', z0'', (by first | exact w0''' | exact RSl.le w0''' hl | exact Row.le w0''' hl | exact hl _ _ w0''' | exact GH.le.trans w0''' hl), (by first | exact w0'''' | exact RSl.le w0'''' hl | exact Row.le w0'''' hl | exact hl _ _ w0'''' | exact GH.le.trans w0'''' hl), (by first | exact w0''''' | exact RSl.le w0''''' hl | exact Row.le w0''''' hl | exact hl _ _ w0''''' | exact GH.le.trans w0''''' hl), rfl⟩
      intro u4 G4 l4 w4
      replace l3 := GH.le.trans l3 l4
      replace l2 := GH.le.trans l2 l4
      replace l1 := GH.le.trans l1 l4
      replace y1 := l4 _ _ y1
      replace hv := RSl.le hv l4
      replace hw := RSl.le hw l4
      replace hu := RSl.le hu l4
      replace hs := RSl.le hs l4
      replace w2''' := RSl.le w2''' l4
      replace w2'''' := RSl.le w2'''' l4
      replace w2''''' := RSl.le w2''''' l4
      replace w3 := RSl.le w3 l4
      replace k1 := kn_le l4 k1
      obtain ⟨z4, z4', z4'', w4''', w4'''', w4''''', rfl⟩ := w4
      obtain ⟨aw4''', cw4''', rfl⟩ := RSl.val w4'''
      obtain ⟨aw4'''', cw4'''', rfl⟩ := RSl.val w4''''
      obtain ⟨aw4''''', cw4''''', rfl⟩ := RSl.val w4'''''
      simp (maxDischargeDepth := 9) only [↓gB, gV, gT, reduceIte, reduceCtorEq, Nat.reduceEqDiff, Nat.reduceAdd, Nat.reduceSub, Nat.reduceLeDiff, Nat.reduceLT, Int.reduceEq, Nat.reduceMul, h1, y1, k1, hO1, hO2, hO3, false_and, true_and, and_false, and_true, he, hL, hk1, hN]
      refine Ycg (g6 (by assumption) (by assumption)) ?_ ?_
      · exact upRSl _ _
      intro u5 G5 l5 w5
      replace l4 := GH.le.trans l4 l5
      replace l3 := GH.le.trans l3 l5
      replace l2 := GH.le.trans l2 l5
      replace l1 := GH.le.trans l1 l5
      replace y1 := l5 _ _ y1
      replace hv := RSl.le hv l5
      replace hw := RSl.le hw l5
      replace hu := RSl.le hu l5
      replace hs := RSl.le hs l5
      replace w2''' := RSl.le w2''' l5
      replace w2'''' := RSl.le w2'''' l5
      replace w2''''' := RSl.le w2''''' l5
      replace w3 := RSl.le w3 l5
      replace k1 := kn_le l5 k1
      replace w4''' := RSl.le w4''' l5
      replace w4'''' := RSl.le w4'''' l5
      replace w4''''' := RSl.le w4''''' l5
      obtain ⟨aw5, cw5, rfl⟩ := RSl.val w5
      simp (maxDischargeDepth := 9) only [↓gB, gV, gT, reduceIte, reduceCtorEq, Nat.reduceEqDiff, Nat.reduceAdd, Nat.reduceSub, Nat.reduceLeDiff, Nat.reduceLT, Int.reduceEq, Nat.reduceMul, h1, y1, k1, hO1, hO2, hO3, false_and, true_and, and_false, and_true, he, hL, hk1, hN]
      refine Ycp (p7 (by assumption) (by assumption) (by assumption) (by assumption) (by assumption) (by assumption) (by assumption) (by assumption) (by assumption)) ?_
      simp (maxDischargeDepth := 9) only [↓gB, gV, gT, reduceIte, reduceCtorEq, Nat.reduceEqDiff, Nat.reduceAdd, Nat.reduceSub, Nat.reduceLeDiff, Nat.reduceLT, Int.reduceEq, Nat.reduceMul, h1, y1, k1, hO1, hO2, hO3, false_and, true_and, and_false, and_true, he, hL, hk1, hN]
      refine Ycp (p8 (by assumption) (by assumption) (by assumption) (by assumption) (by assumption) (by assumption) (by assumption)) ?_
      simp (maxDischargeDepth := 9) only [↓gB, gV, gT, reduceIte, reduceCtorEq, Nat.reduceEqDiff, Nat.reduceAdd, Nat.reduceSub, Nat.reduceLeDiff, Nat.reduceLT, Int.reduceEq, Nat.reduceMul, h1, y1, k1, hO1, hO2, hO3, false_and, true_and, and_false, and_true, he, hL, hk1, hN]
      refine Ycp (p10 (by assumption) (by assumption) (by assumption) (by assumption) (by assumption) (by assumption)) ?_
      simp (maxDischargeDepth := 9) only [↓gB, gV, gT, reduceIte, reduceCtorEq, Nat.reduceEqDiff, Nat.reduceAdd, Nat.reduceSub, Nat.reduceLeDiff, Nat.reduceLT, Int.reduceEq, Nat.reduceMul, h1, y1, k1, hO1, hO2, hO3, false_and, true_and, and_false, and_true, he, hL, hk1, hN]
      refine Ycp (p11 (by assumption) (by assumption) (by assumption) (by assumption) (by assumption)) ?_
      simp (maxDischargeDepth := 9) only [↓gB, gV, gT, reduceIte, reduceCtorEq, Nat.reduceEqDiff, Nat.reduceAdd, Nat.reduceSub, Nat.reduceLeDiff, Nat.reduceLT, Int.reduceEq, Nat.reduceMul, h1, y1, k1, hO1, hO2, hO3, false_and, true_and, and_false, and_true, he, hL, hk1, hN]
      refine Ycp (p13 (by assumption) (by assumption)) ?_
      simp (maxDischargeDepth := 9) only [↓gB, gV, gT, reduceIte, reduceCtorEq, Nat.reduceEqDiff, Nat.reduceAdd, Nat.reduceSub, Nat.reduceLeDiff, Nat.reduceLT, Int.reduceEq, Nat.reduceMul, h1, y1, k1, hO1, hO2, hO3, false_and, true_and, and_false, and_true, he, hL, hk1, hN]
      refine Ycp (p14) ?_
      simp (maxDischargeDepth := 9) only [↓gB, gV, gT, reduceIte, reduceCtorEq, Nat.reduceEqDiff, Nat.reduceAdd, Nat.reduceSub, Nat.reduceLeDiff, Nat.reduceLT, Int.reduceEq, Nat.reduceMul, h1, y1, k1, hO1, hO2, hO3, false_and, true_and, and_false, and_true, he, hL, hk1, hN]
      refine Yn1 fun r2 h2 => ?_
      simp (maxDischargeDepth := 9) only [↓gB, gV, gT, reduceIte, reduceCtorEq, Nat.reduceEqDiff, Nat.reduceAdd, Nat.reduceSub, Nat.reduceLeDiff, Nat.reduceLT, Int.reduceEq, Nat.reduceMul, h1, y1, k1, h2, hO1, hO2, hO3, false_and, true_and, and_false, and_true, he, hL, hk1, hN]
      refine Ycp (p12 (by exact put_self _ _ _)) ?_
      simp (maxDischargeDepth := 9) only [↓gB, gV, gT, reduceIte, reduceCtorEq, Nat.reduceEqDiff, Nat.reduceAdd, Nat.reduceSub, Nat.reduceLeDiff, Nat.reduceLT, Int.reduceEq, Nat.reduceMul, h1, y1, k1, h2, hO1, hO2, hO3, false_and, true_and, and_false, and_true, he, hL, hk1, hN]
      refine Ycp (p17 (l := []) (m := []) (RSl.nil _ _) (RSl.nil _ _) (by decide)) ?_
      simp (maxDischargeDepth := 9) only [↓gB, gV, gT, reduceIte, reduceCtorEq, Nat.reduceEqDiff, Nat.reduceAdd, Nat.reduceSub, Nat.reduceLeDiff, Nat.reduceLT, Int.reduceEq, Nat.reduceMul, h1, y1, k1, h2, hO1, hO2, hO3, false_and, true_and, and_false, and_true, he, hL, hk1, hN]
      refine Ycp (p9) ?_
      simp (maxDischargeDepth := 9) only [↓gB, gV, gT, reduceIte, reduceCtorEq, Nat.reduceEqDiff, Nat.reduceAdd, Nat.reduceSub, Nat.reduceLeDiff, Nat.reduceLT, Int.reduceEq, Nat.reduceMul, h1, y1, k1, h2, hO1, hO2, hO3, false_and, true_and, and_false, and_true, he, hL, hk1, hN]
      exact Kup_val (by simp (maxDischargeDepth := 9) only [le_self, le_puts, le_put0, h1, l5, l4, l3, l2, l1, h2]) rfl
    by_cases hmo : moment t = true
    rotate_left
    · have hmo' : moment t = false := by simpa using hmo
      have hg : ¬ (roadsE ns ar bs = 0 ∧ 0 ≤ keyAt SNode.Key ns fr ∧ moment t = true ∧ walkE ar bs fr l = 0 ∧ walkOk ar l t) := fun q => hmo q.2.2.1
      have hN := wN3 (l := l) he hk1 hmo'
      refine Ycp (p4 (by assumption) (by assumption) (by assumption) (by assumption) (by assumption) (by assumption) (by assumption) (by assumption) (by assumption) (by assumption)) ?_
      simp (maxDischargeDepth := 9) only [↓gB, gV, gT, reduceIte, reduceCtorEq, Nat.reduceEqDiff, Nat.reduceAdd, Nat.reduceSub, Nat.reduceLeDiff, Nat.reduceLT, Int.reduceEq, Nat.reduceMul, h1, y1, k1, hmo', hO1, hO2, hO3, false_and, true_and, and_false, and_true, he, hL, hk1, hN]
      refine Ycg (g5 (by assumption) (by assumption) (by assumption) (by assumption) (by assumption) (by assumption) (by assumption)) ?_ ?_
      · exact fun _ _ _ hl q => by obtain ⟨z0, z0', z0'', w0''', w0'''', w0''''', rfl⟩ := q; exact ⟨z0, z0', z0'', (by first | exact w0''' | exact RSl.le w0''' hl | exact Row.le w0''' hl | exact hl _ _ w0''' | exact GH.le.trans w0''' hl), (by first | exact w0'''' | exact RSl.le w0'''' hl | exact Row.le w0'''' hl | exact hl _ _ w0'''' | exact GH.le.trans w0'''' hl), (by first | exact w0''''' | exact RSl.le w0''''' hl | exact Row.le w0''''' hl | exact hl _ _ w0''''' | exact GH.le.trans w0''''' hl), rfl⟩
      intro u4 G4 l4 w4
      replace l3 := GH.le.trans l3 l4
      replace l2 := GH.le.trans l2 l4
      replace l1 := GH.le.trans l1 l4
      replace y1 := l4 _ _ y1
      replace hv := RSl.le hv l4
      replace hw := RSl.le hw l4
      replace hu := RSl.le hu l4
      replace hs := RSl.le hs l4
      replace w2''' := RSl.le w2''' l4
      replace w2'''' := RSl.le w2'''' l4
      replace w2''''' := RSl.le w2''''' l4
      replace w3 := RSl.le w3 l4
      replace k1 := kn_le l4 k1
      obtain ⟨z4, z4', z4'', w4''', w4'''', w4''''', rfl⟩ := w4
      obtain ⟨aw4''', cw4''', rfl⟩ := RSl.val w4'''
      obtain ⟨aw4'''', cw4'''', rfl⟩ := RSl.val w4''''
      obtain ⟨aw4''''', cw4''''', rfl⟩ := RSl.val w4'''''
      simp (maxDischargeDepth := 9) only [↓gB, gV, gT, reduceIte, reduceCtorEq, Nat.reduceEqDiff, Nat.reduceAdd, Nat.reduceSub, Nat.reduceLeDiff, Nat.reduceLT, Int.reduceEq, Nat.reduceMul, h1, hmo', y1, k1, hO1, hO2, hO3, false_and, true_and, and_false, and_true, he, hL, hk1, hN]
      refine Ycg (g6 (by assumption) (by assumption)) ?_ ?_
      · exact upRSl _ _
      intro u5 G5 l5 w5
      replace l4 := GH.le.trans l4 l5
      replace l3 := GH.le.trans l3 l5
      replace l2 := GH.le.trans l2 l5
      replace l1 := GH.le.trans l1 l5
      replace y1 := l5 _ _ y1
      replace hv := RSl.le hv l5
      replace hw := RSl.le hw l5
      replace hu := RSl.le hu l5
      replace hs := RSl.le hs l5
      replace w2''' := RSl.le w2''' l5
      replace w2'''' := RSl.le w2'''' l5
      replace w2''''' := RSl.le w2''''' l5
      replace w3 := RSl.le w3 l5
      replace k1 := kn_le l5 k1
      replace w4''' := RSl.le w4''' l5
      replace w4'''' := RSl.le w4'''' l5
      replace w4''''' := RSl.le w4''''' l5
      obtain ⟨aw5, cw5, rfl⟩ := RSl.val w5
      simp (maxDischargeDepth := 9) only [↓gB, gV, gT, reduceIte, reduceCtorEq, Nat.reduceEqDiff, Nat.reduceAdd, Nat.reduceSub, Nat.reduceLeDiff, Nat.reduceLT, Int.reduceEq, Nat.reduceMul, h1, hmo', y1, k1, hO1, hO2, hO3, false_and, true_and, and_false, and_true, he, hL, hk1, hN]
      refine Ycp (p7 (by assumption) (by assumption) (by assumption) (by assumption) (by assumption) (by assumption) (by assumption) (by assumption) (by assumption)) ?_
      simp (maxDischargeDepth := 9) only [↓gB, gV, gT, reduceIte, reduceCtorEq, Nat.reduceEqDiff, Nat.reduceAdd, Nat.reduceSub, Nat.reduceLeDiff, Nat.reduceLT, Int.reduceEq, Nat.reduceMul, h1, hmo', y1, k1, hO1, hO2, hO3, false_and, true_and, and_false, and_true, he, hL, hk1, hN]
      refine Ycp (p8 (by assumption) (by assumption) (by assumption) (by assumption) (by assumption) (by assumption) (by assumption)) ?_
      simp (maxDischargeDepth := 9) only [↓gB, gV, gT, reduceIte, reduceCtorEq, Nat.reduceEqDiff, Nat.reduceAdd, Nat.reduceSub, Nat.reduceLeDiff, Nat.reduceLT, Int.reduceEq, Nat.reduceMul, h1, hmo', y1, k1, hO1, hO2, hO3, false_and, true_and, and_false, and_true, he, hL, hk1, hN]
      refine Ycp (p10 (by assumption) (by assumption) (by assumption) (by assumption) (by assumption) (by assumption)) ?_
      simp (maxDischargeDepth := 9) only [↓gB, gV, gT, reduceIte, reduceCtorEq, Nat.reduceEqDiff, Nat.reduceAdd, Nat.reduceSub, Nat.reduceLeDiff, Nat.reduceLT, Int.reduceEq, Nat.reduceMul, h1, hmo', y1, k1, hO1, hO2, hO3, false_and, true_and, and_false, and_true, he, hL, hk1, hN]
      refine Ycp (p11 (by assumption) (by assumption) (by assumption) (by assumption) (by assumption)) ?_
      simp (maxDischargeDepth := 9) only [↓gB, gV, gT, reduceIte, reduceCtorEq, Nat.reduceEqDiff, Nat.reduceAdd, Nat.reduceSub, Nat.reduceLeDiff, Nat.reduceLT, Int.reduceEq, Nat.reduceMul, h1, hmo', y1, k1, hO1, hO2, hO3, false_and, true_and, and_false, and_true, he, hL, hk1, hN]
      refine Ycp (p13 (by assumption) (by assumption)) ?_
      simp (maxDischargeDepth := 9) only [↓gB, gV, gT, reduceIte, reduceCtorEq, Nat.reduceEqDiff, Nat.reduceAdd, Nat.reduceSub, Nat.reduceLeDiff, Nat.reduceLT, Int.reduceEq, Nat.reduceMul, h1, hmo', y1, k1, hO1, hO2, hO3, false_and, true_and, and_false, and_true, he, hL, hk1, hN]
      refine Ycp (p14) ?_
      simp (maxDischargeDepth := 9) only [↓gB, gV, gT, reduceIte, reduceCtorEq, Nat.reduceEqDiff, Nat.reduceAdd, Nat.reduceSub, Nat.reduceLeDiff, Nat.reduceLT, Int.reduceEq, Nat.reduceMul, h1, hmo', y1, k1, hO1, hO2, hO3, false_and, true_and, and_false, and_true, he, hL, hk1, hN]
      refine Yn1 fun r2 h2 => ?_
      simp (maxDischargeDepth := 9) only [↓gB, gV, gT, reduceIte, reduceCtorEq, Nat.reduceEqDiff, Nat.reduceAdd, Nat.reduceSub, Nat.reduceLeDiff, Nat.reduceLT, Int.reduceEq, Nat.reduceMul, h1, hmo', y1, k1, h2, hO1, hO2, hO3, false_and, true_and, and_false, and_true, he, hL, hk1, hN]
      refine Ycp (p12 (by exact put_self _ _ _)) ?_
      simp (maxDischargeDepth := 9) only [↓gB, gV, gT, reduceIte, reduceCtorEq, Nat.reduceEqDiff, Nat.reduceAdd, Nat.reduceSub, Nat.reduceLeDiff, Nat.reduceLT, Int.reduceEq, Nat.reduceMul, h1, hmo', y1, k1, h2, hO1, hO2, hO3, false_and, true_and, and_false, and_true, he, hL, hk1, hN]
      refine Ycp (p17 (l := []) (m := []) (RSl.nil _ _) (RSl.nil _ _) (by decide)) ?_
      simp (maxDischargeDepth := 9) only [↓gB, gV, gT, reduceIte, reduceCtorEq, Nat.reduceEqDiff, Nat.reduceAdd, Nat.reduceSub, Nat.reduceLeDiff, Nat.reduceLT, Int.reduceEq, Nat.reduceMul, h1, hmo', y1, k1, h2, hO1, hO2, hO3, false_and, true_and, and_false, and_true, he, hL, hk1, hN]
      refine Ycp (p9) ?_
      simp (maxDischargeDepth := 9) only [↓gB, gV, gT, reduceIte, reduceCtorEq, Nat.reduceEqDiff, Nat.reduceAdd, Nat.reduceSub, Nat.reduceLeDiff, Nat.reduceLT, Int.reduceEq, Nat.reduceMul, h1, hmo', y1, k1, h2, hO1, hO2, hO3, false_and, true_and, and_false, and_true, he, hL, hk1, hN]
      exact Kup_val (by simp (maxDischargeDepth := 9) only [le_self, le_puts, le_put0, h1, l5, l4, l3, l2, l1, h2]) rfl
    by_cases hwe : walkE ar bs fr l = 0
    rotate_left
    · have hg : ¬ (roadsE ns ar bs = 0 ∧ 0 ≤ keyAt SNode.Key ns fr ∧ moment t = true ∧ walkE ar bs fr l = 0 ∧ walkOk ar l t) := fun q => hwe q.2.2.2.1
      have hN := wN4 (l := l) he hk1 hmo hwe
      refine Ycp (p4 (by assumption) (by assumption) (by assumption) (by assumption) (by assumption) (by assumption) (by assumption) (by assumption) (by assumption) (by assumption)) ?_
      simp (maxDischargeDepth := 9) only [↓gB, gV, gT, reduceIte, reduceCtorEq, Nat.reduceEqDiff, Nat.reduceAdd, Nat.reduceSub, Nat.reduceLeDiff, Nat.reduceLT, Int.reduceEq, Nat.reduceMul, h1, y1, k1, hmo, hO1, hO2, hO3, false_and, true_and, and_false, and_true, he, hL, hk1, hwe, hN]
      refine Ycg (g5 (by assumption) (by assumption) (by assumption) (by assumption) (by assumption) (by assumption) (by assumption)) ?_ ?_
      · exact fun _ _ _ hl q => by obtain ⟨z0, z0', z0'', w0''', w0'''', w0''''', rfl⟩ := q; exact ⟨z0, z0', z0'', (by first | exact w0''' | exact RSl.le w0''' hl | exact Row.le w0''' hl | exact hl _ _ w0''' | exact GH.le.trans w0''' hl), (by first | exact w0'''' | exact RSl.le w0'''' hl | exact Row.le w0'''' hl | exact hl _ _ w0'''' | exact GH.le.trans w0'''' hl), (by first | exact w0''''' | exact RSl.le w0''''' hl | exact Row.le w0''''' hl | exact hl _ _ w0''''' | exact GH.le.trans w0''''' hl), rfl⟩
      intro u4 G4 l4 w4
      replace l3 := GH.le.trans l3 l4
      replace l2 := GH.le.trans l2 l4
      replace l1 := GH.le.trans l1 l4
      replace y1 := l4 _ _ y1
      replace hv := RSl.le hv l4
      replace hw := RSl.le hw l4
      replace hu := RSl.le hu l4
      replace hs := RSl.le hs l4
      replace w2''' := RSl.le w2''' l4
      replace w2'''' := RSl.le w2'''' l4
      replace w2''''' := RSl.le w2''''' l4
      replace w3 := RSl.le w3 l4
      replace k1 := kn_le l4 k1
      obtain ⟨z4, z4', z4'', w4''', w4'''', w4''''', rfl⟩ := w4
      obtain ⟨aw4''', cw4''', rfl⟩ := RSl.val w4'''
      obtain ⟨aw4'''', cw4'''', rfl⟩ := RSl.val w4''''
      obtain ⟨aw4''''', cw4''''', rfl⟩ := RSl.val w4'''''
      simp (maxDischargeDepth := 9) only [↓gB, gV, gT, reduceIte, reduceCtorEq, Nat.reduceEqDiff, Nat.reduceAdd, Nat.reduceSub, Nat.reduceLeDiff, Nat.reduceLT, Int.reduceEq, Nat.reduceMul, h1, hmo, y1, k1, hO1, hO2, hO3, false_and, true_and, and_false, and_true, he, hL, hk1, hwe, hN]
      refine Ycg (g6 (by assumption) (by assumption)) ?_ ?_
      · exact upRSl _ _
      intro u5 G5 l5 w5
      replace l4 := GH.le.trans l4 l5
      replace l3 := GH.le.trans l3 l5
      replace l2 := GH.le.trans l2 l5
      replace l1 := GH.le.trans l1 l5
      replace y1 := l5 _ _ y1
      replace hv := RSl.le hv l5
      replace hw := RSl.le hw l5
      replace hu := RSl.le hu l5
      replace hs := RSl.le hs l5
      replace w2''' := RSl.le w2''' l5
      replace w2'''' := RSl.le w2'''' l5
      replace w2''''' := RSl.le w2''''' l5
      replace w3 := RSl.le w3 l5
      replace k1 := kn_le l5 k1
      replace w4''' := RSl.le w4''' l5
      replace w4'''' := RSl.le w4'''' l5
      replace w4''''' := RSl.le w4''''' l5
      obtain ⟨aw5, cw5, rfl⟩ := RSl.val w5
      simp (maxDischargeDepth := 9) only [↓gB, gV, gT, reduceIte, reduceCtorEq, Nat.reduceEqDiff, Nat.reduceAdd, Nat.reduceSub, Nat.reduceLeDiff, Nat.reduceLT, Int.reduceEq, Nat.reduceMul, h1, hmo, y1, k1, hO1, hO2, hO3, false_and, true_and, and_false, and_true, he, hL, hk1, hwe, hN]
      refine Ycp (p7 (by assumption) (by assumption) (by assumption) (by assumption) (by assumption) (by assumption) (by assumption) (by assumption) (by assumption)) ?_
      simp (maxDischargeDepth := 9) only [↓gB, gV, gT, reduceIte, reduceCtorEq, Nat.reduceEqDiff, Nat.reduceAdd, Nat.reduceSub, Nat.reduceLeDiff, Nat.reduceLT, Int.reduceEq, Nat.reduceMul, h1, hmo, y1, k1, hO1, hO2, hO3, false_and, true_and, and_false, and_true, he, hL, hk1, hwe, hN]
      refine Ycp (p8 (by assumption) (by assumption) (by assumption) (by assumption) (by assumption) (by assumption) (by assumption)) ?_
      simp (maxDischargeDepth := 9) only [↓gB, gV, gT, reduceIte, reduceCtorEq, Nat.reduceEqDiff, Nat.reduceAdd, Nat.reduceSub, Nat.reduceLeDiff, Nat.reduceLT, Int.reduceEq, Nat.reduceMul, h1, hmo, y1, k1, hO1, hO2, hO3, false_and, true_and, and_false, and_true, he, hL, hk1, hwe, hN]
      refine Ycp (p10 (by assumption) (by assumption) (by assumption) (by assumption) (by assumption) (by assumption)) ?_
      simp (maxDischargeDepth := 9) only [↓gB, gV, gT, reduceIte, reduceCtorEq, Nat.reduceEqDiff, Nat.reduceAdd, Nat.reduceSub, Nat.reduceLeDiff, Nat.reduceLT, Int.reduceEq, Nat.reduceMul, h1, hmo, y1, k1, hO1, hO2, hO3, false_and, true_and, and_false, and_true, he, hL, hk1, hwe, hN]
      refine Ycp (p11 (by assumption) (by assumption) (by assumption) (by assumption) (by assumption)) ?_
      simp (maxDischargeDepth := 9) only [↓gB, gV, gT, reduceIte, reduceCtorEq, Nat.reduceEqDiff, Nat.reduceAdd, Nat.reduceSub, Nat.reduceLeDiff, Nat.reduceLT, Int.reduceEq, Nat.reduceMul, h1, hmo, y1, k1, hO1, hO2, hO3, false_and, true_and, and_false, and_true, he, hL, hk1, hwe, hN]
      refine Ycp (p13 (by assumption) (by assumption)) ?_
      simp (maxDischargeDepth := 9) only [↓gB, gV, gT, reduceIte, reduceCtorEq, Nat.reduceEqDiff, Nat.reduceAdd, Nat.reduceSub, Nat.reduceLeDiff, Nat.reduceLT, Int.reduceEq, Nat.reduceMul, h1, hmo, y1, k1, hO1, hO2, hO3, false_and, true_and, and_false, and_true, he, hL, hk1, hwe, hN]
      refine Ycp (p14) ?_
      simp (maxDischargeDepth := 9) only [↓gB, gV, gT, reduceIte, reduceCtorEq, Nat.reduceEqDiff, Nat.reduceAdd, Nat.reduceSub, Nat.reduceLeDiff, Nat.reduceLT, Int.reduceEq, Nat.reduceMul, h1, hmo, y1, k1, hO1, hO2, hO3, false_and, true_and, and_false, and_true, he, hL, hk1, hwe, hN]
      refine Yn1 fun r2 h2 => ?_
      simp (maxDischargeDepth := 9) only [↓gB, gV, gT, reduceIte, reduceCtorEq, Nat.reduceEqDiff, Nat.reduceAdd, Nat.reduceSub, Nat.reduceLeDiff, Nat.reduceLT, Int.reduceEq, Nat.reduceMul, h1, hmo, y1, k1, h2, hO1, hO2, hO3, false_and, true_and, and_false, and_true, he, hL, hk1, hwe, hN]
      refine Ycp (p12 (by exact put_self _ _ _)) ?_
      simp (maxDischargeDepth := 9) only [↓gB, gV, gT, reduceIte, reduceCtorEq, Nat.reduceEqDiff, Nat.reduceAdd, Nat.reduceSub, Nat.reduceLeDiff, Nat.reduceLT, Int.reduceEq, Nat.reduceMul, h1, hmo, y1, k1, h2, hO1, hO2, hO3, false_and, true_and, and_false, and_true, he, hL, hk1, hwe, hN]
      refine Ycp (p10 (by exact RSl.put _ (by assumption) (by assumption)) (by exact RSl.put _ (by assumption) (by assumption)) (by exact RSl.put _ (by assumption) (by assumption)) (by assumption) (by assumption) (by assumption)) ?_
      simp (maxDischargeDepth := 9) only [↓gB, gV, gT, reduceIte, reduceCtorEq, Nat.reduceEqDiff, Nat.reduceAdd, Nat.reduceSub, Nat.reduceLeDiff, Nat.reduceLT, Int.reduceEq, Nat.reduceMul, h1, hmo, y1, k1, h2, hO1, hO2, hO3, false_and, true_and, and_false, and_true, he, hL, hk1, hwe, hN]
      refine Ycp (p17 (l := []) (m := []) (RSl.nil _ _) (RSl.nil _ _) (by decide)) ?_
      simp (maxDischargeDepth := 9) only [↓gB, gV, gT, reduceIte, reduceCtorEq, Nat.reduceEqDiff, Nat.reduceAdd, Nat.reduceSub, Nat.reduceLeDiff, Nat.reduceLT, Int.reduceEq, Nat.reduceMul, h1, hmo, y1, k1, h2, hO1, hO2, hO3, false_and, true_and, and_false, and_true, he, hL, hk1, hwe, hN]
      refine Ycp (p9) ?_
      simp (maxDischargeDepth := 9) only [↓gB, gV, gT, reduceIte, reduceCtorEq, Nat.reduceEqDiff, Nat.reduceAdd, Nat.reduceSub, Nat.reduceLeDiff, Nat.reduceLT, Int.reduceEq, Nat.reduceMul, h1, hmo, y1, k1, h2, hO1, hO2, hO3, false_and, true_and, and_false, and_true, he, hL, hk1, hwe, hN]
      exact Kup_val (by simp (maxDischargeDepth := 9) only [le_self, le_puts, le_put0, h1, l5, l4, l3, l2, l1, h2]) rfl
    obtain ⟨hl2, hks⟩ := walk_keys hwe
    have hmb := within_iff.1 (show within t 0 345686399999 = true from hmo)
    have ht0 : 0 ≤ t := hmb.1
    have ht1 : t < 345686400000 := by omega
    by_cases hwk : walkOk ar l t
    rotate_left
    · have hg : ¬ (roadsE ns ar bs = 0 ∧ 0 ≤ keyAt SNode.Key ns fr ∧ moment t = true ∧ walkE ar bs fr l = 0 ∧ walkOk ar l t) := fun q => hwk q.2.2.2.2
      have hN := wN5 (l := l) he hk1 hmo hwe
      refine Ycp (p4 (by assumption) (by assumption) (by assumption) (by assumption) (by assumption) (by assumption) (by assumption) (by assumption) (by assumption) (by assumption)) ?_
      simp (maxDischargeDepth := 9) only [↓gB, gV, gT, reduceIte, reduceCtorEq, Nat.reduceEqDiff, Nat.reduceAdd, Nat.reduceSub, Nat.reduceLeDiff, Nat.reduceLT, Int.reduceEq, Nat.reduceMul, h1, y1, k1, hmo, hO1, hO2, hO3, false_and, true_and, and_false, and_true, he, hL, hk1, hwe, hN]
      refine Ycg (g5 (by assumption) (by assumption) (by assumption) (by assumption) (by assumption) (by assumption) (by assumption)) ?_ ?_
      · exact fun _ _ _ hl q => by obtain ⟨z0, z0', z0'', w0''', w0'''', w0''''', rfl⟩ := q; exact ⟨z0, z0', z0'', (by first | exact w0''' | exact RSl.le w0''' hl | exact Row.le w0''' hl | exact hl _ _ w0''' | exact GH.le.trans w0''' hl), (by first | exact w0'''' | exact RSl.le w0'''' hl | exact Row.le w0'''' hl | exact hl _ _ w0'''' | exact GH.le.trans w0'''' hl), (by first | exact w0''''' | exact RSl.le w0''''' hl | exact Row.le w0''''' hl | exact hl _ _ w0''''' | exact GH.le.trans w0''''' hl), rfl⟩
      intro u4 G4 l4 w4
      replace l3 := GH.le.trans l3 l4
      replace l2 := GH.le.trans l2 l4
      replace l1 := GH.le.trans l1 l4
      replace y1 := l4 _ _ y1
      replace hv := RSl.le hv l4
      replace hw := RSl.le hw l4
      replace hu := RSl.le hu l4
      replace hs := RSl.le hs l4
      replace w2''' := RSl.le w2''' l4
      replace w2'''' := RSl.le w2'''' l4
      replace w2''''' := RSl.le w2''''' l4
      replace w3 := RSl.le w3 l4
      replace k1 := kn_le l4 k1
      obtain ⟨z4, z4', z4'', w4''', w4'''', w4''''', rfl⟩ := w4
      obtain ⟨aw4''', cw4''', rfl⟩ := RSl.val w4'''
      obtain ⟨aw4'''', cw4'''', rfl⟩ := RSl.val w4''''
      obtain ⟨aw4''''', cw4''''', rfl⟩ := RSl.val w4'''''
      simp (maxDischargeDepth := 9) only [↓gB, gV, gT, reduceIte, reduceCtorEq, Nat.reduceEqDiff, Nat.reduceAdd, Nat.reduceSub, Nat.reduceLeDiff, Nat.reduceLT, Int.reduceEq, Nat.reduceMul, h1, hmo, y1, k1, hO1, hO2, hO3, false_and, true_and, and_false, and_true, he, hL, hk1, hwe, hN]
      refine Ycg (g6 (by assumption) (by assumption)) ?_ ?_
      · exact upRSl _ _
      intro u5 G5 l5 w5
      replace l4 := GH.le.trans l4 l5
      replace l3 := GH.le.trans l3 l5
      replace l2 := GH.le.trans l2 l5
      replace l1 := GH.le.trans l1 l5
      replace y1 := l5 _ _ y1
      replace hv := RSl.le hv l5
      replace hw := RSl.le hw l5
      replace hu := RSl.le hu l5
      replace hs := RSl.le hs l5
      replace w2''' := RSl.le w2''' l5
      replace w2'''' := RSl.le w2'''' l5
      replace w2''''' := RSl.le w2''''' l5
      replace w3 := RSl.le w3 l5
      replace k1 := kn_le l5 k1
      replace w4''' := RSl.le w4''' l5
      replace w4'''' := RSl.le w4'''' l5
      replace w4''''' := RSl.le w4''''' l5
      obtain ⟨aw5, cw5, rfl⟩ := RSl.val w5
      simp (maxDischargeDepth := 9) only [↓gB, gV, gT, reduceIte, reduceCtorEq, Nat.reduceEqDiff, Nat.reduceAdd, Nat.reduceSub, Nat.reduceLeDiff, Nat.reduceLT, Int.reduceEq, Nat.reduceMul, h1, hmo, y1, k1, hO1, hO2, hO3, false_and, true_and, and_false, and_true, he, hL, hk1, hwe, hN]
      refine Ycp (p7 (by assumption) (by assumption) (by assumption) (by assumption) (by assumption) (by assumption) (by assumption) (by assumption) (by assumption)) ?_
      simp (maxDischargeDepth := 9) only [↓gB, gV, gT, reduceIte, reduceCtorEq, Nat.reduceEqDiff, Nat.reduceAdd, Nat.reduceSub, Nat.reduceLeDiff, Nat.reduceLT, Int.reduceEq, Nat.reduceMul, h1, hmo, y1, k1, hO1, hO2, hO3, false_and, true_and, and_false, and_true, he, hL, hk1, hwe, hN]
      refine Ycp (p8 (by assumption) (by assumption) (by assumption) (by assumption) (by assumption) (by assumption) (by assumption)) ?_
      simp (maxDischargeDepth := 9) only [↓gB, gV, gT, reduceIte, reduceCtorEq, Nat.reduceEqDiff, Nat.reduceAdd, Nat.reduceSub, Nat.reduceLeDiff, Nat.reduceLT, Int.reduceEq, Nat.reduceMul, h1, hmo, y1, k1, hO1, hO2, hO3, false_and, true_and, and_false, and_true, he, hL, hk1, hwe, hN]
      refine Ycp (p10 (by assumption) (by assumption) (by assumption) (by assumption) (by assumption) (by assumption)) ?_
      simp (maxDischargeDepth := 9) only [↓gB, gV, gT, reduceIte, reduceCtorEq, Nat.reduceEqDiff, Nat.reduceAdd, Nat.reduceSub, Nat.reduceLeDiff, Nat.reduceLT, Int.reduceEq, Nat.reduceMul, h1, hmo, y1, k1, hO1, hO2, hO3, false_and, true_and, and_false, and_true, he, hL, hk1, hwe, hN]
      refine Ycp (p11 (by assumption) (by assumption) (by assumption) (by assumption) (by assumption)) ?_
      simp (maxDischargeDepth := 9) only [↓gB, gV, gT, reduceIte, reduceCtorEq, Nat.reduceEqDiff, Nat.reduceAdd, Nat.reduceSub, Nat.reduceLeDiff, Nat.reduceLT, Int.reduceEq, Nat.reduceMul, h1, hmo, y1, k1, hO1, hO2, hO3, false_and, true_and, and_false, and_true, he, hL, hk1, hwe, hN]
      refine Ycp (p13 (by assumption) (by assumption)) ?_
      simp (maxDischargeDepth := 9) only [↓gB, gV, gT, reduceIte, reduceCtorEq, Nat.reduceEqDiff, Nat.reduceAdd, Nat.reduceSub, Nat.reduceLeDiff, Nat.reduceLT, Int.reduceEq, Nat.reduceMul, h1, hmo, y1, k1, hO1, hO2, hO3, false_and, true_and, and_false, and_true, he, hL, hk1, hwe, hN]
      refine Ycp (p14) ?_
      simp (maxDischargeDepth := 9) only [↓gB, gV, gT, reduceIte, reduceCtorEq, Nat.reduceEqDiff, Nat.reduceAdd, Nat.reduceSub, Nat.reduceLeDiff, Nat.reduceLT, Int.reduceEq, Nat.reduceMul, h1, hmo, y1, k1, hO1, hO2, hO3, false_and, true_and, and_false, and_true, he, hL, hk1, hwe, hN]
      refine Yn1 fun r2 h2 => ?_
      simp (maxDischargeDepth := 9) only [↓gB, gV, gT, reduceIte, reduceCtorEq, Nat.reduceEqDiff, Nat.reduceAdd, Nat.reduceSub, Nat.reduceLeDiff, Nat.reduceLT, Int.reduceEq, Nat.reduceMul, h1, hmo, y1, k1, h2, hO1, hO2, hO3, false_and, true_and, and_false, and_true, he, hL, hk1, hwe, hN]
      refine Ycp (p12 (by exact put_self _ _ _)) ?_
      simp (maxDischargeDepth := 9) only [↓gB, gV, gT, reduceIte, reduceCtorEq, Nat.reduceEqDiff, Nat.reduceAdd, Nat.reduceSub, Nat.reduceLeDiff, Nat.reduceLT, Int.reduceEq, Nat.reduceMul, h1, hmo, y1, k1, h2, hO1, hO2, hO3, false_and, true_and, and_false, and_true, he, hL, hk1, hwe, hN]
      refine Ycp (p10 (by exact RSl.put _ (by assumption) (by assumption)) (by exact RSl.put _ (by assumption) (by assumption)) (by exact RSl.put _ (by assumption) (by assumption)) (by assumption) (by assumption) (by assumption)) ?_
      simp (maxDischargeDepth := 9) only [↓gB, gV, gT, reduceIte, reduceCtorEq, Nat.reduceEqDiff, Nat.reduceAdd, Nat.reduceSub, Nat.reduceLeDiff, Nat.reduceLT, Int.reduceEq, Nat.reduceMul, h1, hmo, y1, k1, h2, hO1, hO2, hO3, false_and, true_and, and_false, and_true, he, hL, hk1, hwe, hN]
      refine Ycp (p15 (by exact RSl.put _ (by assumption) (by assumption)) (by exact RSl.put _ (by assumption) (by assumption)) (by assumption) (by assumption) (by assumption) (by assumption) (by assumption) (by assumption) (by assumption)) ?_
      simp (maxDischargeDepth := 9) only [↓gB, gV, gT, reduceIte, reduceCtorEq, Nat.reduceEqDiff, Nat.reduceAdd, Nat.reduceSub, Nat.reduceLeDiff, Nat.reduceLT, Int.reduceEq, Nat.reduceMul, h1, hmo, y1, k1, h2, hO1, hO2, hO3, false_and, true_and, and_false, and_true, he, hL, hk1, hwe, hN]
      refine Ycp (p16) ?_
      simp (maxDischargeDepth := 9) only [↓gB, gV, gT, reduceIte, reduceCtorEq, Nat.reduceEqDiff, Nat.reduceAdd, Nat.reduceSub, Nat.reduceLeDiff, Nat.reduceLT, Int.reduceEq, Nat.reduceMul, h1, hmo, y1, k1, h2, hO1, hO2, hO3, false_and, true_and, and_false, and_true, he, hL, hk1, hwe, hN]
      refine Ycp (p17 (l := []) (m := []) (RSl.nil _ _) (RSl.nil _ _) (by decide)) ?_
      simp (maxDischargeDepth := 9) only [↓gB, gV, gT, reduceIte, reduceCtorEq, Nat.reduceEqDiff, Nat.reduceAdd, Nat.reduceSub, Nat.reduceLeDiff, Nat.reduceLT, Int.reduceEq, Nat.reduceMul, h1, hmo, y1, k1, h2, hO1, hO2, hO3, false_and, true_and, and_false, and_true, he, hL, hk1, hwe, hN]
      refine Ycp (p9) ?_
      simp (maxDischargeDepth := 9) only [↓gB, gV, gT, reduceIte, reduceCtorEq, Nat.reduceEqDiff, Nat.reduceAdd, Nat.reduceSub, Nat.reduceLeDiff, Nat.reduceLT, Int.reduceEq, Nat.reduceMul, h1, hmo, y1, k1, h2, hO1, hO2, hO3, false_and, true_and, and_false, and_true, he, hL, hk1, hwe, hN]
      exact Kup_val (by simp (maxDischargeDepth := 9) only [le_self, le_puts, le_put0, h1, l5, l4, l3, l2, l1, h2]) rfl
    have hk2 : 0 ≤ keyAt SNode.Key ns fr := by omega
    have htl := times_len ar l t l.length
    refine Ycg (g4 (by assumption) (by assumption) (by assumption) (by assumption) (by assumption) (by assumption) (by assumption) (by assumption) (by assumption) (by assumption) (by assumption) (by assumption) (by assumption) (by assumption)) ?_ ?_
    · exact upPair _ _ _
    intro u4 G4 l4 w4
    replace l3 := GH.le.trans l3 l4
    replace l2 := GH.le.trans l2 l4
    replace l1 := GH.le.trans l1 l4
    replace y1 := l4 _ _ y1
    replace hv := RSl.le hv l4
    replace hw := RSl.le hw l4
    replace hu := RSl.le hu l4
    replace hs := RSl.le hs l4
    replace w2''' := RSl.le w2''' l4
    replace w2'''' := RSl.le w2'''' l4
    replace w2''''' := RSl.le w2''''' l4
    replace w3 := RSl.le w3 l4
    replace k1 := kn_le l4 k1
    obtain ⟨z4, w4', rfl⟩ := w4
    obtain ⟨aw4', cw4', rfl⟩ := RSl.val w4'
    simp (maxDischargeDepth := 9) only [↓gB, gV, gT, reduceIte, reduceCtorEq, Nat.reduceEqDiff, Nat.reduceAdd, Nat.reduceSub, Nat.reduceLeDiff, Nat.reduceLT, Int.reduceEq, Nat.reduceMul, h1, hmo, y1, k1, hO1, hO2, hO3, false_and, true_and, and_false, and_true, he, hL, hk1, hwe]
    refine Ycg (g5 (by assumption) (by assumption) (by assumption) (by assumption) (by assumption) (by assumption) (by assumption)) ?_ ?_
    · exact fun _ _ _ hl q => by obtain ⟨z0, z0', z0'', w0''', w0'''', w0''''', rfl⟩ := q; exact ⟨z0, z0', z0'', (by first | exact w0''' | exact RSl.le w0''' hl | exact Row.le w0''' hl | exact hl _ _ w0''' | exact GH.le.trans w0''' hl), (by first | exact w0'''' | exact RSl.le w0'''' hl | exact Row.le w0'''' hl | exact hl _ _ w0'''' | exact GH.le.trans w0'''' hl), (by first | exact w0''''' | exact RSl.le w0''''' hl | exact Row.le w0''''' hl | exact hl _ _ w0''''' | exact GH.le.trans w0''''' hl), rfl⟩
    intro u5 G5 l5 w5
    replace l4 := GH.le.trans l4 l5
    replace l3 := GH.le.trans l3 l5
    replace l2 := GH.le.trans l2 l5
    replace l1 := GH.le.trans l1 l5
    replace y1 := l5 _ _ y1
    replace hv := RSl.le hv l5
    replace hw := RSl.le hw l5
    replace hu := RSl.le hu l5
    replace hs := RSl.le hs l5
    replace w2''' := RSl.le w2''' l5
    replace w2'''' := RSl.le w2'''' l5
    replace w2''''' := RSl.le w2''''' l5
    replace w3 := RSl.le w3 l5
    replace k1 := kn_le l5 k1
    replace w4' := RSl.le w4' l5
    obtain ⟨z5, z5', z5'', w5''', w5'''', w5''''', rfl⟩ := w5
    obtain ⟨aw5''', cw5''', rfl⟩ := RSl.val w5'''
    obtain ⟨aw5'''', cw5'''', rfl⟩ := RSl.val w5''''
    obtain ⟨aw5''''', cw5''''', rfl⟩ := RSl.val w5'''''
    simp (maxDischargeDepth := 9) only [↓gB, gV, gT, reduceIte, reduceCtorEq, Nat.reduceEqDiff, Nat.reduceAdd, Nat.reduceSub, Nat.reduceLeDiff, Nat.reduceLT, Int.reduceEq, Nat.reduceMul, h1, hmo, y1, k1, hO1, hO2, hO3, false_and, true_and, and_false, and_true, he, hL, hk1, hwe]
    refine Ycg (g6 (by assumption) (by assumption)) ?_ ?_
    · exact upRSl _ _
    intro u6 G6 l6 w6
    replace l5 := GH.le.trans l5 l6
    replace l4 := GH.le.trans l4 l6
    replace l3 := GH.le.trans l3 l6
    replace l2 := GH.le.trans l2 l6
    replace l1 := GH.le.trans l1 l6
    replace y1 := l6 _ _ y1
    replace hv := RSl.le hv l6
    replace hw := RSl.le hw l6
    replace hu := RSl.le hu l6
    replace hs := RSl.le hs l6
    replace w2''' := RSl.le w2''' l6
    replace w2'''' := RSl.le w2'''' l6
    replace w2''''' := RSl.le w2''''' l6
    replace w3 := RSl.le w3 l6
    replace k1 := kn_le l6 k1
    replace w4' := RSl.le w4' l6
    replace w5''' := RSl.le w5''' l6
    replace w5'''' := RSl.le w5'''' l6
    replace w5''''' := RSl.le w5''''' l6
    obtain ⟨aw6, cw6, rfl⟩ := RSl.val w6
    simp (maxDischargeDepth := 9) only [↓gB, gV, gT, reduceIte, reduceCtorEq, Nat.reduceEqDiff, Nat.reduceAdd, Nat.reduceSub, Nat.reduceLeDiff, Nat.reduceLT, Int.reduceEq, Nat.reduceMul, h1, hmo, y1, k1, hO1, hO2, hO3, false_and, true_and, and_false, and_true, he, hL, hk1, hwe]
    refine Ycp (p7 (by assumption) (by assumption) (by assumption) (by assumption) (by assumption) (by assumption) (by assumption) (by assumption) (by assumption)) ?_
    simp (maxDischargeDepth := 9) only [↓gB, gV, gT, reduceIte, reduceCtorEq, Nat.reduceEqDiff, Nat.reduceAdd, Nat.reduceSub, Nat.reduceLeDiff, Nat.reduceLT, Int.reduceEq, Nat.reduceMul, h1, hmo, y1, k1, hO1, hO2, hO3, false_and, true_and, and_false, and_true, he, hL, hk1, hwe]
    refine Ycp (p8 (by assumption) (by assumption) (by assumption) (by assumption) (by assumption) (by assumption) (by assumption)) ?_
    simp (maxDischargeDepth := 9) only [↓gB, gV, gT, reduceIte, reduceCtorEq, Nat.reduceEqDiff, Nat.reduceAdd, Nat.reduceSub, Nat.reduceLeDiff, Nat.reduceLT, Int.reduceEq, Nat.reduceMul, h1, hmo, y1, k1, hO1, hO2, hO3, false_and, true_and, and_false, and_true, he, hL, hk1, hwe]
    refine Ycp (p10 (by assumption) (by assumption) (by assumption) (by assumption) (by assumption) (by assumption)) ?_
    simp (maxDischargeDepth := 9) only [↓gB, gV, gT, reduceIte, reduceCtorEq, Nat.reduceEqDiff, Nat.reduceAdd, Nat.reduceSub, Nat.reduceLeDiff, Nat.reduceLT, Int.reduceEq, Nat.reduceMul, h1, hmo, y1, k1, hO1, hO2, hO3, false_and, true_and, and_false, and_true, he, hL, hk1, hwe]
    refine Ycp (p11 (by assumption) (by assumption) (by assumption) (by assumption) (by assumption)) ?_
    simp (maxDischargeDepth := 9) only [↓gB, gV, gT, reduceIte, reduceCtorEq, Nat.reduceEqDiff, Nat.reduceAdd, Nat.reduceSub, Nat.reduceLeDiff, Nat.reduceLT, Int.reduceEq, Nat.reduceMul, h1, hmo, y1, k1, hO1, hO2, hO3, false_and, true_and, and_false, and_true, he, hL, hk1, hwe]
    refine Ycp (p13 (by assumption) (by assumption)) ?_
    simp (maxDischargeDepth := 9) only [↓gB, gV, gT, reduceIte, reduceCtorEq, Nat.reduceEqDiff, Nat.reduceAdd, Nat.reduceSub, Nat.reduceLeDiff, Nat.reduceLT, Int.reduceEq, Nat.reduceMul, h1, hmo, y1, k1, hO1, hO2, hO3, false_and, true_and, and_false, and_true, he, hL, hk1, hwe]
    refine Ycp (p14) ?_
    simp (maxDischargeDepth := 9) only [↓gB, gV, gT, reduceIte, reduceCtorEq, Nat.reduceEqDiff, Nat.reduceAdd, Nat.reduceSub, Nat.reduceLeDiff, Nat.reduceLT, Int.reduceEq, Nat.reduceMul, h1, hmo, y1, k1, hO1, hO2, hO3, false_and, true_and, and_false, and_true, he, hL, hk1, hwe]
    refine Yn1 fun r2 h2 => ?_
    simp (maxDischargeDepth := 9) only [↓gB, gV, gT, reduceIte, reduceCtorEq, Nat.reduceEqDiff, Nat.reduceAdd, Nat.reduceSub, Nat.reduceLeDiff, Nat.reduceLT, Int.reduceEq, Nat.reduceMul, h1, hmo, y1, k1, h2, hO1, hO2, hO3, false_and, true_and, and_false, and_true, he, hL, hk1, hwe]
    refine Ycp (p12 (by exact put_self _ _ _)) ?_
    simp (maxDischargeDepth := 9) only [↓gB, gV, gT, reduceIte, reduceCtorEq, Nat.reduceEqDiff, Nat.reduceAdd, Nat.reduceSub, Nat.reduceLeDiff, Nat.reduceLT, Int.reduceEq, Nat.reduceMul, h1, hmo, y1, k1, h2, hO1, hO2, hO3, false_and, true_and, and_false, and_true, he, hL, hk1, hwe]
    refine Ycp (p10 (by exact RSl.put _ (by assumption) (by assumption)) (by exact RSl.put _ (by assumption) (by assumption)) (by exact RSl.put _ (by assumption) (by assumption)) (by assumption) (by assumption) (by assumption)) ?_
    simp (maxDischargeDepth := 9) only [↓gB, gV, gT, reduceIte, reduceCtorEq, Nat.reduceEqDiff, Nat.reduceAdd, Nat.reduceSub, Nat.reduceLeDiff, Nat.reduceLT, Int.reduceEq, Nat.reduceMul, h1, hmo, y1, k1, h2, hO1, hO2, hO3, false_and, true_and, and_false, and_true, he, hL, hk1, hwe]
    have q7_0 := GH.le.none l6 h2
    have q7_1 := GH.le.none l5 h2
    have q7_2 := GH.le.none l4 h2
    have q7_3 := GH.le.none l3 h2
    have q7_4 := GH.le.none l2 h2
    have q7_5 := GH.le.none l1 h2
    have l7 := le_put h2 ((Go.Obj.cells #[Go.GL.V 0, Go.GL.V (Go.Proofs.YtjhfhacdjmokaaaGreatDoor.bi Bool.true)] 29, Bool.true))
    have y7 := put_self G6 r2 ((Go.Obj.cells #[Go.GL.V 0, Go.GL.V (Go.Proofs.YtjhfhacdjmokaaaGreatDoor.bi Bool.true)] 29, Bool.true))
    generalize GH.put G6 r2 ((Go.Obj.cells #[Go.GL.V 0, Go.GL.V (Go.Proofs.YtjhfhacdjmokaaaGreatDoor.bi Bool.true)] 29, Bool.true)) = G7 at *
    replace l6 := GH.le.trans l6 l7
    replace l5 := GH.le.trans l5 l7
    replace l4 := GH.le.trans l4 l7
    replace l3 := GH.le.trans l3 l7
    replace l2 := GH.le.trans l2 l7
    replace l1 := GH.le.trans l1 l7
    replace y1 := l7 _ _ y1
    replace hv := RSl.le hv l7
    replace hw := RSl.le hw l7
    replace hu := RSl.le hu l7
    replace hs := RSl.le hs l7
    replace w2''' := RSl.le w2''' l7
    replace w2'''' := RSl.le w2'''' l7
    replace w2''''' := RSl.le w2''''' l7
    replace w3 := RSl.le w3 l7
    replace k1 := kn_le l7 k1
    replace w4' := RSl.le w4' l7
    replace w5''' := RSl.le w5''' l7
    replace w5'''' := RSl.le w5'''' l7
    replace w5''''' := RSl.le w5''''' l7
    replace w6 := RSl.le w6 l7
    refine Ycg (g15 (by assumption) (by assumption) (by assumption) (by assumption) (by assumption) (by assumption) (by assumption) (by assumption) (by assumption)) ?_ ?_
    · exact upPair _ _ _
    intro u8 G8 l8 w8
    replace l7 := GH.le.trans l7 l8
    replace y7 := l8 _ _ y7
    replace l6 := GH.le.trans l6 l8
    replace l5 := GH.le.trans l5 l8
    replace l4 := GH.le.trans l4 l8
    replace l3 := GH.le.trans l3 l8
    replace l2 := GH.le.trans l2 l8
    replace l1 := GH.le.trans l1 l8
    replace y1 := l8 _ _ y1
    replace hv := RSl.le hv l8
    replace hw := RSl.le hw l8
    replace hu := RSl.le hu l8
    replace hs := RSl.le hs l8
    replace w2''' := RSl.le w2''' l8
    replace w2'''' := RSl.le w2'''' l8
    replace w2''''' := RSl.le w2''''' l8
    replace w3 := RSl.le w3 l8
    replace k1 := kn_le l8 k1
    replace w4' := RSl.le w4' l8
    replace w5''' := RSl.le w5''' l8
    replace w5'''' := RSl.le w5'''' l8
    replace w5''''' := RSl.le w5''''' l8
    replace w6 := RSl.le w6 l8
    obtain ⟨z8, w8', rfl⟩ := w8
    obtain ⟨aw8', cw8', rfl⟩ := RSl.val w8'
    simp (maxDischargeDepth := 9) only [↓gB, gV, gT, reduceIte, reduceCtorEq, Nat.reduceEqDiff, Nat.reduceAdd, Nat.reduceSub, Nat.reduceLeDiff, Nat.reduceLT, Int.reduceEq, Nat.reduceMul, h1, hmo, h2, q7_0, q7_1, q7_2, q7_3, q7_4, q7_5, y7, y1, k1, hO1, hO2, hO3, false_and, true_and, and_false, and_true, he, hL, hk1, hwe]
    refine Ycp (p16) ?_
    simp (maxDischargeDepth := 9) only [↓gB, gV, gT, reduceIte, reduceCtorEq, Nat.reduceEqDiff, Nat.reduceAdd, Nat.reduceSub, Nat.reduceLeDiff, Nat.reduceLT, Int.reduceEq, Nat.reduceMul, h1, hmo, h2, q7_0, q7_1, q7_2, q7_3, q7_4, q7_5, y7, y1, k1, hO1, hO2, hO3, false_and, true_and, and_false, and_true, he, hL, hk1, hwe]
    refine Ycp (p17 (by assumption) (by assumption) (by omega)) ?_
    simp (maxDischargeDepth := 9) only [↓gB, gV, gT, reduceIte, reduceCtorEq, Nat.reduceEqDiff, Nat.reduceAdd, Nat.reduceSub, Nat.reduceLeDiff, Nat.reduceLT, Int.reduceEq, Nat.reduceMul, h1, hmo, h2, q7_0, q7_1, q7_2, q7_3, q7_4, q7_5, y7, y1, k1, hO1, hO2, hO3, false_and, true_and, and_false, and_true, he, hL, hk1, hwe]
    refine Ycp (p9) ?_
    simp (maxDischargeDepth := 9) only [↓gB, gV, gT, reduceIte, reduceCtorEq, Nat.reduceEqDiff, Nat.reduceAdd, Nat.reduceSub, Nat.reduceLeDiff, Nat.reduceLT, Int.reduceEq, Nat.reduceMul, h1, hmo, h2, q7_0, q7_1, q7_2, q7_3, q7_4, q7_5, y7, y1, k1, hO1, hO2, hO3, false_and, true_and, and_false, and_true, he, hL, hk1, hwe]
    exact Kup_val (by simp (maxDischargeDepth := 9) only [le_self, le_puts, le_put0, h1, h2, q7_0, q7_1, q7_2, q7_3, q7_4, q7_5, l8, l7, l6, l5, l4, l3, l2, l1]) rfl
  · by_cases hk1 : keyAt SNode.Key ns fr < 0
    · have hg : ¬ (roadsE ns ar bs = 0 ∧ 0 ≤ keyAt SNode.Key ns fr ∧ moment t = true ∧ walkE ar bs fr l = 0 ∧ walkOk ar l t) := fun q => absurd q.2.1 (by omega)
      have hN := wN2 (bs := bs) (l := l) (t := t) he hk1
      refine Ycp (p4 (by assumption) (by assumption) (by assumption) (by assumption) (by assumption) (by assumption) (by assumption) (by assumption) (by assumption) (by assumption)) ?_
      simp (maxDischargeDepth := 9) only [↓gB, gV, gT, reduceIte, reduceCtorEq, Nat.reduceEqDiff, Nat.reduceAdd, Nat.reduceSub, Nat.reduceLeDiff, Nat.reduceLT, Int.reduceEq, Nat.reduceMul, h1, y1, k1, hO1, hO2, hO3, false_and, true_and, and_false, and_true, he, hL, hk1, hN]
      refine Ycg (g5 (by assumption) (by assumption) (by assumption) (by assumption) (by assumption) (by assumption) (by assumption)) ?_ ?_
      · exact fun _ _ _ hl q => by obtain ⟨z0, z0', z0'', w0''', w0'''', w0''''', rfl⟩ := q; exact ⟨z0, z0', z0'', (by first | exact w0''' | exact RSl.le w0''' hl | exact Row.le w0''' hl | exact hl _ _ w0''' | exact GH.le.trans w0''' hl), (by first | exact w0'''' | exact RSl.le w0'''' hl | exact Row.le w0'''' hl | exact hl _ _ w0'''' | exact GH.le.trans w0'''' hl), (by first | exact w0''''' | exact RSl.le w0''''' hl | exact Row.le w0''''' hl | exact hl _ _ w0''''' | exact GH.le.trans w0''''' hl), rfl⟩
      intro u4 G4 l4 w4
      replace l3 := GH.le.trans l3 l4
      replace l2 := GH.le.trans l2 l4
      replace l1 := GH.le.trans l1 l4
      replace y1 := l4 _ _ y1
      replace hv := RSl.le hv l4
      replace hw := RSl.le hw l4
      replace hu := RSl.le hu l4
      replace hs := RSl.le hs l4
      replace w2''' := RSl.le w2''' l4
      replace w2'''' := RSl.le w2'''' l4
      replace w2''''' := RSl.le w2''''' l4
      replace w3 := RSl.le w3 l4
      replace k1 := kn_le l4 k1
      obtain ⟨z4, z4', z4'', w4''', w4'''', w4''''', rfl⟩ := w4
      obtain ⟨aw4''', cw4''', rfl⟩ := RSl.val w4'''
      obtain ⟨aw4'''', cw4'''', rfl⟩ := RSl.val w4''''
      obtain ⟨aw4''''', cw4''''', rfl⟩ := RSl.val w4'''''
      simp (maxDischargeDepth := 9) only [↓gB, gV, gT, reduceIte, reduceCtorEq, Nat.reduceEqDiff, Nat.reduceAdd, Nat.reduceSub, Nat.reduceLeDiff, Nat.reduceLT, Int.reduceEq, Nat.reduceMul, h1, y1, k1, hO1, hO2, hO3, false_and, true_and, and_false, and_true, he, hL, hk1, hN]
      refine Ycg (g6 (by assumption) (by assumption)) ?_ ?_
      · exact upRSl _ _
      intro u5 G5 l5 w5
      replace l4 := GH.le.trans l4 l5
      replace l3 := GH.le.trans l3 l5
      replace l2 := GH.le.trans l2 l5
      replace l1 := GH.le.trans l1 l5
      replace y1 := l5 _ _ y1
      replace hv := RSl.le hv l5
      replace hw := RSl.le hw l5
      replace hu := RSl.le hu l5
      replace hs := RSl.le hs l5
      replace w2''' := RSl.le w2''' l5
      replace w2'''' := RSl.le w2'''' l5
      replace w2''''' := RSl.le w2''''' l5
      replace w3 := RSl.le w3 l5
      replace k1 := kn_le l5 k1
      replace w4''' := RSl.le w4''' l5
      replace w4'''' := RSl.le w4'''' l5
      replace w4''''' := RSl.le w4''''' l5
      obtain ⟨aw5, cw5, rfl⟩ := RSl.val w5
      simp (maxDischargeDepth := 9) only [↓gB, gV, gT, reduceIte, reduceCtorEq, Nat.reduceEqDiff, Nat.reduceAdd, Nat.reduceSub, Nat.reduceLeDiff, Nat.reduceLT, Int.reduceEq, Nat.reduceMul, h1, y1, k1, hO1, hO2, hO3, false_and, true_and, and_false, and_true, he, hL, hk1, hN]
      refine Ycp (p7 (by assumption) (by assumption) (by assumption) (by assumption) (by assumption) (by assumption) (by assumption) (by assumption) (by assumption)) ?_
      simp (maxDischargeDepth := 9) only [↓gB, gV, gT, reduceIte, reduceCtorEq, Nat.reduceEqDiff, Nat.reduceAdd, Nat.reduceSub, Nat.reduceLeDiff, Nat.reduceLT, Int.reduceEq, Nat.reduceMul, h1, y1, k1, hO1, hO2, hO3, false_and, true_and, and_false, and_true, he, hL, hk1, hN]
      refine Ycp (p8 (by assumption) (by assumption) (by assumption) (by assumption) (by assumption) (by assumption) (by assumption)) ?_
      simp (maxDischargeDepth := 9) only [↓gB, gV, gT, reduceIte, reduceCtorEq, Nat.reduceEqDiff, Nat.reduceAdd, Nat.reduceSub, Nat.reduceLeDiff, Nat.reduceLT, Int.reduceEq, Nat.reduceMul, h1, y1, k1, hO1, hO2, hO3, false_and, true_and, and_false, and_true, he, hL, hk1, hN]
      refine Ycp (p10 (by assumption) (by assumption) (by assumption) (by assumption) (by assumption) (by assumption)) ?_
      simp (maxDischargeDepth := 9) only [↓gB, gV, gT, reduceIte, reduceCtorEq, Nat.reduceEqDiff, Nat.reduceAdd, Nat.reduceSub, Nat.reduceLeDiff, Nat.reduceLT, Int.reduceEq, Nat.reduceMul, h1, y1, k1, hO1, hO2, hO3, false_and, true_and, and_false, and_true, he, hL, hk1, hN]
      refine Ycp (p13 (by assumption) (by assumption)) ?_
      simp (maxDischargeDepth := 9) only [↓gB, gV, gT, reduceIte, reduceCtorEq, Nat.reduceEqDiff, Nat.reduceAdd, Nat.reduceSub, Nat.reduceLeDiff, Nat.reduceLT, Int.reduceEq, Nat.reduceMul, h1, y1, k1, hO1, hO2, hO3, false_and, true_and, and_false, and_true, he, hL, hk1, hN]
      refine Ycp (p14) ?_
      simp (maxDischargeDepth := 9) only [↓gB, gV, gT, reduceIte, reduceCtorEq, Nat.reduceEqDiff, Nat.reduceAdd, Nat.reduceSub, Nat.reduceLeDiff, Nat.reduceLT, Int.reduceEq, Nat.reduceMul, h1, y1, k1, hO1, hO2, hO3, false_and, true_and, and_false, and_true, he, hL, hk1, hN]
      refine Yn1 fun r2 h2 => ?_
      simp (maxDischargeDepth := 9) only [↓gB, gV, gT, reduceIte, reduceCtorEq, Nat.reduceEqDiff, Nat.reduceAdd, Nat.reduceSub, Nat.reduceLeDiff, Nat.reduceLT, Int.reduceEq, Nat.reduceMul, h1, y1, k1, h2, hO1, hO2, hO3, false_and, true_and, and_false, and_true, he, hL, hk1, hN]
      refine Ycp (p12 (by exact put_self _ _ _)) ?_
      simp (maxDischargeDepth := 9) only [↓gB, gV, gT, reduceIte, reduceCtorEq, Nat.reduceEqDiff, Nat.reduceAdd, Nat.reduceSub, Nat.reduceLeDiff, Nat.reduceLT, Int.reduceEq, Nat.reduceMul, h1, y1, k1, h2, hO1, hO2, hO3, false_and, true_and, and_false, and_true, he, hL, hk1, hN]
      refine Ycp (p17 (l := []) (m := []) (RSl.nil _ _) (RSl.nil _ _) (by decide)) ?_
      simp (maxDischargeDepth := 9) only [↓gB, gV, gT, reduceIte, reduceCtorEq, Nat.reduceEqDiff, Nat.reduceAdd, Nat.reduceSub, Nat.reduceLeDiff, Nat.reduceLT, Int.reduceEq, Nat.reduceMul, h1, y1, k1, h2, hO1, hO2, hO3, false_and, true_and, and_false, and_true, he, hL, hk1, hN]
      refine Ycp (p9) ?_
      simp (maxDischargeDepth := 9) only [↓gB, gV, gT, reduceIte, reduceCtorEq, Nat.reduceEqDiff, Nat.reduceAdd, Nat.reduceSub, Nat.reduceLeDiff, Nat.reduceLT, Int.reduceEq, Nat.reduceMul, h1, y1, k1, h2, hO1, hO2, hO3, false_and, true_and, and_false, and_true, he, hL, hk1, hN]
      exact Kup_val (by simp (maxDischargeDepth := 9) only [le_self, le_puts, le_put0, h1, l5, l4, l3, l2, l1, h2]) rfl
    by_cases hmo : moment t = true
    rotate_left
    · have hmo' : moment t = false := by simpa using hmo
      have hg : ¬ (roadsE ns ar bs = 0 ∧ 0 ≤ keyAt SNode.Key ns fr ∧ moment t = true ∧ walkE ar bs fr l = 0 ∧ walkOk ar l t) := fun q => hmo q.2.2.1
      have hN := wN3 (l := l) he hk1 hmo'
      refine Ycp (p4 (by assumption) (by assumption) (by assumption) (by assumption) (by assumption) (by assumption) (by assumption) (by assumption) (by assumption) (by assumption)) ?_
      simp (maxDischargeDepth := 9) only [↓gB, gV, gT, reduceIte, reduceCtorEq, Nat.reduceEqDiff, Nat.reduceAdd, Nat.reduceSub, Nat.reduceLeDiff, Nat.reduceLT, Int.reduceEq, Nat.reduceMul, h1, y1, k1, hmo', hO1, hO2, hO3, false_and, true_and, and_false, and_true, he, hL, hk1, hN]
      refine Ycg (g5 (by assumption) (by assumption) (by assumption) (by assumption) (by assumption) (by assumption) (by assumption)) ?_ ?_
      · exact fun _ _ _ hl q => by obtain ⟨z0, z0', z0'', w0''', w0'''', w0''''', rfl⟩ := q; exact ⟨z0, z0', z0'', (by first | exact w0''' | exact RSl.le w0''' hl | exact Row.le w0''' hl | exact hl _ _ w0''' | exact GH.le.trans w0''' hl), (by first | exact w0'''' | exact RSl.le w0'''' hl | exact Row.le w0'''' hl | exact hl _ _ w0'''' | exact GH.le.trans w0'''' hl), (by first | exact w0''''' | exact RSl.le w0''''' hl | exact Row.le w0''''' hl | exact hl _ _ w0''''' | exact GH.le.trans w0''''' hl), rfl⟩
      intro u4 G4 l4 w4
      replace l3 := GH.le.trans l3 l4
      replace l2 := GH.le.trans l2 l4
      replace l1 := GH.le.trans l1 l4
      replace y1 := l4 _ _ y1
      replace hv := RSl.le hv l4
      replace hw := RSl.le hw l4
      replace hu := RSl.le hu l4
      replace hs := RSl.le hs l4
      replace w2''' := RSl.le w2''' l4
      replace w2'''' := RSl.le w2'''' l4
      replace w2''''' := RSl.le w2''''' l4
      replace w3 := RSl.le w3 l4
      replace k1 := kn_le l4 k1
      obtain ⟨z4, z4', z4'', w4''', w4'''', w4''''', rfl⟩ := w4
      obtain ⟨aw4''', cw4''', rfl⟩ := RSl.val w4'''
      obtain ⟨aw4'''', cw4'''', rfl⟩ := RSl.val w4''''
      obtain ⟨aw4''''', cw4''''', rfl⟩ := RSl.val w4'''''
      simp (maxDischargeDepth := 9) only [↓gB, gV, gT, reduceIte, reduceCtorEq, Nat.reduceEqDiff, Nat.reduceAdd, Nat.reduceSub, Nat.reduceLeDiff, Nat.reduceLT, Int.reduceEq, Nat.reduceMul, h1, hmo', y1, k1, hO1, hO2, hO3, false_and, true_and, and_false, and_true, he, hL, hk1, hN]
      refine Ycg (g6 (by assumption) (by assumption)) ?_ ?_
      · exact upRSl _ _
      intro u5 G5 l5 w5
      replace l4 := GH.le.trans l4 l5
      replace l3 := GH.le.trans l3 l5
      replace l2 := GH.le.trans l2 l5
      replace l1 := GH.le.trans l1 l5
      replace y1 := l5 _ _ y1
      replace hv := RSl.le hv l5
      replace hw := RSl.le hw l5
      replace hu := RSl.le hu l5
      replace hs := RSl.le hs l5
      replace w2''' := RSl.le w2''' l5
      replace w2'''' := RSl.le w2'''' l5
      replace w2''''' := RSl.le w2''''' l5
      replace w3 := RSl.le w3 l5
      replace k1 := kn_le l5 k1
      replace w4''' := RSl.le w4''' l5
      replace w4'''' := RSl.le w4'''' l5
      replace w4''''' := RSl.le w4''''' l5
      obtain ⟨aw5, cw5, rfl⟩ := RSl.val w5
      simp (maxDischargeDepth := 9) only [↓gB, gV, gT, reduceIte, reduceCtorEq, Nat.reduceEqDiff, Nat.reduceAdd, Nat.reduceSub, Nat.reduceLeDiff, Nat.reduceLT, Int.reduceEq, Nat.reduceMul, h1, hmo', y1, k1, hO1, hO2, hO3, false_and, true_and, and_false, and_true, he, hL, hk1, hN]
      refine Ycp (p7 (by assumption) (by assumption) (by assumption) (by assumption) (by assumption) (by assumption) (by assumption) (by assumption) (by assumption)) ?_
      simp (maxDischargeDepth := 9) only [↓gB, gV, gT, reduceIte, reduceCtorEq, Nat.reduceEqDiff, Nat.reduceAdd, Nat.reduceSub, Nat.reduceLeDiff, Nat.reduceLT, Int.reduceEq, Nat.reduceMul, h1, hmo', y1, k1, hO1, hO2, hO3, false_and, true_and, and_false, and_true, he, hL, hk1, hN]
      refine Ycp (p8 (by assumption) (by assumption) (by assumption) (by assumption) (by assumption) (by assumption) (by assumption)) ?_
      simp (maxDischargeDepth := 9) only [↓gB, gV, gT, reduceIte, reduceCtorEq, Nat.reduceEqDiff, Nat.reduceAdd, Nat.reduceSub, Nat.reduceLeDiff, Nat.reduceLT, Int.reduceEq, Nat.reduceMul, h1, hmo', y1, k1, hO1, hO2, hO3, false_and, true_and, and_false, and_true, he, hL, hk1, hN]
      refine Ycp (p10 (by assumption) (by assumption) (by assumption) (by assumption) (by assumption) (by assumption)) ?_
      simp (maxDischargeDepth := 9) only [↓gB, gV, gT, reduceIte, reduceCtorEq, Nat.reduceEqDiff, Nat.reduceAdd, Nat.reduceSub, Nat.reduceLeDiff, Nat.reduceLT, Int.reduceEq, Nat.reduceMul, h1, hmo', y1, k1, hO1, hO2, hO3, false_and, true_and, and_false, and_true, he, hL, hk1, hN]
      refine Ycp (p13 (by assumption) (by assumption)) ?_
      simp (maxDischargeDepth := 9) only [↓gB, gV, gT, reduceIte, reduceCtorEq, Nat.reduceEqDiff, Nat.reduceAdd, Nat.reduceSub, Nat.reduceLeDiff, Nat.reduceLT, Int.reduceEq, Nat.reduceMul, h1, hmo', y1, k1, hO1, hO2, hO3, false_and, true_and, and_false, and_true, he, hL, hk1, hN]
      refine Ycp (p14) ?_
      simp (maxDischargeDepth := 9) only [↓gB, gV, gT, reduceIte, reduceCtorEq, Nat.reduceEqDiff, Nat.reduceAdd, Nat.reduceSub, Nat.reduceLeDiff, Nat.reduceLT, Int.reduceEq, Nat.reduceMul, h1, hmo', y1, k1, hO1, hO2, hO3, false_and, true_and, and_false, and_true, he, hL, hk1, hN]
      refine Yn1 fun r2 h2 => ?_
      simp (maxDischargeDepth := 9) only [↓gB, gV, gT, reduceIte, reduceCtorEq, Nat.reduceEqDiff, Nat.reduceAdd, Nat.reduceSub, Nat.reduceLeDiff, Nat.reduceLT, Int.reduceEq, Nat.reduceMul, h1, hmo', y1, k1, h2, hO1, hO2, hO3, false_and, true_and, and_false, and_true, he, hL, hk1, hN]
      refine Ycp (p12 (by exact put_self _ _ _)) ?_
      simp (maxDischargeDepth := 9) only [↓gB, gV, gT, reduceIte, reduceCtorEq, Nat.reduceEqDiff, Nat.reduceAdd, Nat.reduceSub, Nat.reduceLeDiff, Nat.reduceLT, Int.reduceEq, Nat.reduceMul, h1, hmo', y1, k1, h2, hO1, hO2, hO3, false_and, true_and, and_false, and_true, he, hL, hk1, hN]
      refine Ycp (p17 (l := []) (m := []) (RSl.nil _ _) (RSl.nil _ _) (by decide)) ?_
      simp (maxDischargeDepth := 9) only [↓gB, gV, gT, reduceIte, reduceCtorEq, Nat.reduceEqDiff, Nat.reduceAdd, Nat.reduceSub, Nat.reduceLeDiff, Nat.reduceLT, Int.reduceEq, Nat.reduceMul, h1, hmo', y1, k1, h2, hO1, hO2, hO3, false_and, true_and, and_false, and_true, he, hL, hk1, hN]
      refine Ycp (p9) ?_
      simp (maxDischargeDepth := 9) only [↓gB, gV, gT, reduceIte, reduceCtorEq, Nat.reduceEqDiff, Nat.reduceAdd, Nat.reduceSub, Nat.reduceLeDiff, Nat.reduceLT, Int.reduceEq, Nat.reduceMul, h1, hmo', y1, k1, h2, hO1, hO2, hO3, false_and, true_and, and_false, and_true, he, hL, hk1, hN]
      exact Kup_val (by simp (maxDischargeDepth := 9) only [le_self, le_puts, le_put0, h1, l5, l4, l3, l2, l1, h2]) rfl
    by_cases hwe : walkE ar bs fr l = 0
    rotate_left
    · have hg : ¬ (roadsE ns ar bs = 0 ∧ 0 ≤ keyAt SNode.Key ns fr ∧ moment t = true ∧ walkE ar bs fr l = 0 ∧ walkOk ar l t) := fun q => hwe q.2.2.2.1
      have hN := wN4 (l := l) he hk1 hmo hwe
      refine Ycp (p4 (by assumption) (by assumption) (by assumption) (by assumption) (by assumption) (by assumption) (by assumption) (by assumption) (by assumption) (by assumption)) ?_
      simp (maxDischargeDepth := 9) only [↓gB, gV, gT, reduceIte, reduceCtorEq, Nat.reduceEqDiff, Nat.reduceAdd, Nat.reduceSub, Nat.reduceLeDiff, Nat.reduceLT, Int.reduceEq, Nat.reduceMul, h1, y1, k1, hmo, hO1, hO2, hO3, false_and, true_and, and_false, and_true, he, hL, hk1, hwe, hN]
      refine Ycg (g5 (by assumption) (by assumption) (by assumption) (by assumption) (by assumption) (by assumption) (by assumption)) ?_ ?_
      · exact fun _ _ _ hl q => by obtain ⟨z0, z0', z0'', w0''', w0'''', w0''''', rfl⟩ := q; exact ⟨z0, z0', z0'', (by first | exact w0''' | exact RSl.le w0''' hl | exact Row.le w0''' hl | exact hl _ _ w0''' | exact GH.le.trans w0''' hl), (by first | exact w0'''' | exact RSl.le w0'''' hl | exact Row.le w0'''' hl | exact hl _ _ w0'''' | exact GH.le.trans w0'''' hl), (by first | exact w0''''' | exact RSl.le w0''''' hl | exact Row.le w0''''' hl | exact hl _ _ w0''''' | exact GH.le.trans w0''''' hl), rfl⟩
      intro u4 G4 l4 w4
      replace l3 := GH.le.trans l3 l4
      replace l2 := GH.le.trans l2 l4
      replace l1 := GH.le.trans l1 l4
      replace y1 := l4 _ _ y1
      replace hv := RSl.le hv l4
      replace hw := RSl.le hw l4
      replace hu := RSl.le hu l4
      replace hs := RSl.le hs l4
      replace w2''' := RSl.le w2''' l4
      replace w2'''' := RSl.le w2'''' l4
      replace w2''''' := RSl.le w2''''' l4
      replace w3 := RSl.le w3 l4
      replace k1 := kn_le l4 k1
      obtain ⟨z4, z4', z4'', w4''', w4'''', w4''''', rfl⟩ := w4
      obtain ⟨aw4''', cw4''', rfl⟩ := RSl.val w4'''
      obtain ⟨aw4'''', cw4'''', rfl⟩ := RSl.val w4''''
      obtain ⟨aw4''''', cw4''''', rfl⟩ := RSl.val w4'''''
      simp (maxDischargeDepth := 9) only [↓gB, gV, gT, reduceIte, reduceCtorEq, Nat.reduceEqDiff, Nat.reduceAdd, Nat.reduceSub, Nat.reduceLeDiff, Nat.reduceLT, Int.reduceEq, Nat.reduceMul, h1, hmo, y1, k1, hO1, hO2, hO3, false_and, true_and, and_false, and_true, he, hL, hk1, hwe, hN]
      refine Ycg (g6 (by assumption) (by assumption)) ?_ ?_
      · exact upRSl _ _
      intro u5 G5 l5 w5
      replace l4 := GH.le.trans l4 l5
      replace l3 := GH.le.trans l3 l5
      replace l2 := GH.le.trans l2 l5
      replace l1 := GH.le.trans l1 l5
      replace y1 := l5 _ _ y1
      replace hv := RSl.le hv l5
      replace hw := RSl.le hw l5
      replace hu := RSl.le hu l5
      replace hs := RSl.le hs l5
      replace w2''' := RSl.le w2''' l5
      replace w2'''' := RSl.le w2'''' l5
      replace w2''''' := RSl.le w2''''' l5
      replace w3 := RSl.le w3 l5
      replace k1 := kn_le l5 k1
      replace w4''' := RSl.le w4''' l5
      replace w4'''' := RSl.le w4'''' l5
      replace w4''''' := RSl.le w4''''' l5
      obtain ⟨aw5, cw5, rfl⟩ := RSl.val w5
      simp (maxDischargeDepth := 9) only [↓gB, gV, gT, reduceIte, reduceCtorEq, Nat.reduceEqDiff, Nat.reduceAdd, Nat.reduceSub, Nat.reduceLeDiff, Nat.reduceLT, Int.reduceEq, Nat.reduceMul, h1, hmo, y1, k1, hO1, hO2, hO3, false_and, true_and, and_false, and_true, he, hL, hk1, hwe, hN]
      refine Ycp (p7 (by assumption) (by assumption) (by assumption) (by assumption) (by assumption) (by assumption) (by assumption) (by assumption) (by assumption)) ?_
      simp (maxDischargeDepth := 9) only [↓gB, gV, gT, reduceIte, reduceCtorEq, Nat.reduceEqDiff, Nat.reduceAdd, Nat.reduceSub, Nat.reduceLeDiff, Nat.reduceLT, Int.reduceEq, Nat.reduceMul, h1, hmo, y1, k1, hO1, hO2, hO3, false_and, true_and, and_false, and_true, he, hL, hk1, hwe, hN]
      refine Ycp (p8 (by assumption) (by assumption) (by assumption) (by assumption) (by assumption) (by assumption) (by assumption)) ?_
      simp (maxDischargeDepth := 9) only [↓gB, gV, gT, reduceIte, reduceCtorEq, Nat.reduceEqDiff, Nat.reduceAdd, Nat.reduceSub, Nat.reduceLeDiff, Nat.reduceLT, Int.reduceEq, Nat.reduceMul, h1, hmo, y1, k1, hO1, hO2, hO3, false_and, true_and, and_false, and_true, he, hL, hk1, hwe, hN]
      refine Ycp (p10 (by assumption) (by assumption) (by assumption) (by assumption) (by assumption) (by assumption)) ?_
      simp (maxDischargeDepth := 9) only [↓gB, gV, gT, reduceIte, reduceCtorEq, Nat.reduceEqDiff, Nat.reduceAdd, Nat.reduceSub, Nat.reduceLeDiff, Nat.reduceLT, Int.reduceEq, Nat.reduceMul, h1, hmo, y1, k1, hO1, hO2, hO3, false_and, true_and, and_false, and_true, he, hL, hk1, hwe, hN]
      refine Ycp (p13 (by assumption) (by assumption)) ?_
      simp (maxDischargeDepth := 9) only [↓gB, gV, gT, reduceIte, reduceCtorEq, Nat.reduceEqDiff, Nat.reduceAdd, Nat.reduceSub, Nat.reduceLeDiff, Nat.reduceLT, Int.reduceEq, Nat.reduceMul, h1, hmo, y1, k1, hO1, hO2, hO3, false_and, true_and, and_false, and_true, he, hL, hk1, hwe, hN]
      refine Ycp (p14) ?_
      simp (maxDischargeDepth := 9) only [↓gB, gV, gT, reduceIte, reduceCtorEq, Nat.reduceEqDiff, Nat.reduceAdd, Nat.reduceSub, Nat.reduceLeDiff, Nat.reduceLT, Int.reduceEq, Nat.reduceMul, h1, hmo, y1, k1, hO1, hO2, hO3, false_and, true_and, and_false, and_true, he, hL, hk1, hwe, hN]
      refine Yn1 fun r2 h2 => ?_
      simp (maxDischargeDepth := 9) only [↓gB, gV, gT, reduceIte, reduceCtorEq, Nat.reduceEqDiff, Nat.reduceAdd, Nat.reduceSub, Nat.reduceLeDiff, Nat.reduceLT, Int.reduceEq, Nat.reduceMul, h1, hmo, y1, k1, h2, hO1, hO2, hO3, false_and, true_and, and_false, and_true, he, hL, hk1, hwe, hN]
      refine Ycp (p12 (by exact put_self _ _ _)) ?_
      simp (maxDischargeDepth := 9) only [↓gB, gV, gT, reduceIte, reduceCtorEq, Nat.reduceEqDiff, Nat.reduceAdd, Nat.reduceSub, Nat.reduceLeDiff, Nat.reduceLT, Int.reduceEq, Nat.reduceMul, h1, hmo, y1, k1, h2, hO1, hO2, hO3, false_and, true_and, and_false, and_true, he, hL, hk1, hwe, hN]
      refine Ycp (p10 (by exact RSl.put _ (by assumption) (by assumption)) (by exact RSl.put _ (by assumption) (by assumption)) (by exact RSl.put _ (by assumption) (by assumption)) (by assumption) (by assumption) (by assumption)) ?_
      simp (maxDischargeDepth := 9) only [↓gB, gV, gT, reduceIte, reduceCtorEq, Nat.reduceEqDiff, Nat.reduceAdd, Nat.reduceSub, Nat.reduceLeDiff, Nat.reduceLT, Int.reduceEq, Nat.reduceMul, h1, hmo, y1, k1, h2, hO1, hO2, hO3, false_and, true_and, and_false, and_true, he, hL, hk1, hwe, hN]
      refine Ycp (p17 (l := []) (m := []) (RSl.nil _ _) (RSl.nil _ _) (by decide)) ?_
      simp (maxDischargeDepth := 9) only [↓gB, gV, gT, reduceIte, reduceCtorEq, Nat.reduceEqDiff, Nat.reduceAdd, Nat.reduceSub, Nat.reduceLeDiff, Nat.reduceLT, Int.reduceEq, Nat.reduceMul, h1, hmo, y1, k1, h2, hO1, hO2, hO3, false_and, true_and, and_false, and_true, he, hL, hk1, hwe, hN]
      refine Ycp (p9) ?_
      simp (maxDischargeDepth := 9) only [↓gB, gV, gT, reduceIte, reduceCtorEq, Nat.reduceEqDiff, Nat.reduceAdd, Nat.reduceSub, Nat.reduceLeDiff, Nat.reduceLT, Int.reduceEq, Nat.reduceMul, h1, hmo, y1, k1, h2, hO1, hO2, hO3, false_and, true_and, and_false, and_true, he, hL, hk1, hwe, hN]
      exact Kup_val (by simp (maxDischargeDepth := 9) only [le_self, le_puts, le_put0, h1, l5, l4, l3, l2, l1, h2]) rfl
    obtain ⟨hl2, hks⟩ := walk_keys hwe
    have hmb := within_iff.1 (show within t 0 345686399999 = true from hmo)
    have ht0 : 0 ≤ t := hmb.1
    have ht1 : t < 345686400000 := by omega
    by_cases hwk : walkOk ar l t
    rotate_left
    · have hg : ¬ (roadsE ns ar bs = 0 ∧ 0 ≤ keyAt SNode.Key ns fr ∧ moment t = true ∧ walkE ar bs fr l = 0 ∧ walkOk ar l t) := fun q => hwk q.2.2.2.2
      have hN := wN5 (l := l) he hk1 hmo hwe
      refine Ycp (p4 (by assumption) (by assumption) (by assumption) (by assumption) (by assumption) (by assumption) (by assumption) (by assumption) (by assumption) (by assumption)) ?_
      simp (maxDischargeDepth := 9) only [↓gB, gV, gT, reduceIte, reduceCtorEq, Nat.reduceEqDiff, Nat.reduceAdd, Nat.reduceSub, Nat.reduceLeDiff, Nat.reduceLT, Int.reduceEq, Nat.reduceMul, h1, y1, k1, hmo, hO1, hO2, hO3, false_and, true_and, and_false, and_true, he, hL, hk1, hwe, hN]
      refine Ycg (g5 (by assumption) (by assumption) (by assumption) (by assumption) (by assumption) (by assumption) (by assumption)) ?_ ?_
      · exact fun _ _ _ hl q => by obtain ⟨z0, z0', z0'', w0''', w0'''', w0''''', rfl⟩ := q; exact ⟨z0, z0', z0'', (by first | exact w0''' | exact RSl.le w0''' hl | exact Row.le w0''' hl | exact hl _ _ w0''' | exact GH.le.trans w0''' hl), (by first | exact w0'''' | exact RSl.le w0'''' hl | exact Row.le w0'''' hl | exact hl _ _ w0'''' | exact GH.le.trans w0'''' hl), (by first | exact w0''''' | exact RSl.le w0''''' hl | exact Row.le w0''''' hl | exact hl _ _ w0''''' | exact GH.le.trans w0''''' hl), rfl⟩
      intro u4 G4 l4 w4
      replace l3 := GH.le.trans l3 l4
      replace l2 := GH.le.trans l2 l4
      replace l1 := GH.le.trans l1 l4
      replace y1 := l4 _ _ y1
      replace hv := RSl.le hv l4
      replace hw := RSl.le hw l4
      replace hu := RSl.le hu l4
      replace hs := RSl.le hs l4
      replace w2''' := RSl.le w2''' l4
      replace w2'''' := RSl.le w2'''' l4
      replace w2''''' := RSl.le w2''''' l4
      replace w3 := RSl.le w3 l4
      replace k1 := kn_le l4 k1
      obtain ⟨z4, z4', z4'', w4''', w4'''', w4''''', rfl⟩ := w4
      obtain ⟨aw4''', cw4''', rfl⟩ := RSl.val w4'''
      obtain ⟨aw4'''', cw4'''', rfl⟩ := RSl.val w4''''
      obtain ⟨aw4''''', cw4''''', rfl⟩ := RSl.val w4'''''
      simp (maxDischargeDepth := 9) only [↓gB, gV, gT, reduceIte, reduceCtorEq, Nat.reduceEqDiff, Nat.reduceAdd, Nat.reduceSub, Nat.reduceLeDiff, Nat.reduceLT, Int.reduceEq, Nat.reduceMul, h1, hmo, y1, k1, hO1, hO2, hO3, false_and, true_and, and_false, and_true, he, hL, hk1, hwe, hN]
      refine Ycg (g6 (by assumption) (by assumption)) ?_ ?_
      · exact upRSl _ _
      intro u5 G5 l5 w5
      replace l4 := GH.le.trans l4 l5
      replace l3 := GH.le.trans l3 l5
      replace l2 := GH.le.trans l2 l5
      replace l1 := GH.le.trans l1 l5
      replace y1 := l5 _ _ y1
      replace hv := RSl.le hv l5
      replace hw := RSl.le hw l5
      replace hu := RSl.le hu l5
      replace hs := RSl.le hs l5
      replace w2''' := RSl.le w2''' l5
      replace w2'''' := RSl.le w2'''' l5
      replace w2''''' := RSl.le w2''''' l5
      replace w3 := RSl.le w3 l5
      replace k1 := kn_le l5 k1
      replace w4''' := RSl.le w4''' l5
      replace w4'''' := RSl.le w4'''' l5
      replace w4''''' := RSl.le w4''''' l5
      obtain ⟨aw5, cw5, rfl⟩ := RSl.val w5
      simp (maxDischargeDepth := 9) only [↓gB, gV, gT, reduceIte, reduceCtorEq, Nat.reduceEqDiff, Nat.reduceAdd, Nat.reduceSub, Nat.reduceLeDiff, Nat.reduceLT, Int.reduceEq, Nat.reduceMul, h1, hmo, y1, k1, hO1, hO2, hO3, false_and, true_and, and_false, and_true, he, hL, hk1, hwe, hN]
      refine Ycp (p7 (by assumption) (by assumption) (by assumption) (by assumption) (by assumption) (by assumption) (by assumption) (by assumption) (by assumption)) ?_
      simp (maxDischargeDepth := 9) only [↓gB, gV, gT, reduceIte, reduceCtorEq, Nat.reduceEqDiff, Nat.reduceAdd, Nat.reduceSub, Nat.reduceLeDiff, Nat.reduceLT, Int.reduceEq, Nat.reduceMul, h1, hmo, y1, k1, hO1, hO2, hO3, false_and, true_and, and_false, and_true, he, hL, hk1, hwe, hN]
      refine Ycp (p8 (by assumption) (by assumption) (by assumption) (by assumption) (by assumption) (by assumption) (by assumption)) ?_
      simp (maxDischargeDepth := 9) only [↓gB, gV, gT, reduceIte, reduceCtorEq, Nat.reduceEqDiff, Nat.reduceAdd, Nat.reduceSub, Nat.reduceLeDiff, Nat.reduceLT, Int.reduceEq, Nat.reduceMul, h1, hmo, y1, k1, hO1, hO2, hO3, false_and, true_and, and_false, and_true, he, hL, hk1, hwe, hN]
      refine Ycp (p10 (by assumption) (by assumption) (by assumption) (by assumption) (by assumption) (by assumption)) ?_
      simp (maxDischargeDepth := 9) only [↓gB, gV, gT, reduceIte, reduceCtorEq, Nat.reduceEqDiff, Nat.reduceAdd, Nat.reduceSub, Nat.reduceLeDiff, Nat.reduceLT, Int.reduceEq, Nat.reduceMul, h1, hmo, y1, k1, hO1, hO2, hO3, false_and, true_and, and_false, and_true, he, hL, hk1, hwe, hN]
      refine Ycp (p13 (by assumption) (by assumption)) ?_
      simp (maxDischargeDepth := 9) only [↓gB, gV, gT, reduceIte, reduceCtorEq, Nat.reduceEqDiff, Nat.reduceAdd, Nat.reduceSub, Nat.reduceLeDiff, Nat.reduceLT, Int.reduceEq, Nat.reduceMul, h1, hmo, y1, k1, hO1, hO2, hO3, false_and, true_and, and_false, and_true, he, hL, hk1, hwe, hN]
      refine Ycp (p14) ?_
      simp (maxDischargeDepth := 9) only [↓gB, gV, gT, reduceIte, reduceCtorEq, Nat.reduceEqDiff, Nat.reduceAdd, Nat.reduceSub, Nat.reduceLeDiff, Nat.reduceLT, Int.reduceEq, Nat.reduceMul, h1, hmo, y1, k1, hO1, hO2, hO3, false_and, true_and, and_false, and_true, he, hL, hk1, hwe, hN]
      refine Yn1 fun r2 h2 => ?_
      simp (maxDischargeDepth := 9) only [↓gB, gV, gT, reduceIte, reduceCtorEq, Nat.reduceEqDiff, Nat.reduceAdd, Nat.reduceSub, Nat.reduceLeDiff, Nat.reduceLT, Int.reduceEq, Nat.reduceMul, h1, hmo, y1, k1, h2, hO1, hO2, hO3, false_and, true_and, and_false, and_true, he, hL, hk1, hwe, hN]
      refine Ycp (p12 (by exact put_self _ _ _)) ?_
      simp (maxDischargeDepth := 9) only [↓gB, gV, gT, reduceIte, reduceCtorEq, Nat.reduceEqDiff, Nat.reduceAdd, Nat.reduceSub, Nat.reduceLeDiff, Nat.reduceLT, Int.reduceEq, Nat.reduceMul, h1, hmo, y1, k1, h2, hO1, hO2, hO3, false_and, true_and, and_false, and_true, he, hL, hk1, hwe, hN]
      refine Ycp (p10 (by exact RSl.put _ (by assumption) (by assumption)) (by exact RSl.put _ (by assumption) (by assumption)) (by exact RSl.put _ (by assumption) (by assumption)) (by assumption) (by assumption) (by assumption)) ?_
      simp (maxDischargeDepth := 9) only [↓gB, gV, gT, reduceIte, reduceCtorEq, Nat.reduceEqDiff, Nat.reduceAdd, Nat.reduceSub, Nat.reduceLeDiff, Nat.reduceLT, Int.reduceEq, Nat.reduceMul, h1, hmo, y1, k1, h2, hO1, hO2, hO3, false_and, true_and, and_false, and_true, he, hL, hk1, hwe, hN]
      refine Ycp (p15 (by exact RSl.put _ (by assumption) (by assumption)) (by exact RSl.put _ (by assumption) (by assumption)) (by assumption) (by assumption) (by assumption) (by assumption) (by assumption) (by assumption) (by assumption)) ?_
      simp (maxDischargeDepth := 9) only [↓gB, gV, gT, reduceIte, reduceCtorEq, Nat.reduceEqDiff, Nat.reduceAdd, Nat.reduceSub, Nat.reduceLeDiff, Nat.reduceLT, Int.reduceEq, Nat.reduceMul, h1, hmo, y1, k1, h2, hO1, hO2, hO3, false_and, true_and, and_false, and_true, he, hL, hk1, hwe, hN]
      refine Ycp (p16) ?_
      simp (maxDischargeDepth := 9) only [↓gB, gV, gT, reduceIte, reduceCtorEq, Nat.reduceEqDiff, Nat.reduceAdd, Nat.reduceSub, Nat.reduceLeDiff, Nat.reduceLT, Int.reduceEq, Nat.reduceMul, h1, hmo, y1, k1, h2, hO1, hO2, hO3, false_and, true_and, and_false, and_true, he, hL, hk1, hwe, hN]
      refine Ycp (p17 (l := []) (m := []) (RSl.nil _ _) (RSl.nil _ _) (by decide)) ?_
      simp (maxDischargeDepth := 9) only [↓gB, gV, gT, reduceIte, reduceCtorEq, Nat.reduceEqDiff, Nat.reduceAdd, Nat.reduceSub, Nat.reduceLeDiff, Nat.reduceLT, Int.reduceEq, Nat.reduceMul, h1, hmo, y1, k1, h2, hO1, hO2, hO3, false_and, true_and, and_false, and_true, he, hL, hk1, hwe, hN]
      refine Ycp (p9) ?_
      simp (maxDischargeDepth := 9) only [↓gB, gV, gT, reduceIte, reduceCtorEq, Nat.reduceEqDiff, Nat.reduceAdd, Nat.reduceSub, Nat.reduceLeDiff, Nat.reduceLT, Int.reduceEq, Nat.reduceMul, h1, hmo, y1, k1, h2, hO1, hO2, hO3, false_and, true_and, and_false, and_true, he, hL, hk1, hwe, hN]
      exact Kup_val (by simp (maxDischargeDepth := 9) only [le_self, le_puts, le_put0, h1, l5, l4, l3, l2, l1, h2]) rfl
    have hk2 : 0 ≤ keyAt SNode.Key ns fr := by omega
    have htl := times_len ar l t l.length
    refine Ycg (g4 (by assumption) (by assumption) (by assumption) (by assumption) (by assumption) (by assumption) (by assumption) (by assumption) (by assumption) (by assumption) (by assumption) (by assumption) (by assumption) (by assumption)) ?_ ?_
    · exact upPair _ _ _
    intro u4 G4 l4 w4
    replace l3 := GH.le.trans l3 l4
    replace l2 := GH.le.trans l2 l4
    replace l1 := GH.le.trans l1 l4
    replace y1 := l4 _ _ y1
    replace hv := RSl.le hv l4
    replace hw := RSl.le hw l4
    replace hu := RSl.le hu l4
    replace hs := RSl.le hs l4
    replace w2''' := RSl.le w2''' l4
    replace w2'''' := RSl.le w2'''' l4
    replace w2''''' := RSl.le w2''''' l4
    replace w3 := RSl.le w3 l4
    replace k1 := kn_le l4 k1
    obtain ⟨z4, w4', rfl⟩ := w4
    obtain ⟨aw4', cw4', rfl⟩ := RSl.val w4'
    simp (maxDischargeDepth := 9) only [↓gB, gV, gT, reduceIte, reduceCtorEq, Nat.reduceEqDiff, Nat.reduceAdd, Nat.reduceSub, Nat.reduceLeDiff, Nat.reduceLT, Int.reduceEq, Nat.reduceMul, h1, hmo, y1, k1, hO1, hO2, hO3, false_and, true_and, and_false, and_true, he, hL, hk1, hwe]
    refine Ycg (g5 (by assumption) (by assumption) (by assumption) (by assumption) (by assumption) (by assumption) (by assumption)) ?_ ?_
    · exact fun _ _ _ hl q => by obtain ⟨z0, z0', z0'', w0''', w0'''', w0''''', rfl⟩ := q; exact ⟨z0, z0', z0'', (by first | exact w0''' | exact RSl.le w0''' hl | exact Row.le w0''' hl | exact hl _ _ w0''' | exact GH.le.trans w0''' hl), (by first | exact w0'''' | exact RSl.le w0'''' hl | exact Row.le w0'''' hl | exact hl _ _ w0'''' | exact GH.le.trans w0'''' hl), (by first | exact w0''''' | exact RSl.le w0''''' hl | exact Row.le w0''''' hl | exact hl _ _ w0''''' | exact GH.le.trans w0''''' hl), rfl⟩
    intro u5 G5 l5 w5
    replace l4 := GH.le.trans l4 l5
    replace l3 := GH.le.trans l3 l5
    replace l2 := GH.le.trans l2 l5
    replace l1 := GH.le.trans l1 l5
    replace y1 := l5 _ _ y1
    replace hv := RSl.le hv l5
    replace hw := RSl.le hw l5
    replace hu := RSl.le hu l5
    replace hs := RSl.le hs l5
    replace w2''' := RSl.le w2''' l5
    replace w2'''' := RSl.le w2'''' l5
    replace w2''''' := RSl.le w2''''' l5
    replace w3 := RSl.le w3 l5
    replace k1 := kn_le l5 k1
    replace w4' := RSl.le w4' l5
    obtain ⟨z5, z5', z5'', w5''', w5'''', w5''''', rfl⟩ := w5
    obtain ⟨aw5''', cw5''', rfl⟩ := RSl.val w5'''
    obtain ⟨aw5'''', cw5'''', rfl⟩ := RSl.val w5''''
    obtain ⟨aw5''''', cw5''''', rfl⟩ := RSl.val w5'''''
    simp (maxDischargeDepth := 9) only [↓gB, gV, gT, reduceIte, reduceCtorEq, Nat.reduceEqDiff, Nat.reduceAdd, Nat.reduceSub, Nat.reduceLeDiff, Nat.reduceLT, Int.reduceEq, Nat.reduceMul, h1, hmo, y1, k1, hO1, hO2, hO3, false_and, true_and, and_false, and_true, he, hL, hk1, hwe]
    refine Ycg (g6 (by assumption) (by assumption)) ?_ ?_
    · exact upRSl _ _
    intro u6 G6 l6 w6
    replace l5 := GH.le.trans l5 l6
    replace l4 := GH.le.trans l4 l6
    replace l3 := GH.le.trans l3 l6
    replace l2 := GH.le.trans l2 l6
    replace l1 := GH.le.trans l1 l6
    replace y1 := l6 _ _ y1
    replace hv := RSl.le hv l6
    replace hw := RSl.le hw l6
    replace hu := RSl.le hu l6
    replace hs := RSl.le hs l6
    replace w2''' := RSl.le w2''' l6
    replace w2'''' := RSl.le w2'''' l6
    replace w2''''' := RSl.le w2''''' l6
    replace w3 := RSl.le w3 l6
    replace k1 := kn_le l6 k1
    replace w4' := RSl.le w4' l6
    replace w5''' := RSl.le w5''' l6
    replace w5'''' := RSl.le w5'''' l6
    replace w5''''' := RSl.le w5''''' l6
    obtain ⟨aw6, cw6, rfl⟩ := RSl.val w6
    simp (maxDischargeDepth := 9) only [↓gB, gV, gT, reduceIte, reduceCtorEq, Nat.reduceEqDiff, Nat.reduceAdd, Nat.reduceSub, Nat.reduceLeDiff, Nat.reduceLT, Int.reduceEq, Nat.reduceMul, h1, hmo, y1, k1, hO1, hO2, hO3, false_and, true_and, and_false, and_true, he, hL, hk1, hwe]
    refine Ycp (p7 (by assumption) (by assumption) (by assumption) (by assumption) (by assumption) (by assumption) (by assumption) (by assumption) (by assumption)) ?_
    simp (maxDischargeDepth := 9) only [↓gB, gV, gT, reduceIte, reduceCtorEq, Nat.reduceEqDiff, Nat.reduceAdd, Nat.reduceSub, Nat.reduceLeDiff, Nat.reduceLT, Int.reduceEq, Nat.reduceMul, h1, hmo, y1, k1, hO1, hO2, hO3, false_and, true_and, and_false, and_true, he, hL, hk1, hwe]
    refine Ycp (p8 (by assumption) (by assumption) (by assumption) (by assumption) (by assumption) (by assumption) (by assumption)) ?_
    simp (maxDischargeDepth := 9) only [↓gB, gV, gT, reduceIte, reduceCtorEq, Nat.reduceEqDiff, Nat.reduceAdd, Nat.reduceSub, Nat.reduceLeDiff, Nat.reduceLT, Int.reduceEq, Nat.reduceMul, h1, hmo, y1, k1, hO1, hO2, hO3, false_and, true_and, and_false, and_true, he, hL, hk1, hwe]
    refine Ycp (p10 (by assumption) (by assumption) (by assumption) (by assumption) (by assumption) (by assumption)) ?_
    simp (maxDischargeDepth := 9) only [↓gB, gV, gT, reduceIte, reduceCtorEq, Nat.reduceEqDiff, Nat.reduceAdd, Nat.reduceSub, Nat.reduceLeDiff, Nat.reduceLT, Int.reduceEq, Nat.reduceMul, h1, hmo, y1, k1, hO1, hO2, hO3, false_and, true_and, and_false, and_true, he, hL, hk1, hwe]
    refine Ycp (p13 (by assumption) (by assumption)) ?_
    simp (maxDischargeDepth := 9) only [↓gB, gV, gT, reduceIte, reduceCtorEq, Nat.reduceEqDiff, Nat.reduceAdd, Nat.reduceSub, Nat.reduceLeDiff, Nat.reduceLT, Int.reduceEq, Nat.reduceMul, h1, hmo, y1, k1, hO1, hO2, hO3, false_and, true_and, and_false, and_true, he, hL, hk1, hwe]
    refine Ycp (p14) ?_
    simp (maxDischargeDepth := 9) only [↓gB, gV, gT, reduceIte, reduceCtorEq, Nat.reduceEqDiff, Nat.reduceAdd, Nat.reduceSub, Nat.reduceLeDiff, Nat.reduceLT, Int.reduceEq, Nat.reduceMul, h1, hmo, y1, k1, hO1, hO2, hO3, false_and, true_and, and_false, and_true, he, hL, hk1, hwe]
    refine Yn1 fun r2 h2 => ?_
    simp (maxDischargeDepth := 9) only [↓gB, gV, gT, reduceIte, reduceCtorEq, Nat.reduceEqDiff, Nat.reduceAdd, Nat.reduceSub, Nat.reduceLeDiff, Nat.reduceLT, Int.reduceEq, Nat.reduceMul, h1, hmo, y1, k1, h2, hO1, hO2, hO3, false_and, true_and, and_false, and_true, he, hL, hk1, hwe]
    refine Ycp (p12 (by exact put_self _ _ _)) ?_
    simp (maxDischargeDepth := 9) only [↓gB, gV, gT, reduceIte, reduceCtorEq, Nat.reduceEqDiff, Nat.reduceAdd, Nat.reduceSub, Nat.reduceLeDiff, Nat.reduceLT, Int.reduceEq, Nat.reduceMul, h1, hmo, y1, k1, h2, hO1, hO2, hO3, false_and, true_and, and_false, and_true, he, hL, hk1, hwe]
    refine Ycp (p10 (by exact RSl.put _ (by assumption) (by assumption)) (by exact RSl.put _ (by assumption) (by assumption)) (by exact RSl.put _ (by assumption) (by assumption)) (by assumption) (by assumption) (by assumption)) ?_
    simp (maxDischargeDepth := 9) only [↓gB, gV, gT, reduceIte, reduceCtorEq, Nat.reduceEqDiff, Nat.reduceAdd, Nat.reduceSub, Nat.reduceLeDiff, Nat.reduceLT, Int.reduceEq, Nat.reduceMul, h1, hmo, y1, k1, h2, hO1, hO2, hO3, false_and, true_and, and_false, and_true, he, hL, hk1, hwe]
    have q7_0 := GH.le.none l6 h2
    have q7_1 := GH.le.none l5 h2
    have q7_2 := GH.le.none l4 h2
    have q7_3 := GH.le.none l3 h2
    have q7_4 := GH.le.none l2 h2
    have q7_5 := GH.le.none l1 h2
    have l7 := le_put h2 ((Go.Obj.cells #[Go.GL.V 0, Go.GL.V (Go.Proofs.YtjhfhacdjmokaaaGreatDoor.bi Bool.true)] 29, Bool.true))
    have y7 := put_self G6 r2 ((Go.Obj.cells #[Go.GL.V 0, Go.GL.V (Go.Proofs.YtjhfhacdjmokaaaGreatDoor.bi Bool.true)] 29, Bool.true))
    generalize GH.put G6 r2 ((Go.Obj.cells #[Go.GL.V 0, Go.GL.V (Go.Proofs.YtjhfhacdjmokaaaGreatDoor.bi Bool.true)] 29, Bool.true)) = G7 at *
    replace l6 := GH.le.trans l6 l7
    replace l5 := GH.le.trans l5 l7
    replace l4 := GH.le.trans l4 l7
    replace l3 := GH.le.trans l3 l7
    replace l2 := GH.le.trans l2 l7
    replace l1 := GH.le.trans l1 l7
    replace y1 := l7 _ _ y1
    replace hv := RSl.le hv l7
    replace hw := RSl.le hw l7
    replace hu := RSl.le hu l7
    replace hs := RSl.le hs l7
    replace w2''' := RSl.le w2''' l7
    replace w2'''' := RSl.le w2'''' l7
    replace w2''''' := RSl.le w2''''' l7
    replace w3 := RSl.le w3 l7
    replace k1 := kn_le l7 k1
    replace w4' := RSl.le w4' l7
    replace w5''' := RSl.le w5''' l7
    replace w5'''' := RSl.le w5'''' l7
    replace w5''''' := RSl.le w5''''' l7
    replace w6 := RSl.le w6 l7
    refine Ycg (g15 (by assumption) (by assumption) (by assumption) (by assumption) (by assumption) (by assumption) (by assumption) (by assumption) (by assumption)) ?_ ?_
    · exact upPair _ _ _
    intro u8 G8 l8 w8
    replace l7 := GH.le.trans l7 l8
    replace y7 := l8 _ _ y7
    replace l6 := GH.le.trans l6 l8
    replace l5 := GH.le.trans l5 l8
    replace l4 := GH.le.trans l4 l8
    replace l3 := GH.le.trans l3 l8
    replace l2 := GH.le.trans l2 l8
    replace l1 := GH.le.trans l1 l8
    replace y1 := l8 _ _ y1
    replace hv := RSl.le hv l8
    replace hw := RSl.le hw l8
    replace hu := RSl.le hu l8
    replace hs := RSl.le hs l8
    replace w2''' := RSl.le w2''' l8
    replace w2'''' := RSl.le w2'''' l8
    replace w2''''' := RSl.le w2''''' l8
    replace w3 := RSl.le w3 l8
    replace k1 := kn_le l8 k1
    replace w4' := RSl.le w4' l8
    replace w5''' := RSl.le w5''' l8
    replace w5'''' := RSl.le w5'''' l8
    replace w5''''' := RSl.le w5''''' l8
    replace w6 := RSl.le w6 l8
    obtain ⟨z8, w8', rfl⟩ := w8
    obtain ⟨aw8', cw8', rfl⟩ := RSl.val w8'
    simp (maxDischargeDepth := 9) only [↓gB, gV, gT, reduceIte, reduceCtorEq, Nat.reduceEqDiff, Nat.reduceAdd, Nat.reduceSub, Nat.reduceLeDiff, Nat.reduceLT, Int.reduceEq, Nat.reduceMul, h1, hmo, h2, q7_0, q7_1, q7_2, q7_3, q7_4, q7_5, y7, y1, k1, hO1, hO2, hO3, false_and, true_and, and_false, and_true, he, hL, hk1, hwe]
    refine Ycp (p16) ?_
    simp (maxDischargeDepth := 9) only [↓gB, gV, gT, reduceIte, reduceCtorEq, Nat.reduceEqDiff, Nat.reduceAdd, Nat.reduceSub, Nat.reduceLeDiff, Nat.reduceLT, Int.reduceEq, Nat.reduceMul, h1, hmo, h2, q7_0, q7_1, q7_2, q7_3, q7_4, q7_5, y7, y1, k1, hO1, hO2, hO3, false_and, true_and, and_false, and_true, he, hL, hk1, hwe]
    refine Ycp (p17 (by assumption) (by assumption) (by omega)) ?_
    simp (maxDischargeDepth := 9) only [↓gB, gV, gT, reduceIte, reduceCtorEq, Nat.reduceEqDiff, Nat.reduceAdd, Nat.reduceSub, Nat.reduceLeDiff, Nat.reduceLT, Int.reduceEq, Nat.reduceMul, h1, hmo, h2, q7_0, q7_1, q7_2, q7_3, q7_4, q7_5, y7, y1, k1, hO1, hO2, hO3, false_and, true_and, and_false, and_true, he, hL, hk1, hwe]
    refine Ycp (p9) ?_
    simp (maxDischargeDepth := 9) only [↓gB, gV, gT, reduceIte, reduceCtorEq, Nat.reduceEqDiff, Nat.reduceAdd, Nat.reduceSub, Nat.reduceLeDiff, Nat.reduceLT, Int.reduceEq, Nat.reduceMul, h1, hmo, h2, q7_0, q7_1, q7_2, q7_3, q7_4, q7_5, y7, y1, k1, hO1, hO2, hO3, false_and, true_and, and_false, and_true, he, hL, hk1, hwe]
    exact Kup_val (by simp (maxDischargeDepth := 9) only [le_self, le_puts, le_put0, h1, h2, q7_0, q7_1, q7_2, q7_3, q7_4, q7_5, l8, l7, l6, l5, l4, l3, l2, l1]) rfl
end Go.Proofs.YtjhfhacdjmokaaaGreatDoor
namespace Go.Proofs.YtjhfhacdjmokaaaGreatDoor
open Go Go.GL
attribute [local irreducible] Ycall GCalls
set_option maxRecDepth 10000
set_option maxHeartbeats 0
open Go.RowKit
set_option maxRecDepth 10000
def G0of (W : World) : GH := fun b => (W.heap[b]?).map fun o => (o, false)
theorem holdsG0 (W : World) : GL.Holds W (G0of W) W := by
  refine ⟨Go.RowKit.Below.refl _ _, ?_, ?_, Nat.le_refl _⟩
  · intro b o t h
    unfold G0of at h
    rw [Option.map_eq_some_iff] at h
    obtain ⟨o', h1, h2⟩ := h
    cases h2; exact h1
  · intro b o h
    unfold G0of at h
    rw [Option.map_eq_some_iff] at h
    obtain ⟨o', h1, h2⟩ := h
    cases h2
theorem mapM_some {α β : Type} {f : α → Option β} : ∀ (l : List α) (r : List β), l.mapM f = some r → r.length = l.length ∧ ∀ (i : Nat) x, l[i]? = some x → f x = r[i]?
  | [], r, h => by
    rw [List.mapM_nil] at h; cases h; exact ⟨rfl, by simp⟩
  | y :: l, r, h => by
    rw [List.mapM_cons] at h
    simp only [bind, Option.bind_eq_some_iff, pure, Option.some.injEq] at h
    obtain ⟨b, hb, r', hr, rfl⟩ := h
    obtain ⟨h1, h2⟩ := mapM_some l r' hr
    refine ⟨by simp [h1], ?_⟩
    intro i x hx
    cases i with
    | zero => simp at hx; subst hx; simpa using hb
    | succ i => simp at hx; simpa using h2 i x hx
theorem cellsI_of {W : World} {a : Addr} {n : Nat} {cs : List Value} (hn : 0 < n) (h : W.cells? 0 a n = some cs) : gcellsI (G0of W) a n = some cs := by
  unfold World.cells? at h
  rw [if_pos (Nat.zero_le _)] at h
  obtain ⟨h1, h2⟩ := mapM_some _ _ h
  rw [List.length_range] at h1
  have hc : ∀ i, i < n → W.cell? (a.add i) = cs[i]? := fun i hi => h2 i i (by simp [hi])
  have h0 := hc 0 hn
  have ha0 : a.add 0 = a := by cases a; rfl
  rw [ha0, List.getElem?_eq_getElem (by omega)] at h0
  unfold World.cell? at h0
  split at h0
  case h_2 => cases h0
  rename_i c e fr hb
  split at h0
  · cases h0
  rename_i hsp
  have hspn : a.spot = none := by cases hs : a.spot <;> simp_all
  have hall : ∀ i, i < n → c[a.off + i]? = cs[i]? := by
    intro i hi
    have := hc i hi
    unfold World.cell? at this
    rw [add_block, hb] at this
    simp only [add_spot _ _ hspn, add_off, Option.isSome_none, Bool.false_eq_true, if_false] at this
    exact this
  have hlast := hall (n - 1) (by omega)
  rw [List.getElem?_eq_getElem (by omega)] at hlast
  have hsz : a.off + n ≤ c.size := by
    have := (Array.getElem?_eq_some_iff.1 hlast).1
    omega
  unfold gcellsI G0of
  simp only [hb, Option.map_some]
  rw [if_pos ⟨by rw [hspn]; rfl, hsz⟩]
  congr 1
  apply List.ext_getElem?
  intro i
  rw [List.getElem?_take]
  split
  · rename_i hi
    rw [List.getElem?_drop, Array.getElem?_toList, hall i hi]
  · rw [List.getElem?_eq_none (by omega)]
theorem exists_list {α : Type} {Q : Nat → α → Prop} : ∀ n, (∀ i, i < n → ∃ x, Q i x) → ∃ l : List α, l.length = n ∧ ∀ (i : Nat) x, l[i]? = some x → Q i x
  | 0, _ => ⟨[], rfl, by simp⟩
  | n + 1, h => by
    obtain ⟨l, h1, h2⟩ := exists_list n fun i hi => h i (by omega)
    obtain ⟨x, hx⟩ := h n (by omega)
    refine ⟨l ++ [x], by simp [h1], ?_⟩
    intro i y hy
    rw [List.getElem?_append] at hy
    split at hy
    · exact h2 i y hy
    · rename_i hi
      have : i = n := by
        by_cases e : i = n
        · exact e
        · rw [List.getElem?_eq_none (by simp; omega)] at hy; cases hy
      subst this
      simp [h1] at hy
      subst hy; exact hx
theorem wf_i64 {n : Int} (h : (Lit.int .i64 n).wf = true) : i64 n := by
  simp [Lit.wf, IntKind.min, IntKind.max, IntKind.signed, IntKind.bits] at h
  unfold i64; omega
def OT (W : World) {α : Type} (ρ : Rp α) (m : α → Nat) (T : TypeId) : Prop := ∀ (H : Type) (enc : TypeId × Value → H) (sp : Nat → Bool) (held : Bool) (fuel : Nat) (cs : List Value) (x : DataW H × List MemPlace), DataW.trod enc Tryz.prog W 0 sp held fuel T cs = some x → ∃ c : α, ρ.R (G0of W) c cs ∧ m c ≤ Rows.uptoBulk x.1
def mlist {α : Type} (m : α → Nat) (l : List α) : Nat := (l.map m).sum + 1
theorem OT.int {W : World} {T : TypeId} (hT : Tryz.prog.underlying T = some (.int .i64)) : OT W Rp.int (fun _ => 1) T := by
  intro H enc sp held fuel cs x h
  obtain ⟨n, e, hx, w⟩ := DataW.trod_int hT h
  subst e hx
  exact ⟨n, ⟨rfl, wf_i64 w⟩, by simp [Rows.uptoBulk]⟩
theorem OT.str {W : World} {T : TypeId} (hT : Tryz.prog.underlying T = some .string) : OT W Rp.str (fun s => s.size + 1) T := by
  intro H enc sp held fuel cs x h
  obtain ⟨s, e, hx, w⟩ := DataW.trod_string hT h
  subst e hx
  refine ⟨s, rfl, ?_⟩
  simp [Rows.uptoBulk]
theorem OT.bool {W : World} {T : TypeId} (hT : Tryz.prog.underlying T = some .bool) : OT W Rp.bool (fun _ => 1) T := by
  intro H enc sp held fuel cs x h
  obtain ⟨n, e, hx⟩ := DataW.trod_bool hT h
  subst e hx
  exact ⟨n, rfl, by simp [Rows.uptoBulk]⟩
theorem exists_list2 {α β : Type} {Q : Nat → α → Prop} {m : α → Nat} {m2 : β → Nat} : ∀ (els : List β), (∀ (i : Nat) e, els[i]? = some e → ∃ x, Q i x ∧ m x ≤ m2 e) → ∃ l : List α, l.length = els.length ∧ (∀ (i : Nat) x, l[i]? = some x → Q i x) ∧ (l.map m).sum ≤ (els.map m2).sum
  | [], _ => ⟨[], rfl, by simp, by simp⟩
  | e :: els, h => by
    obtain ⟨x, hx, hm⟩ := h 0 e rfl
    obtain ⟨l, h1, h2, h3⟩ := exists_list2 (Q := fun i x => Q (i + 1) x) (m := m) (m2 := m2) els (fun i e he => h (i + 1) e (by simpa using he))
    refine ⟨x :: l, by simp [h1], ?_, by simp; omega⟩
    intro i y hy
    cases i with
    | zero => simp at hy; subst hy; exact hx
    | succ i => exact h2 i y (by simpa using hy)
theorem bulkAll_sum {H : Type} : ∀ (l : List (DataW H)), Rows.uptoBulkAll l = (l.map Rows.uptoBulk).sum
  | [] => rfl
  | x :: l => by simp [Rows.uptoBulkAll, bulkAll_sum l]
theorem OT.slice {W : World} {α : Type} {ρ : Rp α} {m : α → Nat} {T e : TypeId} (hT : Tryz.prog.underlying T = some (.slice e)) (hc : Tryz.prog.cellsOf e = ρ.sz) (hpos : 0 < ρ.sz) (hel : OT W ρ m e) : OT W ρ.slice (mlist m) T := by
  intro H enc sp held fuel cs x h
  rcases DataW.trod_slice hT h with ⟨hcs, hx⟩ | ⟨a, len, cap, elems, rest, n, _, hcs, hx, _, hlc, _, hel', he, _⟩
  · subst hcs hx
    exact ⟨[], ⟨_, rfl, RSl.nil _ _⟩, by simp [mlist, Rows.uptoBulk]⟩
  · subst hcs hx
    rw [hc] at he
    have key : ∀ (i : Nat) el, elems[i]? = some el → ∃ c : α, (∃ cs, gcellsI (G0of W) (a.add (i * ρ.sz)) ρ.sz = some cs ∧ ρ.R (G0of W) c cs) ∧ m c ≤ Rows.uptoBulk el.1 := by
      intro i el hi
      have hil : i < elems.length := by
        by_cases q : i < elems.length
        · exact q
        · rw [List.getElem?_eq_none (by omega)] at hi; cases hi
      have h1 := he i (by omega)
      rw [hi, Option.bind_eq_some_iff] at h1
      obtain ⟨cs, h2, h3⟩ := h1
      obtain ⟨c, hc, hb⟩ := hel _ _ _ _ _ _ _ h3
      exact ⟨c, ⟨cs, cellsI_of hpos h2, hc⟩, hb⟩
    obtain ⟨l, h1, h2, h3⟩ := exists_list2 elems key
    refine ⟨l, ⟨_, rfl, ⟨some a, len, cap, rfl, by omega, hlc, fun hpos' => ⟨a, rfl, ?_, fun i x hx => h2 i x hx⟩⟩⟩, ?_⟩
    · obtain ⟨c, ⟨cs, hg, _⟩, _⟩ := key 0 (elems[0]'(by omega)) (List.getElem?_eq_getElem (by omega))
      have e : a.add (0 * ρ.sz) = a := by cases a; simp [Addr.add]
      rw [e] at hg
      unfold gcellsI at hg
      split at hg
      · split at hg
        · rename_i hc; have := hc.1; cases hs : a.spot <;> simp_all
        · cases hg
      · cases hg
    · simp only [mlist, Rows.uptoBulk, bulkAll_sum, List.map_map]
      have : (elems.map (Rows.uptoBulk ∘ fun x => x.1)).sum = (elems.map fun x => Rows.uptoBulk x.1).sum := rfl
      omega
theorem mlist_len {α : Type} {m : α → Nat} (h1 : ∀ x, 1 ≤ m x) (l : List α) : l.length + 1 ≤ mlist m l := by
  unfold mlist
  induction l with
  | nil => simp
  | cons x l ih => have := h1 x; simp; omega
theorem mlist_mem {α : Type} {m : α → Nat} {l : List α} {x : α} (h : x ∈ l) : m x + 1 ≤ mlist m l := by
  unfold mlist
  induction l with
  | nil => cases h
  | cons y l ih =>
    rcases List.mem_cons.1 h with rfl | h
    · simp
    · have := ih h; simp; omega
theorem OT.row {W : World} {α : Type} {ρ : Rp α} {m : List α → Nat} {T : TypeId} (h : OT W ρ.slice m T) {H : Type} {enc : TypeId × Value → H} {sp : Nat → Bool} {held : Bool} {a : Option Addr} {n c : Nat} {d : DataW H} {ps : List MemPlace} (ht : DataW.Trod enc Tryz.prog W 0 sp held T (.slice a n c) d ps) : ∃ l : List α, RSl ρ (G0of W) (.slice a n c) l ∧ m l ≤ Rows.uptoBulk d := by
  obtain ⟨fuel, hf⟩ := ht
  obtain ⟨l, ⟨v, hv, hr⟩, hm⟩ := h _ _ _ _ _ _ _ hf
  simp [Value.cells] at hv
  subst hv
  exact ⟨l, hr, hm⟩
theorem OT.agg {W : World} {α : Type} {ρ : Rp α} {m : α → Nat} {T : TypeId} (h : OT W ρ m T) {H : Type} {enc : TypeId × Value → H} {sp : Nat → Bool} {held : Bool} {xs : Array Value} {d : DataW H} {ps : List MemPlace} (ht : DataW.Trod enc Tryz.prog W 0 sp held T (.agg xs) d ps) : ∃ c : α, ρ.R (G0of W) c xs.toList ∧ m c ≤ Rows.uptoBulk d := by
  obtain ⟨fuel, hf⟩ := ht
  obtain ⟨l, hr, hm⟩ := h _ _ _ _ _ _ _ hf
  exact ⟨l, by simpa [Value.cells] using hr, hm⟩
end Go.Proofs.YtjhfhacdjmokaaaGreatDoor
namespace Go.Proofs.YtjhfhacdjmokaaaGreatDoor
open Go Go.GL
set_option maxRecDepth 10000
set_option maxHeartbeats 0
structure SRoads where
  Nodes : List SNode
  Arcs : List SArc
  Bans : List SBan
deriving DecidableEq
def rRoads : Rp SRoads where
  sz := 3
  R G x cs := ∃ v0, ∃ v1, ∃ v2, cs = [v0, v1, v2] ∧ RSl rNode G v0 x.Nodes ∧ RSl rArc G v1 x.Arcs ∧ RSl rBan G v2 x.Bans
  len := by rintro G x cs ⟨v0, v1, v2, rfl, h0, h1, h2⟩; rfl
  ile := by rintro G G' x cs hl ⟨v0, v1, v2, rfl, h0, h1, h2⟩; exact ⟨v0, v1, v2, rfl, h0.ile hl, h1.ile hl, h2.ile hl⟩
  one := by rintro G x cs ⟨v0, v1, v2, rfl, h0, h1, h2⟩; obtain ⟨a0, c0, rfl⟩ := h0.val; obtain ⟨a1, c1, rfl⟩ := h1.val; obtain ⟨a2, c2, rfl⟩ := h2.val; rfl
def mNode (x : SNode) : Nat := (x.Key.size + 1) + 1 + 1 + 1
theorem otNode {W : World} : OT W rNode mNode 59 := by
  intro H enc sp held fuel cs x h
  obtain ⟨xs, n, _, hx, hlen, hxl, hf⟩ := DataW.trod_struct Tryz.underlying59 h
  rw [show Tryz.prog.cellsOf 59 = 3 from by kernel_rfl] at hlen
  obtain ⟨x0, x1, x2, rfl⟩ : ∃ x0 x1 x2, cs = [x0, x1, x2] := by
    match cs, hlen with
    | [x0, x1, x2], _ => exact ⟨x0, x1, x2, rfl⟩
  have hxl : xs.length = 3 := hxl
  obtain ⟨d_0, d_1, d_2, rfl⟩ : ∃ d_0 d_1 d_2, xs = [d_0, d_1, d_2] := by
    match xs, hxl with
    | [y0, y1, y2], _ => exact ⟨y0, y1, y2, rfl⟩
  have f_0 : DataW.trod enc Tryz.prog W 0 sp held n 9 [x0] = some d_0 := by have := hf 0 _ rfl; exact this
  have f_1 : DataW.trod enc Tryz.prog W 0 sp held n 3 [x1] = some d_1 := by have := hf 1 _ rfl; exact this
  have f_2 : DataW.trod enc Tryz.prog W 0 sp held n 3 [x2] = some d_2 := by have := hf 2 _ rfl; exact this
  clear hf
  obtain ⟨c_0, e_0, q_0, w_0⟩ := DataW.trod_string Tryz.underlying9 f_0
  simp only [List.cons.injEq, and_true] at e_0; subst e_0 q_0
  have z_0 := size_len c_0
  obtain ⟨c_1, e_1, q_1, w_1⟩ := DataW.trod_int Tryz.underlying3 f_1
  simp only [List.cons.injEq, and_true] at e_1; subst e_1 q_1
  obtain ⟨c_2, e_2, q_2, w_2⟩ := DataW.trod_int Tryz.underlying3 f_2
  simp only [List.cons.injEq, and_true] at e_2; subst e_2 q_2
  subst hx
  refine ⟨⟨c_0, c_1, c_2⟩, rfl, ?_⟩
  simp only [mNode, Rows.uptoBulk, Rows.uptoBulkAll, List.map_cons, List.map_nil, ← size_len]
  omega
def mKnot (x : SKnot) : Nat := 1 + 1 + 1
theorem otKnot {W : World} : OT W rKnot mKnot 70 := by
  intro H enc sp held fuel cs x h
  obtain ⟨xs, n, _, hx, hlen, hxl, hf⟩ := DataW.trod_struct Tryz.underlying70 h
  rw [show Tryz.prog.cellsOf 70 = 2 from by kernel_rfl] at hlen
  obtain ⟨x0, x1, rfl⟩ : ∃ x0 x1, cs = [x0, x1] := by
    match cs, hlen with
    | [x0, x1], _ => exact ⟨x0, x1, rfl⟩
  have hxl : xs.length = 2 := hxl
  obtain ⟨d_0, d_1, rfl⟩ : ∃ d_0 d_1, xs = [d_0, d_1] := by
    match xs, hxl with
    | [y0, y1], _ => exact ⟨y0, y1, rfl⟩
  have f_0 : DataW.trod enc Tryz.prog W 0 sp held n 3 [x0] = some d_0 := by have := hf 0 _ rfl; exact this
  have f_1 : DataW.trod enc Tryz.prog W 0 sp held n 3 [x1] = some d_1 := by have := hf 1 _ rfl; exact this
  clear hf
  obtain ⟨c_0, e_0, q_0, w_0⟩ := DataW.trod_int Tryz.underlying3 f_0
  simp only [List.cons.injEq, and_true] at e_0; subst e_0 q_0
  obtain ⟨c_1, e_1, q_1, w_1⟩ := DataW.trod_int Tryz.underlying3 f_1
  simp only [List.cons.injEq, and_true] at e_1; subst e_1 q_1
  subst hx
  refine ⟨⟨c_0, c_1⟩, rfl, ?_⟩
  simp only [mKnot, Rows.uptoBulk, Rows.uptoBulkAll, List.map_cons, List.map_nil, ← size_len]
  omega
def mArc (x : SArc) : Nat := (x.Key.size + 1) + (x.From.size + 1) + (x.To.size + 1) + 1 + mlist mKnot x.Knots + 1
theorem otArc {W : World} : OT W rArc mArc 56 := by
  intro H enc sp held fuel cs x h
  obtain ⟨xs, n, _, hx, hlen, hxl, hf⟩ := DataW.trod_struct Tryz.underlying56 h
  rw [show Tryz.prog.cellsOf 56 = 5 from by kernel_rfl] at hlen
  obtain ⟨x0, x1, x2, x3, x4, rfl⟩ : ∃ x0 x1 x2 x3 x4, cs = [x0, x1, x2, x3, x4] := by
    match cs, hlen with
    | [x0, x1, x2, x3, x4], _ => exact ⟨x0, x1, x2, x3, x4, rfl⟩
  have hxl : xs.length = 5 := hxl
  obtain ⟨d_0, d_1, d_2, d_3, d_4, rfl⟩ : ∃ d_0 d_1 d_2 d_3 d_4, xs = [d_0, d_1, d_2, d_3, d_4] := by
    match xs, hxl with
    | [y0, y1, y2, y3, y4], _ => exact ⟨y0, y1, y2, y3, y4, rfl⟩
  have f_0 : DataW.trod enc Tryz.prog W 0 sp held n 9 [x0] = some d_0 := by have := hf 0 _ rfl; exact this
  have f_1 : DataW.trod enc Tryz.prog W 0 sp held n 9 [x1] = some d_1 := by have := hf 1 _ rfl; exact this
  have f_2 : DataW.trod enc Tryz.prog W 0 sp held n 9 [x2] = some d_2 := by have := hf 2 _ rfl; exact this
  have f_3 : DataW.trod enc Tryz.prog W 0 sp held n 3 [x3] = some d_3 := by have := hf 3 _ rfl; exact this
  have f_4 : DataW.trod enc Tryz.prog W 0 sp held n 54 [x4] = some d_4 := by have := hf 4 _ rfl; exact this
  clear hf
  obtain ⟨c_0, e_0, q_0, w_0⟩ := DataW.trod_string Tryz.underlying9 f_0
  simp only [List.cons.injEq, and_true] at e_0; subst e_0 q_0
  have z_0 := size_len c_0
  obtain ⟨c_1, e_1, q_1, w_1⟩ := DataW.trod_string Tryz.underlying9 f_1
  simp only [List.cons.injEq, and_true] at e_1; subst e_1 q_1
  have z_1 := size_len c_1
  obtain ⟨c_2, e_2, q_2, w_2⟩ := DataW.trod_string Tryz.underlying9 f_2
  simp only [List.cons.injEq, and_true] at e_2; subst e_2 q_2
  have z_2 := size_len c_2
  obtain ⟨c_3, e_3, q_3, w_3⟩ := DataW.trod_int Tryz.underlying3 f_3
  simp only [List.cons.injEq, and_true] at e_3; subst e_3 q_3
  obtain ⟨c_4, ⟨v_4, e_4, r_4⟩, b_4⟩ := OT.slice Tryz.underlying54 (by kernel_rfl) (by decide) otKnot _ _ _ _ _ _ _ f_4
  simp only [List.cons.injEq, and_true] at e_4; subst e_4
  subst hx
  refine ⟨⟨c_0, c_1, c_2, c_3, c_4⟩, ⟨_, rfl, r_4⟩, ?_⟩
  simp only [mArc, Rows.uptoBulk, Rows.uptoBulkAll, List.map_cons, List.map_nil, ← size_len]
  omega
def mBan (x : SBan) : Nat := (x.From.size + 1) + (x.To.size + 1) + 1
theorem otBan {W : World} : OT W rBan mBan 62 := by
  intro H enc sp held fuel cs x h
  obtain ⟨xs, n, _, hx, hlen, hxl, hf⟩ := DataW.trod_struct Tryz.underlying62 h
  rw [show Tryz.prog.cellsOf 62 = 2 from by kernel_rfl] at hlen
  obtain ⟨x0, x1, rfl⟩ : ∃ x0 x1, cs = [x0, x1] := by
    match cs, hlen with
    | [x0, x1], _ => exact ⟨x0, x1, rfl⟩
  have hxl : xs.length = 2 := hxl
  obtain ⟨d_0, d_1, rfl⟩ : ∃ d_0 d_1, xs = [d_0, d_1] := by
    match xs, hxl with
    | [y0, y1], _ => exact ⟨y0, y1, rfl⟩
  have f_0 : DataW.trod enc Tryz.prog W 0 sp held n 9 [x0] = some d_0 := by have := hf 0 _ rfl; exact this
  have f_1 : DataW.trod enc Tryz.prog W 0 sp held n 9 [x1] = some d_1 := by have := hf 1 _ rfl; exact this
  clear hf
  obtain ⟨c_0, e_0, q_0, w_0⟩ := DataW.trod_string Tryz.underlying9 f_0
  simp only [List.cons.injEq, and_true] at e_0; subst e_0 q_0
  have z_0 := size_len c_0
  obtain ⟨c_1, e_1, q_1, w_1⟩ := DataW.trod_string Tryz.underlying9 f_1
  simp only [List.cons.injEq, and_true] at e_1; subst e_1 q_1
  have z_1 := size_len c_1
  subst hx
  refine ⟨⟨c_0, c_1⟩, rfl, ?_⟩
  simp only [mBan, Rows.uptoBulk, Rows.uptoBulkAll, List.map_cons, List.map_nil, ← size_len]
  omega
def mRoads (x : SRoads) : Nat := mlist mNode x.Nodes + mlist mArc x.Arcs + mlist mBan x.Bans + 1
theorem otRoads {W : World} : OT W rRoads mRoads 26 := by
  intro H enc sp held fuel cs x h
  obtain ⟨xs, n, _, hx, hlen, hxl, hf⟩ := DataW.trod_struct Tryz.underlying26 h
  rw [show Tryz.prog.cellsOf 26 = 3 from by kernel_rfl] at hlen
  obtain ⟨x0, x1, x2, rfl⟩ : ∃ x0 x1 x2, cs = [x0, x1, x2] := by
    match cs, hlen with
    | [x0, x1, x2], _ => exact ⟨x0, x1, x2, rfl⟩
  have hxl : xs.length = 3 := hxl
  obtain ⟨d_0, d_1, d_2, rfl⟩ : ∃ d_0 d_1 d_2, xs = [d_0, d_1, d_2] := by
    match xs, hxl with
    | [y0, y1, y2], _ => exact ⟨y0, y1, y2, rfl⟩
  have f_0 : DataW.trod enc Tryz.prog W 0 sp held n 22 [x0] = some d_0 := by have := hf 0 _ rfl; exact this
  have f_1 : DataW.trod enc Tryz.prog W 0 sp held n 23 [x1] = some d_1 := by have := hf 1 _ rfl; exact this
  have f_2 : DataW.trod enc Tryz.prog W 0 sp held n 24 [x2] = some d_2 := by have := hf 2 _ rfl; exact this
  clear hf
  obtain ⟨c_0, ⟨v_0, e_0, r_0⟩, b_0⟩ := OT.slice Tryz.underlying22 (by kernel_rfl) (by decide) otNode _ _ _ _ _ _ _ f_0
  simp only [List.cons.injEq, and_true] at e_0; subst e_0
  obtain ⟨c_1, ⟨v_1, e_1, r_1⟩, b_1⟩ := OT.slice Tryz.underlying23 (by kernel_rfl) (by decide) otArc _ _ _ _ _ _ _ f_1
  simp only [List.cons.injEq, and_true] at e_1; subst e_1
  obtain ⟨c_2, ⟨v_2, e_2, r_2⟩, b_2⟩ := OT.slice Tryz.underlying24 (by kernel_rfl) (by decide) otBan _ _ _ _ _ _ _ f_2
  simp only [List.cons.injEq, and_true] at e_2; subst e_2
  subst hx
  refine ⟨⟨c_0, c_1, c_2⟩, ⟨_, _, _, rfl, r_0, r_1, r_2⟩, ?_⟩
  simp only [mRoads, Rows.uptoBulk, Rows.uptoBulkAll, List.map_cons, List.map_nil, ← size_len]
  omega
theorem arc_len {x : SArc} {n : Nat} (h : mArc x ≤ n) (hn : n ≤ 1048576) : x.Knots.length ≤ 1000000000 := by
  have h3 := mlist_len (m := mKnot) (fun z => by unfold mKnot; omega) x.Knots
  unfold mArc at h
  omega
theorem roads_len {x : SRoads} {n : Nat} (h : mRoads x ≤ n) (hn : n ≤ 1048576) : x.Nodes.length ≤ 1000000000 ∧ x.Arcs.length ≤ 1000000000 ∧ (∀ y ∈ x.Arcs, y.Knots.length ≤ 1000000000) ∧ x.Bans.length ≤ 1000000000 := by
  have h1 := mlist_len (m := mNode) (fun z => by unfold mNode; omega) x.Nodes
  have h2 := mlist_len (m := mArc) (fun z => by unfold mArc; omega) x.Arcs
  have h3 := mlist_len (m := mBan) (fun z => by unfold mBan; omega) x.Bans
  unfold mRoads at h
  refine ⟨by omega, by omega, fun y hy => ?_, by omega⟩
  have h4 := mlist_mem (m := mArc) hy
  exact arc_len (x := y) (n := n) (by omega) hn
theorem strs_len {l : List ByteArray} {n : Nat} (h : mlist (fun s : ByteArray => s.size + 1) l ≤ n) (hn : n ≤ 1048576) : l.length ≤ 1000000000 := by
  have h1 := mlist_len (m := fun s : ByteArray => s.size + 1) (fun z => by omega) l
  omega
namespace drivesWalkedUpto
open Go.ChangeShapes Go.WideShapes Go.ChangeAt Go.RowKit
theorem own : ownKnob Tryz.prog.godebug = none := by kernel_rfl
theorem laidOut : laidOutB Tryz.prog = true := by kernel_rfl
set_option maxRecDepth 100000 in
theorem contract (H : Type) (enc : TypeId × Value → H) (W : World) (base : Nat) (args : Array Value) (ds gs : List (DataW H)) (before : List MemPlace)
    (hval : ∀ (j : Nat) t v, Tryz.f3.params[j]? = some t → args[j]? = some v → Value.okWide Tryz.prog W .any base t v)
    (hW : DataW.Whole enc Tryz.prog Tryz.f3.params.toList Rows.drivesWalkedSpec.vars false W args.toList ds gs before) (hk : Rows.uptoSmall H (ds ++ gs) = true) :
    Calls Tryz.prog 3 args W fun e W' => ∃ v, e = .returned v ∧ Rows.drivesWalkedSpec.post enc Tryz.prog Tryz.f3 false true false false W args v W' := by
  have hW' := hW
  obtain ⟨p, q, hA0, hV, rfl, hfz, hnd⟩ := hW
  have hA : DataW.TrodAll enc Tryz.prog W 0 (fun _ => true) true Tryz.f3.params.toList args.toList ds p := hA0
  rw [Tryz.params3] at hA hval
  obtain ⟨v0, vs0, d0, ds0, p0, q0, hargs, rfl, rfl, h0, r0⟩ := trodAll_cons hA
  obtain ⟨v1, vs1, d1, ds1, p1, q1, rfl, rfl, rfl, h1, r1⟩ := trodAll_cons r0
  obtain ⟨v2, vs2, d2, ds2, p2, q2, rfl, rfl, rfl, h2, r2⟩ := trodAll_cons r1
  obtain ⟨v3, vs3, d3, ds3, p3, q3, rfl, rfl, rfl, h3, r3⟩ := trodAll_cons r2
  obtain ⟨rfl, rfl, rfl⟩ := trodAll_nil r3
  obtain rfl : args = #[v0, v1, v2, v3] := by cases args; simp_all
  obtain ⟨rfl, rfl⟩ := trodVars_none hV
  have k0 := h0
  have lt0 : ∀ x ∈ p0, x.block < W.heap.size := by obtain ⟨m, hm⟩ := k0; exact DataW.trod_lt m _ _ _ hm
  obtain ⟨x0, rfl, z0⟩ := okWide_struct Tryz.underlying26 (hval 0 26 v0 rfl rfl)
  obtain ⟨c0, q0, m0⟩ := OT.agg otRoads h0
  obtain ⟨x0⟩ := x0
  obtain ⟨v0_0, v0_1, v0_2, e0, r0_0, r0_1, r0_2⟩ := q0
  have e0 : x0 = _ := e0
  subst e0
  have k1 := h1
  have lt1 : ∀ x ∈ p1, x.block < W.heap.size := by obtain ⟨m, hm⟩ := k1; exact DataW.trod_lt m _ _ _ hm
  obtain ⟨s1, rfl, rfl, rfl, w1⟩ := Go.ChangeMaps.open_string Tryz.underlying9 (hval 1 9 v1 rfl rfl) k1
  have k2 := h2
  have lt2 : ∀ x ∈ p2, x.block < W.heap.size := by obtain ⟨m, hm⟩ := k2; exact DataW.trod_lt m _ _ _ hm
  obtain ⟨e2, n2, c2, rfl⟩ := okWide_slice Tryz.underlying27 (hval 2 27 v2 rfl rfl)
  obtain ⟨l2, R2, m2⟩ := OT.row (OT.slice Tryz.underlying27 (by kernel_rfl) (by decide) (OT.str Tryz.underlying9)) h2
  obtain ⟨a3, rfl, rfl, rfl, w3⟩ := open_int Tryz.underlying3 (hval 3 3 v3 rfl rfl) h3
  simp only [List.append_nil] at hk
  have hb : Rows.uptoBulkAll [d0, .lit (.string s1.data.toList), d2, .lit (.int .i64 a3)] ≤ 1048576 := of_decide_eq_true hk
  simp only [Rows.uptoBulkAll] at hb
  refine Calls.mono ((p3 r0_0 r0_1 r0_2 R2 (roads_len m0 (by omega)).1 (roads_len m0 (by omega)).2.1 (roads_len m0 (by omega)).2.2.1 (roads_len m0 (by omega)).2.2.2 (strs_len m2 (by omega))) (G0of W) (le_refl _) W W (holdsG0 W)) fun e W' he => ?_
  obtain ⟨v, G', rfl, hh, _, rfl⟩ := he
  have bel := hh.below
  exact ⟨_, rfl, _, _, _, [], _, [], hW', trodAll_mk1 (shut_bool Tryz.underlying4 _), trodAll_cons_mk (Below.trod laidOut (by kernel_rfl) (of_decide_eq_true (by kernel_rfl)) k0 bel lt0) (trodAll_cons_mk (Below.trod laidOut (by kernel_rfl) (of_decide_eq_true (by kernel_rfl)) k1 bel lt1) (trodAll_cons_mk (Below.trod laidOut (by kernel_rfl) (of_decide_eq_true (by kernel_rfl)) k2 bel lt2) (trodAll_cons_mk (shut_int Tryz.underlying3 w3) trodAll_mk0))), rfl, bel.frame _, fun h => by cases h⟩
noncomputable def laidWorld (os : Os) : World :=
  { World.holding Tryz.prog os ⟨#[], #[], []⟩ with heap := (((World.holding Tryz.prog os ⟨#[], #[], []⟩).heap.modify 2 fun o => match o with | .cells _ t fr => .cells #[.int .u8 128, .int .u8 191, .int .u8 160, .int .u8 191, .int .u8 128, .int .u8 159, .int .u8 144, .int .u8 191, .int .u8 128, .int .u8 143, .int .u8 0, .int .u8 0, .int .u8 0, .int .u8 0, .int .u8 0, .int .u8 0, .int .u8 0, .int .u8 0, .int .u8 0, .int .u8 0, .int .u8 0, .int .u8 0, .int .u8 0, .int .u8 0, .int .u8 0, .int .u8 0, .int .u8 0, .int .u8 0, .int .u8 0, .int .u8 0, .int .u8 0, .int .u8 0] t fr | o => o).modify 1 fun o => match o with | .cells _ t fr => .cells (Go.Pinned.utf8FirstZ.map fun n : Nat => Value.int .u8 (n : Int)).toArray t fr | o => o) }
set_option maxRecDepth 100000 in
theorem laid_met (os : Os) : laidMet Tryz.prog Rows.drivesWalkedUptoRow.laid ((laidWorld os).forCall (fun _ _ => 0) ⟨#[], #[.agg #[.slice none 0 0, .slice none 0 0, .slice none 0 0], .string ByteArray.empty, .slice none 0 0, .int .i64 0], []⟩).memory := laidMet_of_run' 8 (by kernel_rfl) (by kernel_rfl)
theorem reads (os : Os) {H : Type} (enc : TypeId × Value → H) : ∃ places, DataW.whole enc Tryz.prog ((laidWorld os).forCall (fun _ _ => 0) ⟨#[], #[.agg #[.slice none 0 0, .slice none 0 0, .slice none 0 0], .string ByteArray.empty, .slice none 0 0, .int .i64 0], []⟩).memory Tryz.f3.params.toList Rows.drivesWalkedSpec.vars false (#[.agg #[.slice none 0 0, .slice none 0 0, .slice none 0 0], .string ByteArray.empty, .slice none 0 0, .int .i64 0] : Array Value).toList 8 = some ([.agg [.nil, .nil, .nil], .lit (.string []), .nil, .lit (.int .i64 0)], [], places) := ⟨[], by kernel_rfl⟩
set_option maxRecDepth 100000 in
theorem lifted (os : Os) (started : os.Started) (H : Type) (enc : TypeId × Value → H) (F : Stop.Interp) :
    ReturnsInHanded {} Tryz.checked os 3 .any ((Rows.OpenSpec.upto Rows.drivesWalkedSpec).preRow enc Tryz.prog Tryz.f3 Rows.drivesWalkedUptoRow.domain false Rows.drivesWalkedUptoRow.laid) (((Rows.OpenSpec.upto Rows.drivesWalkedSpec).at F).post enc Tryz.prog Tryz.f3 false true false false) := by
  obtain ⟨places, hx⟩ := reads os enc
  refine returnsInHanded_of_row (C := Tryz.checked) (s := Rows.OpenSpec.upto Rows.drivesWalkedSpec) own started (by kernel_rfl) Tryz.func3
    (witness_row_at (enc := enc) (C := Tryz.checked) false (laidWorld os) #[.agg #[.slice none 0 0, .slice none 0 0, .slice none 0 0], .string ByteArray.empty, .slice none 0 0, .int .i64 0] rfl (by kernel_rfl) (by kernel_rfl) (by kernel_rfl)
      (OpenSpec.preRow_of_cond 8 hx (by kernel_rfl) (fun k hk => by cases hk; kernel_rfl) (by kernel_rfl) (laid_met os))) ?_
  intro W base args ds gs before hval hW _ hk _ _ _ _
  exact contract H enc W base args ds gs before hval hW (hk _ rfl)
theorem said : Rows.DrivesWalkedUptoSaid :=
  OpenClaim.holds_of_cond 3 Tryz.f3 rfl rfl rfl rfl rfl rfl rfl ⟨rfl, rfl, rfl, rfl, rfl⟩ rfl rfl rfl rfl rfl (by kernel_rfl) Tryz.func3 (by kernel_rfl)
    (of_decide_eq_true (by kernel_rfl)) (by unfold Func.isWrapper; first | (rw [if_pos (by decide +kernel)]; kernel_rfl) | (rw [if_neg (by decide +kernel)]; exact ⟨rfl, rfl⟩))
    (fun os started H enc _ F => by rw [OpenClaim.pre_eq_preRow]; exact lifted os started H enc F)
theorem plain (f : FuncId) (fn : Func) (hf : Tryz.pinned.checked.prog.funcNamed "jitney/jitlaw1.DrivesWalked" = some f) (hfn : Tryz.pinned.checked.prog.funcs[f]? = some fn) :
    false = Tryz.pinned.checked.prog.looks [] ∧ ∀ (j : Nat) t, fn.params[j]? = some t → Tryz.pinned.checked.prog.wantsStandIn t = false := by
  obtain rfl : f = 3 := Option.some.inj ((show Tryz.prog.funcNamed "jitney/jitlaw1.DrivesWalked" = some 3 by kernel_rfl).symm.trans hf) |>.symm
  obtain rfl : fn = Tryz.f3 := (Option.some.inj (Tryz.func3.symm.trans hfn)).symm
  refine ⟨by kernel_rfl, fun j t ht => ?_⟩
  rw [Tryz.params3] at ht
  have hm := Array.mem_of_getElem? ht
  simp only [List.mem_toArray, List.mem_cons, List.not_mem_nil, or_false] at hm
  rcases hm with rfl | rfl | rfl | rfl
  · exact (show Tryz.prog.wantsStandIn 26 = false by kernel_rfl)
  · exact (show Tryz.prog.wantsStandIn 9 = false by kernel_rfl)
  · exact (show Tryz.prog.wantsStandIn 27 = false by kernel_rfl)
  · exact (show Tryz.prog.wantsStandIn 3 = false by kernel_rfl)
theorem proved : Rows.DrivesWalkedUptoCardSaid :=
  Claim7.holds_tied_plain_at .later [] _ _ _ _ said (fun _ h => by cases h) (by kernel_rfl) (fun _ h => by cases h) drivesWalkedUpto_row_tie rfl ⟨rfl, rfl⟩ (by kernel_rfl) rfl plain (by kernel_rfl)
end drivesWalkedUpto
end Go.Proofs.YtjhfhacdjmokaaaGreatDoor
