/- A part of a proof: Walk and Length are as specified for all roads and arcs (statement DrivesWalkedUptoCardSaid) -/
import Derived.Shelf.Slices.CompactS
import Derived.Shelf.Small.Bits
import Derived.Test.YtjhfhacdjmokaaaGreatDoorDwGlZ
import Derived.Test.YtjhfhacdjmokaaaGreatDoorDwSh
import Derived.Test.YtjhfhacdjmokaaaGreatDoorDwW28
set_option linter.unusedSimpArgs false
set_option linter.unusedVariables false
set_option linter.unusedSectionVars false
namespace Go.Proofs.YtjhfhacdjmokaaaGreatDoor
open Go Go.GL
attribute [local irreducible] Ycall GCalls
set_option maxRecDepth 10000
set_option maxHeartbeats 0
structure SNode where
  Key : ByteArray
  X : Int
  Y : Int
deriving DecidableEq
def rNode : Rp SNode where
  sz := 3
  R G x cs := cs = [.string x.Key, .int .i64 x.X, .int .i64 x.Y]
  len := by rintro G x cs rfl; rfl
  ile := by rintro G G' x cs hl hv; exact hv
  one := by rintro G x cs rfl; rfl
structure SKnot where
  At : Int
  Time : Int
deriving DecidableEq
def rKnot : Rp SKnot where
  sz := 2
  R G x cs := cs = [.int .i64 x.At, .int .i64 x.Time]
  len := by rintro G x cs rfl; rfl
  ile := by rintro G G' x cs hl hv; exact hv
  one := by rintro G x cs rfl; rfl
structure SArc where
  Key : ByteArray
  From : ByteArray
  To : ByteArray
  Long : Int
  Knots : List SKnot
deriving DecidableEq
def rArc : Rp SArc where
  sz := 5
  R G x cs := ∃ v4, cs = [.string x.Key, .string x.From, .string x.To, .int .i64 x.Long, v4] ∧ RSl rKnot G v4 x.Knots
  len := by rintro G x cs ⟨v4, rfl, h0⟩; rfl
  ile := by rintro G G' x cs hl ⟨v4, rfl, h0⟩; exact ⟨v4, rfl, h0.ile hl⟩
  one := by rintro G x cs ⟨v4, rfl, h0⟩; obtain ⟨a0, c0, rfl⟩ := h0.val; rfl
structure SBan where
  From : ByteArray
  To : ByteArray
deriving DecidableEq
def rBan : Rp SBan where
  sz := 2
  R G x cs := cs = [.string x.From, .string x.To]
  len := by rintro G x cs rfl; rfl
  ile := by rintro G G' x cs hl hv; exact hv
  one := by rintro G x cs rfl; rfl
theorem cmpL_s : ∀ (a b : List UInt8), Lib.compareBytes a b = if a < b then -1 else if b < a then 1 else 0
  | [], [] => by simp [Lib.compareBytes]
  | [], _ :: _ => by simp [Lib.compareBytes]
  | _ :: _, [] => by simp [Lib.compareBytes]
  | x :: xs, y :: ys => by
    have ih := cmpL_s xs ys
    simp only [Lib.compareBytes, List.cons_lt_cons_iff, ih]
    by_cases h1 : x < y
    · simp [h1]
    · by_cases h2 : y < x
      · have e1 : ¬ x = y := by rintro rfl; exact h1 h2
        have e2 : ¬ y = x := fun q => e1 q.symm
        simp [h1, h2, e1, e2]
      · have e : x = y := by
          rw [UInt8.lt_iff_toNat_lt] at h1 h2
          exact UInt8.toNat_inj.1 (by omega)
        subst e; simp [h1]
theorem cmpB (a b : ByteArray) : Lib.compareBytes a.data.toList b.data.toList = sCmp a b := by
  unfold sCmp sLt; rw [cmpL_s]; simp
theorem p43 {G0 : GH} {a b : ByteArray} : Pure Tryz.prog G0 43 [.string a, .string b] (V (sCmp a b)) := by
  rw [← cmpB]; exact pure_of_calls G0 (fun w => Any.strings_Compare Tryz.layCmp a b w)
def onMap (a b : Int) : Bool := within a (-10000) 10000 && within b (-10000) 10000
theorem p63 {G0 : GH} {a b : Int}  : Pure Tryz.prog G0 63 [V a, V b] (.bool (onMap a b)) := by
  intro G hG
  clear hG G0
  refine enter Tryz.func63 13 #[.tmp 4] rfl Tryz.ntmps63 rfl (by decide +kernel) rfl ?_
  unfold onMap
  focus
    simp (maxDischargeDepth := 9) only [↓gB, gV, gT, reduceIte, reduceCtorEq, Nat.reduceEqDiff, Nat.reduceAdd, Nat.reduceSub, Nat.reduceLeDiff, Nat.reduceLT, Int.reduceEq, Nat.reduceMul]
    refine Ycp (p38) ?_
    simp (maxDischargeDepth := 9) only [↓gB, gV, gT, reduceIte, reduceCtorEq, Nat.reduceEqDiff, Nat.reduceAdd, Nat.reduceSub, Nat.reduceLeDiff, Nat.reduceLT, Int.reduceEq, Nat.reduceMul]
    rcases bool_tf (Go.Proofs.YtjhfhacdjmokaaaGreatDoor.within a (-10000) 10000) with c1 | c1
    rotate_left 1
    focus
      simp (maxDischargeDepth := 9) only [↓gB, gV, gT, reduceIte, reduceCtorEq, Nat.reduceEqDiff, Nat.reduceAdd, Nat.reduceSub, Nat.reduceLeDiff, Nat.reduceLT, Int.reduceEq, Nat.reduceMul, c1]
      exact Kup_val (le_refl _) rfl
    rotate_right 1
    simp (maxDischargeDepth := 9) only [↓gB, gV, gT, reduceIte, reduceCtorEq, Nat.reduceEqDiff, Nat.reduceAdd, Nat.reduceSub, Nat.reduceLeDiff, Nat.reduceLT, Int.reduceEq, Nat.reduceMul, c1]
    refine Ycp (p38) ?_
    simp (maxDischargeDepth := 9) only [↓gB, gV, gT, reduceIte, reduceCtorEq, Nat.reduceEqDiff, Nat.reduceAdd, Nat.reduceSub, Nat.reduceLeDiff, Nat.reduceLT, Int.reduceEq, Nat.reduceMul, c1]
    exact Kup_val (le_refl _) rfl
def banCmp (a b c d : ByteArray) : Int := orOf [sCmp a c, sCmp b d]
theorem p40 {G0 : GH} {a b c d : ByteArray}  : Pure Tryz.prog G0 40 [.agg #[.string a, .string b], .agg #[.string c, .string d]] (V (banCmp a b c d)) := by
  intro G hG
  clear hG G0
  refine enter Tryz.func40 17 #[.tmp 4] rfl Tryz.ntmps40 rfl (by decide +kernel) rfl ?_
  simp (maxDischargeDepth := 9) only [↓gB, gV, gT, reduceIte, reduceCtorEq, Nat.reduceEqDiff, Nat.reduceAdd, Nat.reduceSub, Nat.reduceLeDiff, Nat.reduceLT, Int.reduceEq, Nat.reduceMul]
  refine Yn2 fun r1 h1 => ?_
  simp (maxDischargeDepth := 9) only [↓gB, gV, gT, reduceIte, reduceCtorEq, Nat.reduceEqDiff, Nat.reduceAdd, Nat.reduceSub, Nat.reduceLeDiff, Nat.reduceLT, Int.reduceEq, Nat.reduceMul, h1]
  refine Yn2 fun r2 h2 => ?_
  have n2 := h2
  simp only [put_none_eq, ne_eq] at n2
  simp (maxDischargeDepth := 9) only [↓gB, gV, gT, reduceIte, reduceCtorEq, Nat.reduceEqDiff, Nat.reduceAdd, Nat.reduceSub, Nat.reduceLeDiff, Nat.reduceLT, Int.reduceEq, Nat.reduceMul, h1, h2, n2]
  refine Xdraw_intro [0, 1, 2, 3, 5, 6, 7, 8, 4, 9, 10, 11, 12] mixed (by kernel_rfl) (by decide +kernel) ?_
  simp (maxDischargeDepth := 9) only [↓gB, gV, gT, reduceIte, reduceCtorEq, Nat.reduceEqDiff, Nat.reduceAdd, Nat.reduceSub, Nat.reduceLeDiff, Nat.reduceLT, Int.reduceEq, Nat.reduceMul, h1, h2, n2]
  refine Ycp (p43) ?_
  simp (maxDischargeDepth := 9) only [↓gB, gV, gT, reduceIte, reduceCtorEq, Nat.reduceEqDiff, Nat.reduceAdd, Nat.reduceSub, Nat.reduceLeDiff, Nat.reduceLT, Int.reduceEq, Nat.reduceMul, h1, h2, n2]
  refine Ycp (p43) ?_
  simp (maxDischargeDepth := 9) only [↓gB, gV, gT, reduceIte, reduceCtorEq, Nat.reduceEqDiff, Nat.reduceAdd, Nat.reduceSub, Nat.reduceLeDiff, Nat.reduceLT, Int.reduceEq, Nat.reduceMul, h1, h2, n2]
  refine Yn1 fun r3 h3 => ?_
  have n3 := h3
  simp only [put_none_eq, ne_eq] at n3
  have n30 := h3
  simp only [put_none_eq, ne_eq, @eq_comm Nat r3] at n30
  simp (maxDischargeDepth := 9) only [↓gB, gV, gT, reduceIte, reduceCtorEq, Nat.reduceEqDiff, Nat.reduceAdd, Nat.reduceSub, Nat.reduceLeDiff, Nat.reduceLT, Int.reduceEq, Nat.reduceMul, h1, h2, n2, h3, n3, n30]
  refine Ycp (p56 (by exact put_self _ _ _)) ?_
  simp (maxDischargeDepth := 9) only [↓gB, gV, gT, reduceIte, reduceCtorEq, Nat.reduceEqDiff, Nat.reduceAdd, Nat.reduceSub, Nat.reduceLeDiff, Nat.reduceLT, Int.reduceEq, Nat.reduceMul, h1, h2, n2, h3, n3, n30]
  exact Kup_val (by simp (maxDischargeDepth := 9) only [le_self, le_puts, le_put0, h1, h2, n2, h3, n3, n30]) rfl
theorem p42 {G0 : GH} {x : SNode} {k : ByteArray}  : Pure Tryz.prog G0 42 [.agg #[.string x.Key, V x.X, V x.Y], .string k] (V (sCmp x.Key k)) := by
  intro G hG
  clear hG G0
  refine enter Tryz.func42 9 #[.tmp 4] rfl Tryz.ntmps42 rfl (by decide +kernel) rfl ?_
  simp (maxDischargeDepth := 9) only [↓gB, gV, gT, reduceIte, reduceCtorEq, Nat.reduceEqDiff, Nat.reduceAdd, Nat.reduceSub, Nat.reduceLeDiff, Nat.reduceLT, Int.reduceEq, Nat.reduceMul]
  refine Yn2 fun r1 h1 => ?_
  simp (maxDischargeDepth := 9) only [↓gB, gV, gT, reduceIte, reduceCtorEq, Nat.reduceEqDiff, Nat.reduceAdd, Nat.reduceSub, Nat.reduceLeDiff, Nat.reduceLT, Int.reduceEq, Nat.reduceMul, h1]
  refine Ycp (p43) ?_
  simp (maxDischargeDepth := 9) only [↓gB, gV, gT, reduceIte, reduceCtorEq, Nat.reduceEqDiff, Nat.reduceAdd, Nat.reduceSub, Nat.reduceLeDiff, Nat.reduceLT, Int.reduceEq, Nat.reduceMul, h1]
  exact Kup_val (by simp (maxDischargeDepth := 9) only [le_self, le_puts, le_put0, h1]) rfl
theorem p50 {G0 : GH} {x : SArc} {k : ByteArray} {a : Option Addr} {n c : Nat}  : Pure Tryz.prog G0 50 [.agg #[.string x.Key, .string x.From, .string x.To, V x.Long, .slice a n c], .string k] (V (sCmp x.Key k)) := by
  intro G hG
  clear hG G0
  refine enter Tryz.func50 9 #[.tmp 4] rfl Tryz.ntmps50 rfl (by decide +kernel) rfl ?_
  simp (maxDischargeDepth := 9) only [↓gB, gV, gT, reduceIte, reduceCtorEq, Nat.reduceEqDiff, Nat.reduceAdd, Nat.reduceSub, Nat.reduceLeDiff, Nat.reduceLT, Int.reduceEq, Nat.reduceMul]
  refine Yn2 fun r1 h1 => ?_
  simp (maxDischargeDepth := 9) only [↓gB, gV, gT, reduceIte, reduceCtorEq, Nat.reduceEqDiff, Nat.reduceAdd, Nat.reduceSub, Nat.reduceLeDiff, Nat.reduceLT, Int.reduceEq, Nat.reduceMul, h1]
  refine Ycp (p43) ?_
  simp (maxDischargeDepth := 9) only [↓gB, gV, gT, reduceIte, reduceCtorEq, Nat.reduceEqDiff, Nat.reduceAdd, Nat.reduceSub, Nat.reduceLeDiff, Nat.reduceLT, Int.reduceEq, Nat.reduceMul, h1]
  exact Kup_val (by simp (maxDischargeDepth := 9) only [le_self, le_puts, le_put0, h1]) rfl
theorem p55 {G0 : GH} {x : SNode} {k : ByteArray} {r : Nat} (hr : G0 r = some (.cells [.string k].toArray 9 (0, 0), true)) : Pure Tryz.prog G0 55 [.agg #[.string x.Key, V x.X, V x.Y], .pointer (some ⟨r, 0, none⟩)] (.bool (decide (x.Key = k))) := by
  intro G hG; replace hr := hG _ _ hr
  clear hG G0
  refine enter Tryz.func55 8 #[.tmp 3] rfl Tryz.ntmps55 rfl (by decide +kernel) rfl ?_
  have kr := kn_of hr
  simp (maxDischargeDepth := 9) only [↓gB, gV, gT, reduceIte, reduceCtorEq, Nat.reduceEqDiff, Nat.reduceAdd, Nat.reduceSub, Nat.reduceLeDiff, Nat.reduceLT, Int.reduceEq, Nat.reduceMul, hr, kr]
  refine Yn2 fun r1 h1 => ?_
  simp (maxDischargeDepth := 9) only [↓gB, gV, gT, reduceIte, reduceCtorEq, Nat.reduceEqDiff, Nat.reduceAdd, Nat.reduceSub, Nat.reduceLeDiff, Nat.reduceLT, Int.reduceEq, Nat.reduceMul, hr, kr, h1]
  exact Kup_val (by simp (maxDischargeDepth := 9) only [le_self, le_puts, le_put0, h1]) rfl
theorem p60 {G0 : GH} {x : SArc} {k : ByteArray} {a : Option Addr} {n c : Nat} {r : Nat} (hr : G0 r = some (.cells [.string k].toArray 9 (0, 0), true)) : Pure Tryz.prog G0 60 [.agg #[.string x.Key, .string x.From, .string x.To, V x.Long, .slice a n c], .pointer (some ⟨r, 0, none⟩)] (.bool (decide (x.Key = k))) := by
  intro G hG; replace hr := hG _ _ hr
  clear hG G0
  refine enter Tryz.func60 8 #[.tmp 3] rfl Tryz.ntmps60 rfl (by decide +kernel) rfl ?_
  have kr := kn_of hr
  simp (maxDischargeDepth := 9) only [↓gB, gV, gT, reduceIte, reduceCtorEq, Nat.reduceEqDiff, Nat.reduceAdd, Nat.reduceSub, Nat.reduceLeDiff, Nat.reduceLT, Int.reduceEq, Nat.reduceMul, hr, kr]
  refine Yn2 fun r1 h1 => ?_
  simp (maxDischargeDepth := 9) only [↓gB, gV, gT, reduceIte, reduceCtorEq, Nat.reduceEqDiff, Nat.reduceAdd, Nat.reduceSub, Nat.reduceLeDiff, Nat.reduceLT, Int.reduceEq, Nat.reduceMul, hr, kr, h1]
  exact Kup_val (by simp (maxDischargeDepth := 9) only [le_self, le_puts, le_put0, h1]) rfl
theorem p46 {G0 : GH} {k : SKnot} {t : Int}  : Pure Tryz.prog G0 46 [.agg #[V k.At, V k.Time], V t] (V (cmp3 k.At t)) := by
  intro G hG
  clear hG G0
  refine enter Tryz.func46 9 #[.tmp 4] rfl Tryz.ntmps46 rfl (by decide +kernel) rfl ?_
  simp (maxDischargeDepth := 9) only [↓gB, gV, gT, reduceIte, reduceCtorEq, Nat.reduceEqDiff, Nat.reduceAdd, Nat.reduceSub, Nat.reduceLeDiff, Nat.reduceLT, Int.reduceEq, Nat.reduceMul]
  refine Yn2 fun r1 h1 => ?_
  simp (maxDischargeDepth := 9) only [↓gB, gV, gT, reduceIte, reduceCtorEq, Nat.reduceEqDiff, Nat.reduceAdd, Nat.reduceSub, Nat.reduceLeDiff, Nat.reduceLT, Int.reduceEq, Nat.reduceMul, h1]
  refine Ycp (p47) ?_
  simp (maxDischargeDepth := 9) only [↓gB, gV, gT, reduceIte, reduceCtorEq, Nat.reduceEqDiff, Nat.reduceAdd, Nat.reduceSub, Nat.reduceLeDiff, Nat.reduceLT, Int.reduceEq, Nat.reduceMul, h1]
  exact Kup_val (by simp (maxDischargeDepth := 9) only [le_self, le_puts, le_put0, h1]) rfl
end Go.Proofs.YtjhfhacdjmokaaaGreatDoor
namespace Go.Proofs.YtjhfhacdjmokaaaGreatDoor
open Go Go.GL
attribute [local irreducible] Ycall GCalls
set_option maxRecDepth 10000
set_option maxHeartbeats 0
theorem p41 {G0 : GH} {v : Value} {ky : ByteArray} {l : List SNode} {cf : SNode → Int} {g : Nat} (hv : RSl rNode G0 v l) (hg : GL.Enters Tryz.prog g) (hn : (l.length : Int) ≤ 4611686018427387903) (hmono : ∀ (i j : Nat) x y, i < j → l[i]? = some x → l[j]? = some y → cf y < 0 → cf x < 0) (hf : ∀ (G0' : GH), G0.le G0' → ∀ x cs, (rNode).R G0' x cs → Pure Tryz.prog G0' g [.agg cs.toArray, .string ky] (V (cf x))) : Pure Tryz.prog G0 41 [v, .string ky, .func (.func g) #[] #[]] (.tuple #[V (bsPos cf l), .bool (bsHas cf l)]) := by
  intro G hG; replace hv := hv.le hG; replace hf := fun (G' : GH) (h : G.le G') => hf G' (hG.trans h)
  clear hG G0
  refine enter Tryz.func41 49 #[.tmp 6, .tmp 7] rfl Tryz.ntmps41 rfl (by decide +kernel) rfl ?_
  obtain ⟨a, c, rfl⟩ := hv.val
  have hg' := eq_true hg
  simp (maxDischargeDepth := 9) only [↓gB, gV, gT, reduceIte, reduceCtorEq, Nat.reduceEqDiff, Nat.reduceAdd, Nat.reduceSub, Nat.reduceLeDiff, Nat.reduceLT, Int.reduceEq, Nat.reduceMul]
  focus
    refine Xloop_intro _ _ _ _ _ (fun k f G' => ∃ (i : Nat) (j : Nat), k = j - i ∧ (i ≤ j) ∧ (j ≤ l.length) ∧ (∀ (k : Nat) x, k < i → l[k]? = some x → cf x < 0) ∧ (∀ (k : Nat) x, j ≤ k → l[k]? = some x → ¬ cf x < 0) ∧ (G = G') ∧ f 9 = V i ∧ f 10 = V j ∧ f 0 = Go.Value.slice a l.length c ∧ f 1 = Go.Value.string ky ∧ f 2 = Go.Value.func (Go.Fn.func g) #[] #[] ∧ f 8 = Go.Value.int Go.IntKind.i64 ↑l.length) _ ⟨0, l.length, rfl, ?_, ?_, ?_, ?_, rfl, by simp (maxDischargeDepth := 9) only [↓gB, gV, gT, reduceIte, reduceCtorEq, Nat.reduceEqDiff, Nat.reduceAdd, Nat.reduceSub, Nat.reduceLeDiff, Nat.reduceLT, Int.reduceEq, Nat.reduceMul, and_self]⟩ ?_
    · omega
    · omega
    · omega
    · (intro k x hk hx; rw [List.getElem?_eq_none hk] at hx; cases hx; done)
    rintro k f G' ⟨i, j, rfl, hij, hj, hb1, hb2, rfl, f9, f10, f0, f1, f2, f8⟩
  have hm := @mid_eq i j (by omega)
  simp (maxDischargeDepth := 9) only [↓gB, gV, gT, reduceIte, reduceCtorEq, Nat.reduceEqDiff, Nat.reduceAdd, Nat.reduceSub, Nat.reduceLeDiff, Nat.reduceLT, Int.reduceEq, Nat.reduceMul, f9, f10, f0, f1, f2, f8, hm]
  refine Xc_split _ _ _ _ _ (fun c1 => ?_) (fun c1 => ?_)
  · simp (maxDischargeDepth := 9) only [↓gB, gV, gT, reduceIte, reduceCtorEq, Nat.reduceEqDiff, Nat.reduceAdd, Nat.reduceSub, Nat.reduceLeDiff, Nat.reduceLT, Int.reduceEq, Nat.reduceMul, f9, f10, f0, f1, f2, f8, hm, c1, hg']
    refine vguard_intro (by omega) ?_
    obtain ⟨x1, a1, s1, m1, rfl, rfl, e1⟩ := hv.at ((i + j) / 2) (by omega) 3 rfl
    simp (maxDischargeDepth := 9) only [↓gB, gV, gT, reduceIte, reduceCtorEq, Nat.reduceEqDiff, Nat.reduceAdd, Nat.reduceSub, Nat.reduceLeDiff, Nat.reduceLT, Int.reduceEq, Nat.reduceMul, f9, f10, f1, f2, f8, hm, c1, f0, e1, hg']
    refine vguard_intro (by omega) ?_
    refine Ycp (hf _ (le_refl _) x1 _ rfl) ?_
    focus
      simp (maxDischargeDepth := 9) only [↓gB, gV, gT, reduceIte, reduceCtorEq, Nat.reduceEqDiff, Nat.reduceAdd, Nat.reduceSub, Nat.reduceLeDiff, Nat.reduceLT, Int.reduceEq, Nat.reduceMul, f9, f10, f1, f2, f8, hm, c1, f0, e1, hg']
      refine Xc_split _ _ _ _ _ (fun c2 => ?_) (fun c2 => ?_)
      rotate_left 1
      focus
        simp (maxDischargeDepth := 9) only [↓gB, gV, gT, reduceIte, reduceCtorEq, Nat.reduceEqDiff, Nat.reduceAdd, Nat.reduceSub, Nat.reduceLeDiff, Nat.reduceLT, Int.reduceEq, Nat.reduceMul, f9, f10, f1, f2, f8, hm, c1, f0, e1, c2, hg']
        have q1 : Go.IntKind.i64.wrap (↑i + ↑j) = ↑i + ↑j := wrap_id (by omega)
        simp (maxDischargeDepth := 9) only [↓gB, gV, gT, reduceIte, reduceCtorEq, Nat.reduceEqDiff, Nat.reduceAdd, Nat.reduceSub, Nat.reduceLeDiff, Nat.reduceLT, Int.reduceEq, Nat.reduceMul, f9, f10, f1, f2, f8, hm, c1, f0, e1, c2, q1, hg']
        rw [N_lp]
        refine ⟨_, ?_, _, ?_, i, (i + j) / 2, rfl, ?_, ?_, ?_, ?_, rfl, by simp (maxDischargeDepth := 9) only [↓gB, gV, gT, reduceIte, reduceCtorEq, Nat.reduceEqDiff, Nat.reduceAdd, Nat.reduceSub, Nat.reduceLeDiff, Nat.reduceLT, Int.reduceEq, Nat.reduceMul, f9, f10, f1, f2, f8, hm, c1, f0, e1, c2, q1, hg', nat_succ, and_self]⟩
        · omega
        · exact sub_refl _
        · omega
        · omega
        · assumption
        · (intro k x hk hx hlt; by_cases e : k = (i + j) / 2; (subst e; rw [m1] at hx; cases hx; exact c2 hlt); exact c2 (hmono ((i + j) / 2) k x1 x (by omega) m1 hx hlt); done)
      rotate_right 1
      simp (maxDischargeDepth := 9) only [↓gB, gV, gT, reduceIte, reduceCtorEq, Nat.reduceEqDiff, Nat.reduceAdd, Nat.reduceSub, Nat.reduceLeDiff, Nat.reduceLT, Int.reduceEq, Nat.reduceMul, f9, f10, f1, f2, f8, hm, c1, f0, e1, c2, hg']
      have q1 : Go.IntKind.i64.wrap (↑i + ↑j) = ↑i + ↑j := wrap_id (by omega)
      simp (maxDischargeDepth := 9) only [↓gB, gV, gT, reduceIte, reduceCtorEq, Nat.reduceEqDiff, Nat.reduceAdd, Nat.reduceSub, Nat.reduceLeDiff, Nat.reduceLT, Int.reduceEq, Nat.reduceMul, f9, f10, f1, f2, f8, hm, c1, f0, e1, c2, q1, hg']
      have q2 : Go.IntKind.i64.wrap (↑((i + j) / 2) + 1) = ↑((i + j) / 2) + 1 := wrap_id (by omega)
      simp (maxDischargeDepth := 9) only [↓gB, gV, gT, reduceIte, reduceCtorEq, Nat.reduceEqDiff, Nat.reduceAdd, Nat.reduceSub, Nat.reduceLeDiff, Nat.reduceLT, Int.reduceEq, Nat.reduceMul, f9, f10, f1, f2, f8, hm, c1, f0, e1, c2, q1, q2, hg']
      rw [N_lp]
      refine ⟨_, ?_, _, ?_, (i + j) / 2 + 1, j, rfl, ?_, ?_, ?_, ?_, rfl, by simp (maxDischargeDepth := 9) only [↓gB, gV, gT, reduceIte, reduceCtorEq, Nat.reduceEqDiff, Nat.reduceAdd, Nat.reduceSub, Nat.reduceLeDiff, Nat.reduceLT, Int.reduceEq, Nat.reduceMul, f9, f10, f1, f2, f8, hm, c1, f0, e1, c2, q1, q2, hg', nat_succ, and_self]⟩
      · omega
      · exact sub_refl _
      · omega
      · assumption
      · (intro k x hk hx; by_cases e : k = (i + j) / 2; (subst e; rw [m1] at hx; cases hx; exact c2); exact hmono k ((i + j) / 2) x x1 (by omega) hx m1 c2; done)
      · assumption
  · have hp : bsPos cf l = i := bsPos_at (by omega) hb1 (fun k x hk => hb2 k x (by omega))
    simp (maxDischargeDepth := 9) only [↓gB, gV, gT, reduceIte, reduceCtorEq, Nat.reduceEqDiff, Nat.reduceAdd, Nat.reduceSub, Nat.reduceLeDiff, Nat.reduceLT, Int.reduceEq, Nat.reduceMul, f9, f10, f0, f1, f2, f8, hm, c1, hg']
    by_cases c2 : (i : Int) < l.length
    · simp (maxDischargeDepth := 9) only [↓gB, gV, gT, reduceIte, reduceCtorEq, Nat.reduceEqDiff, Nat.reduceAdd, Nat.reduceSub, Nat.reduceLeDiff, Nat.reduceLT, Int.reduceEq, Nat.reduceMul, f9, f10, f0, f1, f2, f8, hm, c1, c2, hg']
      obtain ⟨x1, a1, s1, m1, rfl, rfl, e1⟩ := hv.at (i) (by omega) 3 rfl
      simp (maxDischargeDepth := 9) only [↓gB, gV, gT, reduceIte, reduceCtorEq, Nat.reduceEqDiff, Nat.reduceAdd, Nat.reduceSub, Nat.reduceLeDiff, Nat.reduceLT, Int.reduceEq, Nat.reduceMul, f9, f10, f1, f2, f8, hm, c1, c2, f0, e1, hg']
      refine vguard_intro (by simp) ?_
      refine Ycp (hf _ (le_refl _) x1 _ rfl) ?_
      simp (maxDischargeDepth := 9) only [↓gB, gV, gT, reduceIte, reduceCtorEq, Nat.reduceEqDiff, Nat.reduceAdd, Nat.reduceSub, Nat.reduceLeDiff, Nat.reduceLT, Int.reduceEq, Nat.reduceMul, f9, f10, f1, f2, f8, hm, c1, c2, f0, e1]
      refine Kup_val (le_refl _) ?_
      focus (simp [hp, bsHas, m1]; done)
    · have hnone : l[i]? = none := List.getElem?_eq_none (by omega)
      simp (maxDischargeDepth := 9) only [↓gB, gV, gT, reduceIte, reduceCtorEq, Nat.reduceEqDiff, Nat.reduceAdd, Nat.reduceSub, Nat.reduceLeDiff, Nat.reduceLT, Int.reduceEq, Nat.reduceMul, f9, f10, f0, f1, f2, f8, hm, c1, c2, hg']
      refine Kup_val (le_refl _) ?_
      focus (simp [hp, bsHas, hnone]; done)
theorem p49 {G0 : GH} {v : Value} {ky : ByteArray} {l : List SArc} {cf : SArc → Int} {g : Nat} (hv : RSl rArc G0 v l) (hg : GL.Enters Tryz.prog g) (hn : (l.length : Int) ≤ 4611686018427387903) (hmono : ∀ (i j : Nat) x y, i < j → l[i]? = some x → l[j]? = some y → cf y < 0 → cf x < 0) (hf : ∀ (G0' : GH), G0.le G0' → ∀ x cs, (rArc).R G0' x cs → Pure Tryz.prog G0' g [.agg cs.toArray, .string ky] (V (cf x))) : Pure Tryz.prog G0 49 [v, .string ky, .func (.func g) #[] #[]] (.tuple #[V (bsPos cf l), .bool (bsHas cf l)]) := by
  intro G hG; replace hv := hv.le hG; replace hf := fun (G' : GH) (h : G.le G') => hf G' (hG.trans h)
  clear hG G0
  refine enter Tryz.func49 49 #[.tmp 6, .tmp 7] rfl Tryz.ntmps49 rfl (by decide +kernel) rfl ?_
  obtain ⟨a, c, rfl⟩ := hv.val
  have hg' := eq_true hg
  simp (maxDischargeDepth := 9) only [↓gB, gV, gT, reduceIte, reduceCtorEq, Nat.reduceEqDiff, Nat.reduceAdd, Nat.reduceSub, Nat.reduceLeDiff, Nat.reduceLT, Int.reduceEq, Nat.reduceMul]
  focus
    refine Xloop_intro _ _ _ _ _ (fun k f G' => ∃ (i : Nat) (j : Nat), k = j - i ∧ (i ≤ j) ∧ (j ≤ l.length) ∧ (∀ (k : Nat) x, k < i → l[k]? = some x → cf x < 0) ∧ (∀ (k : Nat) x, j ≤ k → l[k]? = some x → ¬ cf x < 0) ∧ (G = G') ∧ f 9 = V i ∧ f 10 = V j ∧ f 0 = Go.Value.slice a l.length c ∧ f 1 = Go.Value.string ky ∧ f 2 = Go.Value.func (Go.Fn.func g) #[] #[] ∧ f 8 = Go.Value.int Go.IntKind.i64 ↑l.length) _ ⟨0, l.length, rfl, ?_, ?_, ?_, ?_, rfl, by simp (maxDischargeDepth := 9) only [↓gB, gV, gT, reduceIte, reduceCtorEq, Nat.reduceEqDiff, Nat.reduceAdd, Nat.reduceSub, Nat.reduceLeDiff, Nat.reduceLT, Int.reduceEq, Nat.reduceMul, and_self]⟩ ?_
    · omega
    · omega
    · omega
    · (intro k x hk hx; rw [List.getElem?_eq_none hk] at hx; cases hx; done)
    rintro k f G' ⟨i, j, rfl, hij, hj, hb1, hb2, rfl, f9, f10, f0, f1, f2, f8⟩
  have hm := @mid_eq i j (by omega)
  simp (maxDischargeDepth := 9) only [↓gB, gV, gT, reduceIte, reduceCtorEq, Nat.reduceEqDiff, Nat.reduceAdd, Nat.reduceSub, Nat.reduceLeDiff, Nat.reduceLT, Int.reduceEq, Nat.reduceMul, f9, f10, f0, f1, f2, f8, hm]
  refine Xc_split _ _ _ _ _ (fun c1 => ?_) (fun c1 => ?_)
  · simp (maxDischargeDepth := 9) only [↓gB, gV, gT, reduceIte, reduceCtorEq, Nat.reduceEqDiff, Nat.reduceAdd, Nat.reduceSub, Nat.reduceLeDiff, Nat.reduceLT, Int.reduceEq, Nat.reduceMul, f9, f10, f0, f1, f2, f8, hm, c1, hg']
    refine vguard_intro (by omega) ?_
    obtain ⟨x1, a1, s1, m1, rfl, ⟨v1, rfl, w1⟩, e1⟩ := hv.at ((i + j) / 2) (by omega) 5 rfl
    obtain ⟨aw1, cw1, rfl⟩ := RSl.val w1
    simp (maxDischargeDepth := 9) only [↓gB, gV, gT, reduceIte, reduceCtorEq, Nat.reduceEqDiff, Nat.reduceAdd, Nat.reduceSub, Nat.reduceLeDiff, Nat.reduceLT, Int.reduceEq, Nat.reduceMul, f9, f10, f1, f2, f8, hm, c1, f0, e1, hg']
    refine vguard_intro (by omega) ?_
    refine Ycp (hf _ (le_refl _) x1 _ ⟨_, rfl, w1⟩) ?_
    focus
      simp (maxDischargeDepth := 9) only [↓gB, gV, gT, reduceIte, reduceCtorEq, Nat.reduceEqDiff, Nat.reduceAdd, Nat.reduceSub, Nat.reduceLeDiff, Nat.reduceLT, Int.reduceEq, Nat.reduceMul, f9, f10, f1, f2, f8, hm, c1, f0, e1, hg']
      refine Xc_split _ _ _ _ _ (fun c2 => ?_) (fun c2 => ?_)
      rotate_left 1
      focus
        simp (maxDischargeDepth := 9) only [↓gB, gV, gT, reduceIte, reduceCtorEq, Nat.reduceEqDiff, Nat.reduceAdd, Nat.reduceSub, Nat.reduceLeDiff, Nat.reduceLT, Int.reduceEq, Nat.reduceMul, f9, f10, f1, f2, f8, hm, c1, f0, e1, c2, hg']
        have q1 : Go.IntKind.i64.wrap (↑i + ↑j) = ↑i + ↑j := wrap_id (by omega)
        simp (maxDischargeDepth := 9) only [↓gB, gV, gT, reduceIte, reduceCtorEq, Nat.reduceEqDiff, Nat.reduceAdd, Nat.reduceSub, Nat.reduceLeDiff, Nat.reduceLT, Int.reduceEq, Nat.reduceMul, f9, f10, f1, f2, f8, hm, c1, f0, e1, c2, q1, hg']
        rw [N_lp]
        refine ⟨_, ?_, _, ?_, i, (i + j) / 2, rfl, ?_, ?_, ?_, ?_, rfl, by simp (maxDischargeDepth := 9) only [↓gB, gV, gT, reduceIte, reduceCtorEq, Nat.reduceEqDiff, Nat.reduceAdd, Nat.reduceSub, Nat.reduceLeDiff, Nat.reduceLT, Int.reduceEq, Nat.reduceMul, f9, f10, f1, f2, f8, hm, c1, f0, e1, c2, q1, hg', nat_succ, and_self]⟩
        · omega
        · exact sub_refl _
        · omega
        · omega
        · assumption
        · (intro k x hk hx hlt; by_cases e : k = (i + j) / 2; (subst e; rw [m1] at hx; cases hx; exact c2 hlt); exact c2 (hmono ((i + j) / 2) k x1 x (by omega) m1 hx hlt); done)
      rotate_right 1
      simp (maxDischargeDepth := 9) only [↓gB, gV, gT, reduceIte, reduceCtorEq, Nat.reduceEqDiff, Nat.reduceAdd, Nat.reduceSub, Nat.reduceLeDiff, Nat.reduceLT, Int.reduceEq, Nat.reduceMul, f9, f10, f1, f2, f8, hm, c1, f0, e1, c2, hg']
      have q1 : Go.IntKind.i64.wrap (↑i + ↑j) = ↑i + ↑j := wrap_id (by omega)
      simp (maxDischargeDepth := 9) only [↓gB, gV, gT, reduceIte, reduceCtorEq, Nat.reduceEqDiff, Nat.reduceAdd, Nat.reduceSub, Nat.reduceLeDiff, Nat.reduceLT, Int.reduceEq, Nat.reduceMul, f9, f10, f1, f2, f8, hm, c1, f0, e1, c2, q1, hg']
      have q2 : Go.IntKind.i64.wrap (↑((i + j) / 2) + 1) = ↑((i + j) / 2) + 1 := wrap_id (by omega)
      simp (maxDischargeDepth := 9) only [↓gB, gV, gT, reduceIte, reduceCtorEq, Nat.reduceEqDiff, Nat.reduceAdd, Nat.reduceSub, Nat.reduceLeDiff, Nat.reduceLT, Int.reduceEq, Nat.reduceMul, f9, f10, f1, f2, f8, hm, c1, f0, e1, c2, q1, q2, hg']
      rw [N_lp]
      refine ⟨_, ?_, _, ?_, (i + j) / 2 + 1, j, rfl, ?_, ?_, ?_, ?_, rfl, by simp (maxDischargeDepth := 9) only [↓gB, gV, gT, reduceIte, reduceCtorEq, Nat.reduceEqDiff, Nat.reduceAdd, Nat.reduceSub, Nat.reduceLeDiff, Nat.reduceLT, Int.reduceEq, Nat.reduceMul, f9, f10, f1, f2, f8, hm, c1, f0, e1, c2, q1, q2, hg', nat_succ, and_self]⟩
      · omega
      · exact sub_refl _
      · omega
      · assumption
      · (intro k x hk hx; by_cases e : k = (i + j) / 2; (subst e; rw [m1] at hx; cases hx; exact c2); exact hmono k ((i + j) / 2) x x1 (by omega) hx m1 c2; done)
      · assumption
  · have hp : bsPos cf l = i := bsPos_at (by omega) hb1 (fun k x hk => hb2 k x (by omega))
    simp (maxDischargeDepth := 9) only [↓gB, gV, gT, reduceIte, reduceCtorEq, Nat.reduceEqDiff, Nat.reduceAdd, Nat.reduceSub, Nat.reduceLeDiff, Nat.reduceLT, Int.reduceEq, Nat.reduceMul, f9, f10, f0, f1, f2, f8, hm, c1, hg']
    by_cases c2 : (i : Int) < l.length
    · simp (maxDischargeDepth := 9) only [↓gB, gV, gT, reduceIte, reduceCtorEq, Nat.reduceEqDiff, Nat.reduceAdd, Nat.reduceSub, Nat.reduceLeDiff, Nat.reduceLT, Int.reduceEq, Nat.reduceMul, f9, f10, f0, f1, f2, f8, hm, c1, c2, hg']
      obtain ⟨x1, a1, s1, m1, rfl, ⟨v1, rfl, w1⟩, e1⟩ := hv.at (i) (by omega) 5 rfl
      obtain ⟨aw1, cw1, rfl⟩ := RSl.val w1
      simp (maxDischargeDepth := 9) only [↓gB, gV, gT, reduceIte, reduceCtorEq, Nat.reduceEqDiff, Nat.reduceAdd, Nat.reduceSub, Nat.reduceLeDiff, Nat.reduceLT, Int.reduceEq, Nat.reduceMul, f9, f10, f1, f2, f8, hm, c1, c2, f0, e1, hg']
      refine vguard_intro (by simp) ?_
      refine Ycp (hf _ (le_refl _) x1 _ ⟨_, rfl, w1⟩) ?_
      simp (maxDischargeDepth := 9) only [↓gB, gV, gT, reduceIte, reduceCtorEq, Nat.reduceEqDiff, Nat.reduceAdd, Nat.reduceSub, Nat.reduceLeDiff, Nat.reduceLT, Int.reduceEq, Nat.reduceMul, f9, f10, f1, f2, f8, hm, c1, c2, f0, e1]
      refine Kup_val (le_refl _) ?_
      focus (simp [hp, bsHas, m1]; done)
    · have hnone : l[i]? = none := List.getElem?_eq_none (by omega)
      simp (maxDischargeDepth := 9) only [↓gB, gV, gT, reduceIte, reduceCtorEq, Nat.reduceEqDiff, Nat.reduceAdd, Nat.reduceSub, Nat.reduceLeDiff, Nat.reduceLT, Int.reduceEq, Nat.reduceMul, f9, f10, f0, f1, f2, f8, hm, c1, c2, hg']
      refine Kup_val (le_refl _) ?_
      focus (simp [hp, bsHas, hnone]; done)
theorem p45 {G0 : GH} {v : Value} {ky : Int} {l : List SKnot} {cf : SKnot → Int} {g : Nat} (hv : RSl rKnot G0 v l) (hg : GL.Enters Tryz.prog g) (hn : (l.length : Int) ≤ 4611686018427387903) (hmono : ∀ (i j : Nat) x y, i < j → l[i]? = some x → l[j]? = some y → cf y < 0 → cf x < 0) (hf : ∀ (G0' : GH), G0.le G0' → ∀ x cs, (rKnot).R G0' x cs → Pure Tryz.prog G0' g [.agg cs.toArray, V ky] (V (cf x))) : Pure Tryz.prog G0 45 [v, V ky, .func (.func g) #[] #[]] (.tuple #[V (bsPos cf l), .bool (bsHas cf l)]) := by
  intro G hG; replace hv := hv.le hG; replace hf := fun (G' : GH) (h : G.le G') => hf G' (hG.trans h)
  clear hG G0
  refine enter Tryz.func45 49 #[.tmp 6, .tmp 7] rfl Tryz.ntmps45 rfl (by decide +kernel) rfl ?_
  obtain ⟨a, c, rfl⟩ := hv.val
  have hg' := eq_true hg
  simp (maxDischargeDepth := 9) only [↓gB, gV, gT, reduceIte, reduceCtorEq, Nat.reduceEqDiff, Nat.reduceAdd, Nat.reduceSub, Nat.reduceLeDiff, Nat.reduceLT, Int.reduceEq, Nat.reduceMul]
  focus
    refine Xloop_intro _ _ _ _ _ (fun k f G' => ∃ (i : Nat) (j : Nat), k = j - i ∧ (i ≤ j) ∧ (j ≤ l.length) ∧ (∀ (k : Nat) x, k < i → l[k]? = some x → cf x < 0) ∧ (∀ (k : Nat) x, j ≤ k → l[k]? = some x → ¬ cf x < 0) ∧ (G = G') ∧ f 9 = V i ∧ f 10 = V j ∧ f 0 = Go.Value.slice a l.length c ∧ f 1 = Go.GL.V ky ∧ f 2 = Go.Value.func (Go.Fn.func g) #[] #[] ∧ f 8 = Go.Value.int Go.IntKind.i64 ↑l.length) _ ⟨0, l.length, rfl, ?_, ?_, ?_, ?_, rfl, by simp (maxDischargeDepth := 9) only [↓gB, gV, gT, reduceIte, reduceCtorEq, Nat.reduceEqDiff, Nat.reduceAdd, Nat.reduceSub, Nat.reduceLeDiff, Nat.reduceLT, Int.reduceEq, Nat.reduceMul, and_self]⟩ ?_
    · omega
    · omega
    · omega
    · (intro k x hk hx; rw [List.getElem?_eq_none hk] at hx; cases hx; done)
    rintro k f G' ⟨i, j, rfl, hij, hj, hb1, hb2, rfl, f9, f10, f0, f1, f2, f8⟩
  have hm := @mid_eq i j (by omega)
  simp (maxDischargeDepth := 9) only [↓gB, gV, gT, reduceIte, reduceCtorEq, Nat.reduceEqDiff, Nat.reduceAdd, Nat.reduceSub, Nat.reduceLeDiff, Nat.reduceLT, Int.reduceEq, Nat.reduceMul, f9, f10, f0, f1, f2, f8, hm]
  refine Xc_split _ _ _ _ _ (fun c1 => ?_) (fun c1 => ?_)
  · simp (maxDischargeDepth := 9) only [↓gB, gV, gT, reduceIte, reduceCtorEq, Nat.reduceEqDiff, Nat.reduceAdd, Nat.reduceSub, Nat.reduceLeDiff, Nat.reduceLT, Int.reduceEq, Nat.reduceMul, f9, f10, f0, f1, f2, f8, hm, c1, hg']
    refine vguard_intro (by omega) ?_
    obtain ⟨x1, a1, s1, m1, rfl, rfl, e1⟩ := hv.at ((i + j) / 2) (by omega) 2 rfl
    simp (maxDischargeDepth := 9) only [↓gB, gV, gT, reduceIte, reduceCtorEq, Nat.reduceEqDiff, Nat.reduceAdd, Nat.reduceSub, Nat.reduceLeDiff, Nat.reduceLT, Int.reduceEq, Nat.reduceMul, f9, f10, f1, f2, f8, hm, c1, f0, e1, hg']
    refine vguard_intro (by omega) ?_
    refine Ycp (hf _ (le_refl _) x1 _ rfl) ?_
    focus
      simp (maxDischargeDepth := 9) only [↓gB, gV, gT, reduceIte, reduceCtorEq, Nat.reduceEqDiff, Nat.reduceAdd, Nat.reduceSub, Nat.reduceLeDiff, Nat.reduceLT, Int.reduceEq, Nat.reduceMul, f9, f10, f1, f2, f8, hm, c1, f0, e1, hg']
      refine Xc_split _ _ _ _ _ (fun c2 => ?_) (fun c2 => ?_)
      rotate_left 1
      focus
        simp (maxDischargeDepth := 9) only [↓gB, gV, gT, reduceIte, reduceCtorEq, Nat.reduceEqDiff, Nat.reduceAdd, Nat.reduceSub, Nat.reduceLeDiff, Nat.reduceLT, Int.reduceEq, Nat.reduceMul, f9, f10, f1, f2, f8, hm, c1, f0, e1, c2, hg']
        have q1 : Go.IntKind.i64.wrap (↑i + ↑j) = ↑i + ↑j := wrap_id (by omega)
        simp (maxDischargeDepth := 9) only [↓gB, gV, gT, reduceIte, reduceCtorEq, Nat.reduceEqDiff, Nat.reduceAdd, Nat.reduceSub, Nat.reduceLeDiff, Nat.reduceLT, Int.reduceEq, Nat.reduceMul, f9, f10, f1, f2, f8, hm, c1, f0, e1, c2, q1, hg']
        rw [N_lp]
        refine ⟨_, ?_, _, ?_, i, (i + j) / 2, rfl, ?_, ?_, ?_, ?_, rfl, by simp (maxDischargeDepth := 9) only [↓gB, gV, gT, reduceIte, reduceCtorEq, Nat.reduceEqDiff, Nat.reduceAdd, Nat.reduceSub, Nat.reduceLeDiff, Nat.reduceLT, Int.reduceEq, Nat.reduceMul, f9, f10, f1, f2, f8, hm, c1, f0, e1, c2, q1, hg', nat_succ, and_self]⟩
        · omega
        · exact sub_refl _
        · omega
        · omega
        · assumption
        · (intro k x hk hx hlt; by_cases e : k = (i + j) / 2; (subst e; rw [m1] at hx; cases hx; exact c2 hlt); exact c2 (hmono ((i + j) / 2) k x1 x (by omega) m1 hx hlt); done)
      rotate_right 1
      simp (maxDischargeDepth := 9) only [↓gB, gV, gT, reduceIte, reduceCtorEq, Nat.reduceEqDiff, Nat.reduceAdd, Nat.reduceSub, Nat.reduceLeDiff, Nat.reduceLT, Int.reduceEq, Nat.reduceMul, f9, f10, f1, f2, f8, hm, c1, f0, e1, c2, hg']
      have q1 : Go.IntKind.i64.wrap (↑i + ↑j) = ↑i + ↑j := wrap_id (by omega)
      simp (maxDischargeDepth := 9) only [↓gB, gV, gT, reduceIte, reduceCtorEq, Nat.reduceEqDiff, Nat.reduceAdd, Nat.reduceSub, Nat.reduceLeDiff, Nat.reduceLT, Int.reduceEq, Nat.reduceMul, f9, f10, f1, f2, f8, hm, c1, f0, e1, c2, q1, hg']
      have q2 : Go.IntKind.i64.wrap (↑((i + j) / 2) + 1) = ↑((i + j) / 2) + 1 := wrap_id (by omega)
      simp (maxDischargeDepth := 9) only [↓gB, gV, gT, reduceIte, reduceCtorEq, Nat.reduceEqDiff, Nat.reduceAdd, Nat.reduceSub, Nat.reduceLeDiff, Nat.reduceLT, Int.reduceEq, Nat.reduceMul, f9, f10, f1, f2, f8, hm, c1, f0, e1, c2, q1, q2, hg']
      rw [N_lp]
      refine ⟨_, ?_, _, ?_, (i + j) / 2 + 1, j, rfl, ?_, ?_, ?_, ?_, rfl, by simp (maxDischargeDepth := 9) only [↓gB, gV, gT, reduceIte, reduceCtorEq, Nat.reduceEqDiff, Nat.reduceAdd, Nat.reduceSub, Nat.reduceLeDiff, Nat.reduceLT, Int.reduceEq, Nat.reduceMul, f9, f10, f1, f2, f8, hm, c1, f0, e1, c2, q1, q2, hg', nat_succ, and_self]⟩
      · omega
      · exact sub_refl _
      · omega
      · assumption
      · (intro k x hk hx; by_cases e : k = (i + j) / 2; (subst e; rw [m1] at hx; cases hx; exact c2); exact hmono k ((i + j) / 2) x x1 (by omega) hx m1 c2; done)
      · assumption
  · have hp : bsPos cf l = i := bsPos_at (by omega) hb1 (fun k x hk => hb2 k x (by omega))
    simp (maxDischargeDepth := 9) only [↓gB, gV, gT, reduceIte, reduceCtorEq, Nat.reduceEqDiff, Nat.reduceAdd, Nat.reduceSub, Nat.reduceLeDiff, Nat.reduceLT, Int.reduceEq, Nat.reduceMul, f9, f10, f0, f1, f2, f8, hm, c1, hg']
    by_cases c2 : (i : Int) < l.length
    · simp (maxDischargeDepth := 9) only [↓gB, gV, gT, reduceIte, reduceCtorEq, Nat.reduceEqDiff, Nat.reduceAdd, Nat.reduceSub, Nat.reduceLeDiff, Nat.reduceLT, Int.reduceEq, Nat.reduceMul, f9, f10, f0, f1, f2, f8, hm, c1, c2, hg']
      obtain ⟨x1, a1, s1, m1, rfl, rfl, e1⟩ := hv.at (i) (by omega) 2 rfl
      simp (maxDischargeDepth := 9) only [↓gB, gV, gT, reduceIte, reduceCtorEq, Nat.reduceEqDiff, Nat.reduceAdd, Nat.reduceSub, Nat.reduceLeDiff, Nat.reduceLT, Int.reduceEq, Nat.reduceMul, f9, f10, f1, f2, f8, hm, c1, c2, f0, e1, hg']
      refine vguard_intro (by simp) ?_
      refine Ycp (hf _ (le_refl _) x1 _ rfl) ?_
      simp (maxDischargeDepth := 9) only [↓gB, gV, gT, reduceIte, reduceCtorEq, Nat.reduceEqDiff, Nat.reduceAdd, Nat.reduceSub, Nat.reduceLeDiff, Nat.reduceLT, Int.reduceEq, Nat.reduceMul, f9, f10, f1, f2, f8, hm, c1, c2, f0, e1]
      refine Kup_val (le_refl _) ?_
      focus (simp [hp, bsHas, m1]; done)
    · have hnone : l[i]? = none := List.getElem?_eq_none (by omega)
      simp (maxDischargeDepth := 9) only [↓gB, gV, gT, reduceIte, reduceCtorEq, Nat.reduceEqDiff, Nat.reduceAdd, Nat.reduceSub, Nat.reduceLeDiff, Nat.reduceLT, Int.reduceEq, Nat.reduceMul, f9, f10, f0, f1, f2, f8, hm, c1, c2, hg']
      refine Kup_val (le_refl _) ?_
      focus (simp [hp, bsHas, hnone]; done)
theorem p54 {G0 : GH} {v : Value} {l : List SNode} {q : SNode → Bool} {g : Nat} {fa fb : List Value} (hv : RSl rNode G0 v l) (hg : GL.Enters Tryz.prog g) (hn : (l.length : Int) ≤ 9223372036854775807) (hf : ∀ (G0' : GH), G0.le G0' → ∀ x cs, (rNode).R G0' x cs → Pure Tryz.prog G0' g (fa ++ [.agg cs.toArray] ++ fb) (.bool (q x))) : Pure Tryz.prog G0 54 [v, .func (.func g) fa.toArray fb.toArray] (V (match l.findIdx? q with | some i => (i : Int) | none => -1)) := by
  intro G hG; replace hv := hv.le hG; replace hf := fun (G' : GH) (h : G.le G') => hf G' (hG.trans h)
  clear hG G0
  refine enter Tryz.func54 19 #[.tmp 4] rfl Tryz.ntmps54 rfl (by decide +kernel) rfl ?_
  obtain ⟨a, c, rfl⟩ := hv.val
  have hg' := eq_true hg
  simp (maxDischargeDepth := 9) only [↓gB, gV, gT, reduceIte, reduceCtorEq, Nat.reduceEqDiff, Nat.reduceAdd, Nat.reduceSub, Nat.reduceLeDiff, Nat.reduceLT, Int.reduceEq, Nat.reduceMul]
  focus
    refine Xloop_intro _ _ _ _ _ (fun k f G' => ∃ (i : Nat), k = l.length - i ∧ (i ≤ l.length) ∧ ((l.take i).findIdx? q = none) ∧ (G = G') ∧ f 8 = V i ∧ f 0 = Go.Value.slice a l.length c ∧ f 1 = Go.Value.func (Go.Fn.func g) fa.toArray fb.toArray ∧ f 7 = Go.Value.int Go.IntKind.i64 ↑l.length) _ ⟨0, rfl, ?_, ?_, rfl, by simp (maxDischargeDepth := 9) only [↓gB, gV, gT, reduceIte, reduceCtorEq, Nat.reduceEqDiff, Nat.reduceAdd, Nat.reduceSub, Nat.reduceLeDiff, Nat.reduceLT, Int.reduceEq, Nat.reduceMul, and_self]⟩ ?_
    · omega
    · rfl
    rintro k f G' ⟨i, rfl, hi, h, rfl, f8, f0, f1, f7⟩
  simp (maxDischargeDepth := 9) only [↓gB, gV, gT, reduceIte, reduceCtorEq, Nat.reduceEqDiff, Nat.reduceAdd, Nat.reduceSub, Nat.reduceLeDiff, Nat.reduceLT, Int.reduceEq, Nat.reduceMul, f8, f0, f1, f7]
  refine Xc_split _ _ _ _ _ (fun c1 => ?_) (fun c1 => ?_)
  · simp (maxDischargeDepth := 9) only [↓gB, gV, gT, reduceIte, reduceCtorEq, Nat.reduceEqDiff, Nat.reduceAdd, Nat.reduceSub, Nat.reduceLeDiff, Nat.reduceLT, Int.reduceEq, Nat.reduceMul, f8, f0, f1, f7, c1, hg']
    obtain ⟨x1, a1, s1, m1, rfl, rfl, e1⟩ := hv.at (i) (by omega) 3 rfl
    simp (maxDischargeDepth := 9) only [↓gB, gV, gT, reduceIte, reduceCtorEq, Nat.reduceEqDiff, Nat.reduceAdd, Nat.reduceSub, Nat.reduceLeDiff, Nat.reduceLT, Int.reduceEq, Nat.reduceMul, f8, f1, f7, c1, f0, e1, hg']
    refine vguard_intro (by simp) ?_
    refine Ycp (hf _ (le_refl _) x1 _ rfl) ?_
    cases hq : q x1
    · focus
        simp (maxDischargeDepth := 9) only [↓gB, gV, gT, reduceIte, reduceCtorEq, Nat.reduceEqDiff, Nat.reduceAdd, Nat.reduceSub, Nat.reduceLeDiff, Nat.reduceLT, Int.reduceEq, Nat.reduceMul, f8, f1, f7, c1, f0, e1, hq]
        have q1 : Go.IntKind.i64.wrap (↑i + 1) = ↑i + 1 := wrap_id (by omega)
        simp (maxDischargeDepth := 9) only [↓gB, gV, gT, reduceIte, reduceCtorEq, Nat.reduceEqDiff, Nat.reduceAdd, Nat.reduceSub, Nat.reduceLeDiff, Nat.reduceLT, Int.reduceEq, Nat.reduceMul, f8, f1, f7, c1, f0, e1, hq, q1]
        rw [N_lp]
        refine ⟨_, ?_, _, ?_, i + 1, rfl, ?_, ?_, rfl, by simp (maxDischargeDepth := 9) only [↓gB, gV, gT, reduceIte, reduceCtorEq, Nat.reduceEqDiff, Nat.reduceAdd, Nat.reduceSub, Nat.reduceLeDiff, Nat.reduceLT, Int.reduceEq, Nat.reduceMul, f8, f1, f7, c1, f0, e1, hq, q1, nat_succ, and_self]⟩
        · omega
        · exact sub_refl _
        · omega
        · ((rw [take_at m1, List.findIdx?_append, h]; simp [hq]); done)
    · have e := drop_at m1
      have e2 : l.findIdx? q = some i := by
        rw [← List.take_append_drop i l, List.findIdx?_append, h, e, List.findIdx?_cons, hq]; simp; omega
      simp (maxDischargeDepth := 9) only [↓gB, gV, gT, reduceIte, reduceCtorEq, Nat.reduceEqDiff, Nat.reduceAdd, Nat.reduceSub, Nat.reduceLeDiff, Nat.reduceLT, Int.reduceEq, Nat.reduceMul, f8, f1, f7, c1, f0, e1, hq]
      exact Kup_val (le_refl _) (by simp [*])
  · have e : l.findIdx? q = none := by rw [← List.take_of_length_le (l := l) (i := i) (by omega), h]
    simp (maxDischargeDepth := 9) only [↓gB, gV, gT, reduceIte, reduceCtorEq, Nat.reduceEqDiff, Nat.reduceAdd, Nat.reduceSub, Nat.reduceLeDiff, Nat.reduceLT, Int.reduceEq, Nat.reduceMul, f8, f0, f1, f7, c1]
    exact Kup_val (le_refl _) (by simp [*])
theorem p59 {G0 : GH} {v : Value} {l : List SArc} {q : SArc → Bool} {g : Nat} {fa fb : List Value} (hv : RSl rArc G0 v l) (hg : GL.Enters Tryz.prog g) (hn : (l.length : Int) ≤ 9223372036854775807) (hf : ∀ (G0' : GH), G0.le G0' → ∀ x cs, (rArc).R G0' x cs → Pure Tryz.prog G0' g (fa ++ [.agg cs.toArray] ++ fb) (.bool (q x))) : Pure Tryz.prog G0 59 [v, .func (.func g) fa.toArray fb.toArray] (V (match l.findIdx? q with | some i => (i : Int) | none => -1)) := by
  intro G hG; replace hv := hv.le hG; replace hf := fun (G' : GH) (h : G.le G') => hf G' (hG.trans h)
  clear hG G0
  refine enter Tryz.func59 19 #[.tmp 4] rfl Tryz.ntmps59 rfl (by decide +kernel) rfl ?_
  obtain ⟨a, c, rfl⟩ := hv.val
  have hg' := eq_true hg
  simp (maxDischargeDepth := 9) only [↓gB, gV, gT, reduceIte, reduceCtorEq, Nat.reduceEqDiff, Nat.reduceAdd, Nat.reduceSub, Nat.reduceLeDiff, Nat.reduceLT, Int.reduceEq, Nat.reduceMul]
  focus
    refine Xloop_intro _ _ _ _ _ (fun k f G' => ∃ (i : Nat), k = l.length - i ∧ (i ≤ l.length) ∧ ((l.take i).findIdx? q = none) ∧ (G = G') ∧ f 8 = V i ∧ f 0 = Go.Value.slice a l.length c ∧ f 1 = Go.Value.func (Go.Fn.func g) fa.toArray fb.toArray ∧ f 7 = Go.Value.int Go.IntKind.i64 ↑l.length) _ ⟨0, rfl, ?_, ?_, rfl, by simp (maxDischargeDepth := 9) only [↓gB, gV, gT, reduceIte, reduceCtorEq, Nat.reduceEqDiff, Nat.reduceAdd, Nat.reduceSub, Nat.reduceLeDiff, Nat.reduceLT, Int.reduceEq, Nat.reduceMul, and_self]⟩ ?_
    · omega
    · rfl
    rintro k f G' ⟨i, rfl, hi, h, rfl, f8, f0, f1, f7⟩
  simp (maxDischargeDepth := 9) only [↓gB, gV, gT, reduceIte, reduceCtorEq, Nat.reduceEqDiff, Nat.reduceAdd, Nat.reduceSub, Nat.reduceLeDiff, Nat.reduceLT, Int.reduceEq, Nat.reduceMul, f8, f0, f1, f7]
  refine Xc_split _ _ _ _ _ (fun c1 => ?_) (fun c1 => ?_)
  · simp (maxDischargeDepth := 9) only [↓gB, gV, gT, reduceIte, reduceCtorEq, Nat.reduceEqDiff, Nat.reduceAdd, Nat.reduceSub, Nat.reduceLeDiff, Nat.reduceLT, Int.reduceEq, Nat.reduceMul, f8, f0, f1, f7, c1, hg']
    obtain ⟨x1, a1, s1, m1, rfl, ⟨v1, rfl, w1⟩, e1⟩ := hv.at (i) (by omega) 5 rfl
    obtain ⟨aw1, cw1, rfl⟩ := RSl.val w1
    simp (maxDischargeDepth := 9) only [↓gB, gV, gT, reduceIte, reduceCtorEq, Nat.reduceEqDiff, Nat.reduceAdd, Nat.reduceSub, Nat.reduceLeDiff, Nat.reduceLT, Int.reduceEq, Nat.reduceMul, f8, f1, f7, c1, f0, e1, hg']
    refine vguard_intro (by simp) ?_
    refine Ycp (hf _ (le_refl _) x1 _ ⟨_, rfl, w1⟩) ?_
    cases hq : q x1
    · focus
        simp (maxDischargeDepth := 9) only [↓gB, gV, gT, reduceIte, reduceCtorEq, Nat.reduceEqDiff, Nat.reduceAdd, Nat.reduceSub, Nat.reduceLeDiff, Nat.reduceLT, Int.reduceEq, Nat.reduceMul, f8, f1, f7, c1, f0, e1, hq]
        have q1 : Go.IntKind.i64.wrap (↑i + 1) = ↑i + 1 := wrap_id (by omega)
        simp (maxDischargeDepth := 9) only [↓gB, gV, gT, reduceIte, reduceCtorEq, Nat.reduceEqDiff, Nat.reduceAdd, Nat.reduceSub, Nat.reduceLeDiff, Nat.reduceLT, Int.reduceEq, Nat.reduceMul, f8, f1, f7, c1, f0, e1, hq, q1]
        rw [N_lp]
        refine ⟨_, ?_, _, ?_, i + 1, rfl, ?_, ?_, rfl, by simp (maxDischargeDepth := 9) only [↓gB, gV, gT, reduceIte, reduceCtorEq, Nat.reduceEqDiff, Nat.reduceAdd, Nat.reduceSub, Nat.reduceLeDiff, Nat.reduceLT, Int.reduceEq, Nat.reduceMul, f8, f1, f7, c1, f0, e1, hq, q1, nat_succ, and_self]⟩
        · omega
        · exact sub_refl _
        · omega
        · ((rw [take_at m1, List.findIdx?_append, h]; simp [hq]); done)
    · have e := drop_at m1
      have e2 : l.findIdx? q = some i := by
        rw [← List.take_append_drop i l, List.findIdx?_append, h, e, List.findIdx?_cons, hq]; simp; omega
      simp (maxDischargeDepth := 9) only [↓gB, gV, gT, reduceIte, reduceCtorEq, Nat.reduceEqDiff, Nat.reduceAdd, Nat.reduceSub, Nat.reduceLeDiff, Nat.reduceLT, Int.reduceEq, Nat.reduceMul, f8, f1, f7, c1, f0, e1, hq]
      exact Kup_val (le_refl _) (by simp [*])
  · have e : l.findIdx? q = none := by rw [← List.take_of_length_le (l := l) (i := i) (by omega), h]
    simp (maxDischargeDepth := 9) only [↓gB, gV, gT, reduceIte, reduceCtorEq, Nat.reduceEqDiff, Nat.reduceAdd, Nat.reduceSub, Nat.reduceLeDiff, Nat.reduceLT, Int.reduceEq, Nat.reduceMul, f8, f0, f1, f7, c1]
    exact Kup_val (le_refl _) (by simp [*])
end Go.Proofs.YtjhfhacdjmokaaaGreatDoor
namespace Go.Proofs.YtjhfhacdjmokaaaGreatDoor
open Go Go.GL
attribute [local irreducible] Ycall GCalls
set_option maxRecDepth 10000
set_option maxHeartbeats 0
def keyAt {α : Type} (f : α → ByteArray) (l : List α) (k : ByteArray) : Int := match l.findIdx? (fun x => decide (f x = k)) with | some i => (i : Int) | none => -1
def rising {α : Type} (f : α → ByteArray) (l : List α) : Prop := l.Pairwise fun x y => sLt (f x) (f y) = true
theorem sCmp_trans {a b k : ByteArray} (h : sLt a b = true) (h2 : sCmp b k < 0) : sCmp a k < 0 := by rw [sCmp_lt] at *; exact sLt_trans h h2
theorem mono_key {α : Type} {f : α → ByteArray} {l : List α} (hs : rising f l) (k : ByteArray) : ∀ (i j : Nat) x y, i < j → l[i]? = some x → l[j]? = some y → sCmp (f y) k < 0 → sCmp (f x) k < 0 := by
  intro i j x y hij hx hy h
  obtain ⟨hi, rfl⟩ := List.getElem?_eq_some_iff.1 hx
  obtain ⟨hj, rfl⟩ := List.getElem?_eq_some_iff.1 hy
  exact sCmp_trans (List.pairwise_iff_getElem.1 hs i j hi hj hij) h
theorem keyAt_nil {α : Type} (f : α → ByteArray) (k : ByteArray) : keyAt f [] k = -1 := rfl
theorem keyAt_cons {α : Type} (f : α → ByteArray) (x : α) (l : List α) (k : ByteArray) : keyAt f (x :: l) k = if f x = k then 0 else if keyAt f l k = -1 then -1 else keyAt f l k + 1 := by
  unfold keyAt
  rw [List.findIdx?_cons]
  by_cases h : f x = k
  · simp [h]
  · simp only [h, decide_false, if_false]
    cases l.findIdx? (fun x => decide (f x = k)) with
    | none => simp
    | some i => simp; try omega
theorem keyAt_ge {α : Type} (f : α → ByteArray) (l : List α) (k : ByteArray) : -1 ≤ keyAt f l k := by unfold keyAt; split <;> omega
theorem keyAt_lt {α : Type} (f : α → ByteArray) (l : List α) (k : ByteArray) : keyAt f l k < l.length := by
  unfold keyAt; split
  · rename_i i h
    rw [List.findIdx?_eq_some_iff_getElem] at h
    obtain ⟨hi, _⟩ := h; omega
  · omega
theorem keyAt_get {α : Type} {f : α → ByteArray} {l : List α} {k : ByteArray} {i : Nat} (h : keyAt f l k = i) : ∃ x, l[i]? = some x ∧ f x = k := by
  unfold keyAt at h; split at h
  · rename_i j hj
    rw [List.findIdx?_eq_some_iff_getElem] at hj
    obtain ⟨hi, h1, _⟩ := hj
    obtain rfl : j = i := by omega
    exact ⟨l[j], List.getElem?_eq_getElem hi, by simpa using h1⟩
  · omega
theorem keyAt_none {α : Type} {f : α → ByteArray} {l : List α} {k : ByteArray} (h : ∀ x ∈ l, f x ≠ k) : keyAt f l k = -1 := by
  induction l with
  | nil => rfl
  | cons y l ih => rw [keyAt_cons, if_neg (h y (by simp)), ih (fun x hx => h x (by simp [hx]))]; rfl
theorem bs_key {α : Type} {f : α → ByteArray} : ∀ {l : List α} (hs : rising f l) (k : ByteArray), (if bsHas (fun x => sCmp (f x) k) l = true then (bsPos (fun x => sCmp (f x) k) l : Int) else -1) = keyAt f l k
  | [], _, k => by simp [bsHas, keyAt_nil]
  | x :: l, hs, k => by
    have hs2 : rising f l := (List.pairwise_cons.1 hs).2
    have hx := (List.pairwise_cons.1 hs).1
    have ih := bs_key hs2 k
    rw [keyAt_cons]
    by_cases h : sCmp (f x) k < 0
    · have hp : bsPos (fun x => sCmp (f x) k) (x :: l) = bsPos (fun x => sCmp (f x) k) l + 1 := by unfold bsPos; rw [List.takeWhile_cons_of_pos (by simpa using h)]; rfl
      have hh : bsHas (fun x => sCmp (f x) k) (x :: l) = bsHas (fun x => sCmp (f x) k) l := by unfold bsHas; rw [hp, List.getElem?_cons_succ]
      have hne : ¬ f x = k := by rw [← sCmp_eq]; omega
      rw [hp, hh, if_neg hne, ← ih]
      by_cases hb : bsHas (fun x => sCmp (f x) k) l = true
      · simp only [hb, if_true]; rw [if_neg (by omega)]; omega
      · simp only [hb]; simp
    · have hp : bsPos (fun x => sCmp (f x) k) (x :: l) = 0 := by unfold bsPos; rw [List.takeWhile_cons_of_neg (by simpa using h)]; rfl
      have hh : bsHas (fun x => sCmp (f x) k) (x :: l) = decide (sCmp (f x) k = 0) := by unfold bsHas; rw [hp]; rfl
      rw [hp, hh]
      by_cases he : f x = k
      · simp [he, (sCmp_eq k k).2 rfl]
      · have h0 : ¬ sCmp (f x) k = 0 := by rw [sCmp_eq]; exact he
        have hn : keyAt f l k = -1 := keyAt_none fun y hy e => by
          subst e
          exact h ((sCmp_lt _ _).2 (hx y hy))
        simp [he, h0, hn]
theorem p19 {G0 : GH} {v w u : Value} {l : List SNode} {k : ByteArray} {r : Nat} (hr : G0 r = some (.cells [v, w, u].toArray 26 (0, 0), true)) (hv : RSl rNode G0 v l) (hn : (l.length : Int) ≤ 4611686018427387903) (hs : rising SNode.Key l) : Pure Tryz.prog G0 19 [.pointer (some ⟨r, 0, none⟩), .string k] (V (keyAt SNode.Key l k)) := by
  intro G hG; replace hr := hG _ _ hr; replace hv := hv.le hG
  clear hG G0
  refine enter Tryz.func19 19 #[.tmp 4] rfl Tryz.ntmps19 rfl (by decide +kernel) rfl ?_
  obtain ⟨a, c, rfl⟩ := hv.val
  have e := bs_key hs k
  simp (maxDischargeDepth := 9) only [↓gB, gV, gT, reduceIte, reduceCtorEq, Nat.reduceEqDiff, Nat.reduceAdd, Nat.reduceSub, Nat.reduceLeDiff, Nat.reduceLT, Int.reduceEq, Nat.reduceMul, hr]
  refine Ycp (p41 (cf := fun x => sCmp x.Key k) hv (of_eq_true en42) hn (mono_key hs k) (fun G' _ x cs hx => by cases hx; exact p42)) ?_
  cases hb : bsHas (fun x : SNode => sCmp x.Key k) l
  · have e1 : keyAt SNode.Key l k = -1 := by rw [← e, hb]; rfl
    simp (maxDischargeDepth := 9) only [↓gB, gV, gT, reduceIte, reduceCtorEq, Nat.reduceEqDiff, Nat.reduceAdd, Nat.reduceSub, Nat.reduceLeDiff, Nat.reduceLT, Int.reduceEq, Nat.reduceMul, hr, hb, e1]
    exact Kup_val (le_refl _) rfl
  · have e1 : keyAt SNode.Key l k = (bsPos (fun x : SNode => sCmp x.Key k) l : Int) := by rw [← e, hb]; rfl
    simp (maxDischargeDepth := 9) only [↓gB, gV, gT, reduceIte, reduceCtorEq, Nat.reduceEqDiff, Nat.reduceAdd, Nat.reduceSub, Nat.reduceLeDiff, Nat.reduceLT, Int.reduceEq, Nat.reduceMul, hr, hb, e1]
    exact Kup_val (le_refl _) rfl
theorem p23 {G0 : GH} {v w u : Value} {l : List SArc} {k : ByteArray} {r : Nat} (hr : G0 r = some (.cells [v, w, u].toArray 26 (0, 0), true)) (hw : RSl rArc G0 w l) (hn : (l.length : Int) ≤ 4611686018427387903) (hs : rising SArc.Key l) : Pure Tryz.prog G0 23 [.pointer (some ⟨r, 0, none⟩), .string k] (V (keyAt SArc.Key l k)) := by
  intro G hG; replace hr := hG _ _ hr; replace hw := hw.le hG
  clear hG G0
  refine enter Tryz.func23 19 #[.tmp 4] rfl Tryz.ntmps23 rfl (by decide +kernel) rfl ?_
  obtain ⟨a, c, rfl⟩ := hw.val
  have e := bs_key hs k
  simp (maxDischargeDepth := 9) only [↓gB, gV, gT, reduceIte, reduceCtorEq, Nat.reduceEqDiff, Nat.reduceAdd, Nat.reduceSub, Nat.reduceLeDiff, Nat.reduceLT, Int.reduceEq, Nat.reduceMul, hr]
  refine Ycp (p49 (cf := fun x => sCmp x.Key k) hw (of_eq_true en50) hn (mono_key hs k) (fun G' _ x cs hx => by obtain ⟨_, rfl, hw⟩ := hx; obtain ⟨_, _, rfl⟩ := hw.val; exact p50)) ?_
  cases hb : bsHas (fun x : SArc => sCmp x.Key k) l
  · have e1 : keyAt SArc.Key l k = -1 := by rw [← e, hb]; rfl
    simp (maxDischargeDepth := 9) only [↓gB, gV, gT, reduceIte, reduceCtorEq, Nat.reduceEqDiff, Nat.reduceAdd, Nat.reduceSub, Nat.reduceLeDiff, Nat.reduceLT, Int.reduceEq, Nat.reduceMul, hr, hb, e1]
    exact Kup_val (le_refl _) rfl
  · have e1 : keyAt SArc.Key l k = (bsPos (fun x : SArc => sCmp x.Key k) l : Int) := by rw [← e, hb]; rfl
    simp (maxDischargeDepth := 9) only [↓gB, gV, gT, reduceIte, reduceCtorEq, Nat.reduceEqDiff, Nat.reduceAdd, Nat.reduceSub, Nat.reduceLeDiff, Nat.reduceLT, Int.reduceEq, Nat.reduceMul, hr, hb, e1]
    exact Kup_val (le_refl _) rfl
theorem p29 {G0 : GH} {v : Value} {l : List SNode} {k : ByteArray} {wa ua : Option Addr} {wn wc un uc : Nat} (hv : RSl rNode G0 v l) (hn : (l.length : Int) ≤ 9223372036854775807) : Pure Tryz.prog G0 29 [.agg #[v, .slice wa wn wc, .slice ua un uc], .string k] (V (keyAt SNode.Key l k)) := by
  intro G hG; replace hv := hv.le hG
  clear hG G0
  refine enter Tryz.func29 9 #[.tmp 4] rfl Tryz.ntmps29 rfl (by decide +kernel) rfl ?_
  obtain ⟨a, c, rfl⟩ := hv.val
  simp (maxDischargeDepth := 9) only [↓gB, gV, gT, reduceIte, reduceCtorEq, Nat.reduceEqDiff, Nat.reduceAdd, Nat.reduceSub, Nat.reduceLeDiff, Nat.reduceLT, Int.reduceEq, Nat.reduceMul, List.map_toArray, List.map_cons, List.map_nil, Value.cells]
  refine Yn2 fun r1 h1 => ?_
  simp (maxDischargeDepth := 9) only [↓gB, gV, gT, reduceIte, reduceCtorEq, Nat.reduceEqDiff, Nat.reduceAdd, Nat.reduceSub, Nat.reduceLeDiff, Nat.reduceLT, Int.reduceEq, Nat.reduceMul, h1, List.map_toArray, List.map_cons, List.map_nil, Value.cells]
  refine Yn2 fun r2 h2 => ?_
  have n2 := h2
  simp only [put_none_eq, ne_eq] at n2
  simp (maxDischargeDepth := 9) only [↓gB, gV, gT, reduceIte, reduceCtorEq, Nat.reduceEqDiff, Nat.reduceAdd, Nat.reduceSub, Nat.reduceLeDiff, Nat.reduceLT, Int.reduceEq, Nat.reduceMul, h1, h2, n2, List.map_toArray, List.map_cons, List.map_nil, Value.cells]
  refine Ycp (p54 (q := fun x => decide (x.Key = k)) (fa := []) (fb := [.pointer (some ⟨r2, 0, none⟩)]) (RSl.put _ h2 (RSl.put _ h1 hv)) (of_eq_true en55) hn (fun G' hle x cs hx => by cases hx; exact p55 (hle _ _ (put_self _ _ _)))) ?_
  simp (maxDischargeDepth := 9) only [↓gB, gV, gT, reduceIte, reduceCtorEq, Nat.reduceEqDiff, Nat.reduceAdd, Nat.reduceSub, Nat.reduceLeDiff, Nat.reduceLT, Int.reduceEq, Nat.reduceMul, h1, h2, n2]
  exact Kup_val (by simp (maxDischargeDepth := 9) only [le_self, le_puts, le_put0, h1, h2, n2]) rfl
theorem p33 {G0 : GH} {w : Value} {l : List SArc} {k : ByteArray} {va ua : Option Addr} {vn vc un uc : Nat} (hw : RSl rArc G0 w l) (hn : (l.length : Int) ≤ 9223372036854775807) : Pure Tryz.prog G0 33 [.agg #[.slice va vn vc, w, .slice ua un uc], .string k] (V (keyAt SArc.Key l k)) := by
  intro G hG; replace hw := hw.le hG
  clear hG G0
  refine enter Tryz.func33 9 #[.tmp 4] rfl Tryz.ntmps33 rfl (by decide +kernel) rfl ?_
  obtain ⟨a, c, rfl⟩ := hw.val
  simp (maxDischargeDepth := 9) only [↓gB, gV, gT, reduceIte, reduceCtorEq, Nat.reduceEqDiff, Nat.reduceAdd, Nat.reduceSub, Nat.reduceLeDiff, Nat.reduceLT, Int.reduceEq, Nat.reduceMul, List.map_toArray, List.map_cons, List.map_nil, Value.cells]
  refine Yn2 fun r1 h1 => ?_
  simp (maxDischargeDepth := 9) only [↓gB, gV, gT, reduceIte, reduceCtorEq, Nat.reduceEqDiff, Nat.reduceAdd, Nat.reduceSub, Nat.reduceLeDiff, Nat.reduceLT, Int.reduceEq, Nat.reduceMul, h1, List.map_toArray, List.map_cons, List.map_nil, Value.cells]
  refine Yn2 fun r2 h2 => ?_
  have n2 := h2
  simp only [put_none_eq, ne_eq] at n2
  simp (maxDischargeDepth := 9) only [↓gB, gV, gT, reduceIte, reduceCtorEq, Nat.reduceEqDiff, Nat.reduceAdd, Nat.reduceSub, Nat.reduceLeDiff, Nat.reduceLT, Int.reduceEq, Nat.reduceMul, h1, h2, n2, List.map_toArray, List.map_cons, List.map_nil, Value.cells]
  refine Ycp (p59 (q := fun x => decide (x.Key = k)) (fa := []) (fb := [.pointer (some ⟨r2, 0, none⟩)]) (RSl.put _ h2 (RSl.put _ h1 hw)) (of_eq_true en60) hn (fun G' hle x cs hx => by obtain ⟨_, rfl, hw⟩ := hx; obtain ⟨_, _, rfl⟩ := hw.val; exact p60 (hle _ _ (put_self _ _ _)))) ?_
  simp (maxDischargeDepth := 9) only [↓gB, gV, gT, reduceIte, reduceCtorEq, Nat.reduceEqDiff, Nat.reduceAdd, Nat.reduceSub, Nat.reduceLeDiff, Nat.reduceLT, Int.reduceEq, Nat.reduceMul, h1, h2, n2]
  exact Kup_val (by simp (maxDischargeDepth := 9) only [le_self, le_puts, le_put0, h1, h2, n2]) rfl
end Go.Proofs.YtjhfhacdjmokaaaGreatDoor
namespace Go.Proofs.YtjhfhacdjmokaaaGreatDoor
open Go Go.GL
attribute [local irreducible] Ycall GCalls
set_option maxRecDepth 10000
set_option maxHeartbeats 0
theorem pvp {α : Type} {l : List α} {k : Nat} {z : α} {f : α → Bool} {b : Bool} (h : (0:Int) < k) (hz : l[k-1]? = some z) (hf : f z = b) : (prevOf l k).any f = b := by rw [prevOf_p h, hz]; exact hf
theorem pvz {α : Type} {l : List α} {k : Nat} {f : α → Bool} (h : ¬ (0:Int) < k) : (prevOf l k).any f = false := by rw [prevOf_z h]; rfl
def chk {α : Type} (bad : Option α → α → Int) : Option α → List α → Int
  | _, [] => 0
  | q, x :: l => if bad q x = 0 then chk bad (some x) l else bad q x
section
variable {α : Type} {bad : Option α → α → Int} {l : List α} {i : Nat} {x : α}
theorem chk_bad {e : Int} (h : chk bad none l = chk bad (prevOf l i) (l.drop i)) (m : l[i]? = some x) (hb : bad (prevOf l i) x = e) (he : e ≠ 0) : chk bad none l = e := by
  rw [h, drop_at m]; simp only [chk, hb, if_neg he]
theorem chk_next (h : chk bad none l = chk bad (prevOf l i) (l.drop i)) (m : l[i]? = some x) (hb : bad (prevOf l i) x = 0) : chk bad none l = chk bad (prevOf l (i + 1)) (l.drop (i + 1)) := by
  rw [h, drop_at m, prevOf_s, m]; simp only [chk, hb, if_true]
theorem chk_end (h : chk bad none l = chk bad (prevOf l i) (l.drop i)) (c : ¬ (i : Int) < l.length) : chk bad none l = 0 := by
  rw [h, List.drop_eq_nil_of_le (by omega)]; rfl
end
theorem chk_ok {α : Type} {bad : Option α → α → Int} : ∀ {l : List α} {q : Option α}, chk bad q l = 0 → ∀ (i : Nat) x, l[i]? = some x → bad (if i = 0 then q else l[i - 1]?) x = 0
  | [], _, _, i, x, m => by simp at m
  | y :: l, q, h, i, x, m => by
    unfold chk at h
    split at h
    · rename_i h0
      cases i with
      | zero => simp at m; subst m; simpa using h0
      | succ i =>
        have := chk_ok h i x (by simpa using m)
        cases i with
        | zero => simpa using this
        | succ i => simpa using this
    · rename_i h0; exact absurd h h0
theorem chk_prev {α : Type} {bad : Option α → α → Int} {l : List α} (h : chk bad none l = 0) {i : Nat} {x : α} (m : l[i]? = some x) : bad (prevOf l i) x = 0 := chk_ok h i x m
theorem rising_of {α : Type} {f : α → ByteArray} : ∀ {l : List α}, (∀ (i : Nat) x y, l[i]? = some x → l[i + 1]? = some y → sLt (f x) (f y) = true) → rising f l
  | [], _ => List.Pairwise.nil
  | [x], _ => List.pairwise_singleton _ _
  | x :: y :: l, h => by
    have ih : rising f (y :: l) := rising_of fun i a b ha hb => h (i + 1) a b (by simpa using ha) (by simpa using hb)
    refine List.Pairwise.cons ?_ ih
    have h0 := h 0 x y rfl rfl
    intro z hz
    rcases List.mem_cons.1 hz with rfl | hz
    · exact h0
    · exact sLt_trans h0 ((List.pairwise_cons.1 ih).1 z hz)
theorem rising_chk {α : Type} {f : α → ByteArray} {bad : Option α → α → Int} {l : List α} (h : chk bad none l = 0) (hb : ∀ p x, bad (some p) x = 0 → sLt (f p) (f x) = true) : rising f l :=
  rising_of fun i x y hx hy => hb x y (by have := chk_prev h hy; rwa [prevOf_s, hx] at this)
def nodeBad (q : Option SNode) (x : SNode) : Int := if isKey x.Key = false then 5 else if q.any (fun q => !sLt q.Key x.Key) = true then 7 else if onMap x.X x.Y = false then 1 else 0
def nodesE (l : List SNode) : Int := if 500 < l.length then 2 else chk nodeBad none l
section
variable {q : Option SNode} {x : SNode}
theorem nb5 (c : isKey x.Key = false) : nodeBad q x = 5 := by simp [nodeBad, c]
theorem nb7 (c : isKey x.Key = true) (c2 : q.any (fun q => !sLt q.Key x.Key) = true) : nodeBad q x = 7 := by simp only [nodeBad, c, c2, if_true]; rfl
theorem nb1 (c : isKey x.Key = true) (c2 : q.any (fun q => !sLt q.Key x.Key) = false) (c3 : onMap x.X x.Y = false) : nodeBad q x = 1 := by simp only [nodeBad, c, c2, c3, if_true]; rfl
theorem nb0 (c : isKey x.Key = true) (c2 : q.any (fun q => !sLt q.Key x.Key) = false) (c3 : onMap x.X x.Y = true) : nodeBad q x = 0 := by simp only [nodeBad, c, c2, c3]; rfl
theorem nb_ok (h : nodeBad q x = 0) : isKey x.Key = true ∧ q.any (fun q => !sLt q.Key x.Key) = false ∧ onMap x.X x.Y = true := by
  unfold nodeBad at h
  split at h
  · cases h
  · split at h
    · cases h
    · split at h
      · cases h
      · simp_all
end
theorem nodes_rise {l : List SNode} (h : nodesE l = 0) : l.length ≤ 500 ∧ rising SNode.Key l := by
  unfold nodesE at h
  split at h
  · cases h
  · refine ⟨by omega, rising_chk h fun p x hp => ?_⟩
    have := (nb_ok hp).2.1
    simpa using this
theorem p36 {G0 : GH} {v : Value} {l : List SNode} (hv : RSl rNode G0 v l) (hn : (l.length : Int) ≤ 9223372036854775807) : Pure Tryz.prog G0 36 [v] (V (nodesE l)) := by
  intro G hG; replace hv := hv.le hG
  clear hG G0
  refine enter Tryz.func36 42 #[.tmp 2] rfl Tryz.ntmps36 rfl (by decide +kernel) rfl ?_
  obtain ⟨a, c, rfl⟩ := hv.val
  simp (maxDischargeDepth := 9) only [↓gB, gV, gT, reduceIte, reduceCtorEq, Nat.reduceEqDiff, Nat.reduceAdd, Nat.reduceSub, Nat.reduceLeDiff, Nat.reduceLT, Int.reduceEq, Nat.reduceMul]
  refine Xc_split _ _ _ _ _ (fun c0 => ?_) (fun c0 => ?_)
  · simp (maxDischargeDepth := 9) only [↓gB, gV, gT, reduceIte, reduceCtorEq, Nat.reduceEqDiff, Nat.reduceAdd, Nat.reduceSub, Nat.reduceLeDiff, Nat.reduceLT, Int.reduceEq, Nat.reduceMul, c0]
    refine Kup_val (le_refl _) ?_
    focus ((have : 500 < l.length := by omega); simp [nodesE, this]; done)
  · have h0' : nodesE l = chk nodeBad none l := if_neg (by omega)
    rw [h0']
    simp (maxDischargeDepth := 9) only [↓gB, gV, gT, reduceIte, reduceCtorEq, Nat.reduceEqDiff, Nat.reduceAdd, Nat.reduceSub, Nat.reduceLeDiff, Nat.reduceLT, Int.reduceEq, Nat.reduceMul, c0]
    focus
      refine Xloop_intro _ _ _ _ _ (fun k f G' => ∃ (i : Nat), k = l.length - i ∧ (i ≤ l.length) ∧ (chk nodeBad none l = chk nodeBad (prevOf l i) (l.drop i)) ∧ (RSl rNode G' (.slice a l.length c) l) ∧ (G.le G') ∧ f 10 = V i ∧ f 0 = Go.Value.slice a l.length c ∧ f 8 = Go.Value.slice a l.length c ∧ f 9 = Go.Value.int Go.IntKind.i64 ↑l.length) _ ⟨0, rfl, ?_, ?_, ?_, ?_, by simp (maxDischargeDepth := 9) only [↓gB, gV, gT, reduceIte, reduceCtorEq, Nat.reduceEqDiff, Nat.reduceAdd, Nat.reduceSub, Nat.reduceLeDiff, Nat.reduceLT, Int.reduceEq, Nat.reduceMul, c0, and_self]⟩ ?_
      · omega
      · rfl
      · assumption
      · exact le_refl _
      rintro k f G' ⟨i, rfl, hi, h, hv, hle, f10, f0, f8, f9⟩
    simp (maxDischargeDepth := 9) only [↓gB, gV, gT, reduceIte, reduceCtorEq, Nat.reduceEqDiff, Nat.reduceAdd, Nat.reduceSub, Nat.reduceLeDiff, Nat.reduceLT, Int.reduceEq, Nat.reduceMul, c0, f10, f0, f8, f9]
    refine Xc_split _ _ _ _ _ (fun c1 => ?_) (fun c1 => ?_)
    · focus
        simp (maxDischargeDepth := 9) only [↓gB, gV, gT, reduceIte, reduceCtorEq, Nat.reduceEqDiff, Nat.reduceAdd, Nat.reduceSub, Nat.reduceLeDiff, Nat.reduceLT, Int.reduceEq, Nat.reduceMul, c0, f10, f0, f8, f9, c1]
        obtain ⟨x1, a1, s1, m1, rfl, rfl, e1⟩ := hv.at (i) (by omega) 3 rfl
        simp (maxDischargeDepth := 9) only [↓gB, gV, gT, reduceIte, reduceCtorEq, Nat.reduceEqDiff, Nat.reduceAdd, Nat.reduceSub, Nat.reduceLeDiff, Nat.reduceLT, Int.reduceEq, Nat.reduceMul, c0, f10, f9, c1, f0, f8, e1]
        refine vguard_intro (by simp) ?_
        refine Yn2 fun r1 h1 => ?_
        simp (maxDischargeDepth := 9) only [↓gB, gV, gT, reduceIte, reduceCtorEq, Nat.reduceEqDiff, Nat.reduceAdd, Nat.reduceSub, Nat.reduceLeDiff, Nat.reduceLT, Int.reduceEq, Nat.reduceMul, c0, f10, f9, c1, f0, f8, e1, h1]
        refine Ycp (p37) ?_
        simp (maxDischargeDepth := 9) only [↓gB, gV, gT, reduceIte, reduceCtorEq, Nat.reduceEqDiff, Nat.reduceAdd, Nat.reduceSub, Nat.reduceLeDiff, Nat.reduceLT, Int.reduceEq, Nat.reduceMul, c0, f10, f9, c1, f0, f8, e1, h1]
        rcases bool_tf (Go.Proofs.YtjhfhacdjmokaaaGreatDoor.isKey x1.Key) with c2 | c2
        rotate_left 1
        focus
          simp (maxDischargeDepth := 9) only [↓gB, gV, gT, reduceIte, reduceCtorEq, Nat.reduceEqDiff, Nat.reduceAdd, Nat.reduceSub, Nat.reduceLeDiff, Nat.reduceLT, Int.reduceEq, Nat.reduceMul, c0, f10, f9, c1, f0, f8, e1, h1, c2]
          refine Kup_val (by simp (maxDischargeDepth := 9) only [le_self, le_puts, le_put0, hle, h1]) ?_
          focus (rw [chk_bad h m1 (nb5 (by assumption)) (by decide)]; done)
        rotate_right 1
        simp (maxDischargeDepth := 9) only [↓gB, gV, gT, reduceIte, reduceCtorEq, Nat.reduceEqDiff, Nat.reduceAdd, Nat.reduceSub, Nat.reduceLeDiff, Nat.reduceLT, Int.reduceEq, Nat.reduceMul, c0, f10, f9, c1, f0, f8, e1, h1, c2]
        refine Xdraw_intro [0, 1, 2, 3, 4, 5, 6, 7, 8, 9, 10, 11, 12, 13] mixed (by kernel_rfl) (by decide +kernel) ?_
        simp (maxDischargeDepth := 9) only [↓gB, gV, gT, reduceIte, reduceCtorEq, Nat.reduceEqDiff, Nat.reduceAdd, Nat.reduceSub, Nat.reduceLeDiff, Nat.reduceLT, Int.reduceEq, Nat.reduceMul, c0, f10, f9, c1, f0, f8, e1, h1, c2]
        by_cases c3 : (0 : Int) < ↑i
        rotate_left 1
        focus
          simp (maxDischargeDepth := 9) only [↓gB, gV, gT, reduceIte, reduceCtorEq, Nat.reduceEqDiff, Nat.reduceAdd, Nat.reduceSub, Nat.reduceLeDiff, Nat.reduceLT, Int.reduceEq, Nat.reduceMul, c0, f10, f9, c1, f0, f8, e1, h1, c2, c3]
          refine Ycp (p63) ?_
          simp (maxDischargeDepth := 9) only [↓gB, gV, gT, reduceIte, reduceCtorEq, Nat.reduceEqDiff, Nat.reduceAdd, Nat.reduceSub, Nat.reduceLeDiff, Nat.reduceLT, Int.reduceEq, Nat.reduceMul, c0, f10, f9, c1, f0, f8, e1, h1, c2, c3]
          rcases bool_tf (Go.Proofs.YtjhfhacdjmokaaaGreatDoor.onMap x1.X x1.Y) with c4 | c4
          rotate_left 1
          focus
            simp (maxDischargeDepth := 9) only [↓gB, gV, gT, reduceIte, reduceCtorEq, Nat.reduceEqDiff, Nat.reduceAdd, Nat.reduceSub, Nat.reduceLeDiff, Nat.reduceLT, Int.reduceEq, Nat.reduceMul, c0, f10, f9, c1, f0, f8, e1, h1, c2, c3, c4]
            refine Kup_val (by simp (maxDischargeDepth := 9) only [le_self, le_puts, le_put0, hle, h1]) ?_
            focus (rw [chk_bad h m1 (nb1 (by assumption) (by first | exact pvp (by assumption) m2 (by simp [*]) | exact pvz (by assumption)) (by assumption)) (by decide)]; done)
          rotate_right 1
          simp (maxDischargeDepth := 9) only [↓gB, gV, gT, reduceIte, reduceCtorEq, Nat.reduceEqDiff, Nat.reduceAdd, Nat.reduceSub, Nat.reduceLeDiff, Nat.reduceLT, Int.reduceEq, Nat.reduceMul, c0, f10, f9, c1, f0, f8, e1, h1, c2, c3, c4]
          have q1 : Go.IntKind.i64.wrap (↑i + 1) = ↑i + 1 := wrap_id (by omega)
          simp (maxDischargeDepth := 9) only [↓gB, gV, gT, reduceIte, reduceCtorEq, Nat.reduceEqDiff, Nat.reduceAdd, Nat.reduceSub, Nat.reduceLeDiff, Nat.reduceLT, Int.reduceEq, Nat.reduceMul, c0, f10, f9, c1, f0, f8, e1, h1, c2, c3, c4, q1]
          rw [N_lp]
          refine ⟨_, ?_, _, sub_refl _, i + 1, rfl, ?_, ?_, ?_, ?_, by simp (maxDischargeDepth := 9) only [↓gB, gV, gT, reduceIte, reduceCtorEq, Nat.reduceEqDiff, Nat.reduceAdd, Nat.reduceSub, Nat.reduceLeDiff, Nat.reduceLT, Int.reduceEq, Nat.reduceMul, c0, f10, f9, c1, f0, f8, e1, h1, c2, c3, c4, q1, nat_succ, and_self]⟩
          · omega
          · omega
          · (exact chk_next h m1 (nb0 (by assumption) (by first | exact pvp (by assumption) m2 (by simp [*]) | exact pvz (by assumption)) (by assumption)); done)
          · exact RSl.put _ (by assumption) (by assumption)
          · (simp (maxDischargeDepth := 9) only [le_self, le_puts, le_put0, sub_self, sub_puts, sub_put0, hle, h1]; done)
        rotate_right 1
        simp (maxDischargeDepth := 9) only [↓gB, gV, gT, reduceIte, reduceCtorEq, Nat.reduceEqDiff, Nat.reduceAdd, Nat.reduceSub, Nat.reduceLeDiff, Nat.reduceLT, Int.reduceEq, Nat.reduceMul, c0, f10, f9, c1, f0, f8, e1, h1, c2, c3]
        have q1 : Go.IntKind.i64.wrap (↑i - 1) = ↑i - 1 := wrap_id (by omega)
        simp (maxDischargeDepth := 9) only [↓gB, gV, gT, reduceIte, reduceCtorEq, Nat.reduceEqDiff, Nat.reduceAdd, Nat.reduceSub, Nat.reduceLeDiff, Nat.reduceLT, Int.reduceEq, Nat.reduceMul, c0, f10, f9, c1, f0, f8, e1, h1, c2, c3, q1]
        refine vguard_intro (by omega) ?_
        obtain ⟨x2, s2, m2, rfl, e2⟩ := hv.at' (i - 1) (by omega) 3 rfl
        simp (maxDischargeDepth := 9) only [↓gB, gV, gT, reduceIte, reduceCtorEq, Nat.reduceEqDiff, Nat.reduceAdd, Nat.reduceSub, Nat.reduceLeDiff, Nat.reduceLT, Int.reduceEq, Nat.reduceMul, c0, f10, f9, c1, f0, f8, e1, h1, c2, c3, q1, e2]
        rcases bool_tf (Go.GL.sLt x2.Key x1.Key) with c4 | c4
        rotate_left 1
        focus
          simp (maxDischargeDepth := 9) only [↓gB, gV, gT, reduceIte, reduceCtorEq, Nat.reduceEqDiff, Nat.reduceAdd, Nat.reduceSub, Nat.reduceLeDiff, Nat.reduceLT, Int.reduceEq, Nat.reduceMul, c0, f10, f9, c1, f0, f8, e1, h1, c2, c3, q1, e2, c4]
          refine Kup_val (by simp (maxDischargeDepth := 9) only [le_self, le_puts, le_put0, hle, h1]) ?_
          focus (rw [chk_bad h m1 (nb7 (by assumption) (pvp (by assumption) m2 (by simp [*]))) (by decide)]; done)
        rotate_right 1
        simp (maxDischargeDepth := 9) only [↓gB, gV, gT, reduceIte, reduceCtorEq, Nat.reduceEqDiff, Nat.reduceAdd, Nat.reduceSub, Nat.reduceLeDiff, Nat.reduceLT, Int.reduceEq, Nat.reduceMul, c0, f10, f9, c1, f0, f8, e1, h1, c2, c3, q1, e2, c4]
        refine Ycp (p63) ?_
        simp (maxDischargeDepth := 9) only [↓gB, gV, gT, reduceIte, reduceCtorEq, Nat.reduceEqDiff, Nat.reduceAdd, Nat.reduceSub, Nat.reduceLeDiff, Nat.reduceLT, Int.reduceEq, Nat.reduceMul, c0, f10, f9, c1, f0, f8, e1, h1, c2, c3, q1, e2, c4]
        rcases bool_tf (Go.Proofs.YtjhfhacdjmokaaaGreatDoor.onMap x1.X x1.Y) with c5 | c5
        rotate_left 1
        focus
          simp (maxDischargeDepth := 9) only [↓gB, gV, gT, reduceIte, reduceCtorEq, Nat.reduceEqDiff, Nat.reduceAdd, Nat.reduceSub, Nat.reduceLeDiff, Nat.reduceLT, Int.reduceEq, Nat.reduceMul, c0, f10, f9, c1, f0, f8, e1, h1, c2, c3, q1, e2, c4, c5]
          refine Kup_val (by simp (maxDischargeDepth := 9) only [le_self, le_puts, le_put0, hle, h1]) ?_
          focus (rw [chk_bad h m1 (nb1 (by assumption) (by first | exact pvp (by assumption) m2 (by simp [*]) | exact pvz (by assumption)) (by assumption)) (by decide)]; done)
        rotate_right 1
        simp (maxDischargeDepth := 9) only [↓gB, gV, gT, reduceIte, reduceCtorEq, Nat.reduceEqDiff, Nat.reduceAdd, Nat.reduceSub, Nat.reduceLeDiff, Nat.reduceLT, Int.reduceEq, Nat.reduceMul, c0, f10, f9, c1, f0, f8, e1, h1, c2, c3, q1, e2, c4, c5]
        have q2 : Go.IntKind.i64.wrap (↑i + 1) = ↑i + 1 := wrap_id (by omega)
        simp (maxDischargeDepth := 9) only [↓gB, gV, gT, reduceIte, reduceCtorEq, Nat.reduceEqDiff, Nat.reduceAdd, Nat.reduceSub, Nat.reduceLeDiff, Nat.reduceLT, Int.reduceEq, Nat.reduceMul, c0, f10, f9, c1, f0, f8, e1, h1, c2, c3, q1, e2, c4, c5, q2]
        rw [N_lp]
        refine ⟨_, ?_, _, sub_refl _, i + 1, rfl, ?_, ?_, ?_, ?_, by simp (maxDischargeDepth := 9) only [↓gB, gV, gT, reduceIte, reduceCtorEq, Nat.reduceEqDiff, Nat.reduceAdd, Nat.reduceSub, Nat.reduceLeDiff, Nat.reduceLT, Int.reduceEq, Nat.reduceMul, c0, f10, f9, c1, f0, f8, e1, h1, c2, c3, q1, e2, c4, c5, q2, nat_succ, and_self]⟩
        · omega
        · omega
        · (exact chk_next h m1 (nb0 (by assumption) (by first | exact pvp (by assumption) m2 (by simp [*]) | exact pvz (by assumption)) (by assumption)); done)
        · exact RSl.put _ (by assumption) (by assumption)
        · (simp (maxDischargeDepth := 9) only [le_self, le_puts, le_put0, sub_self, sub_puts, sub_put0, hle, h1]; done)
    · simp (maxDischargeDepth := 9) only [↓gB, gV, gT, reduceIte, reduceCtorEq, Nat.reduceEqDiff, Nat.reduceAdd, Nat.reduceSub, Nat.reduceLeDiff, Nat.reduceLT, Int.reduceEq, Nat.reduceMul, c0, f10, f0, f8, f9, c1]
      refine Kup_val (by simp (maxDischargeDepth := 9) only [le_self, le_puts, le_put0, hle]) ?_
      focus (rw [chk_end h c1]; done)
end Go.Proofs.YtjhfhacdjmokaaaGreatDoor
namespace Go.Proofs.YtjhfhacdjmokaaaGreatDoor
open Go Go.GL
attribute [local irreducible] Ycall GCalls
set_option maxRecDepth 10000
set_option maxHeartbeats 0
def afterK (l : List SKnot) (i : Nat) : SKnot := match l[i + 1]? with | some k => k | none => ⟨86400000, match l[0]? with | some k => k.Time | none => 0⟩
theorem after_s {l : List SKnot} {i : Nat} {x : SKnot} (m : l[i + 1]? = some x) : afterK l i = x := by unfold afterK; rw [m]
theorem after_e {l : List SKnot} {i : Nat} {x : SKnot} (h : ¬ (i : Int) + 1 < l.length) (m : l[0]? = some x) : afterK l i = ⟨86400000, x.Time⟩ := by unfold afterK; rw [List.getElem?_eq_none (by omega), m]
theorem p48 {G0 : GH} {v : Value} {l : List SKnot} {i : Nat} (hv : RSl rKnot G0 v l) (hi : i < l.length) (hn : (l.length : Int) ≤ 4611686018427387903) : Pure Tryz.prog G0 48 [v, V i] (.agg #[V (afterK l i).At, V (afterK l i).Time]) := by
  intro G hG; replace hv := hv.le hG
  clear hG G0
  refine enter Tryz.func48 20 #[.cell 4 70] rfl Tryz.ntmps48 rfl (by decide +kernel) rfl ?_
  obtain ⟨a, c, rfl⟩ := hv.val
  focus
    simp (maxDischargeDepth := 9) only [↓gB, gV, gT, reduceIte, reduceCtorEq, Nat.reduceEqDiff, Nat.reduceAdd, Nat.reduceSub, Nat.reduceLeDiff, Nat.reduceLT, Int.reduceEq, Nat.reduceMul, Int.toNat_zero]
    refine Yn2 fun r1 h1 => ?_
    simp (maxDischargeDepth := 9) only [↓gB, gV, gT, reduceIte, reduceCtorEq, Nat.reduceEqDiff, Nat.reduceAdd, Nat.reduceSub, Nat.reduceLeDiff, Nat.reduceLT, Int.reduceEq, Nat.reduceMul, h1, Int.toNat_zero]
    have q1 : Go.IntKind.i64.wrap (↑i + 1) = ↑i + 1 := wrap_id (by omega)
    simp (maxDischargeDepth := 9) only [↓gB, gV, gT, reduceIte, reduceCtorEq, Nat.reduceEqDiff, Nat.reduceAdd, Nat.reduceSub, Nat.reduceLeDiff, Nat.reduceLT, Int.reduceEq, Nat.reduceMul, h1, q1, Int.toNat_zero]
    refine Xc_split _ _ _ _ _ (fun c1 => ?_) (fun c1 => ?_)
    rotate_left 1
    focus
      simp (maxDischargeDepth := 9) only [↓gB, gV, gT, reduceIte, reduceCtorEq, Nat.reduceEqDiff, Nat.reduceAdd, Nat.reduceSub, Nat.reduceLeDiff, Nat.reduceLT, Int.reduceEq, Nat.reduceMul, h1, q1, c1, Int.toNat_zero]
      obtain ⟨x1, a1, s1, m1, rfl, rfl, e1⟩ := hv.at (0) (by omega) 2 rfl
      simp (maxDischargeDepth := 9) only [↓gB, gV, gT, reduceIte, reduceCtorEq, Nat.reduceEqDiff, Nat.reduceAdd, Nat.reduceSub, Nat.reduceLeDiff, Nat.reduceLT, Int.reduceEq, Nat.reduceMul, h1, q1, c1, e1, Int.toNat_zero]
      refine vguard_intro (by omega) ?_
      refine Kup_val (by simp (maxDischargeDepth := 9) only [le_self, le_puts, le_put0, h1]) ?_
      focus (rw [after_e (by assumption) m1]; done)
    rotate_right 1
    simp (maxDischargeDepth := 9) only [↓gB, gV, gT, reduceIte, reduceCtorEq, Nat.reduceEqDiff, Nat.reduceAdd, Nat.reduceSub, Nat.reduceLeDiff, Nat.reduceLT, Int.reduceEq, Nat.reduceMul, h1, q1, c1, Int.toNat_zero]
    obtain ⟨x1, a1, s1, m1, rfl, rfl, e1⟩ := hv.at (i + 1) (by omega) 2 rfl
    simp (maxDischargeDepth := 9) only [↓gB, gV, gT, reduceIte, reduceCtorEq, Nat.reduceEqDiff, Nat.reduceAdd, Nat.reduceSub, Nat.reduceLeDiff, Nat.reduceLT, Int.reduceEq, Nat.reduceMul, h1, q1, c1, e1, Int.toNat_zero]
    refine vguard_intro (by simp; omega) ?_
    refine Kup_val (by simp (maxDischargeDepth := 9) only [le_self, le_puts, le_put0, h1]) ?_
    focus (rw [after_s m1]; done)
def knotBad (q : Option SKnot) (k : SKnot) : Int := if within k.At 0 86399999 = false then 1 else if within k.Time 1 3600000 = false then 1 else if q.isNone = true ∧ ¬ k.At = 0 then 7 else if q.any (fun q => decide (k.At ≤ q.At)) = true then 7 else 0
def rules (l : List SKnot) : Bool := (List.range l.length).all fun i => match l[i]? with | some k => decide (k.Time - (afterK l i).Time ≤ (afterK l i).At - k.At) | none => true
theorem rules_no {l : List SKnot} {i : Nat} {k : SKnot} (m : l[i]? = some k) (h : (afterK l i).At - k.At < k.Time - (afterK l i).Time) : rules l = false := by
  have hi : i < l.length := by
    by_cases q : i < l.length
    · exact q
    · rw [List.getElem?_eq_none (by omega)] at m; cases m
  unfold rules
  rw [List.all_eq_false]
  refine ⟨i, List.mem_range.2 hi, ?_⟩
  simp only [m, decide_eq_true_eq]; omega
theorem rules_yes {l : List SKnot} (h : ∀ (i : Nat) k, i < l.length → l[i]? = some k → k.Time - (afterK l i).Time ≤ (afterK l i).At - k.At) : rules l = true := by
  unfold rules
  rw [List.all_eq_true]
  intro i hi
  split
  · rename_i k hk; exact decide_eq_true (h i k (List.mem_range.1 hi) hk)
  · rfl
theorem rules_at {l : List SKnot} (h : rules l = true) {i : Nat} {k : SKnot} (m : l[i]? = some k) : k.Time - (afterK l i).Time ≤ (afterK l i).At - k.At := by
  by_cases q : k.Time - (afterK l i).Time ≤ (afterK l i).At - k.At
  · exact q
  · rw [rules_no m (by omega)] at h; cases h
def knotsE (l : List SKnot) : Int := if l = [] then 8 else if 48 < l.length then 2 else if chk knotBad none l = 0 then (if rules l = true then 0 else 16) else chk knotBad none l
section
variable {l : List SKnot} {i : Nat} {x y : SKnot}
theorem kn1a (c : within x.At 0 86399999 = false) : knotBad (prevOf l i) x = 1 := by simp [knotBad, c]
theorem kn1b (c : within x.At 0 86399999 = true) (c2 : within x.Time 1 3600000 = false) : knotBad (prevOf l i) x = 1 := by simp [knotBad, c, c2]
theorem kn7a (c : within x.At 0 86399999 = true) (c2 : within x.Time 1 3600000 = true) (h : (i : Int) = 0) (h2 : ¬ x.At = 0) : knotBad (prevOf l i) x = 7 := by
  rw [prevOf_z (by omega)]; simp [knotBad, c, c2, h2]
theorem kn7b (c : within x.At 0 86399999 = true) (c2 : within x.Time 1 3600000 = true) (h : (0 : Int) < i) (m : l[i - 1]? = some y) (h2 : x.At ≤ y.At) : knotBad (prevOf l i) x = 7 := by
  rw [prevOf_p h, m]; simp [knotBad, c, c2, h2]
theorem kn0a (c : within x.At 0 86399999 = true) (c2 : within x.Time 1 3600000 = true) (h : (i : Int) = 0) (h2 : x.At = 0) : knotBad (prevOf l i) x = 0 := by
  rw [prevOf_z (by omega)]; unfold knotBad; rw [if_neg (by simp [c]), if_neg (by simp [c2]), if_neg (by simp [h2]), if_neg (by simp)]
theorem kn0b (c : within x.At 0 86399999 = true) (c2 : within x.Time 1 3600000 = true) (h : (0 : Int) < i) (m : l[i - 1]? = some y) (h2 : ¬ x.At ≤ y.At) : knotBad (prevOf l i) x = 0 := by
  rw [prevOf_p h, m]; simp [knotBad, c, c2, h2]
theorem kb_ok {q : Option SKnot} (h : knotBad q x = 0) : (0 ≤ x.At ∧ x.At ≤ 86399999) ∧ (1 ≤ x.Time ∧ x.Time ≤ 3600000) ∧ (q = none → x.At = 0) ∧ (∀ p, q = some p → p.At < x.At) := by
  unfold knotBad at h
  split at h
  · cases h
  · split at h
    · cases h
    · split at h
      · cases h
      · split at h
        · cases h
        · rename_i h1 h2 h3 h4
          refine ⟨within_iff.1 (by simpa using h1), within_iff.1 (by simpa using h2), ?_, ?_⟩
          · rintro rfl; simp at h3; exact h3
          · rintro p rfl; simp at h4; omega
theorem kE8 (h : (l.length : Int) = 0) : knotsE l = 8 := by unfold knotsE; rw [if_pos (List.eq_nil_of_length_eq_zero (by omega))]
theorem kE2 (h : ¬ (l.length : Int) = 0) (h2 : (48 : Int) < l.length) : knotsE l = 2 := by
  unfold knotsE; rw [if_neg (by rintro rfl; simp at h), if_pos (by omega)]
theorem kEbad (h : ¬ (l.length : Int) = 0) (h2 : ¬ (48 : Int) < l.length) {e : Int} (hc : chk knotBad none l = e) (he : e ≠ 0) : knotsE l = e := by
  unfold knotsE; rw [if_neg (by rintro rfl; simp at h), if_neg (by omega), hc, if_neg he]
theorem kE16 (h : ¬ (l.length : Int) = 0) (h2 : ¬ (48 : Int) < l.length) (hc : chk knotBad none l = 0) (hr : rules l = false) : knotsE l = 16 := by
  unfold knotsE; rw [if_neg (by rintro rfl; simp at h), if_neg (by omega), if_pos hc, hr]; rfl
theorem kE0 (h : ¬ (l.length : Int) = 0) (h2 : ¬ (48 : Int) < l.length) (hc : chk knotBad none l = 0) (hr : rules l = true) : knotsE l = 0 := by
  unfold knotsE; rw [if_neg (by rintro rfl; simp at h), if_neg (by omega), if_pos hc, hr]; rfl
theorem kn_b (hc : chk knotBad none l = 0) (m : l[i]? = some x) : (0 ≤ x.At ∧ x.At ≤ 86399999) ∧ (1 ≤ x.Time ∧ x.Time ≤ 3600000) := let h := kb_ok (chk_prev hc m); ⟨h.1, h.2.1⟩
theorem after_b (hc : chk knotBad none l = 0) (hi : i < l.length) : (0 ≤ (afterK l i).At ∧ (afterK l i).At ≤ 86400000) ∧ (1 ≤ (afterK l i).Time ∧ (afterK l i).Time ≤ 3600000) := by
  have h0 : ∃ z, l[0]? = some z := ⟨_, List.getElem?_eq_getElem (by omega)⟩
  obtain ⟨z, hz⟩ := h0
  have hzb := kn_b hc hz
  by_cases q : i + 1 < l.length
  · have hy : ∃ y, l[i + 1]? = some y := ⟨_, List.getElem?_eq_getElem q⟩
    obtain ⟨y, hy⟩ := hy
    have := kn_b hc hy
    rw [after_s hy]; omega
  · rw [after_e (by omega) hz]; simp only; omega
end
theorem p39 {G0 : GH} {v : Value} {l : List SKnot} (hv : RSl rKnot G0 v l) (hn : (l.length : Int) ≤ 4611686018427387903) : Pure Tryz.prog G0 39 [v] (V (knotsE l)) := by
  intro G hG; replace hv := hv.le hG
  clear hG G0
  refine enter Tryz.func39 78 #[.tmp 2] rfl Tryz.ntmps39 rfl (by decide +kernel) rfl ?_
  obtain ⟨a, c, rfl⟩ := hv.val
  simp (maxDischargeDepth := 9) only [↓gB, gV, gT, reduceIte, reduceCtorEq, Nat.reduceEqDiff, Nat.reduceAdd, Nat.reduceSub, Nat.reduceLeDiff, Nat.reduceLT, Int.reduceEq, Nat.reduceMul]
  refine Xc_split _ _ _ _ _ (fun c0 => ?_) (fun c0 => ?_)
  · simp (maxDischargeDepth := 9) only [↓gB, gV, gT, reduceIte, reduceCtorEq, Nat.reduceEqDiff, Nat.reduceAdd, Nat.reduceSub, Nat.reduceLeDiff, Nat.reduceLT, Int.reduceEq, Nat.reduceMul, c0]
    refine Kup_val (le_refl _) ?_
    focus (rw [kE8 c0]; done)
  · simp (maxDischargeDepth := 9) only [↓gB, gV, gT, reduceIte, reduceCtorEq, Nat.reduceEqDiff, Nat.reduceAdd, Nat.reduceSub, Nat.reduceLeDiff, Nat.reduceLT, Int.reduceEq, Nat.reduceMul, c0]
    refine Xc_split _ _ _ _ _ (fun c00 => ?_) (fun c00 => ?_)
    · simp (maxDischargeDepth := 9) only [↓gB, gV, gT, reduceIte, reduceCtorEq, Nat.reduceEqDiff, Nat.reduceAdd, Nat.reduceSub, Nat.reduceLeDiff, Nat.reduceLT, Int.reduceEq, Nat.reduceMul, c0, c00]
      refine Kup_val (le_refl _) ?_
      focus (rw [kE2 c0 c00]; done)
    · simp (maxDischargeDepth := 9) only [↓gB, gV, gT, reduceIte, reduceCtorEq, Nat.reduceEqDiff, Nat.reduceAdd, Nat.reduceSub, Nat.reduceLeDiff, Nat.reduceLT, Int.reduceEq, Nat.reduceMul, c0, c00]
      focus
        refine Xloop_intro _ _ _ _ _ (fun k f G' => ∃ (i : Nat), k = l.length - i ∧ (i ≤ l.length) ∧ (chk knotBad none l = chk knotBad (prevOf l i) (l.drop i)) ∧ (RSl rKnot G' (.slice a l.length c) l) ∧ (G.le G') ∧ f 18 = V i ∧ f 0 = Go.Value.slice a l.length c ∧ f 16 = Go.Value.slice a l.length c ∧ f 17 = Go.Value.int Go.IntKind.i64 ↑l.length) _ ⟨0, rfl, ?_, ?_, ?_, ?_, by simp (maxDischargeDepth := 9) only [↓gB, gV, gT, reduceIte, reduceCtorEq, Nat.reduceEqDiff, Nat.reduceAdd, Nat.reduceSub, Nat.reduceLeDiff, Nat.reduceLT, Int.reduceEq, Nat.reduceMul, c0, c00, and_self]⟩ ?_
        · omega
        · rfl
        · assumption
        · exact le_refl _
        rintro k f G' ⟨i, rfl, hi, h, hv, hle, f18, f0, f16, f17⟩
      simp (maxDischargeDepth := 9) only [↓gB, gV, gT, reduceIte, reduceCtorEq, Nat.reduceEqDiff, Nat.reduceAdd, Nat.reduceSub, Nat.reduceLeDiff, Nat.reduceLT, Int.reduceEq, Nat.reduceMul, c0, c00, f18, f0, f16, f17]
      refine Xc_split _ _ _ _ _ (fun c1 => ?_) (fun c1 => ?_)
      · focus
          simp (maxDischargeDepth := 9) only [↓gB, gV, gT, reduceIte, reduceCtorEq, Nat.reduceEqDiff, Nat.reduceAdd, Nat.reduceSub, Nat.reduceLeDiff, Nat.reduceLT, Int.reduceEq, Nat.reduceMul, c0, c00, f18, f0, f16, f17, c1]
          obtain ⟨x1, a1, s1, m1, rfl, rfl, e1⟩ := hv.at (i) (by omega) 2 rfl
          simp (maxDischargeDepth := 9) only [↓gB, gV, gT, reduceIte, reduceCtorEq, Nat.reduceEqDiff, Nat.reduceAdd, Nat.reduceSub, Nat.reduceLeDiff, Nat.reduceLT, Int.reduceEq, Nat.reduceMul, c0, c00, f18, f17, c1, f0, f16, e1]
          refine vguard_intro (by simp) ?_
          refine Yn2 fun r1 h1 => ?_
          simp (maxDischargeDepth := 9) only [↓gB, gV, gT, reduceIte, reduceCtorEq, Nat.reduceEqDiff, Nat.reduceAdd, Nat.reduceSub, Nat.reduceLeDiff, Nat.reduceLT, Int.reduceEq, Nat.reduceMul, c0, c00, f18, f17, c1, f0, f16, e1, h1]
          refine Ycp (p38) ?_
          simp (maxDischargeDepth := 9) only [↓gB, gV, gT, reduceIte, reduceCtorEq, Nat.reduceEqDiff, Nat.reduceAdd, Nat.reduceSub, Nat.reduceLeDiff, Nat.reduceLT, Int.reduceEq, Nat.reduceMul, c0, c00, f18, f17, c1, f0, f16, e1, h1]
          rcases bool_tf (Go.Proofs.YtjhfhacdjmokaaaGreatDoor.within x1.At 0 86399999) with c2 | c2
          rotate_left 1
          focus
            simp (maxDischargeDepth := 9) only [↓gB, gV, gT, reduceIte, reduceCtorEq, Nat.reduceEqDiff, Nat.reduceAdd, Nat.reduceSub, Nat.reduceLeDiff, Nat.reduceLT, Int.reduceEq, Nat.reduceMul, c0, c00, f18, f17, c1, f0, f16, e1, h1, c2]
            refine Kup_val (by simp (maxDischargeDepth := 9) only [le_self, le_puts, le_put0, hle, h1]) ?_
            focus (rw [kEbad c0 c00 (chk_bad h m1 (kn1a (by assumption)) (by decide)) (by decide)]; done)
          rotate_right 1
          simp (maxDischargeDepth := 9) only [↓gB, gV, gT, reduceIte, reduceCtorEq, Nat.reduceEqDiff, Nat.reduceAdd, Nat.reduceSub, Nat.reduceLeDiff, Nat.reduceLT, Int.reduceEq, Nat.reduceMul, c0, c00, f18, f17, c1, f0, f16, e1, h1, c2]
          refine Ycp (p38) ?_
          simp (maxDischargeDepth := 9) only [↓gB, gV, gT, reduceIte, reduceCtorEq, Nat.reduceEqDiff, Nat.reduceAdd, Nat.reduceSub, Nat.reduceLeDiff, Nat.reduceLT, Int.reduceEq, Nat.reduceMul, c0, c00, f18, f17, c1, f0, f16, e1, h1, c2]
          rcases bool_tf (Go.Proofs.YtjhfhacdjmokaaaGreatDoor.within x1.Time 1 3600000) with c3 | c3
          rotate_left 1
          focus
            simp (maxDischargeDepth := 9) only [↓gB, gV, gT, reduceIte, reduceCtorEq, Nat.reduceEqDiff, Nat.reduceAdd, Nat.reduceSub, Nat.reduceLeDiff, Nat.reduceLT, Int.reduceEq, Nat.reduceMul, c0, c00, f18, f17, c1, f0, f16, e1, h1, c2, c3]
            refine Kup_val (by simp (maxDischargeDepth := 9) only [le_self, le_puts, le_put0, hle, h1]) ?_
            focus (rw [kEbad c0 c00 (chk_bad h m1 (kn1b (by assumption) (by assumption)) (by decide)) (by decide)]; done)
          rotate_right 1
          simp (maxDischargeDepth := 9) only [↓gB, gV, gT, reduceIte, reduceCtorEq, Nat.reduceEqDiff, Nat.reduceAdd, Nat.reduceSub, Nat.reduceLeDiff, Nat.reduceLT, Int.reduceEq, Nat.reduceMul, c0, c00, f18, f17, c1, f0, f16, e1, h1, c2, c3]
          refine Xdraw_intro [0, 1, 2, 3, 4, 5, 6, 7, 8, 9, 10, 11, 12, 13, 14, 15, 16, 17, 18, 19, 20, 21, 22] mixed (by kernel_rfl) (by decide +kernel) ?_
          simp (maxDischargeDepth := 9) only [↓gB, gV, gT, reduceIte, reduceCtorEq, Nat.reduceEqDiff, Nat.reduceAdd, Nat.reduceSub, Nat.reduceLeDiff, Nat.reduceLT, Int.reduceEq, Nat.reduceMul, c0, c00, f18, f17, c1, f0, f16, e1, h1, c2, c3]
          by_cases c4 : (↑i : Int) = 0
          rotate_left 1
          focus
            simp (maxDischargeDepth := 9) only [↓gB, gV, gT, reduceIte, reduceCtorEq, Nat.reduceEqDiff, Nat.reduceAdd, Nat.reduceSub, Nat.reduceLeDiff, Nat.reduceLT, Int.reduceEq, Nat.reduceMul, c0, c00, f18, f17, c1, f0, f16, e1, h1, c2, c3, c4]
            by_cases c5 : (0 : Int) < ↑i
            rotate_left 1
            focus
              simp (maxDischargeDepth := 9) only [↓gB, gV, gT, reduceIte, reduceCtorEq, Nat.reduceEqDiff, Nat.reduceAdd, Nat.reduceSub, Nat.reduceLeDiff, Nat.reduceLT, Int.reduceEq, Nat.reduceMul, c0, c00, f18, f17, c1, f0, f16, e1, h1, c2, c3, c4, c5]
              have q1 : Go.IntKind.i64.wrap (↑i + 1) = ↑i + 1 := wrap_id (by omega)
              simp (maxDischargeDepth := 9) only [↓gB, gV, gT, reduceIte, reduceCtorEq, Nat.reduceEqDiff, Nat.reduceAdd, Nat.reduceSub, Nat.reduceLeDiff, Nat.reduceLT, Int.reduceEq, Nat.reduceMul, c0, c00, f18, f17, c1, f0, f16, e1, h1, c2, c3, c4, c5, q1]
              rw [N_lp]
              refine ⟨_, ?_, _, sub_refl _, i + 1, rfl, ?_, ?_, ?_, ?_, by simp (maxDischargeDepth := 9) only [↓gB, gV, gT, reduceIte, reduceCtorEq, Nat.reduceEqDiff, Nat.reduceAdd, Nat.reduceSub, Nat.reduceLeDiff, Nat.reduceLT, Int.reduceEq, Nat.reduceMul, c0, c00, f18, f17, c1, f0, f16, e1, h1, c2, c3, c4, c5, q1, nat_succ, and_self]⟩
              · omega
              · omega
              · omega
              · omega
              · omega
            rotate_right 1
            simp (maxDischargeDepth := 9) only [↓gB, gV, gT, reduceIte, reduceCtorEq, Nat.reduceEqDiff, Nat.reduceAdd, Nat.reduceSub, Nat.reduceLeDiff, Nat.reduceLT, Int.reduceEq, Nat.reduceMul, c0, c00, f18, f17, c1, f0, f16, e1, h1, c2, c3, c4, c5]
            have q1 : Go.IntKind.i64.wrap (↑i - 1) = ↑i - 1 := wrap_id (by omega)
            simp (maxDischargeDepth := 9) only [↓gB, gV, gT, reduceIte, reduceCtorEq, Nat.reduceEqDiff, Nat.reduceAdd, Nat.reduceSub, Nat.reduceLeDiff, Nat.reduceLT, Int.reduceEq, Nat.reduceMul, c0, c00, f18, f17, c1, f0, f16, e1, h1, c2, c3, c4, c5, q1]
            refine vguard_intro (by omega) ?_
            obtain ⟨x2, s2, m2, rfl, e2⟩ := hv.at' (i - 1) (by omega) 2 rfl
            simp (maxDischargeDepth := 9) only [↓gB, gV, gT, reduceIte, reduceCtorEq, Nat.reduceEqDiff, Nat.reduceAdd, Nat.reduceSub, Nat.reduceLeDiff, Nat.reduceLT, Int.reduceEq, Nat.reduceMul, c0, c00, f18, f17, c1, f0, f16, e1, h1, c2, c3, c4, c5, q1, e2]
            refine Xc_split _ _ _ _ _ (fun c6 => ?_) (fun c6 => ?_)
            rotate_left 1
            focus
              simp (maxDischargeDepth := 9) only [↓gB, gV, gT, reduceIte, reduceCtorEq, Nat.reduceEqDiff, Nat.reduceAdd, Nat.reduceSub, Nat.reduceLeDiff, Nat.reduceLT, Int.reduceEq, Nat.reduceMul, c0, c00, f18, f17, c1, f0, f16, e1, h1, c2, c3, c4, c5, q1, e2, c6]
              have q2 : Go.IntKind.i64.wrap (↑i + 1) = ↑i + 1 := wrap_id (by omega)
              simp (maxDischargeDepth := 9) only [↓gB, gV, gT, reduceIte, reduceCtorEq, Nat.reduceEqDiff, Nat.reduceAdd, Nat.reduceSub, Nat.reduceLeDiff, Nat.reduceLT, Int.reduceEq, Nat.reduceMul, c0, c00, f18, f17, c1, f0, f16, e1, h1, c2, c3, c4, c5, q1, e2, c6, q2]
              rw [N_lp]
              refine ⟨_, ?_, _, sub_refl _, i + 1, rfl, ?_, ?_, ?_, ?_, by simp (maxDischargeDepth := 9) only [↓gB, gV, gT, reduceIte, reduceCtorEq, Nat.reduceEqDiff, Nat.reduceAdd, Nat.reduceSub, Nat.reduceLeDiff, Nat.reduceLT, Int.reduceEq, Nat.reduceMul, c0, c00, f18, f17, c1, f0, f16, e1, h1, c2, c3, c4, c5, q1, e2, c6, q2, nat_succ, and_self]⟩
              · omega
              · omega
              · (exact chk_next h m1 (kn0b (by assumption) (by assumption) (by assumption) m2 (by assumption)); done)
              · exact RSl.put _ (by assumption) (by assumption)
              · (simp (maxDischargeDepth := 9) only [le_self, le_puts, le_put0, sub_self, sub_puts, sub_put0, hle, h1]; done)
            rotate_right 1
            simp (maxDischargeDepth := 9) only [↓gB, gV, gT, reduceIte, reduceCtorEq, Nat.reduceEqDiff, Nat.reduceAdd, Nat.reduceSub, Nat.reduceLeDiff, Nat.reduceLT, Int.reduceEq, Nat.reduceMul, c0, c00, f18, f17, c1, f0, f16, e1, h1, c2, c3, c4, c5, q1, e2, c6]
            refine Kup_val (by simp (maxDischargeDepth := 9) only [le_self, le_puts, le_put0, hle, h1]) ?_
            focus (rw [kEbad c0 c00 (chk_bad h m1 (kn7b (by assumption) (by assumption) (by assumption) m2 (by assumption)) (by decide)) (by decide)]; done)
          rotate_right 1
          simp (maxDischargeDepth := 9) only [↓gB, gV, gT, reduceIte, reduceCtorEq, Nat.reduceEqDiff, Nat.reduceAdd, Nat.reduceSub, Nat.reduceLeDiff, Nat.reduceLT, Int.reduceEq, Nat.reduceMul, c0, c00, f18, f17, c1, f0, f16, e1, h1, c2, c3, c4]
          by_cases c5 : ¬x1.At = 0
          rotate_left 1
          focus
            simp (maxDischargeDepth := 9) only [↓gB, gV, gT, reduceIte, reduceCtorEq, Nat.reduceEqDiff, Nat.reduceAdd, Nat.reduceSub, Nat.reduceLeDiff, Nat.reduceLT, Int.reduceEq, Nat.reduceMul, c0, c00, f18, f17, c1, f0, f16, e1, h1, c2, c3, c4, c5]
            by_cases c6 : (0 : Int) < 0
            rotate_left 1
            focus
              simp (maxDischargeDepth := 9) only [↓gB, gV, gT, reduceIte, reduceCtorEq, Nat.reduceEqDiff, Nat.reduceAdd, Nat.reduceSub, Nat.reduceLeDiff, Nat.reduceLT, Int.reduceEq, Nat.reduceMul, c0, c00, f18, f17, c1, f0, f16, e1, h1, c2, c3, c4, c5, c6]
              have q1 : Go.IntKind.i64.wrap (0 + 1) = 0 + 1 := wrap_id (by omega)
              simp (maxDischargeDepth := 9) only [↓gB, gV, gT, reduceIte, reduceCtorEq, Nat.reduceEqDiff, Nat.reduceAdd, Nat.reduceSub, Nat.reduceLeDiff, Nat.reduceLT, Int.reduceEq, Nat.reduceMul, c0, c00, f18, f17, c1, f0, f16, e1, h1, c2, c3, c4, c5, c6, q1]
              rw [N_lp]
              refine ⟨_, ?_, _, sub_refl _, i + 1, rfl, ?_, ?_, ?_, ?_, by simp (maxDischargeDepth := 9) only [↓gB, gV, gT, reduceIte, reduceCtorEq, Nat.reduceEqDiff, Nat.reduceAdd, Nat.reduceSub, Nat.reduceLeDiff, Nat.reduceLT, Int.reduceEq, Nat.reduceMul, c0, c00, f18, f17, c1, f0, f16, e1, h1, c2, c3, c4, c5, c6, q1, nat_succ, and_self]⟩
              · omega
              · omega
              · (exact chk_next h m1 (kn0a (by assumption) (by assumption) (by omega) (by omega)); done)
              · exact RSl.put _ (by assumption) (by assumption)
              · (simp (maxDischargeDepth := 9) only [le_self, le_puts, le_put0, sub_self, sub_puts, sub_put0, hle, h1]; done)
            rotate_right 1
            simp (maxDischargeDepth := 9) only [↓gB, gV, gT, reduceIte, reduceCtorEq, Nat.reduceEqDiff, Nat.reduceAdd, Nat.reduceSub, Nat.reduceLeDiff, Nat.reduceLT, Int.reduceEq, Nat.reduceMul, c0, c00, f18, f17, c1, f0, f16, e1, h1, c2, c3, c4, c5, c6]
            refine vguard_intro (by omega) ?_
            obtain ⟨x2, s2, m2, rfl, e2⟩ := hv.at' ((Go.IntKind.i64.wrap (0 - 1)).toNat) (by omega) 2 rfl
            simp (maxDischargeDepth := 9) only [↓gB, gV, gT, reduceIte, reduceCtorEq, Nat.reduceEqDiff, Nat.reduceAdd, Nat.reduceSub, Nat.reduceLeDiff, Nat.reduceLT, Int.reduceEq, Nat.reduceMul, c0, c00, f18, f17, c1, f0, f16, e1, h1, c2, c3, c4, c5, c6, e2]
            refine Xc_pos _ _ _ _ _ (by omega) ?_
            simp (maxDischargeDepth := 9) only [↓gB, gV, gT, reduceIte, reduceCtorEq, Nat.reduceEqDiff, Nat.reduceAdd, Nat.reduceSub, Nat.reduceLeDiff, Nat.reduceLT, Int.reduceEq, Nat.reduceMul, c0, c00, f18, f17, c1, f0, f16, e1, h1, c2, c3, c4, c5, c6, e2]
            exact Kup_val (by simp (maxDischargeDepth := 9) only [le_self, le_puts, le_put0, hle, h1]) (by simp [*]; omega)
          rotate_right 1
          simp (maxDischargeDepth := 9) only [↓gB, gV, gT, reduceIte, reduceCtorEq, Nat.reduceEqDiff, Nat.reduceAdd, Nat.reduceSub, Nat.reduceLeDiff, Nat.reduceLT, Int.reduceEq, Nat.reduceMul, c0, c00, f18, f17, c1, f0, f16, e1, h1, c2, c3, c4, c5]
          refine Kup_val (by simp (maxDischargeDepth := 9) only [le_self, le_puts, le_put0, hle, h1]) ?_
          focus (rw [kEbad c0 c00 (chk_bad h m1 (kn7a (by assumption) (by assumption) (by omega) (by assumption)) (by decide)) (by decide)]; done)
      · have hc := chk_end h c1
        simp (maxDischargeDepth := 9) only [↓gB, gV, gT, reduceIte, reduceCtorEq, Nat.reduceEqDiff, Nat.reduceAdd, Nat.reduceSub, Nat.reduceLeDiff, Nat.reduceLT, Int.reduceEq, Nat.reduceMul, c0, c00, f18, f0, f16, f17, c1]
        focus
          refine Xloop_intro _ _ _ _ _ (fun k f G' => ∃ (i : Nat), k = l.length - i ∧ (i ≤ l.length) ∧ (∀ (j : Nat) k, j < i → l[j]? = some k → k.Time - (afterK l j).Time ≤ (afterK l j).At - k.At) ∧ (RSl rKnot G' (.slice a l.length c) l) ∧ (G.le G') ∧ f 58 = V i ∧ f 0 = Go.Value.slice a l.length c ∧ f 56 = Go.Value.slice a l.length c ∧ f 57 = Go.Value.int Go.IntKind.i64 ↑l.length) _ ⟨0, rfl, ?_, ?_, ?_, ?_, by simp (maxDischargeDepth := 9) only [↓gB, gV, gT, reduceIte, reduceCtorEq, Nat.reduceEqDiff, Nat.reduceAdd, Nat.reduceSub, Nat.reduceLeDiff, Nat.reduceLT, Int.reduceEq, Nat.reduceMul, c0, c00, f18, f0, f16, f17, c1, and_self]⟩ ?_
          · omega
          · omega
          · assumption
          · assumption
          rintro k f G' ⟨i, rfl, hi, h, hv, hle, f58, f0, f56, f57⟩
        simp (maxDischargeDepth := 9) only [↓gB, gV, gT, reduceIte, reduceCtorEq, Nat.reduceEqDiff, Nat.reduceAdd, Nat.reduceSub, Nat.reduceLeDiff, Nat.reduceLT, Int.reduceEq, Nat.reduceMul, c0, c00, f18, f0, f16, f17, c1, f58, f0, f56, f57]
        refine Xc_split _ _ _ _ _ (fun c2 => ?_) (fun c2 => ?_)
        · have hab := after_b hc (i := i) (by omega)
          obtain ⟨x, hx⟩ : ∃ x, l[i]? = some x := ⟨_, List.getElem?_eq_getElem (by omega)⟩
          have hxb := kn_b hc hx
          simp (maxDischargeDepth := 9) only [↓gB, gV, gT, reduceIte, reduceCtorEq, Nat.reduceEqDiff, Nat.reduceAdd, Nat.reduceSub, Nat.reduceLeDiff, Nat.reduceLT, Int.reduceEq, Nat.reduceMul, c0, c00, f18, f0, f16, f17, c1, f58, f0, f56, f57, c2]
          obtain ⟨x1, a1, s1, m1, rfl, rfl, e1⟩ := hv.at (i) (by omega) 2 rfl
          simp (maxDischargeDepth := 9) only [↓gB, gV, gT, reduceIte, reduceCtorEq, Nat.reduceEqDiff, Nat.reduceAdd, Nat.reduceSub, Nat.reduceLeDiff, Nat.reduceLT, Int.reduceEq, Nat.reduceMul, c0, c00, f18, f17, c1, f58, f57, c2, f0, f16, f0, f56, e1]
          refine vguard_intro (by simp) ?_
          refine Yn2 fun r1 h1 => ?_
          simp (maxDischargeDepth := 9) only [↓gB, gV, gT, reduceIte, reduceCtorEq, Nat.reduceEqDiff, Nat.reduceAdd, Nat.reduceSub, Nat.reduceLeDiff, Nat.reduceLT, Int.reduceEq, Nat.reduceMul, c0, c00, f18, f17, c1, f58, f57, c2, f0, f16, f0, f56, e1, h1]
          refine Ycp (p48 (by exact RSl.put _ (by assumption) (by assumption)) (by omega) (by assumption)) ?_
          simp (maxDischargeDepth := 9) only [↓gB, gV, gT, reduceIte, reduceCtorEq, Nat.reduceEqDiff, Nat.reduceAdd, Nat.reduceSub, Nat.reduceLeDiff, Nat.reduceLT, Int.reduceEq, Nat.reduceMul, c0, c00, f18, f17, c1, f58, f57, c2, f0, f16, f0, f56, e1, h1]
          refine Yn2 fun r2 h2 => ?_
          have n2 := h2
          simp only [put_none_eq, ne_eq] at n2
          simp (maxDischargeDepth := 9) only [↓gB, gV, gT, reduceIte, reduceCtorEq, Nat.reduceEqDiff, Nat.reduceAdd, Nat.reduceSub, Nat.reduceLeDiff, Nat.reduceLT, Int.reduceEq, Nat.reduceMul, c0, c00, f18, f17, c1, f58, f57, c2, f0, f16, f0, f56, e1, h1, h2, n2]
          obtain rfl : x = x1 := by rw [hx] at m1; cases m1; rfl
          focus
            have q1 : Go.IntKind.i64.wrap ((Go.Proofs.YtjhfhacdjmokaaaGreatDoor.afterK l i).At - x.At) = (Go.Proofs.YtjhfhacdjmokaaaGreatDoor.afterK l i).At - x.At := wrap_id (by omega)
            simp (maxDischargeDepth := 9) only [↓gB, gV, gT, reduceIte, reduceCtorEq, Nat.reduceEqDiff, Nat.reduceAdd, Nat.reduceSub, Nat.reduceLeDiff, Nat.reduceLT, Int.reduceEq, Nat.reduceMul, c0, c00, f18, f17, c1, f58, f57, c2, f0, f16, f0, f56, h1, n2, e1, h2, q1]
            have q2 : Go.IntKind.i64.wrap (x.Time - (Go.Proofs.YtjhfhacdjmokaaaGreatDoor.afterK l i).Time) = x.Time - (Go.Proofs.YtjhfhacdjmokaaaGreatDoor.afterK l i).Time := wrap_id (by omega)
            simp (maxDischargeDepth := 9) only [↓gB, gV, gT, reduceIte, reduceCtorEq, Nat.reduceEqDiff, Nat.reduceAdd, Nat.reduceSub, Nat.reduceLeDiff, Nat.reduceLT, Int.reduceEq, Nat.reduceMul, c0, c00, f18, f17, c1, f58, f57, c2, f0, f16, f0, f56, h1, n2, e1, h2, q1, q2]
            refine Xc_split _ _ _ _ _ (fun c3 => ?_) (fun c3 => ?_)
            rotate_left 1
            focus
              simp (maxDischargeDepth := 9) only [↓gB, gV, gT, reduceIte, reduceCtorEq, Nat.reduceEqDiff, Nat.reduceAdd, Nat.reduceSub, Nat.reduceLeDiff, Nat.reduceLT, Int.reduceEq, Nat.reduceMul, c0, c00, f18, f17, c1, f58, f57, c2, f0, f16, f0, f56, h1, n2, e1, h2, q1, q2, c3]
              have q3 : Go.IntKind.i64.wrap (↑i + 1) = ↑i + 1 := wrap_id (by omega)
              simp (maxDischargeDepth := 9) only [↓gB, gV, gT, reduceIte, reduceCtorEq, Nat.reduceEqDiff, Nat.reduceAdd, Nat.reduceSub, Nat.reduceLeDiff, Nat.reduceLT, Int.reduceEq, Nat.reduceMul, c0, c00, f18, f17, c1, f58, f57, c2, f0, f16, f0, f56, h1, n2, e1, h2, q1, q2, c3, q3]
              rw [N_lp]
              refine ⟨_, ?_, _, sub_refl _, i + 1, rfl, ?_, ?_, ?_, ?_, by simp (maxDischargeDepth := 9) only [↓gB, gV, gT, reduceIte, reduceCtorEq, Nat.reduceEqDiff, Nat.reduceAdd, Nat.reduceSub, Nat.reduceLeDiff, Nat.reduceLT, Int.reduceEq, Nat.reduceMul, c0, c00, f18, f17, c1, f58, f57, c2, f0, f16, f0, f56, h1, n2, e1, h2, q1, q2, c3, q3, nat_succ, and_self]⟩
              · omega
              · omega
              · (intro j k hj hk; by_cases e : j = i; (subst e; rw [hx] at hk; cases hk; omega); exact h j k (by omega) hk; done)
              · exact RSl.put _ (by assumption) (RSl.put _ (by assumption) (by assumption))
              · (simp (maxDischargeDepth := 9) only [le_self, le_puts, le_put0, sub_self, sub_puts, sub_put0, hle, hle, h1, n2, h2]; done)
            rotate_right 1
            simp (maxDischargeDepth := 9) only [↓gB, gV, gT, reduceIte, reduceCtorEq, Nat.reduceEqDiff, Nat.reduceAdd, Nat.reduceSub, Nat.reduceLeDiff, Nat.reduceLT, Int.reduceEq, Nat.reduceMul, c0, c00, f18, f17, c1, f58, f57, c2, f0, f16, f0, f56, h1, n2, e1, h2, q1, q2, c3]
            refine Kup_val (by simp (maxDischargeDepth := 9) only [le_self, le_puts, le_put0, hle, hle, h1, n2, h2]) ?_
            focus (rw [kE16 c0 c00 hc (rules_no hx (by omega))]; done)
        · simp (maxDischargeDepth := 9) only [↓gB, gV, gT, reduceIte, reduceCtorEq, Nat.reduceEqDiff, Nat.reduceAdd, Nat.reduceSub, Nat.reduceLeDiff, Nat.reduceLT, Int.reduceEq, Nat.reduceMul, c0, c00, f18, f0, f16, f17, c1, f58, f0, f56, f57, c2]
          refine Kup_val (by simp (maxDischargeDepth := 9) only [le_self, le_puts, le_put0, hle, hle]) ?_
          focus (rw [kE0 c0 c00 hc (rules_yes fun j k hj hk => h j k (by omega) hk)]; done)
theorem p30 {G0 : GH} {v : Value} {l : List SKnot} (hv : RSl rKnot G0 v l) (hn : (l.length : Int) ≤ 4611686018427387903) : Pure Tryz.prog G0 30 [v] (V (knotsE l)) := by
  intro G hG; replace hv := hv.le hG
  clear hG G0
  refine enter Tryz.func30 90 #[.tmp 2] rfl Tryz.ntmps30 rfl (by decide +kernel) rfl ?_
  obtain ⟨a, c, rfl⟩ := hv.val
  simp (maxDischargeDepth := 9) only [↓gB, gV, gT, reduceIte, reduceCtorEq, Nat.reduceEqDiff, Nat.reduceAdd, Nat.reduceSub, Nat.reduceLeDiff, Nat.reduceLT, Int.reduceEq, Nat.reduceMul]
  refine Xc_split _ _ _ _ _ (fun c0 => ?_) (fun c0 => ?_)
  · simp (maxDischargeDepth := 9) only [↓gB, gV, gT, reduceIte, reduceCtorEq, Nat.reduceEqDiff, Nat.reduceAdd, Nat.reduceSub, Nat.reduceLeDiff, Nat.reduceLT, Int.reduceEq, Nat.reduceMul, c0]
    refine Kup_val (le_refl _) ?_
    focus (rw [kE8 c0]; done)
  · simp (maxDischargeDepth := 9) only [↓gB, gV, gT, reduceIte, reduceCtorEq, Nat.reduceEqDiff, Nat.reduceAdd, Nat.reduceSub, Nat.reduceLeDiff, Nat.reduceLT, Int.reduceEq, Nat.reduceMul, c0]
    refine Xc_split _ _ _ _ _ (fun c00 => ?_) (fun c00 => ?_)
    · simp (maxDischargeDepth := 9) only [↓gB, gV, gT, reduceIte, reduceCtorEq, Nat.reduceEqDiff, Nat.reduceAdd, Nat.reduceSub, Nat.reduceLeDiff, Nat.reduceLT, Int.reduceEq, Nat.reduceMul, c0, c00]
      refine Kup_val (le_refl _) ?_
      focus (rw [kE2 c0 c00]; done)
    · simp (maxDischargeDepth := 9) only [↓gB, gV, gT, reduceIte, reduceCtorEq, Nat.reduceEqDiff, Nat.reduceAdd, Nat.reduceSub, Nat.reduceLeDiff, Nat.reduceLT, Int.reduceEq, Nat.reduceMul, c0, c00]
      focus
        refine Xloop_intro _ _ _ _ _ (fun k f G' => ∃ (i : Nat), k = l.length - i ∧ (i ≤ l.length) ∧ (chk knotBad none l = chk knotBad (prevOf l i) (l.drop i)) ∧ (RSl rKnot G' (.slice a l.length c) l) ∧ (G.le G') ∧ f 18 = V i ∧ f 0 = Go.Value.slice a l.length c ∧ f 16 = Go.Value.slice a l.length c ∧ f 17 = Go.Value.int Go.IntKind.i64 ↑l.length) _ ⟨0, rfl, ?_, ?_, ?_, ?_, by simp (maxDischargeDepth := 9) only [↓gB, gV, gT, reduceIte, reduceCtorEq, Nat.reduceEqDiff, Nat.reduceAdd, Nat.reduceSub, Nat.reduceLeDiff, Nat.reduceLT, Int.reduceEq, Nat.reduceMul, c0, c00, and_self]⟩ ?_
        · omega
        · rfl
        · assumption
        · exact le_refl _
        rintro k f G' ⟨i, rfl, hi, h, hv, hle, f18, f0, f16, f17⟩
      simp (maxDischargeDepth := 9) only [↓gB, gV, gT, reduceIte, reduceCtorEq, Nat.reduceEqDiff, Nat.reduceAdd, Nat.reduceSub, Nat.reduceLeDiff, Nat.reduceLT, Int.reduceEq, Nat.reduceMul, c0, c00, f18, f0, f16, f17]
      refine Xc_split _ _ _ _ _ (fun c1 => ?_) (fun c1 => ?_)
      · focus
          simp (maxDischargeDepth := 9) only [↓gB, gV, gT, reduceIte, reduceCtorEq, Nat.reduceEqDiff, Nat.reduceAdd, Nat.reduceSub, Nat.reduceLeDiff, Nat.reduceLT, Int.reduceEq, Nat.reduceMul, c0, c00, f18, f0, f16, f17, c1]
          obtain ⟨x1, a1, s1, m1, rfl, rfl, e1⟩ := hv.at (i) (by omega) 2 rfl
          simp (maxDischargeDepth := 9) only [↓gB, gV, gT, reduceIte, reduceCtorEq, Nat.reduceEqDiff, Nat.reduceAdd, Nat.reduceSub, Nat.reduceLeDiff, Nat.reduceLT, Int.reduceEq, Nat.reduceMul, c0, c00, f18, f17, c1, f0, f16, e1]
          refine vguard_intro (by simp) ?_
          refine Yn2 fun r1 h1 => ?_
          simp (maxDischargeDepth := 9) only [↓gB, gV, gT, reduceIte, reduceCtorEq, Nat.reduceEqDiff, Nat.reduceAdd, Nat.reduceSub, Nat.reduceLeDiff, Nat.reduceLT, Int.reduceEq, Nat.reduceMul, c0, c00, f18, f17, c1, f0, f16, e1, h1]
          refine Ycp (p28) ?_
          simp (maxDischargeDepth := 9) only [↓gB, gV, gT, reduceIte, reduceCtorEq, Nat.reduceEqDiff, Nat.reduceAdd, Nat.reduceSub, Nat.reduceLeDiff, Nat.reduceLT, Int.reduceEq, Nat.reduceMul, c0, c00, f18, f17, c1, f0, f16, e1, h1]
          rcases bool_tf (Go.Proofs.YtjhfhacdjmokaaaGreatDoor.within x1.At 0 86399999) with c2 | c2
          rotate_left 1
          focus
            simp (maxDischargeDepth := 9) only [↓gB, gV, gT, reduceIte, reduceCtorEq, Nat.reduceEqDiff, Nat.reduceAdd, Nat.reduceSub, Nat.reduceLeDiff, Nat.reduceLT, Int.reduceEq, Nat.reduceMul, c0, c00, f18, f17, c1, f0, f16, e1, h1, c2]
            refine Kup_val (by simp (maxDischargeDepth := 9) only [le_self, le_puts, le_put0, hle, h1]) ?_
            focus (rw [kEbad c0 c00 (chk_bad h m1 (kn1a (by assumption)) (by decide)) (by decide)]; done)
          rotate_right 1
          simp (maxDischargeDepth := 9) only [↓gB, gV, gT, reduceIte, reduceCtorEq, Nat.reduceEqDiff, Nat.reduceAdd, Nat.reduceSub, Nat.reduceLeDiff, Nat.reduceLT, Int.reduceEq, Nat.reduceMul, c0, c00, f18, f17, c1, f0, f16, e1, h1, c2]
          refine Ycp (p28) ?_
          simp (maxDischargeDepth := 9) only [↓gB, gV, gT, reduceIte, reduceCtorEq, Nat.reduceEqDiff, Nat.reduceAdd, Nat.reduceSub, Nat.reduceLeDiff, Nat.reduceLT, Int.reduceEq, Nat.reduceMul, c0, c00, f18, f17, c1, f0, f16, e1, h1, c2]
          rcases bool_tf (Go.Proofs.YtjhfhacdjmokaaaGreatDoor.within x1.Time 1 3600000) with c3 | c3
          rotate_left 1
          focus
            simp (maxDischargeDepth := 9) only [↓gB, gV, gT, reduceIte, reduceCtorEq, Nat.reduceEqDiff, Nat.reduceAdd, Nat.reduceSub, Nat.reduceLeDiff, Nat.reduceLT, Int.reduceEq, Nat.reduceMul, c0, c00, f18, f17, c1, f0, f16, e1, h1, c2, c3]
            refine Kup_val (by simp (maxDischargeDepth := 9) only [le_self, le_puts, le_put0, hle, h1]) ?_
            focus (rw [kEbad c0 c00 (chk_bad h m1 (kn1b (by assumption) (by assumption)) (by decide)) (by decide)]; done)
          rotate_right 1
          simp (maxDischargeDepth := 9) only [↓gB, gV, gT, reduceIte, reduceCtorEq, Nat.reduceEqDiff, Nat.reduceAdd, Nat.reduceSub, Nat.reduceLeDiff, Nat.reduceLT, Int.reduceEq, Nat.reduceMul, c0, c00, f18, f17, c1, f0, f16, e1, h1, c2, c3]
          by_cases c4 : (↑i : Int) = 0
          rotate_left 1
          focus
            simp (maxDischargeDepth := 9) only [↓gB, gV, gT, reduceIte, reduceCtorEq, Nat.reduceEqDiff, Nat.reduceAdd, Nat.reduceSub, Nat.reduceLeDiff, Nat.reduceLT, Int.reduceEq, Nat.reduceMul, c0, c00, f18, f17, c1, f0, f16, e1, h1, c2, c3, c4]
            refine Xdraw_intro [0, 1, 2, 3, 4, 5, 6, 7, 8, 9, 10, 11, 12, 13] mixed (by kernel_rfl) (by decide +kernel) ?_
            simp (maxDischargeDepth := 9) only [↓gB, gV, gT, reduceIte, reduceCtorEq, Nat.reduceEqDiff, Nat.reduceAdd, Nat.reduceSub, Nat.reduceLeDiff, Nat.reduceLT, Int.reduceEq, Nat.reduceMul, c0, c00, f18, f17, c1, f0, f16, e1, h1, c2, c3, c4]
            by_cases c5 : (0 : Int) < ↑i
            rotate_left 1
            focus
              simp (maxDischargeDepth := 9) only [↓gB, gV, gT, reduceIte, reduceCtorEq, Nat.reduceEqDiff, Nat.reduceAdd, Nat.reduceSub, Nat.reduceLeDiff, Nat.reduceLT, Int.reduceEq, Nat.reduceMul, c0, c00, f18, f17, c1, f0, f16, e1, h1, c2, c3, c4, c5]
              have q1 : Go.IntKind.i64.wrap (↑i + 1) = ↑i + 1 := wrap_id (by omega)
              simp (maxDischargeDepth := 9) only [↓gB, gV, gT, reduceIte, reduceCtorEq, Nat.reduceEqDiff, Nat.reduceAdd, Nat.reduceSub, Nat.reduceLeDiff, Nat.reduceLT, Int.reduceEq, Nat.reduceMul, c0, c00, f18, f17, c1, f0, f16, e1, h1, c2, c3, c4, c5, q1]
              rw [N_lp]
              refine ⟨_, ?_, _, sub_refl _, i + 1, rfl, ?_, ?_, ?_, ?_, by simp (maxDischargeDepth := 9) only [↓gB, gV, gT, reduceIte, reduceCtorEq, Nat.reduceEqDiff, Nat.reduceAdd, Nat.reduceSub, Nat.reduceLeDiff, Nat.reduceLT, Int.reduceEq, Nat.reduceMul, c0, c00, f18, f17, c1, f0, f16, e1, h1, c2, c3, c4, c5, q1, nat_succ, and_self]⟩
              · omega
              · omega
              · omega
              · omega
              · omega
            rotate_right 1
            simp (maxDischargeDepth := 9) only [↓gB, gV, gT, reduceIte, reduceCtorEq, Nat.reduceEqDiff, Nat.reduceAdd, Nat.reduceSub, Nat.reduceLeDiff, Nat.reduceLT, Int.reduceEq, Nat.reduceMul, c0, c00, f18, f17, c1, f0, f16, e1, h1, c2, c3, c4, c5]
            have q1 : Go.IntKind.i64.wrap (↑i - 1) = ↑i - 1 := wrap_id (by omega)
            simp (maxDischargeDepth := 9) only [↓gB, gV, gT, reduceIte, reduceCtorEq, Nat.reduceEqDiff, Nat.reduceAdd, Nat.reduceSub, Nat.reduceLeDiff, Nat.reduceLT, Int.reduceEq, Nat.reduceMul, c0, c00, f18, f17, c1, f0, f16, e1, h1, c2, c3, c4, c5, q1]
            refine vguard_intro (by omega) ?_
            obtain ⟨x2, s2, m2, rfl, e2⟩ := hv.at' (i - 1) (by omega) 2 rfl
            simp (maxDischargeDepth := 9) only [↓gB, gV, gT, reduceIte, reduceCtorEq, Nat.reduceEqDiff, Nat.reduceAdd, Nat.reduceSub, Nat.reduceLeDiff, Nat.reduceLT, Int.reduceEq, Nat.reduceMul, c0, c00, f18, f17, c1, f0, f16, e1, h1, c2, c3, c4, c5, q1, e2]
            refine Xc_split _ _ _ _ _ (fun c6 => ?_) (fun c6 => ?_)
            rotate_left 1
            focus
              simp (maxDischargeDepth := 9) only [↓gB, gV, gT, reduceIte, reduceCtorEq, Nat.reduceEqDiff, Nat.reduceAdd, Nat.reduceSub, Nat.reduceLeDiff, Nat.reduceLT, Int.reduceEq, Nat.reduceMul, c0, c00, f18, f17, c1, f0, f16, e1, h1, c2, c3, c4, c5, q1, e2, c6]
              have q2 : Go.IntKind.i64.wrap (↑i + 1) = ↑i + 1 := wrap_id (by omega)
              simp (maxDischargeDepth := 9) only [↓gB, gV, gT, reduceIte, reduceCtorEq, Nat.reduceEqDiff, Nat.reduceAdd, Nat.reduceSub, Nat.reduceLeDiff, Nat.reduceLT, Int.reduceEq, Nat.reduceMul, c0, c00, f18, f17, c1, f0, f16, e1, h1, c2, c3, c4, c5, q1, e2, c6, q2]
              rw [N_lp]
              refine ⟨_, ?_, _, sub_refl _, i + 1, rfl, ?_, ?_, ?_, ?_, by simp (maxDischargeDepth := 9) only [↓gB, gV, gT, reduceIte, reduceCtorEq, Nat.reduceEqDiff, Nat.reduceAdd, Nat.reduceSub, Nat.reduceLeDiff, Nat.reduceLT, Int.reduceEq, Nat.reduceMul, c0, c00, f18, f17, c1, f0, f16, e1, h1, c2, c3, c4, c5, q1, e2, c6, q2, nat_succ, and_self]⟩
              · omega
              · omega
              · (exact chk_next h m1 (kn0b (by assumption) (by assumption) (by assumption) m2 (by assumption)); done)
              · exact RSl.put _ (by assumption) (by assumption)
              · (simp (maxDischargeDepth := 9) only [le_self, le_puts, le_put0, sub_self, sub_puts, sub_put0, hle, h1]; done)
            rotate_right 1
            simp (maxDischargeDepth := 9) only [↓gB, gV, gT, reduceIte, reduceCtorEq, Nat.reduceEqDiff, Nat.reduceAdd, Nat.reduceSub, Nat.reduceLeDiff, Nat.reduceLT, Int.reduceEq, Nat.reduceMul, c0, c00, f18, f17, c1, f0, f16, e1, h1, c2, c3, c4, c5, q1, e2, c6]
            refine Kup_val (by simp (maxDischargeDepth := 9) only [le_self, le_puts, le_put0, hle, h1]) ?_
            focus (rw [kEbad c0 c00 (chk_bad h m1 (kn7b (by assumption) (by assumption) (by assumption) m2 (by assumption)) (by decide)) (by decide)]; done)
          rotate_right 1
          simp (maxDischargeDepth := 9) only [↓gB, gV, gT, reduceIte, reduceCtorEq, Nat.reduceEqDiff, Nat.reduceAdd, Nat.reduceSub, Nat.reduceLeDiff, Nat.reduceLT, Int.reduceEq, Nat.reduceMul, c0, c00, f18, f17, c1, f0, f16, e1, h1, c2, c3, c4]
          refine Xc_split _ _ _ _ _ (fun c5 => ?_) (fun c5 => ?_)
          rotate_left 1
          focus
            simp (maxDischargeDepth := 9) only [↓gB, gV, gT, reduceIte, reduceCtorEq, Nat.reduceEqDiff, Nat.reduceAdd, Nat.reduceSub, Nat.reduceLeDiff, Nat.reduceLT, Int.reduceEq, Nat.reduceMul, c0, c00, f18, f17, c1, f0, f16, e1, h1, c2, c3, c4, c5]
            refine Xdraw_intro [0, 1, 2, 3, 4, 5, 6, 7, 8, 9, 10, 11, 12, 13] mixed (by kernel_rfl) (by decide +kernel) ?_
            simp (maxDischargeDepth := 9) only [↓gB, gV, gT, reduceIte, reduceCtorEq, Nat.reduceEqDiff, Nat.reduceAdd, Nat.reduceSub, Nat.reduceLeDiff, Nat.reduceLT, Int.reduceEq, Nat.reduceMul, c0, c00, f18, f17, c1, f0, f16, e1, h1, c2, c3, c4, c5]
            by_cases c6 : (0 : Int) < 0
            rotate_left 1
            focus
              simp (maxDischargeDepth := 9) only [↓gB, gV, gT, reduceIte, reduceCtorEq, Nat.reduceEqDiff, Nat.reduceAdd, Nat.reduceSub, Nat.reduceLeDiff, Nat.reduceLT, Int.reduceEq, Nat.reduceMul, c0, c00, f18, f17, c1, f0, f16, e1, h1, c2, c3, c4, c5, c6]
              have q1 : Go.IntKind.i64.wrap (0 + 1) = 0 + 1 := wrap_id (by omega)
              simp (maxDischargeDepth := 9) only [↓gB, gV, gT, reduceIte, reduceCtorEq, Nat.reduceEqDiff, Nat.reduceAdd, Nat.reduceSub, Nat.reduceLeDiff, Nat.reduceLT, Int.reduceEq, Nat.reduceMul, c0, c00, f18, f17, c1, f0, f16, e1, h1, c2, c3, c4, c5, c6, q1]
              rw [N_lp]
              refine ⟨_, ?_, _, sub_refl _, i + 1, rfl, ?_, ?_, ?_, ?_, by simp (maxDischargeDepth := 9) only [↓gB, gV, gT, reduceIte, reduceCtorEq, Nat.reduceEqDiff, Nat.reduceAdd, Nat.reduceSub, Nat.reduceLeDiff, Nat.reduceLT, Int.reduceEq, Nat.reduceMul, c0, c00, f18, f17, c1, f0, f16, e1, h1, c2, c3, c4, c5, c6, q1, nat_succ, and_self]⟩
              · omega
              · omega
              · (exact chk_next h m1 (kn0a (by assumption) (by assumption) (by omega) (by omega)); done)
              · exact RSl.put _ (by assumption) (by assumption)
              · (simp (maxDischargeDepth := 9) only [le_self, le_puts, le_put0, sub_self, sub_puts, sub_put0, hle, h1]; done)
            rotate_right 1
            simp (maxDischargeDepth := 9) only [↓gB, gV, gT, reduceIte, reduceCtorEq, Nat.reduceEqDiff, Nat.reduceAdd, Nat.reduceSub, Nat.reduceLeDiff, Nat.reduceLT, Int.reduceEq, Nat.reduceMul, c0, c00, f18, f17, c1, f0, f16, e1, h1, c2, c3, c4, c5, c6]
            refine vguard_intro (by omega) ?_
            obtain ⟨x2, s2, m2, rfl, e2⟩ := hv.at' ((Go.IntKind.i64.wrap (0 - 1)).toNat) (by omega) 2 rfl
            simp (maxDischargeDepth := 9) only [↓gB, gV, gT, reduceIte, reduceCtorEq, Nat.reduceEqDiff, Nat.reduceAdd, Nat.reduceSub, Nat.reduceLeDiff, Nat.reduceLT, Int.reduceEq, Nat.reduceMul, c0, c00, f18, f17, c1, f0, f16, e1, h1, c2, c3, c4, c5, c6, e2]
            refine Xc_pos _ _ _ _ _ (by omega) ?_
            simp (maxDischargeDepth := 9) only [↓gB, gV, gT, reduceIte, reduceCtorEq, Nat.reduceEqDiff, Nat.reduceAdd, Nat.reduceSub, Nat.reduceLeDiff, Nat.reduceLT, Int.reduceEq, Nat.reduceMul, c0, c00, f18, f17, c1, f0, f16, e1, h1, c2, c3, c4, c5, c6, e2]
            exact Kup_val (by simp (maxDischargeDepth := 9) only [le_self, le_puts, le_put0, hle, h1]) (by simp [*]; omega)
          rotate_right 1
          simp (maxDischargeDepth := 9) only [↓gB, gV, gT, reduceIte, reduceCtorEq, Nat.reduceEqDiff, Nat.reduceAdd, Nat.reduceSub, Nat.reduceLeDiff, Nat.reduceLT, Int.reduceEq, Nat.reduceMul, c0, c00, f18, f17, c1, f0, f16, e1, h1, c2, c3, c4, c5]
          refine Kup_val (by simp (maxDischargeDepth := 9) only [le_self, le_puts, le_put0, hle, h1]) ?_
          focus (rw [kEbad c0 c00 (chk_bad h m1 (kn7a (by assumption) (by assumption) (by omega) (by assumption)) (by decide)) (by decide)]; done)
      · have hc := chk_end h c1
        simp (maxDischargeDepth := 9) only [↓gB, gV, gT, reduceIte, reduceCtorEq, Nat.reduceEqDiff, Nat.reduceAdd, Nat.reduceSub, Nat.reduceLeDiff, Nat.reduceLT, Int.reduceEq, Nat.reduceMul, c0, c00, f18, f0, f16, f17, c1]
        focus
          refine Xloop_intro _ _ _ _ _ (fun k f G' => ∃ (i : Nat), k = l.length - i ∧ (i ≤ l.length) ∧ (∀ (j : Nat) k, j < i → l[j]? = some k → k.Time - (afterK l j).Time ≤ (afterK l j).At - k.At) ∧ (RSl rKnot G' (.slice a l.length c) l) ∧ (G.le G') ∧ f 58 = V i ∧ f 0 = Go.Value.slice a l.length c ∧ f 56 = Go.Value.slice a l.length c ∧ f 57 = Go.Value.int Go.IntKind.i64 ↑l.length) _ ⟨0, rfl, ?_, ?_, ?_, ?_, by simp (maxDischargeDepth := 9) only [↓gB, gV, gT, reduceIte, reduceCtorEq, Nat.reduceEqDiff, Nat.reduceAdd, Nat.reduceSub, Nat.reduceLeDiff, Nat.reduceLT, Int.reduceEq, Nat.reduceMul, c0, c00, f18, f0, f16, f17, c1, and_self]⟩ ?_
          · omega
          · omega
          · assumption
          · assumption
          rintro k f G' ⟨i, rfl, hi, h, hv, hle, f58, f0, f56, f57⟩
        simp (maxDischargeDepth := 9) only [↓gB, gV, gT, reduceIte, reduceCtorEq, Nat.reduceEqDiff, Nat.reduceAdd, Nat.reduceSub, Nat.reduceLeDiff, Nat.reduceLT, Int.reduceEq, Nat.reduceMul, c0, c00, f18, f0, f16, f17, c1, f58, f0, f56, f57]
        refine Xc_split _ _ _ _ _ (fun c2 => ?_) (fun c2 => ?_)
        · have hab := after_b hc (i := i) (by omega)
          obtain ⟨x, hx⟩ : ∃ x, l[i]? = some x := ⟨_, List.getElem?_eq_getElem (by omega)⟩
          have hxb := kn_b hc hx
          simp (maxDischargeDepth := 9) only [↓gB, gV, gT, reduceIte, reduceCtorEq, Nat.reduceEqDiff, Nat.reduceAdd, Nat.reduceSub, Nat.reduceLeDiff, Nat.reduceLT, Int.reduceEq, Nat.reduceMul, c0, c00, f18, f0, f16, f17, c1, f58, f0, f56, f57, c2]
          obtain ⟨x1, a1, s1, m1, rfl, rfl, e1⟩ := hv.at (i) (by omega) 2 rfl
          simp (maxDischargeDepth := 9) only [↓gB, gV, gT, reduceIte, reduceCtorEq, Nat.reduceEqDiff, Nat.reduceAdd, Nat.reduceSub, Nat.reduceLeDiff, Nat.reduceLT, Int.reduceEq, Nat.reduceMul, c0, c00, f18, f17, c1, f58, f57, c2, f0, f16, f0, f56, e1]
          refine vguard_intro (by simp) ?_
          refine Yn2 fun r1 h1 => ?_
          simp (maxDischargeDepth := 9) only [↓gB, gV, gT, reduceIte, reduceCtorEq, Nat.reduceEqDiff, Nat.reduceAdd, Nat.reduceSub, Nat.reduceLeDiff, Nat.reduceLT, Int.reduceEq, Nat.reduceMul, c0, c00, f18, f17, c1, f58, f57, c2, f0, f16, f0, f56, e1, h1]
          refine vguard_intro (by omega) ?_
          obtain ⟨x2, s2, m2, rfl, e2⟩ := hv.at' (Int.toNat 0) (by omega) 2 rfl
          simp (maxDischargeDepth := 9) only [↓gB, gV, gT, reduceIte, reduceCtorEq, Nat.reduceEqDiff, Nat.reduceAdd, Nat.reduceSub, Nat.reduceLeDiff, Nat.reduceLT, Int.reduceEq, Nat.reduceMul, c0, c00, f18, f17, c1, f58, f57, c2, f0, f16, f0, f56, e1, h1, e2]
          refine Yn2 fun r2 h2 => ?_
          have n2 := h2
          simp only [put_none_eq, ne_eq] at n2
          simp (maxDischargeDepth := 9) only [↓gB, gV, gT, reduceIte, reduceCtorEq, Nat.reduceEqDiff, Nat.reduceAdd, Nat.reduceSub, Nat.reduceLeDiff, Nat.reduceLT, Int.reduceEq, Nat.reduceMul, c0, c00, f18, f17, c1, f58, f57, c2, f0, f16, f0, f56, e1, h1, e2, h2, n2]
          have q1 : Go.IntKind.i64.wrap (↑i + 1) = ↑i + 1 := wrap_id (by omega)
          simp (maxDischargeDepth := 9) only [↓gB, gV, gT, reduceIte, reduceCtorEq, Nat.reduceEqDiff, Nat.reduceAdd, Nat.reduceSub, Nat.reduceLeDiff, Nat.reduceLT, Int.reduceEq, Nat.reduceMul, c0, c00, f18, f17, c1, f58, f57, c2, f0, f16, f0, f56, e1, h1, e2, h2, n2, q1]
          obtain rfl : x = x1 := by rw [hx] at m1; cases m1; rfl
          have hx2 := kn_b hc (i := 0) m2
          by_cases c3 : (i : Int) + 1 < l.length
          · obtain ⟨y, hy⟩ : ∃ y, l[i + 1]? = some y := ⟨_, List.getElem?_eq_getElem (by omega)⟩
            have hyb := kn_b hc hy
            have hae := after_s hy
            simp (maxDischargeDepth := 9) only [↓gB, gV, gT, reduceIte, reduceCtorEq, Nat.reduceEqDiff, Nat.reduceAdd, Nat.reduceSub, Nat.reduceLeDiff, Nat.reduceLT, Int.reduceEq, Nat.reduceMul, c0, c00, f18, f17, c1, f58, f57, c2, f0, f16, f0, f56, h1, e2, n2, q1, e1, h2, c3]
            refine vguard_intro (by simp; omega) ?_
            obtain ⟨x3, s3, m3, rfl, e3⟩ := hv.at' (i + 1) (by omega) 2 rfl
            simp (maxDischargeDepth := 9) only [↓gB, gV, gT, reduceIte, reduceCtorEq, Nat.reduceEqDiff, Nat.reduceAdd, Nat.reduceSub, Nat.reduceLeDiff, Nat.reduceLT, Int.reduceEq, Nat.reduceMul, c0, c00, f18, f17, c1, f58, f57, c2, f0, f16, f0, f56, h1, e2, n2, q1, e1, h2, c3, e3]
            obtain rfl : y = x3 := by rw [hy] at m3; cases m3; rfl
            focus
              have q2 : Go.IntKind.i64.wrap (y.At - x.At) = y.At - x.At := wrap_id (by omega)
              simp (maxDischargeDepth := 9) only [↓gB, gV, gT, reduceIte, reduceCtorEq, Nat.reduceEqDiff, Nat.reduceAdd, Nat.reduceSub, Nat.reduceLeDiff, Nat.reduceLT, Int.reduceEq, Nat.reduceMul, c0, c00, f18, f17, c1, f58, f57, c2, f0, f16, f0, f56, h1, e2, n2, q1, e1, h2, c3, e3, q2]
              have q3 : Go.IntKind.i64.wrap (x.Time - y.Time) = x.Time - y.Time := wrap_id (by omega)
              simp (maxDischargeDepth := 9) only [↓gB, gV, gT, reduceIte, reduceCtorEq, Nat.reduceEqDiff, Nat.reduceAdd, Nat.reduceSub, Nat.reduceLeDiff, Nat.reduceLT, Int.reduceEq, Nat.reduceMul, c0, c00, f18, f17, c1, f58, f57, c2, f0, f16, f0, f56, h1, e2, n2, q1, e1, h2, c3, e3, q2, q3]
              refine Xc_split _ _ _ _ _ (fun c4 => ?_) (fun c4 => ?_)
              rotate_left 1
              focus
                simp (maxDischargeDepth := 9) only [↓gB, gV, gT, reduceIte, reduceCtorEq, Nat.reduceEqDiff, Nat.reduceAdd, Nat.reduceSub, Nat.reduceLeDiff, Nat.reduceLT, Int.reduceEq, Nat.reduceMul, c0, c00, f18, f17, c1, f58, f57, c2, f0, f16, f0, f56, h1, e2, n2, q1, e1, h2, c3, e3, q2, q3, c4]
                rw [N_lp]
                refine ⟨_, ?_, _, sub_refl _, i + 1, rfl, ?_, ?_, ?_, ?_, by simp (maxDischargeDepth := 9) only [↓gB, gV, gT, reduceIte, reduceCtorEq, Nat.reduceEqDiff, Nat.reduceAdd, Nat.reduceSub, Nat.reduceLeDiff, Nat.reduceLT, Int.reduceEq, Nat.reduceMul, c0, c00, f18, f17, c1, f58, f57, c2, f0, f16, f0, f56, h1, e2, n2, q1, e1, h2, c3, e3, q2, q3, c4, nat_succ, and_self]⟩
                · omega
                · omega
                · (intro j k hj hk; by_cases e : j = i; (subst e; rw [hx] at hk; cases hk; rw [hae]; omega); exact h j k (by omega) hk; done)
                · exact RSl.put _ (by assumption) (RSl.put _ (by assumption) (by assumption))
                · (simp (maxDischargeDepth := 9) only [le_self, le_puts, le_put0, sub_self, sub_puts, sub_put0, hle, hle, h1, n2, h2]; done)
              rotate_right 1
              simp (maxDischargeDepth := 9) only [↓gB, gV, gT, reduceIte, reduceCtorEq, Nat.reduceEqDiff, Nat.reduceAdd, Nat.reduceSub, Nat.reduceLeDiff, Nat.reduceLT, Int.reduceEq, Nat.reduceMul, c0, c00, f18, f17, c1, f58, f57, c2, f0, f16, f0, f56, h1, e2, n2, q1, e1, h2, c3, e3, q2, q3, c4]
              refine Kup_val (by simp (maxDischargeDepth := 9) only [le_self, le_puts, le_put0, hle, hle, h1, n2, h2]) ?_
              focus (rw [kE16 c0 c00 hc (rules_no hx (by rw [hae]; omega))]; done)
          · have hae := after_e c3 m2
            focus
              simp (maxDischargeDepth := 9) only [↓gB, gV, gT, reduceIte, reduceCtorEq, Nat.reduceEqDiff, Nat.reduceAdd, Nat.reduceSub, Nat.reduceLeDiff, Nat.reduceLT, Int.reduceEq, Nat.reduceMul, c0, c00, f18, f17, c1, f58, f57, c2, f0, f16, f0, f56, h1, e2, n2, q1, e1, h2, c3]
              have q2 : Go.IntKind.i64.wrap (86400000 - x.At) = 86400000 - x.At := wrap_id (by omega)
              simp (maxDischargeDepth := 9) only [↓gB, gV, gT, reduceIte, reduceCtorEq, Nat.reduceEqDiff, Nat.reduceAdd, Nat.reduceSub, Nat.reduceLeDiff, Nat.reduceLT, Int.reduceEq, Nat.reduceMul, c0, c00, f18, f17, c1, f58, f57, c2, f0, f16, f0, f56, h1, e2, n2, q1, e1, h2, c3, q2]
              have q3 : Go.IntKind.i64.wrap (x.Time - x2.Time) = x.Time - x2.Time := wrap_id (by omega)
              simp (maxDischargeDepth := 9) only [↓gB, gV, gT, reduceIte, reduceCtorEq, Nat.reduceEqDiff, Nat.reduceAdd, Nat.reduceSub, Nat.reduceLeDiff, Nat.reduceLT, Int.reduceEq, Nat.reduceMul, c0, c00, f18, f17, c1, f58, f57, c2, f0, f16, f0, f56, h1, e2, n2, q1, e1, h2, c3, q2, q3]
              refine Xc_split _ _ _ _ _ (fun c4 => ?_) (fun c4 => ?_)
              rotate_left 1
              focus
                simp (maxDischargeDepth := 9) only [↓gB, gV, gT, reduceIte, reduceCtorEq, Nat.reduceEqDiff, Nat.reduceAdd, Nat.reduceSub, Nat.reduceLeDiff, Nat.reduceLT, Int.reduceEq, Nat.reduceMul, c0, c00, f18, f17, c1, f58, f57, c2, f0, f16, f0, f56, h1, e2, n2, q1, e1, h2, c3, q2, q3, c4]
                rw [N_lp]
                refine ⟨_, ?_, _, sub_refl _, i + 1, rfl, ?_, ?_, ?_, ?_, by simp (maxDischargeDepth := 9) only [↓gB, gV, gT, reduceIte, reduceCtorEq, Nat.reduceEqDiff, Nat.reduceAdd, Nat.reduceSub, Nat.reduceLeDiff, Nat.reduceLT, Int.reduceEq, Nat.reduceMul, c0, c00, f18, f17, c1, f58, f57, c2, f0, f16, f0, f56, h1, e2, n2, q1, e1, h2, c3, q2, q3, c4, nat_succ, and_self]⟩
                · omega
                · omega
                · (intro j k hj hk; by_cases e : j = i; (subst e; rw [hx] at hk; cases hk; rw [hae]; simp only; omega); exact h j k (by omega) hk; done)
                · exact RSl.put _ (by assumption) (RSl.put _ (by assumption) (by assumption))
                · (simp (maxDischargeDepth := 9) only [le_self, le_puts, le_put0, sub_self, sub_puts, sub_put0, hle, hle, h1, n2, h2]; done)
              rotate_right 1
              simp (maxDischargeDepth := 9) only [↓gB, gV, gT, reduceIte, reduceCtorEq, Nat.reduceEqDiff, Nat.reduceAdd, Nat.reduceSub, Nat.reduceLeDiff, Nat.reduceLT, Int.reduceEq, Nat.reduceMul, c0, c00, f18, f17, c1, f58, f57, c2, f0, f16, f0, f56, h1, e2, n2, q1, e1, h2, c3, q2, q3, c4]
              refine Kup_val (by simp (maxDischargeDepth := 9) only [le_self, le_puts, le_put0, hle, hle, h1, n2, h2]) ?_
              focus (rw [kE16 c0 c00 hc (rules_no hx (by rw [hae]; simp only; omega))]; done)
        · simp (maxDischargeDepth := 9) only [↓gB, gV, gT, reduceIte, reduceCtorEq, Nat.reduceEqDiff, Nat.reduceAdd, Nat.reduceSub, Nat.reduceLeDiff, Nat.reduceLT, Int.reduceEq, Nat.reduceMul, c0, c00, f18, f0, f16, f17, c1, f58, f0, f56, f57, c2]
          refine Kup_val (by simp (maxDischargeDepth := 9) only [le_self, le_puts, le_put0, hle, hle]) ?_
          focus (rw [kE0 c0 c00 hc (rules_yes fun j k hj hk => h j k (by omega) hk)]; done)
end Go.Proofs.YtjhfhacdjmokaaaGreatDoor
namespace Go.Proofs.YtjhfhacdjmokaaaGreatDoor
open Go Go.GL
attribute [local irreducible] Ycall GCalls
set_option maxRecDepth 10000
set_option maxHeartbeats 0
def arcBad (ns : List SNode) (q : Option SArc) (x : SArc) : Int := if isKey x.Key = false then 5 else if q.any (fun q => !sLt q.Key x.Key) = true then 7 else if keyAt SNode.Key ns x.From < 0 then 8 else if keyAt SNode.Key ns x.To < 0 then 8 else if x.From = x.To then 6 else if within x.Long 1 1000000 = false then 1 else knotsE x.Knots
def toOf (ar : List SArc) (k : ByteArray) : ByteArray := match ar[(keyAt SArc.Key ar k).toNat]? with | some x => x.To | none => ⟨#[]⟩
def fromOf (ar : List SArc) (k : ByteArray) : ByteArray := match ar[(keyAt SArc.Key ar k).toNat]? with | some x => x.From | none => ⟨#[]⟩
def banBad (ar : List SArc) (q : Option SBan) (b : SBan) : Int := if keyAt SArc.Key ar b.From < 0 then 8 else if keyAt SArc.Key ar b.To < 0 then 8 else if ¬ toOf ar b.From = fromOf ar b.To then 3 else if q.any (fun q => decide (banCmp b.From b.To q.From q.To ≤ 0)) = true then 7 else 0
def roadsE (ns : List SNode) (ar : List SArc) (bs : List SBan) : Int := if ¬ nodesE ns = 0 then nodesE ns else if 2000 < ar.length then 2 else if ¬ chk (arcBad ns) none ar = 0 then chk (arcBad ns) none ar else if 1000 < bs.length then 2 else chk (banBad ar) none bs
section
variable {ns : List SNode} {ar : List SArc} {bs : List SBan} {q : Option SArc} {x : SArc} {p : Option SBan} {b : SBan} {i : Nat}
theorem ab5 (c : isKey x.Key = false) : arcBad ns q x = 5 := by simp [arcBad, c]
theorem ab7 (c : isKey x.Key = true) (c2 : q.any (fun q => !sLt q.Key x.Key) = true) : arcBad ns q x = 7 := by simp only [arcBad, c, c2, if_true]; rfl
theorem ab8 (c : isKey x.Key = true) (c2 : q.any (fun q => !sLt q.Key x.Key) = false) (c3 : keyAt SNode.Key ns x.From < 0 ∨ keyAt SNode.Key ns x.To < 0) : arcBad ns q x = 8 := by
  unfold arcBad; rw [if_neg (by simp [c]), if_neg (by simp [c2])]
  by_cases h : keyAt SNode.Key ns x.From < 0
  · rw [if_pos h]
  · rw [if_neg h, if_pos (c3.resolve_left h)]
theorem ab6 (c : isKey x.Key = true) (c2 : q.any (fun q => !sLt q.Key x.Key) = false) (c3 : ¬ keyAt SNode.Key ns x.From < 0) (c4 : ¬ keyAt SNode.Key ns x.To < 0) (c5 : x.From = x.To) : arcBad ns q x = 6 := by
  unfold arcBad; rw [if_neg (by simp [c]), if_neg (by simp [c2]), if_neg c3, if_neg c4, if_pos c5]
theorem ab1 (c : isKey x.Key = true) (c2 : q.any (fun q => !sLt q.Key x.Key) = false) (c3 : ¬ keyAt SNode.Key ns x.From < 0) (c4 : ¬ keyAt SNode.Key ns x.To < 0) (c5 : ¬ x.From = x.To) (c6 : within x.Long 1 1000000 = false) : arcBad ns q x = 1 := by
  unfold arcBad; rw [if_neg (by simp [c]), if_neg (by simp [c2]), if_neg c3, if_neg c4, if_neg c5, if_pos c6]
theorem abk (c : isKey x.Key = true) (c2 : q.any (fun q => !sLt q.Key x.Key) = false) (c3 : ¬ keyAt SNode.Key ns x.From < 0) (c4 : ¬ keyAt SNode.Key ns x.To < 0) (c5 : ¬ x.From = x.To) (c6 : within x.Long 1 1000000 = true) : arcBad ns q x = knotsE x.Knots := by
  unfold arcBad; rw [if_neg (by simp [c]), if_neg (by simp [c2]), if_neg c3, if_neg c4, if_neg c5, if_neg (by simp [c6])]
theorem ab_ok (h : arcBad ns q x = 0) : isKey x.Key = true ∧ q.any (fun q => !sLt q.Key x.Key) = false ∧ ¬ keyAt SNode.Key ns x.From < 0 ∧ ¬ keyAt SNode.Key ns x.To < 0 ∧ ¬ x.From = x.To ∧ within x.Long 1 1000000 = true ∧ knotsE x.Knots = 0 := by
  unfold arcBad at h
  split at h
  · cases h
  split at h
  · cases h
  split at h
  · cases h
  split at h
  · cases h
  split at h
  · cases h
  split at h
  · cases h
  rename_i h1 h2 h3 h4 h5 h6
  exact ⟨by simpa using h1, by simpa using h2, h3, h4, h5, by simpa using h6, h⟩
theorem arcs_rise (h : chk (arcBad ns) none ar = 0) : rising SArc.Key ar := rising_chk h fun p x hp => by
  have := (ab_ok hp).2.1
  simpa using this
theorem bb8 (c3 : keyAt SArc.Key ar b.From < 0 ∨ keyAt SArc.Key ar b.To < 0) : banBad ar p b = 8 := by
  unfold banBad
  by_cases h : keyAt SArc.Key ar b.From < 0
  · rw [if_pos h]
  · rw [if_neg h, if_pos (c3.resolve_left h)]
theorem to_at {k : ByteArray} (m : ar[(keyAt SArc.Key ar k).toNat]? = some x) : toOf ar k = x.To := by unfold toOf; rw [m]
theorem from_at {k : ByteArray} (m : ar[(keyAt SArc.Key ar k).toNat]? = some x) : fromOf ar k = x.From := by unfold fromOf; rw [m]
variable {x1 x2 : SArc}
theorem bb3 (c3 : ¬ keyAt SArc.Key ar b.From < 0) (c4 : ¬ keyAt SArc.Key ar b.To < 0) (m1 : ar[(keyAt SArc.Key ar b.From).toNat]? = some x1) (m2 : ar[(keyAt SArc.Key ar b.To).toNat]? = some x2) (c5 : ¬ x1.To = x2.From) : banBad ar p b = 3 := by
  unfold banBad; rw [if_neg c3, if_neg c4, to_at m1, from_at m2, if_pos c5]
theorem bb7 (c3 : ¬ keyAt SArc.Key ar b.From < 0) (c4 : ¬ keyAt SArc.Key ar b.To < 0) (m1 : ar[(keyAt SArc.Key ar b.From).toNat]? = some x1) (m2 : ar[(keyAt SArc.Key ar b.To).toNat]? = some x2) (c5 : x1.To = x2.From) (c6 : p.any (fun q => decide (banCmp b.From b.To q.From q.To ≤ 0)) = true) : banBad ar p b = 7 := by
  unfold banBad; rw [if_neg c3, if_neg c4, to_at m1, from_at m2, if_neg (by simpa using c5), if_pos c6]
theorem bb0 (c3 : ¬ keyAt SArc.Key ar b.From < 0) (c4 : ¬ keyAt SArc.Key ar b.To < 0) (m1 : ar[(keyAt SArc.Key ar b.From).toNat]? = some x1) (m2 : ar[(keyAt SArc.Key ar b.To).toNat]? = some x2) (c5 : x1.To = x2.From) (c6 : p.any (fun q => decide (banCmp b.From b.To q.From q.To ≤ 0)) = false) : banBad ar p b = 0 := by
  unfold banBad; rw [if_neg c3, if_neg c4, to_at m1, from_at m2, if_neg (by simpa using c5), if_neg (by simp [c6])]
theorem sCmp_flip (a b : ByteArray) : sCmp b a = - sCmp a b := by
  unfold sCmp
  cases h1 : sLt a b <;> cases h2 : sLt b a <;> simp
  have := sLt_trans h1 h2; rw [sLt_irrefl] at this; cases this
theorem ban_flip (a b c d : ByteArray) : banCmp c d a b = - banCmp a b c d := by
  unfold banCmp; rw [orOf2, orOf2, sCmp_flip a c, sCmp_flip b d]
  split <;> split <;> omega
theorem rE1 (h : ¬ nodesE ns = 0) : roadsE ns ar bs = nodesE ns := by unfold roadsE; rw [if_pos h]
theorem rE2 (h : nodesE ns = 0) (h2 : (2000 : Int) < ar.length) : roadsE ns ar bs = 2 := by unfold roadsE; rw [if_neg (by simpa using h), if_pos (by omega)]
theorem rE3 (h : nodesE ns = 0) (h2 : ¬ (2000 : Int) < ar.length) {e : Int} (hc : chk (arcBad ns) none ar = e) (he : e ≠ 0) : roadsE ns ar bs = e := by unfold roadsE; rw [if_neg (by simpa using h), if_neg (by omega), hc, if_pos he]
theorem rE4 (h : nodesE ns = 0) (h2 : ¬ (2000 : Int) < ar.length) (hc : chk (arcBad ns) none ar = 0) (hb : (1000 : Int) < bs.length) : roadsE ns ar bs = 2 := by unfold roadsE; rw [if_neg (by simpa using h), if_neg (by omega), if_neg (by simpa using hc), if_pos (by omega)]
theorem rE5 (h : nodesE ns = 0) (h2 : ¬ (2000 : Int) < ar.length) (hc : chk (arcBad ns) none ar = 0) (hb : ¬ (1000 : Int) < bs.length) : roadsE ns ar bs = chk (banBad ar) none bs := by unfold roadsE; rw [if_neg (by simpa using h), if_neg (by omega), if_neg (by simpa using hc), if_neg (by omega)]
end
end Go.Proofs.YtjhfhacdjmokaaaGreatDoor
namespace Go.Proofs.YtjhfhacdjmokaaaGreatDoor
open Go Go.GL
attribute [local irreducible] Ycall GCalls
set_option maxRecDepth 10000
set_option maxHeartbeats 0
theorem bfl1 {q b : SBan} (h : 0 ≤ orOf [sCmp q.From b.From, sCmp q.To b.To]) : decide (banCmp b.From b.To q.From q.To ≤ 0) = true := by
  have := ban_flip b.From b.To q.From q.To
  unfold banCmp at *
  rw [decide_eq_true_eq]; omega
theorem bfl0 {q b : SBan} (h : ¬ 0 ≤ orOf [sCmp q.From b.From, sCmp q.To b.To]) : decide (banCmp b.From b.To q.From q.To ≤ 0) = false := by
  have := ban_flip b.From b.To q.From q.To
  unfold banCmp at *
  rw [decide_eq_false_iff_not]; omega
def bansE (ar : List SArc) (bs : List SBan) : Int := if 1000 < bs.length then 2 else chk (banBad ar) none bs
theorem p31 {G0 : GH} {w u : Value} {ar : List SArc} {bs : List SBan} {va : Option Addr} {vn vc : Nat} (hw : RSl rArc G0 w ar) (hu : RSl rBan G0 u bs) (hm : ar.length ≤ 1000000000) (hb : bs.length ≤ 1000000000) : Pure Tryz.prog G0 31 [.agg #[.slice va vn vc, w, u]] (V (bansE ar bs)) := by
  intro G hG; replace hw := hw.le hG; replace hu := hu.le hG
  clear hG G0
  refine enter Tryz.func31 77 #[.tmp 2] rfl Tryz.ntmps31 rfl (by decide +kernel) rfl ?_
  obtain ⟨wa, wc, rfl⟩ := hw.val
  obtain ⟨ua, uc, rfl⟩ := hu.val
  simp (maxDischargeDepth := 9) only [↓gB, gV, gT, reduceIte, reduceCtorEq, Nat.reduceEqDiff, Nat.reduceAdd, Nat.reduceSub, Nat.reduceLeDiff, Nat.reduceLT, Int.reduceEq, Nat.reduceMul]
  refine Yn2 fun r1 h1 => ?_
  simp (maxDischargeDepth := 9) only [↓gB, gV, gT, reduceIte, reduceCtorEq, Nat.reduceEqDiff, Nat.reduceAdd, Nat.reduceSub, Nat.reduceLeDiff, Nat.reduceLT, Int.reduceEq, Nat.reduceMul, h1]
  refine Xc_split _ _ _ _ _ (fun c2 => ?_) (fun c2 => ?_)
  · simp (maxDischargeDepth := 9) only [↓gB, gV, gT, reduceIte, reduceCtorEq, Nat.reduceEqDiff, Nat.reduceAdd, Nat.reduceSub, Nat.reduceLeDiff, Nat.reduceLT, Int.reduceEq, Nat.reduceMul, h1, c2]
    refine Kup_val (by simp (maxDischargeDepth := 9) only [le_self, le_puts, le_put0, h1]) ?_
    focus ((have : 1000 < bs.length := by omega); simp [bansE, this]; done)
  · rw [show bansE ar bs = chk (banBad ar) none bs from if_neg (by omega)]
    simp (maxDischargeDepth := 9) only [↓gB, gV, gT, reduceIte, reduceCtorEq, Nat.reduceEqDiff, Nat.reduceAdd, Nat.reduceSub, Nat.reduceLeDiff, Nat.reduceLT, Int.reduceEq, Nat.reduceMul, h1, c2]
    focus
      refine Xloop_intro _ _ _ _ _ (fun k f G' => ∃ (i : Nat), k = bs.length - i ∧ (i ≤ bs.length) ∧ (chk (banBad ar) none bs = chk (banBad ar) (prevOf bs i) (bs.drop i)) ∧ (G' r1 = some (.cells [.slice va vn vc, .slice wa ar.length wc, .slice ua bs.length uc].toArray 26 (0, 0), true)) ∧ (RSl rArc G' (.slice wa ar.length wc) ar) ∧ (RSl rBan G' (.slice ua bs.length uc) bs) ∧ (G.le G') ∧ f 14 = V i ∧ f 1 = Go.Value.pointer (Option.some { block := r1, off := 0 }) ∧ f 12 = Go.Value.slice ua bs.length uc ∧ f 13 = Go.Value.int Go.IntKind.i64 ↑bs.length) _ ⟨0, rfl, ?_, ?_, ?_, ?_, ?_, ?_, by simp (maxDischargeDepth := 9) only [↓gB, gV, gT, reduceIte, reduceCtorEq, Nat.reduceEqDiff, Nat.reduceAdd, Nat.reduceSub, Nat.reduceLeDiff, Nat.reduceLT, Int.reduceEq, Nat.reduceMul, h1, c2, and_self]⟩ ?_
      · omega
      · rfl
      · exact put_self _ _ _
      · exact RSl.put _ (by assumption) (by assumption)
      · exact RSl.put _ (by assumption) (by assumption)
      · (simp (maxDischargeDepth := 9) only [le_self, le_puts, le_put0, sub_self, sub_puts, sub_put0, h1]; done)
      rintro k f G' ⟨i, rfl, hi, h, hr, hw, hu, hle, f14, f1, f12, f13⟩
    simp (maxDischargeDepth := 9) only [↓gB, gV, gT, reduceIte, reduceCtorEq, Nat.reduceEqDiff, Nat.reduceAdd, Nat.reduceSub, Nat.reduceLeDiff, Nat.reduceLT, Int.reduceEq, Nat.reduceMul, h1, c2, hr, f14, f1, f12, f13]
    refine Xc_split _ _ _ _ _ (fun c3 => ?_) (fun c3 => ?_)
    · obtain ⟨x, hx⟩ : ∃ x, bs[i]? = some x := ⟨_, List.getElem?_eq_getElem (by omega)⟩
      have k1 := keyAt_lt SArc.Key ar x.From
      have k2 := keyAt_lt SArc.Key ar x.To
      simp (maxDischargeDepth := 9) only [↓gB, gV, gT, reduceIte, reduceCtorEq, Nat.reduceEqDiff, Nat.reduceAdd, Nat.reduceSub, Nat.reduceLeDiff, Nat.reduceLT, Int.reduceEq, Nat.reduceMul, h1, c2, hr, f14, f1, f12, f13, c3]
      obtain ⟨x1, a1, s1, m1, rfl, rfl, e1⟩ := hu.at (i) (by omega) 2 rfl
      simp (maxDischargeDepth := 9) only [↓gB, gV, gT, reduceIte, reduceCtorEq, Nat.reduceEqDiff, Nat.reduceAdd, Nat.reduceSub, Nat.reduceLeDiff, Nat.reduceLT, Int.reduceEq, Nat.reduceMul, h1, c2, f14, f1, f13, c3, hr, f12, e1]
      refine vguard_intro (by simp) ?_
      refine Yn2 fun r2 h2 => ?_
      simp (maxDischargeDepth := 9) only [↓gB, gV, gT, reduceIte, reduceCtorEq, Nat.reduceEqDiff, Nat.reduceAdd, Nat.reduceSub, Nat.reduceLeDiff, Nat.reduceLT, Int.reduceEq, Nat.reduceMul, h1, c2, f14, f1, f13, c3, hr, f12, e1, h2]
      refine Xdraw_intro [0, 1, 2, 4, 5, 6, 3, 7, 8, 9] mixed (by kernel_rfl) (by decide +kernel) ?_
      simp (maxDischargeDepth := 9) only [↓gB, gV, gT, reduceIte, reduceCtorEq, Nat.reduceEqDiff, Nat.reduceAdd, Nat.reduceSub, Nat.reduceLeDiff, Nat.reduceLT, Int.reduceEq, Nat.reduceMul, h1, c2, f14, f1, f13, c3, hr, f12, e1, h2]
      obtain rfl : x = x1 := by rw [hx] at m1; cases m1; rfl
      have n2 : r1 ≠ r2 := ne_of_none hr h2
      focus
        simp (maxDischargeDepth := 9) only [↓gB, gV, gT, reduceIte, reduceCtorEq, Nat.reduceEqDiff, Nat.reduceAdd, Nat.reduceSub, Nat.reduceLeDiff, Nat.reduceLT, Int.reduceEq, Nat.reduceMul, h1, c2, f14, f1, f13, c3, hr, f12, h2, e1, n2]
        refine Ycp (p33 (by exact RSl.put _ (by assumption) (by assumption)) (by omega)) ?_
        simp (maxDischargeDepth := 9) only [↓gB, gV, gT, reduceIte, reduceCtorEq, Nat.reduceEqDiff, Nat.reduceAdd, Nat.reduceSub, Nat.reduceLeDiff, Nat.reduceLT, Int.reduceEq, Nat.reduceMul, h1, c2, f14, f1, f13, c3, hr, f12, h2, e1, n2]
        refine Ycp (p33 (by exact RSl.put _ (by assumption) (by assumption)) (by omega)) ?_
        simp (maxDischargeDepth := 9) only [↓gB, gV, gT, reduceIte, reduceCtorEq, Nat.reduceEqDiff, Nat.reduceAdd, Nat.reduceSub, Nat.reduceLeDiff, Nat.reduceLT, Int.reduceEq, Nat.reduceMul, h1, c2, f14, f1, f13, c3, hr, f12, h2, e1, n2]
        by_cases c1 : (Go.Proofs.YtjhfhacdjmokaaaGreatDoor.keyAt Go.Proofs.YtjhfhacdjmokaaaGreatDoor.SArc.Key ar x.From : Int) < 0
        rotate_left 1
        focus
          simp (maxDischargeDepth := 9) only [↓gB, gV, gT, reduceIte, reduceCtorEq, Nat.reduceEqDiff, Nat.reduceAdd, Nat.reduceSub, Nat.reduceLeDiff, Nat.reduceLT, Int.reduceEq, Nat.reduceMul, h1, c2, f14, f1, f13, c3, hr, f12, h2, e1, n2, c1]
          refine Xc_split _ _ _ _ _ (fun c4 => ?_) (fun c4 => ?_)
          rotate_left 1
          focus
            simp (maxDischargeDepth := 9) only [↓gB, gV, gT, reduceIte, reduceCtorEq, Nat.reduceEqDiff, Nat.reduceAdd, Nat.reduceSub, Nat.reduceLeDiff, Nat.reduceLT, Int.reduceEq, Nat.reduceMul, h1, c2, f14, f1, f13, c3, hr, f12, h2, e1, n2, c1, c4]
            refine Xdraw_intro [0, 1, 2, 3, 4, 5, 6, 7, 8, 9, 10, 11, 12, 13] mixed (by kernel_rfl) (by decide +kernel) ?_
            simp (maxDischargeDepth := 9) only [↓gB, gV, gT, reduceIte, reduceCtorEq, Nat.reduceEqDiff, Nat.reduceAdd, Nat.reduceSub, Nat.reduceLeDiff, Nat.reduceLT, Int.reduceEq, Nat.reduceMul, h1, c2, f14, f1, f13, c3, hr, f12, h2, e1, n2, c1, c4]
            obtain ⟨x2, a2, s2, m2, rfl, ⟨v2, rfl, w2⟩, e2⟩ := hw.at ((Int.toNat (Go.Proofs.YtjhfhacdjmokaaaGreatDoor.keyAt Go.Proofs.YtjhfhacdjmokaaaGreatDoor.SArc.Key ar x.From))) (by omega) 5 rfl
            obtain ⟨aw2, cw2, rfl⟩ := RSl.val w2
            simp (maxDischargeDepth := 9) only [↓gB, gV, gT, reduceIte, reduceCtorEq, Nat.reduceEqDiff, Nat.reduceAdd, Nat.reduceSub, Nat.reduceLeDiff, Nat.reduceLT, Int.reduceEq, Nat.reduceMul, h1, c2, f14, f1, f13, c3, f12, h2, e1, n2, c1, c4, hr, e2]
            refine vguard_intro (by omega) ?_
            refine vguard_intro (by omega) ?_
            obtain ⟨x3, s3, m3, ⟨v3, rfl, w3⟩, e3⟩ := hw.at' ((Go.Proofs.YtjhfhacdjmokaaaGreatDoor.keyAt Go.Proofs.YtjhfhacdjmokaaaGreatDoor.SArc.Key ar x.To).toNat) (by omega) 5 rfl
            obtain ⟨aw3, cw3, rfl⟩ := RSl.val w3
            simp (maxDischargeDepth := 9) only [↓gB, gV, gT, reduceIte, reduceCtorEq, Nat.reduceEqDiff, Nat.reduceAdd, Nat.reduceSub, Nat.reduceLeDiff, Nat.reduceLT, Int.reduceEq, Nat.reduceMul, h1, c2, f14, f1, f13, c3, f12, h2, e1, n2, c1, c4, hr, e2, e3]
            by_cases c5 : (x2.To : ByteArray) = x3.From
            rotate_left 1
            focus
              simp (maxDischargeDepth := 9) only [↓gB, gV, gT, reduceIte, reduceCtorEq, Nat.reduceEqDiff, Nat.reduceAdd, Nat.reduceSub, Nat.reduceLeDiff, Nat.reduceLT, Int.reduceEq, Nat.reduceMul, h1, c2, f14, f1, f13, c3, f12, h2, e1, n2, c1, c4, hr, e2, e3, c5]
              refine Kup_val (by simp (maxDischargeDepth := 9) only [le_self, le_puts, le_put0, h1, hle, h2]) ?_
              focus (rw [chk_bad h hx (bb3 (by assumption) (by assumption) m2 m3 (by assumption)) (by decide)]; done)
            rotate_right 1
            simp (maxDischargeDepth := 9) only [↓gB, gV, gT, reduceIte, reduceCtorEq, Nat.reduceEqDiff, Nat.reduceAdd, Nat.reduceSub, Nat.reduceLeDiff, Nat.reduceLT, Int.reduceEq, Nat.reduceMul, h1, c2, f14, f1, f13, c3, f12, h2, e1, n2, c1, c4, hr, e2, e3, c5]
            refine Xdraw_intro [0, 1, 2, 3, 4, 5, 6, 7, 8, 9, 10, 11, 13, 14, 15, 16, 17, 18, 19, 20, 21, 12, 22, 23, 24, 25, 26, 27] mixed (by kernel_rfl) (by decide +kernel) ?_
            simp (maxDischargeDepth := 9) only [↓gB, gV, gT, reduceIte, reduceCtorEq, Nat.reduceEqDiff, Nat.reduceAdd, Nat.reduceSub, Nat.reduceLeDiff, Nat.reduceLT, Int.reduceEq, Nat.reduceMul, h1, c2, f14, f1, f13, c3, f12, h2, e1, n2, c1, c4, hr, e2, e3, c5]
            by_cases c6 : (0 : Int) < ↑i
            rotate_left 1
            focus
              simp (maxDischargeDepth := 9) only [↓gB, gV, gT, reduceIte, reduceCtorEq, Nat.reduceEqDiff, Nat.reduceAdd, Nat.reduceSub, Nat.reduceLeDiff, Nat.reduceLT, Int.reduceEq, Nat.reduceMul, h1, c2, f14, f1, f13, c3, f12, h2, e1, n2, c1, c4, hr, e2, e3, c5, c6]
              have q1 : Go.IntKind.i64.wrap (↑i + 1) = ↑i + 1 := wrap_id (by omega)
              simp (maxDischargeDepth := 9) only [↓gB, gV, gT, reduceIte, reduceCtorEq, Nat.reduceEqDiff, Nat.reduceAdd, Nat.reduceSub, Nat.reduceLeDiff, Nat.reduceLT, Int.reduceEq, Nat.reduceMul, h1, c2, f14, f1, f13, c3, f12, h2, e1, n2, c1, c4, hr, e2, e3, c5, c6, q1]
              rw [N_lp]
              refine ⟨_, ?_, _, sub_refl _, i + 1, rfl, ?_, ?_, ?_, ?_, ?_, ?_, by simp (maxDischargeDepth := 9) only [↓gB, gV, gT, reduceIte, reduceCtorEq, Nat.reduceEqDiff, Nat.reduceAdd, Nat.reduceSub, Nat.reduceLeDiff, Nat.reduceLT, Int.reduceEq, Nat.reduceMul, h1, c2, f14, f1, f13, c3, f12, h2, e1, n2, c1, c4, hr, e2, e3, c5, c6, q1, nat_succ, and_self]⟩
              · omega
              · omega
              · (exact chk_next h hx (bb0 (by assumption) (by assumption) m2 m3 (by assumption) (by first | exact pvp (by assumption) m4 (bfl0 (by assumption)) | exact pvz (by assumption))); done)
              · exact (le_put (by assumption) _) _ _ (by assumption)
              · exact RSl.put _ (by assumption) (by assumption)
              · exact RSl.put _ (by assumption) (by assumption)
              · (simp (maxDischargeDepth := 9) only [le_self, le_puts, le_put0, sub_self, sub_puts, sub_put0, h1, hle, h2]; done)
            rotate_right 1
            simp (maxDischargeDepth := 9) only [↓gB, gV, gT, reduceIte, reduceCtorEq, Nat.reduceEqDiff, Nat.reduceAdd, Nat.reduceSub, Nat.reduceLeDiff, Nat.reduceLT, Int.reduceEq, Nat.reduceMul, h1, c2, f14, f1, f13, c3, f12, h2, e1, n2, c1, c4, hr, e2, e3, c5, c6]
            have q1 : Go.IntKind.i64.wrap (↑i - 1) = ↑i - 1 := wrap_id (by omega)
            simp (maxDischargeDepth := 9) only [↓gB, gV, gT, reduceIte, reduceCtorEq, Nat.reduceEqDiff, Nat.reduceAdd, Nat.reduceSub, Nat.reduceLeDiff, Nat.reduceLT, Int.reduceEq, Nat.reduceMul, h1, c2, f14, f1, f13, c3, f12, h2, e1, n2, c1, c4, hr, e2, e3, c5, c6, q1]
            refine vguard_intro (by omega) ?_
            obtain ⟨x4, s4, m4, rfl, e4⟩ := hu.at' (i - 1) (by omega) 2 rfl
            simp (maxDischargeDepth := 9) only [↓gB, gV, gT, reduceIte, reduceCtorEq, Nat.reduceEqDiff, Nat.reduceAdd, Nat.reduceSub, Nat.reduceLeDiff, Nat.reduceLT, Int.reduceEq, Nat.reduceMul, h1, c2, f14, f1, f13, c3, f12, h2, e1, n2, c1, c4, hr, e2, e3, c5, c6, q1, e4]
            refine vguard_intro (by omega) ?_
            refine Ycp (p43) ?_
            simp (maxDischargeDepth := 9) only [↓gB, gV, gT, reduceIte, reduceCtorEq, Nat.reduceEqDiff, Nat.reduceAdd, Nat.reduceSub, Nat.reduceLeDiff, Nat.reduceLT, Int.reduceEq, Nat.reduceMul, h1, c2, f14, f1, f13, c3, f12, h2, e1, n2, c1, c4, hr, e2, e3, c5, c6, q1, e4]
            refine Ycp (p43) ?_
            simp (maxDischargeDepth := 9) only [↓gB, gV, gT, reduceIte, reduceCtorEq, Nat.reduceEqDiff, Nat.reduceAdd, Nat.reduceSub, Nat.reduceLeDiff, Nat.reduceLT, Int.reduceEq, Nat.reduceMul, h1, c2, f14, f1, f13, c3, f12, h2, e1, n2, c1, c4, hr, e2, e3, c5, c6, q1, e4]
            refine Yn1 fun r3 h3 => ?_
            have n3 := h3
            simp only [put_none_eq, ne_eq] at n3
            have n30 := h3
            simp only [put_none_eq, ne_eq, @eq_comm Nat r3] at n30
            simp (maxDischargeDepth := 9) only [↓gB, gV, gT, reduceIte, reduceCtorEq, Nat.reduceEqDiff, Nat.reduceAdd, Nat.reduceSub, Nat.reduceLeDiff, Nat.reduceLT, Int.reduceEq, Nat.reduceMul, h1, c2, f14, f1, f13, c3, f12, h2, e1, n2, c1, c4, hr, e2, e3, c5, c6, q1, e4, h3, n3, n30]
            refine Ycp (p56 (by exact put_self _ _ _)) ?_
            simp (maxDischargeDepth := 9) only [↓gB, gV, gT, reduceIte, reduceCtorEq, Nat.reduceEqDiff, Nat.reduceAdd, Nat.reduceSub, Nat.reduceLeDiff, Nat.reduceLT, Int.reduceEq, Nat.reduceMul, h1, c2, f14, f1, f13, c3, f12, h2, e1, n2, c1, c4, hr, e2, e3, c5, c6, q1, e4, h3, n3, n30]
            refine Xc_split _ _ _ _ _ (fun c7 => ?_) (fun c7 => ?_)
            rotate_left 1
            focus
              simp (maxDischargeDepth := 9) only [↓gB, gV, gT, reduceIte, reduceCtorEq, Nat.reduceEqDiff, Nat.reduceAdd, Nat.reduceSub, Nat.reduceLeDiff, Nat.reduceLT, Int.reduceEq, Nat.reduceMul, h1, c2, f14, f1, f13, c3, f12, h2, e1, n2, c1, c4, hr, e2, e3, c5, c6, q1, e4, h3, n3, n30, c7]
              have q2 : Go.IntKind.i64.wrap (↑i + 1) = ↑i + 1 := wrap_id (by omega)
              simp (maxDischargeDepth := 9) only [↓gB, gV, gT, reduceIte, reduceCtorEq, Nat.reduceEqDiff, Nat.reduceAdd, Nat.reduceSub, Nat.reduceLeDiff, Nat.reduceLT, Int.reduceEq, Nat.reduceMul, h1, c2, f14, f1, f13, c3, f12, h2, e1, n2, c1, c4, hr, e2, e3, c5, c6, q1, e4, h3, n3, n30, c7, q2]
              rw [N_lp]
              refine ⟨_, ?_, _, sub_refl _, i + 1, rfl, ?_, ?_, ?_, ?_, ?_, ?_, by simp (maxDischargeDepth := 9) only [↓gB, gV, gT, reduceIte, reduceCtorEq, Nat.reduceEqDiff, Nat.reduceAdd, Nat.reduceSub, Nat.reduceLeDiff, Nat.reduceLT, Int.reduceEq, Nat.reduceMul, h1, c2, f14, f1, f13, c3, f12, h2, e1, n2, c1, c4, hr, e2, e3, c5, c6, q1, e4, h3, n3, n30, c7, q2, nat_succ, and_self]⟩
              · omega
              · omega
              · (exact chk_next h hx (bb0 (by assumption) (by assumption) m2 m3 (by assumption) (by first | exact pvp (by assumption) m4 (bfl0 (by assumption)) | exact pvz (by assumption))); done)
              · exact (le_put (by assumption) _) _ _ ((le_put (by assumption) _) _ _ (by assumption))
              · exact RSl.put _ (by assumption) (RSl.put _ (by assumption) (by assumption))
              · exact RSl.put _ (by assumption) (RSl.put _ (by assumption) (by assumption))
              · (simp (maxDischargeDepth := 9) only [le_self, le_puts, le_put0, sub_self, sub_puts, sub_put0, h1, hle, h2, h3, n3, n30]; done)
            rotate_right 1
            simp (maxDischargeDepth := 9) only [↓gB, gV, gT, reduceIte, reduceCtorEq, Nat.reduceEqDiff, Nat.reduceAdd, Nat.reduceSub, Nat.reduceLeDiff, Nat.reduceLT, Int.reduceEq, Nat.reduceMul, h1, c2, f14, f1, f13, c3, f12, h2, e1, n2, c1, c4, hr, e2, e3, c5, c6, q1, e4, h3, n3, n30, c7]
            refine Kup_val (by simp (maxDischargeDepth := 9) only [le_self, le_puts, le_put0, h1, hle, h2, h3, n3, n30]) ?_
            focus (rw [chk_bad h hx (bb7 (by assumption) (by assumption) m2 m3 (by assumption) (pvp (by assumption) m4 (bfl1 (by assumption)))) (by decide)]; done)
          rotate_right 1
          simp (maxDischargeDepth := 9) only [↓gB, gV, gT, reduceIte, reduceCtorEq, Nat.reduceEqDiff, Nat.reduceAdd, Nat.reduceSub, Nat.reduceLeDiff, Nat.reduceLT, Int.reduceEq, Nat.reduceMul, h1, c2, f14, f1, f13, c3, hr, f12, h2, e1, n2, c1, c4]
          refine Kup_val (by simp (maxDischargeDepth := 9) only [le_self, le_puts, le_put0, h1, hle, h2]) ?_
          focus (rw [chk_bad h hx (bb8 (by first | exact .inl (by assumption) | exact .inr (by assumption))) (by decide)]; done)
        rotate_right 1
        simp (maxDischargeDepth := 9) only [↓gB, gV, gT, reduceIte, reduceCtorEq, Nat.reduceEqDiff, Nat.reduceAdd, Nat.reduceSub, Nat.reduceLeDiff, Nat.reduceLT, Int.reduceEq, Nat.reduceMul, h1, c2, f14, f1, f13, c3, hr, f12, h2, e1, n2, c1]
        refine Kup_val (by simp (maxDischargeDepth := 9) only [le_self, le_puts, le_put0, h1, hle, h2]) ?_
        focus (rw [chk_bad h hx (bb8 (by first | exact .inl (by assumption) | exact .inr (by assumption))) (by decide)]; done)
    · simp (maxDischargeDepth := 9) only [↓gB, gV, gT, reduceIte, reduceCtorEq, Nat.reduceEqDiff, Nat.reduceAdd, Nat.reduceSub, Nat.reduceLeDiff, Nat.reduceLT, Int.reduceEq, Nat.reduceMul, h1, c2, hr, f14, f1, f12, f13, c3]
      refine Kup_val (by simp (maxDischargeDepth := 9) only [le_self, le_puts, le_put0, h1, hle]) ?_
      focus (rw [chk_end h c3]; done)
end Go.Proofs.YtjhfhacdjmokaaaGreatDoor
namespace Go.Proofs.YtjhfhacdjmokaaaGreatDoor
open Go Go.GL
attribute [local irreducible] Ycall GCalls
set_option maxRecDepth 10000
set_option maxHeartbeats 0
theorem rE0 {ns : List SNode} {ar : List SArc} {bs : List SBan} (h : nodesE ns = 0) (h2 : ¬ (2000 : Int) < ar.length) (hc : chk (arcBad ns) none ar = 0) : roadsE ns ar bs = bansE ar bs := by
  unfold roadsE bansE; rw [if_neg (by simpa using h), if_neg (by omega), if_neg (by simpa using hc)]
theorem om1 {a b : Int} (h : within a (-10000) 10000 = false) : onMap a b = false := by simp [onMap, h]
theorem om2 {a b : Int} (h : within b (-10000) 10000 = false) : onMap a b = false := by simp [onMap, h]
theorem om0 {a b : Int} (h : within a (-10000) 10000 = true) (h2 : within b (-10000) 10000 = true) : onMap a b = true := by simp [onMap, h, h2]
theorem nE2 {l : List SNode} (h : (500 : Int) < l.length) : nodesE l = 2 := if_pos (by omega)
theorem nEc {l : List SNode} (h : ¬ (500 : Int) < l.length) {e : Int} (hc : chk nodeBad none l = e) : nodesE l = e := (if_neg (by omega)).trans hc
theorem p8 {G0 : GH} {v w u : Value} {ns : List SNode} {ar : List SArc} {bs : List SBan} (hv : RSl rNode G0 v ns) (hw : RSl rArc G0 w ar) (hu : RSl rBan G0 u bs) (hn : ns.length ≤ 1000000000) (hm : ar.length ≤ 1000000000) (hk : ∀ x ∈ ar, x.Knots.length ≤ 1000000000) (hb : bs.length ≤ 1000000000) : Pure Tryz.prog G0 8 [.agg #[v, w, u]] (V (roadsE ns ar bs)) := by
  intro G hG; replace hv := hv.le hG; replace hw := hw.le hG; replace hu := hu.le hG
  clear hG G0
  refine enter Tryz.func8 117 #[.tmp 2] rfl Tryz.ntmps8 rfl (by decide +kernel) rfl ?_
  obtain ⟨va, vc, rfl⟩ := hv.val
  obtain ⟨wa, wc, rfl⟩ := hw.val
  obtain ⟨ua, uc, rfl⟩ := hu.val
  simp (maxDischargeDepth := 9) only [↓gB, gV, gT, reduceIte, reduceCtorEq, Nat.reduceEqDiff, Nat.reduceAdd, Nat.reduceSub, Nat.reduceLeDiff, Nat.reduceLT, Int.reduceEq, Nat.reduceMul]
  refine Yn2 fun r1 h1 => ?_
  simp (maxDischargeDepth := 9) only [↓gB, gV, gT, reduceIte, reduceCtorEq, Nat.reduceEqDiff, Nat.reduceAdd, Nat.reduceSub, Nat.reduceLeDiff, Nat.reduceLT, Int.reduceEq, Nat.reduceMul, h1]
  refine Xc_split _ _ _ _ _ (fun c00 => ?_) (fun c00 => ?_)
  · simp (maxDischargeDepth := 9) only [↓gB, gV, gT, reduceIte, reduceCtorEq, Nat.reduceEqDiff, Nat.reduceAdd, Nat.reduceSub, Nat.reduceLeDiff, Nat.reduceLT, Int.reduceEq, Nat.reduceMul, h1, c00]
    refine Kup_val (by simp (maxDischargeDepth := 9) only [le_self, le_puts, le_put0, h1]) ?_
    focus (rw [rE1 (by rw [nE2 c00]; decide), nE2 c00]; done)
  · simp (maxDischargeDepth := 9) only [↓gB, gV, gT, reduceIte, reduceCtorEq, Nat.reduceEqDiff, Nat.reduceAdd, Nat.reduceSub, Nat.reduceLeDiff, Nat.reduceLT, Int.reduceEq, Nat.reduceMul, h1, c00]
    focus
      refine Xloop_intro _ _ _ _ _ (fun k f G' => ∃ (i : Nat), k = ns.length - i ∧ (i ≤ ns.length) ∧ (chk nodeBad none ns = chk nodeBad (prevOf ns i) (ns.drop i)) ∧ (G' r1 = some (.cells [.slice va ns.length vc, .slice wa ar.length wc, .slice ua bs.length uc].toArray 26 (0, 0), true)) ∧ (RSl rNode G' (.slice va ns.length vc) ns) ∧ (RSl rArc G' (.slice wa ar.length wc) ar) ∧ (RSl rBan G' (.slice ua bs.length uc) bs) ∧ (G.le G') ∧ f 15 = V i ∧ f 1 = Go.Value.pointer (Option.some { block := r1, off := 0 }) ∧ f 13 = Go.Value.slice va ns.length vc ∧ f 14 = Go.Value.int Go.IntKind.i64 ↑ns.length) _ ⟨0, rfl, ?_, ?_, ?_, ?_, ?_, ?_, ?_, by simp (maxDischargeDepth := 9) only [↓gB, gV, gT, reduceIte, reduceCtorEq, Nat.reduceEqDiff, Nat.reduceAdd, Nat.reduceSub, Nat.reduceLeDiff, Nat.reduceLT, Int.reduceEq, Nat.reduceMul, h1, c00, and_self]⟩ ?_
      · omega
      · rfl
      · exact put_self _ _ _
      · exact RSl.put _ (by assumption) (by assumption)
      · exact RSl.put _ (by assumption) (by assumption)
      · exact RSl.put _ (by assumption) (by assumption)
      · (simp (maxDischargeDepth := 9) only [le_self, le_puts, le_put0, sub_self, sub_puts, sub_put0, h1]; done)
      rintro k f G' ⟨i, rfl, hi, h, hr, hv, hw, hu, hle, f15, f1, f13, f14⟩
    simp (maxDischargeDepth := 9) only [↓gB, gV, gT, reduceIte, reduceCtorEq, Nat.reduceEqDiff, Nat.reduceAdd, Nat.reduceSub, Nat.reduceLeDiff, Nat.reduceLT, Int.reduceEq, Nat.reduceMul, h1, c00, hr, f15, f1, f13, f14]
    refine Xc_split _ _ _ _ _ (fun c01 => ?_) (fun c01 => ?_)
    · obtain ⟨x, hx⟩ : ∃ x, ns[i]? = some x := ⟨_, List.getElem?_eq_getElem (by omega)⟩
      simp (maxDischargeDepth := 9) only [↓gB, gV, gT, reduceIte, reduceCtorEq, Nat.reduceEqDiff, Nat.reduceAdd, Nat.reduceSub, Nat.reduceLeDiff, Nat.reduceLT, Int.reduceEq, Nat.reduceMul, h1, c00, hr, f15, f1, f13, f14, c01]
      obtain ⟨x1, a1, s1, m1, rfl, rfl, e1⟩ := hv.at (i) (by omega) 3 rfl
      simp (maxDischargeDepth := 9) only [↓gB, gV, gT, reduceIte, reduceCtorEq, Nat.reduceEqDiff, Nat.reduceAdd, Nat.reduceSub, Nat.reduceLeDiff, Nat.reduceLT, Int.reduceEq, Nat.reduceMul, h1, c00, f15, f1, f14, c01, hr, f13, e1]
      refine vguard_intro (by simp) ?_
      refine Yn2 fun r2 h2 => ?_
      simp (maxDischargeDepth := 9) only [↓gB, gV, gT, reduceIte, reduceCtorEq, Nat.reduceEqDiff, Nat.reduceAdd, Nat.reduceSub, Nat.reduceLeDiff, Nat.reduceLT, Int.reduceEq, Nat.reduceMul, h1, c00, f15, f1, f14, c01, hr, f13, e1, h2]
      refine Ycp (p27) ?_
      simp (maxDischargeDepth := 9) only [↓gB, gV, gT, reduceIte, reduceCtorEq, Nat.reduceEqDiff, Nat.reduceAdd, Nat.reduceSub, Nat.reduceLeDiff, Nat.reduceLT, Int.reduceEq, Nat.reduceMul, h1, c00, f15, f1, f14, c01, hr, f13, e1, h2]
      obtain rfl : x = x1 := by rw [hx] at m1; cases m1; rfl
      have n2 : r1 ≠ r2 := ne_of_none hr h2
      focus
        rcases bool_tf (Go.Proofs.YtjhfhacdjmokaaaGreatDoor.isKey x.Key) with c1 | c1
        rotate_left 1
        focus
          simp (maxDischargeDepth := 9) only [↓gB, gV, gT, reduceIte, reduceCtorEq, Nat.reduceEqDiff, Nat.reduceAdd, Nat.reduceSub, Nat.reduceLeDiff, Nat.reduceLT, Int.reduceEq, Nat.reduceMul, h1, c00, f15, f1, f14, c01, hr, f13, h2, e1, n2, c1]
          refine Kup_val (by simp (maxDischargeDepth := 9) only [le_self, le_puts, le_put0, h1, hle, h2]) ?_
          focus (have e := nEc c00 (chk_bad h hx (nb5 (by assumption)) (by decide)); rw [rE1 (by rw [e]; decide), e]; done)
        rotate_right 1
        simp (maxDischargeDepth := 9) only [↓gB, gV, gT, reduceIte, reduceCtorEq, Nat.reduceEqDiff, Nat.reduceAdd, Nat.reduceSub, Nat.reduceLeDiff, Nat.reduceLT, Int.reduceEq, Nat.reduceMul, h1, c00, f15, f1, f14, c01, hr, f13, h2, e1, n2, c1]
        refine Xdraw_intro [0, 1, 2, 3, 4, 5, 6, 7, 8, 9, 10, 11, 12, 13, 14] mixed (by kernel_rfl) (by decide +kernel) ?_
        simp (maxDischargeDepth := 9) only [↓gB, gV, gT, reduceIte, reduceCtorEq, Nat.reduceEqDiff, Nat.reduceAdd, Nat.reduceSub, Nat.reduceLeDiff, Nat.reduceLT, Int.reduceEq, Nat.reduceMul, h1, c00, f15, f1, f14, c01, hr, f13, h2, e1, n2, c1]
        by_cases c2 : (0 : Int) < ↑i
        rotate_left 1
        focus
          simp (maxDischargeDepth := 9) only [↓gB, gV, gT, reduceIte, reduceCtorEq, Nat.reduceEqDiff, Nat.reduceAdd, Nat.reduceSub, Nat.reduceLeDiff, Nat.reduceLT, Int.reduceEq, Nat.reduceMul, h1, c00, f15, f1, f14, c01, hr, f13, h2, e1, n2, c1, c2]
          refine Ycp (p28) ?_
          simp (maxDischargeDepth := 9) only [↓gB, gV, gT, reduceIte, reduceCtorEq, Nat.reduceEqDiff, Nat.reduceAdd, Nat.reduceSub, Nat.reduceLeDiff, Nat.reduceLT, Int.reduceEq, Nat.reduceMul, h1, c00, f15, f1, f14, c01, hr, f13, h2, e1, n2, c1, c2]
          rcases bool_tf (Go.Proofs.YtjhfhacdjmokaaaGreatDoor.within x.X (-10000) 10000) with c3 | c3
          rotate_left 1
          focus
            simp (maxDischargeDepth := 9) only [↓gB, gV, gT, reduceIte, reduceCtorEq, Nat.reduceEqDiff, Nat.reduceAdd, Nat.reduceSub, Nat.reduceLeDiff, Nat.reduceLT, Int.reduceEq, Nat.reduceMul, h1, c00, f15, f1, f14, c01, hr, f13, h2, e1, n2, c1, c2, c3]
            refine Kup_val (by simp (maxDischargeDepth := 9) only [le_self, le_puts, le_put0, h1, hle, h2]) ?_
            focus (have e := nEc c00 (chk_bad h hx (nb1 (by assumption) (by first | exact pvp (by assumption) m2 (by simp [*]) | exact pvz (by assumption)) (by first | exact om1 (by assumption) | exact om2 (by assumption))) (by decide)); rw [rE1 (by rw [e]; decide), e]; done)
          rotate_right 1
          simp (maxDischargeDepth := 9) only [↓gB, gV, gT, reduceIte, reduceCtorEq, Nat.reduceEqDiff, Nat.reduceAdd, Nat.reduceSub, Nat.reduceLeDiff, Nat.reduceLT, Int.reduceEq, Nat.reduceMul, h1, c00, f15, f1, f14, c01, hr, f13, h2, e1, n2, c1, c2, c3]
          refine Ycp (p28) ?_
          simp (maxDischargeDepth := 9) only [↓gB, gV, gT, reduceIte, reduceCtorEq, Nat.reduceEqDiff, Nat.reduceAdd, Nat.reduceSub, Nat.reduceLeDiff, Nat.reduceLT, Int.reduceEq, Nat.reduceMul, h1, c00, f15, f1, f14, c01, hr, f13, h2, e1, n2, c1, c2, c3]
          rcases bool_tf (Go.Proofs.YtjhfhacdjmokaaaGreatDoor.within x.Y (-10000) 10000) with c4 | c4
          rotate_left 1
          focus
            simp (maxDischargeDepth := 9) only [↓gB, gV, gT, reduceIte, reduceCtorEq, Nat.reduceEqDiff, Nat.reduceAdd, Nat.reduceSub, Nat.reduceLeDiff, Nat.reduceLT, Int.reduceEq, Nat.reduceMul, h1, c00, f15, f1, f14, c01, hr, f13, h2, e1, n2, c1, c2, c3, c4]
            refine Kup_val (by simp (maxDischargeDepth := 9) only [le_self, le_puts, le_put0, h1, hle, h2]) ?_
            focus (have e := nEc c00 (chk_bad h hx (nb1 (by assumption) (by first | exact pvp (by assumption) m2 (by simp [*]) | exact pvz (by assumption)) (by first | exact om1 (by assumption) | exact om2 (by assumption))) (by decide)); rw [rE1 (by rw [e]; decide), e]; done)
          rotate_right 1
          simp (maxDischargeDepth := 9) only [↓gB, gV, gT, reduceIte, reduceCtorEq, Nat.reduceEqDiff, Nat.reduceAdd, Nat.reduceSub, Nat.reduceLeDiff, Nat.reduceLT, Int.reduceEq, Nat.reduceMul, h1, c00, f15, f1, f14, c01, hr, f13, h2, e1, n2, c1, c2, c3, c4]
          have q1 : Go.IntKind.i64.wrap (↑i + 1) = ↑i + 1 := wrap_id (by omega)
          simp (maxDischargeDepth := 9) only [↓gB, gV, gT, reduceIte, reduceCtorEq, Nat.reduceEqDiff, Nat.reduceAdd, Nat.reduceSub, Nat.reduceLeDiff, Nat.reduceLT, Int.reduceEq, Nat.reduceMul, h1, c00, f15, f1, f14, c01, hr, f13, h2, e1, n2, c1, c2, c3, c4, q1]
          rw [N_lp]
          refine ⟨_, ?_, _, sub_refl _, i + 1, rfl, ?_, ?_, ?_, ?_, ?_, ?_, ?_, by simp (maxDischargeDepth := 9) only [↓gB, gV, gT, reduceIte, reduceCtorEq, Nat.reduceEqDiff, Nat.reduceAdd, Nat.reduceSub, Nat.reduceLeDiff, Nat.reduceLT, Int.reduceEq, Nat.reduceMul, h1, c00, f15, f1, f14, c01, hr, f13, h2, e1, n2, c1, c2, c3, c4, q1, nat_succ, and_self]⟩
          · omega
          · omega
          · (exact chk_next h hx (nb0 (by assumption) (by first | exact pvp (by assumption) m2 (by simp [*]) | exact pvz (by assumption)) (om0 (by assumption) (by assumption))); done)
          · exact (le_put (by assumption) _) _ _ (by assumption)
          · exact RSl.put _ (by assumption) (by assumption)
          · exact RSl.put _ (by assumption) (by assumption)
          · exact RSl.put _ (by assumption) (by assumption)
          · (simp (maxDischargeDepth := 9) only [le_self, le_puts, le_put0, sub_self, sub_puts, sub_put0, h1, hle, h2]; done)
        rotate_right 1
        simp (maxDischargeDepth := 9) only [↓gB, gV, gT, reduceIte, reduceCtorEq, Nat.reduceEqDiff, Nat.reduceAdd, Nat.reduceSub, Nat.reduceLeDiff, Nat.reduceLT, Int.reduceEq, Nat.reduceMul, h1, c00, f15, f1, f14, c01, hr, f13, h2, e1, n2, c1, c2]
        have q1 : Go.IntKind.i64.wrap (↑i - 1) = ↑i - 1 := wrap_id (by omega)
        simp (maxDischargeDepth := 9) only [↓gB, gV, gT, reduceIte, reduceCtorEq, Nat.reduceEqDiff, Nat.reduceAdd, Nat.reduceSub, Nat.reduceLeDiff, Nat.reduceLT, Int.reduceEq, Nat.reduceMul, h1, c00, f15, f1, f14, c01, hr, f13, h2, e1, n2, c1, c2, q1]
        refine vguard_intro (by omega) ?_
        obtain ⟨x2, s2, m2, rfl, e2⟩ := hv.at' (i - 1) (by omega) 3 rfl
        simp (maxDischargeDepth := 9) only [↓gB, gV, gT, reduceIte, reduceCtorEq, Nat.reduceEqDiff, Nat.reduceAdd, Nat.reduceSub, Nat.reduceLeDiff, Nat.reduceLT, Int.reduceEq, Nat.reduceMul, h1, c00, f15, f1, f14, c01, hr, f13, h2, e1, n2, c1, c2, q1, e2]
        rcases bool_tf (Go.GL.sLt x2.Key x.Key) with c3 | c3
        rotate_left 1
        focus
          simp (maxDischargeDepth := 9) only [↓gB, gV, gT, reduceIte, reduceCtorEq, Nat.reduceEqDiff, Nat.reduceAdd, Nat.reduceSub, Nat.reduceLeDiff, Nat.reduceLT, Int.reduceEq, Nat.reduceMul, h1, c00, f15, f1, f14, c01, hr, f13, h2, e1, n2, c1, c2, q1, e2, c3]
          refine Kup_val (by simp (maxDischargeDepth := 9) only [le_self, le_puts, le_put0, h1, hle, h2]) ?_
          focus (have e := nEc c00 (chk_bad h hx (nb7 (by assumption) (pvp (by assumption) m2 (by simp [*]))) (by decide)); rw [rE1 (by rw [e]; decide), e]; done)
        rotate_right 1
        simp (maxDischargeDepth := 9) only [↓gB, gV, gT, reduceIte, reduceCtorEq, Nat.reduceEqDiff, Nat.reduceAdd, Nat.reduceSub, Nat.reduceLeDiff, Nat.reduceLT, Int.reduceEq, Nat.reduceMul, h1, c00, f15, f1, f14, c01, hr, f13, h2, e1, n2, c1, c2, q1, e2, c3]
        refine Ycp (p28) ?_
        simp (maxDischargeDepth := 9) only [↓gB, gV, gT, reduceIte, reduceCtorEq, Nat.reduceEqDiff, Nat.reduceAdd, Nat.reduceSub, Nat.reduceLeDiff, Nat.reduceLT, Int.reduceEq, Nat.reduceMul, h1, c00, f15, f1, f14, c01, hr, f13, h2, e1, n2, c1, c2, q1, e2, c3]
        rcases bool_tf (Go.Proofs.YtjhfhacdjmokaaaGreatDoor.within x.X (-10000) 10000) with c4 | c4
        rotate_left 1
        focus
          simp (maxDischargeDepth := 9) only [↓gB, gV, gT, reduceIte, reduceCtorEq, Nat.reduceEqDiff, Nat.reduceAdd, Nat.reduceSub, Nat.reduceLeDiff, Nat.reduceLT, Int.reduceEq, Nat.reduceMul, h1, c00, f15, f1, f14, c01, hr, f13, h2, e1, n2, c1, c2, q1, e2, c3, c4]
          refine Kup_val (by simp (maxDischargeDepth := 9) only [le_self, le_puts, le_put0, h1, hle, h2]) ?_
          focus (have e := nEc c00 (chk_bad h hx (nb1 (by assumption) (by first | exact pvp (by assumption) m2 (by simp [*]) | exact pvz (by assumption)) (by first | exact om1 (by assumption) | exact om2 (by assumption))) (by decide)); rw [rE1 (by rw [e]; decide), e]; done)
        rotate_right 1
        simp (maxDischargeDepth := 9) only [↓gB, gV, gT, reduceIte, reduceCtorEq, Nat.reduceEqDiff, Nat.reduceAdd, Nat.reduceSub, Nat.reduceLeDiff, Nat.reduceLT, Int.reduceEq, Nat.reduceMul, h1, c00, f15, f1, f14, c01, hr, f13, h2, e1, n2, c1, c2, q1, e2, c3, c4]
        refine Ycp (p28) ?_
        simp (maxDischargeDepth := 9) only [↓gB, gV, gT, reduceIte, reduceCtorEq, Nat.reduceEqDiff, Nat.reduceAdd, Nat.reduceSub, Nat.reduceLeDiff, Nat.reduceLT, Int.reduceEq, Nat.reduceMul, h1, c00, f15, f1, f14, c01, hr, f13, h2, e1, n2, c1, c2, q1, e2, c3, c4]
        rcases bool_tf (Go.Proofs.YtjhfhacdjmokaaaGreatDoor.within x.Y (-10000) 10000) with c5 | c5
        rotate_left 1
        focus
          simp (maxDischargeDepth := 9) only [↓gB, gV, gT, reduceIte, reduceCtorEq, Nat.reduceEqDiff, Nat.reduceAdd, Nat.reduceSub, Nat.reduceLeDiff, Nat.reduceLT, Int.reduceEq, Nat.reduceMul, h1, c00, f15, f1, f14, c01, hr, f13, h2, e1, n2, c1, c2, q1, e2, c3, c4, c5]
          refine Kup_val (by simp (maxDischargeDepth := 9) only [le_self, le_puts, le_put0, h1, hle, h2]) ?_
          focus (have e := nEc c00 (chk_bad h hx (nb1 (by assumption) (by first | exact pvp (by assumption) m2 (by simp [*]) | exact pvz (by assumption)) (by first | exact om1 (by assumption) | exact om2 (by assumption))) (by decide)); rw [rE1 (by rw [e]; decide), e]; done)
        rotate_right 1
        simp (maxDischargeDepth := 9) only [↓gB, gV, gT, reduceIte, reduceCtorEq, Nat.reduceEqDiff, Nat.reduceAdd, Nat.reduceSub, Nat.reduceLeDiff, Nat.reduceLT, Int.reduceEq, Nat.reduceMul, h1, c00, f15, f1, f14, c01, hr, f13, h2, e1, n2, c1, c2, q1, e2, c3, c4, c5]
        have q2 : Go.IntKind.i64.wrap (↑i + 1) = ↑i + 1 := wrap_id (by omega)
        simp (maxDischargeDepth := 9) only [↓gB, gV, gT, reduceIte, reduceCtorEq, Nat.reduceEqDiff, Nat.reduceAdd, Nat.reduceSub, Nat.reduceLeDiff, Nat.reduceLT, Int.reduceEq, Nat.reduceMul, h1, c00, f15, f1, f14, c01, hr, f13, h2, e1, n2, c1, c2, q1, e2, c3, c4, c5, q2]
        rw [N_lp]
        refine ⟨_, ?_, _, sub_refl _, i + 1, rfl, ?_, ?_, ?_, ?_, ?_, ?_, ?_, by simp (maxDischargeDepth := 9) only [↓gB, gV, gT, reduceIte, reduceCtorEq, Nat.reduceEqDiff, Nat.reduceAdd, Nat.reduceSub, Nat.reduceLeDiff, Nat.reduceLT, Int.reduceEq, Nat.reduceMul, h1, c00, f15, f1, f14, c01, hr, f13, h2, e1, n2, c1, c2, q1, e2, c3, c4, c5, q2, nat_succ, and_self]⟩
        · omega
        · omega
        · (exact chk_next h hx (nb0 (by assumption) (by first | exact pvp (by assumption) m2 (by simp [*]) | exact pvz (by assumption)) (om0 (by assumption) (by assumption))); done)
        · exact (le_put (by assumption) _) _ _ (by assumption)
        · exact RSl.put _ (by assumption) (by assumption)
        · exact RSl.put _ (by assumption) (by assumption)
        · exact RSl.put _ (by assumption) (by assumption)
        · (simp (maxDischargeDepth := 9) only [le_self, le_puts, le_put0, sub_self, sub_puts, sub_put0, h1, hle, h2]; done)
    · have he := nEc c00 (chk_end h c01)
      obtain ⟨hnl, hnr⟩ := nodes_rise he
      simp (maxDischargeDepth := 9) only [↓gB, gV, gT, reduceIte, reduceCtorEq, Nat.reduceEqDiff, Nat.reduceAdd, Nat.reduceSub, Nat.reduceLeDiff, Nat.reduceLT, Int.reduceEq, Nat.reduceMul, h1, c00, hr, f15, f1, f13, f14, c01]
      refine Xc_split _ _ _ _ _ (fun c0 => ?_) (fun c0 => ?_)
      · simp (maxDischargeDepth := 9) only [↓gB, gV, gT, reduceIte, reduceCtorEq, Nat.reduceEqDiff, Nat.reduceAdd, Nat.reduceSub, Nat.reduceLeDiff, Nat.reduceLT, Int.reduceEq, Nat.reduceMul, h1, c00, hr, f15, f1, f13, f14, c01, c0]
        refine Kup_val (by simp (maxDischargeDepth := 9) only [le_self, le_puts, le_put0, h1, hle]) ?_
        focus (rw [rE2 he c0]; done)
      · simp (maxDischargeDepth := 9) only [↓gB, gV, gT, reduceIte, reduceCtorEq, Nat.reduceEqDiff, Nat.reduceAdd, Nat.reduceSub, Nat.reduceLeDiff, Nat.reduceLT, Int.reduceEq, Nat.reduceMul, h1, c00, hr, f15, f1, f13, f14, c01, c0]
        focus
          refine Xloop_intro _ _ _ _ _ (fun k f G' => ∃ (i : Nat), k = ar.length - i ∧ (i ≤ ar.length) ∧ (chk (arcBad ns) none ar = chk (arcBad ns) (prevOf ar i) (ar.drop i)) ∧ (G' r1 = some (.cells [.slice va ns.length vc, .slice wa ar.length wc, .slice ua bs.length uc].toArray 26 (0, 0), true)) ∧ (RSl rNode G' (.slice va ns.length vc) ns) ∧ (RSl rArc G' (.slice wa ar.length wc) ar) ∧ (RSl rBan G' (.slice ua bs.length uc) bs) ∧ (G.le G') ∧ f 59 = V i ∧ f 1 = Go.Value.pointer (Option.some { block := r1, off := 0 }) ∧ f 57 = Go.Value.slice wa ar.length wc ∧ f 58 = Go.Value.int Go.IntKind.i64 ↑ar.length) _ ⟨0, rfl, ?_, ?_, ?_, ?_, ?_, ?_, ?_, by simp (maxDischargeDepth := 9) only [↓gB, gV, gT, reduceIte, reduceCtorEq, Nat.reduceEqDiff, Nat.reduceAdd, Nat.reduceSub, Nat.reduceLeDiff, Nat.reduceLT, Int.reduceEq, Nat.reduceMul, h1, c00, hr, f15, f1, f13, f14, c01, c0, and_self]⟩ ?_
          · omega
          · rfl
          · assumption
          · assumption
          · assumption
          · assumption
          · assumption
          rintro k f G' ⟨i, rfl, hi, h, hr, hv, hw, hu, hle, f59, f1, f57, f58⟩
        simp (maxDischargeDepth := 9) only [↓gB, gV, gT, reduceIte, reduceCtorEq, Nat.reduceEqDiff, Nat.reduceAdd, Nat.reduceSub, Nat.reduceLeDiff, Nat.reduceLT, Int.reduceEq, Nat.reduceMul, h1, c00, hr, f15, f1, f13, f14, c01, c0, hr, f59, f1, f57, f58]
        refine Xc_split _ _ _ _ _ (fun c1 => ?_) (fun c1 => ?_)
        · obtain ⟨x, hx⟩ : ∃ x, ar[i]? = some x := ⟨_, List.getElem?_eq_getElem (by omega)⟩
          have hxk := hk x (List.mem_of_getElem? hx)
          simp (maxDischargeDepth := 9) only [↓gB, gV, gT, reduceIte, reduceCtorEq, Nat.reduceEqDiff, Nat.reduceAdd, Nat.reduceSub, Nat.reduceLeDiff, Nat.reduceLT, Int.reduceEq, Nat.reduceMul, h1, c00, hr, f15, f1, f13, f14, c01, c0, hr, f59, f1, f57, f58, c1]
          obtain ⟨x1, a1, s1, m1, rfl, ⟨v1, rfl, w1⟩, e1⟩ := hw.at (i) (by omega) 5 rfl
          obtain ⟨aw1, cw1, rfl⟩ := RSl.val w1
          simp (maxDischargeDepth := 9) only [↓gB, gV, gT, reduceIte, reduceCtorEq, Nat.reduceEqDiff, Nat.reduceAdd, Nat.reduceSub, Nat.reduceLeDiff, Nat.reduceLT, Int.reduceEq, Nat.reduceMul, h1, c00, f15, f1, f13, f14, c01, c0, f59, f1, f58, c1, hr, hr, f57, e1]
          refine vguard_intro (by simp) ?_
          refine Yn2 fun r2 h2 => ?_
          simp (maxDischargeDepth := 9) only [↓gB, gV, gT, reduceIte, reduceCtorEq, Nat.reduceEqDiff, Nat.reduceAdd, Nat.reduceSub, Nat.reduceLeDiff, Nat.reduceLT, Int.reduceEq, Nat.reduceMul, h1, c00, f15, f1, f13, f14, c01, c0, f59, f1, f58, c1, hr, hr, f57, e1, h2]
          refine Ycp (p27) ?_
          simp (maxDischargeDepth := 9) only [↓gB, gV, gT, reduceIte, reduceCtorEq, Nat.reduceEqDiff, Nat.reduceAdd, Nat.reduceSub, Nat.reduceLeDiff, Nat.reduceLT, Int.reduceEq, Nat.reduceMul, h1, c00, f15, f1, f13, f14, c01, c0, f59, f1, f58, c1, hr, hr, f57, e1, h2]
          obtain rfl : x = x1 := by rw [hx] at m1; cases m1; rfl
          have n2 : r1 ≠ r2 := ne_of_none hr h2
          have hpz : ¬ (0 : Int) < i → (prevOf ar i).any (fun q => !sLt q.Key x.Key) = false := fun q => pvz q
          focus
            rcases bool_tf (Go.Proofs.YtjhfhacdjmokaaaGreatDoor.isKey x.Key) with c2 | c2
            rotate_left 1
            focus
              simp (maxDischargeDepth := 9) only [↓gB, gV, gT, reduceIte, reduceCtorEq, Nat.reduceEqDiff, Nat.reduceAdd, Nat.reduceSub, Nat.reduceLeDiff, Nat.reduceLT, Int.reduceEq, Nat.reduceMul, h1, c00, f15, f1, f13, f14, c01, c0, f59, f1, f58, c1, hr, hr, f57, h2, e1, n2, c2]
              refine Kup_val (by simp (maxDischargeDepth := 9) only [le_self, le_puts, le_put0, h1, hle, hle, h2]) ?_
              focus (rw [rE3 he c0 (chk_bad h hx (ab5 (by assumption)) (by decide)) (by decide)]; done)
            rotate_right 1
            simp (maxDischargeDepth := 9) only [↓gB, gV, gT, reduceIte, reduceCtorEq, Nat.reduceEqDiff, Nat.reduceAdd, Nat.reduceSub, Nat.reduceLeDiff, Nat.reduceLT, Int.reduceEq, Nat.reduceMul, h1, c00, f15, f1, f13, f14, c01, c0, f59, f1, f58, c1, hr, hr, f57, h2, e1, n2, c2]
            refine Xdraw_intro [0, 1, 2, 3, 4, 5, 6, 7, 8, 9, 10, 11, 12, 13, 14] mixed (by kernel_rfl) (by decide +kernel) ?_
            simp (maxDischargeDepth := 9) only [↓gB, gV, gT, reduceIte, reduceCtorEq, Nat.reduceEqDiff, Nat.reduceAdd, Nat.reduceSub, Nat.reduceLeDiff, Nat.reduceLT, Int.reduceEq, Nat.reduceMul, h1, c00, f15, f1, f13, f14, c01, c0, f59, f1, f58, c1, hr, hr, f57, h2, e1, n2, c2]
            by_cases c3 : (0 : Int) < ↑i
            rotate_left 1
            focus
              simp (maxDischargeDepth := 9) only [↓gB, gV, gT, reduceIte, reduceCtorEq, Nat.reduceEqDiff, Nat.reduceAdd, Nat.reduceSub, Nat.reduceLeDiff, Nat.reduceLT, Int.reduceEq, Nat.reduceMul, h1, c00, f15, f1, f13, f14, c01, c0, f59, f1, f58, c1, hr, hr, f57, h2, e1, n2, c2, c3]
              refine Ycp (p29 (by exact RSl.put _ (by assumption) (by assumption)) (by omega)) ?_
              simp (maxDischargeDepth := 9) only [↓gB, gV, gT, reduceIte, reduceCtorEq, Nat.reduceEqDiff, Nat.reduceAdd, Nat.reduceSub, Nat.reduceLeDiff, Nat.reduceLT, Int.reduceEq, Nat.reduceMul, h1, c00, f15, f1, f13, f14, c01, c0, f59, f1, f58, c1, hr, hr, f57, h2, e1, n2, c2, c3]
              by_cases c4 : (Go.Proofs.YtjhfhacdjmokaaaGreatDoor.keyAt Go.Proofs.YtjhfhacdjmokaaaGreatDoor.SNode.Key ns x.From : Int) < 0
              rotate_left 1
              focus
                simp (maxDischargeDepth := 9) only [↓gB, gV, gT, reduceIte, reduceCtorEq, Nat.reduceEqDiff, Nat.reduceAdd, Nat.reduceSub, Nat.reduceLeDiff, Nat.reduceLT, Int.reduceEq, Nat.reduceMul, h1, c00, f15, f1, f13, f14, c01, c0, f59, f1, f58, c1, hr, hr, f57, h2, e1, n2, c2, c3, c4]
                refine Ycp (p29 (by exact RSl.put _ (by assumption) (by assumption)) (by omega)) ?_
                simp (maxDischargeDepth := 9) only [↓gB, gV, gT, reduceIte, reduceCtorEq, Nat.reduceEqDiff, Nat.reduceAdd, Nat.reduceSub, Nat.reduceLeDiff, Nat.reduceLT, Int.reduceEq, Nat.reduceMul, h1, c00, f15, f1, f13, f14, c01, c0, f59, f1, f58, c1, hr, hr, f57, h2, e1, n2, c2, c3, c4]
                refine Xc_split _ _ _ _ _ (fun c5 => ?_) (fun c5 => ?_)
                rotate_left 1
                focus
                  simp (maxDischargeDepth := 9) only [↓gB, gV, gT, reduceIte, reduceCtorEq, Nat.reduceEqDiff, Nat.reduceAdd, Nat.reduceSub, Nat.reduceLeDiff, Nat.reduceLT, Int.reduceEq, Nat.reduceMul, h1, c00, f15, f1, f13, f14, c01, c0, f59, f1, f58, c1, hr, hr, f57, h2, e1, n2, c2, c3, c4, c5]
                  refine Xc_split _ _ _ _ _ (fun c6 => ?_) (fun c6 => ?_)
                  rotate_left 1
                  focus
                    simp (maxDischargeDepth := 9) only [↓gB, gV, gT, reduceIte, reduceCtorEq, Nat.reduceEqDiff, Nat.reduceAdd, Nat.reduceSub, Nat.reduceLeDiff, Nat.reduceLT, Int.reduceEq, Nat.reduceMul, h1, c00, f15, f1, f13, f14, c01, c0, f59, f1, f58, c1, hr, hr, f57, h2, e1, n2, c2, c3, c4, c5, c6]
                    refine Ycp (p28) ?_
                    simp (maxDischargeDepth := 9) only [↓gB, gV, gT, reduceIte, reduceCtorEq, Nat.reduceEqDiff, Nat.reduceAdd, Nat.reduceSub, Nat.reduceLeDiff, Nat.reduceLT, Int.reduceEq, Nat.reduceMul, h1, c00, f15, f1, f13, f14, c01, c0, f59, f1, f58, c1, hr, hr, f57, h2, e1, n2, c2, c3, c4, c5, c6]
                    rcases bool_tf (Go.Proofs.YtjhfhacdjmokaaaGreatDoor.within x.Long 1 1000000) with c7 | c7
                    rotate_left 1
                    focus
                      simp (maxDischargeDepth := 9) only [↓gB, gV, gT, reduceIte, reduceCtorEq, Nat.reduceEqDiff, Nat.reduceAdd, Nat.reduceSub, Nat.reduceLeDiff, Nat.reduceLT, Int.reduceEq, Nat.reduceMul, h1, c00, f15, f1, f13, f14, c01, c0, f59, f1, f58, c1, hr, hr, f57, h2, e1, n2, c2, c3, c4, c5, c6, c7]
                      refine Kup_val (by simp (maxDischargeDepth := 9) only [le_self, le_puts, le_put0, h1, hle, hle, h2]) ?_
                      focus (rw [rE3 he c0 (chk_bad h hx (ab1 (by assumption) (by first | exact pvp (by assumption) m2 (by simp [*]) | exact hpz (by assumption)) (by assumption) (by assumption) (by assumption) (by assumption)) (by decide)) (by decide)]; done)
                    rotate_right 1
                    simp (maxDischargeDepth := 9) only [↓gB, gV, gT, reduceIte, reduceCtorEq, Nat.reduceEqDiff, Nat.reduceAdd, Nat.reduceSub, Nat.reduceLeDiff, Nat.reduceLT, Int.reduceEq, Nat.reduceMul, h1, c00, f15, f1, f13, f14, c01, c0, f59, f1, f58, c1, hr, hr, f57, h2, e1, n2, c2, c3, c4, c5, c6, c7]
                    refine Ycp (p30 (by exact RSl.put _ (by assumption) (by assumption)) (by omega)) ?_
                    simp (maxDischargeDepth := 9) only [↓gB, gV, gT, reduceIte, reduceCtorEq, Nat.reduceEqDiff, Nat.reduceAdd, Nat.reduceSub, Nat.reduceLeDiff, Nat.reduceLT, Int.reduceEq, Nat.reduceMul, h1, c00, f15, f1, f13, f14, c01, c0, f59, f1, f58, c1, hr, hr, f57, h2, e1, n2, c2, c3, c4, c5, c6, c7]
                    refine Xc_split _ _ _ _ _ (fun c8 => ?_) (fun c8 => ?_)
                    rotate_left 1
                    focus
                      simp (maxDischargeDepth := 9) only [↓gB, gV, gT, reduceIte, reduceCtorEq, Nat.reduceEqDiff, Nat.reduceAdd, Nat.reduceSub, Nat.reduceLeDiff, Nat.reduceLT, Int.reduceEq, Nat.reduceMul, h1, c00, f15, f1, f13, f14, c01, c0, f59, f1, f58, c1, hr, hr, f57, h2, e1, n2, c2, c3, c4, c5, c6, c7, c8]
                      have q1 : Go.IntKind.i64.wrap (↑i + 1) = ↑i + 1 := wrap_id (by omega)
                      simp (maxDischargeDepth := 9) only [↓gB, gV, gT, reduceIte, reduceCtorEq, Nat.reduceEqDiff, Nat.reduceAdd, Nat.reduceSub, Nat.reduceLeDiff, Nat.reduceLT, Int.reduceEq, Nat.reduceMul, h1, c00, f15, f1, f13, f14, c01, c0, f59, f1, f58, c1, hr, hr, f57, h2, e1, n2, c2, c3, c4, c5, c6, c7, c8, q1]
                      rw [N_lp]
                      refine ⟨_, ?_, _, sub_refl _, i + 1, rfl, ?_, ?_, ?_, ?_, ?_, ?_, ?_, by simp (maxDischargeDepth := 9) only [↓gB, gV, gT, reduceIte, reduceCtorEq, Nat.reduceEqDiff, Nat.reduceAdd, Nat.reduceSub, Nat.reduceLeDiff, Nat.reduceLT, Int.reduceEq, Nat.reduceMul, h1, c00, f15, f1, f13, f14, c01, c0, f59, f1, f58, c1, hr, hr, f57, h2, e1, n2, c2, c3, c4, c5, c6, c7, c8, q1, nat_succ, and_self]⟩
                      · omega
                      · omega
                      · (exact chk_next h hx ((abk (by assumption) (by first | exact pvp (by assumption) m2 (by simp [*]) | exact hpz (by assumption)) (by assumption) (by assumption) (by assumption) (by assumption)).trans (by omega)); done)
                      · exact (le_put (by assumption) _) _ _ (by assumption)
                      · exact RSl.put _ (by assumption) (by assumption)
                      · exact RSl.put _ (by assumption) (by assumption)
                      · exact RSl.put _ (by assumption) (by assumption)
                      · (simp (maxDischargeDepth := 9) only [le_self, le_puts, le_put0, sub_self, sub_puts, sub_put0, h1, hle, hle, h2]; done)
                    rotate_right 1
                    simp (maxDischargeDepth := 9) only [↓gB, gV, gT, reduceIte, reduceCtorEq, Nat.reduceEqDiff, Nat.reduceAdd, Nat.reduceSub, Nat.reduceLeDiff, Nat.reduceLT, Int.reduceEq, Nat.reduceMul, h1, c00, f15, f1, f13, f14, c01, c0, f59, f1, f58, c1, hr, hr, f57, h2, e1, n2, c2, c3, c4, c5, c6, c7, c8]
                    refine Kup_val (by simp (maxDischargeDepth := 9) only [le_self, le_puts, le_put0, h1, hle, hle, h2]) ?_
                    focus (rw [rE3 he c0 (chk_bad h hx (abk (by assumption) (by first | exact pvp (by assumption) m2 (by simp [*]) | exact hpz (by assumption)) (by assumption) (by assumption) (by assumption) (by assumption)) (by assumption)) (by assumption)]; done)
                  rotate_right 1
                  simp (maxDischargeDepth := 9) only [↓gB, gV, gT, reduceIte, reduceCtorEq, Nat.reduceEqDiff, Nat.reduceAdd, Nat.reduceSub, Nat.reduceLeDiff, Nat.reduceLT, Int.reduceEq, Nat.reduceMul, h1, c00, f15, f1, f13, f14, c01, c0, f59, f1, f58, c1, hr, hr, f57, h2, e1, n2, c2, c3, c4, c5, c6]
                  refine Kup_val (by simp (maxDischargeDepth := 9) only [le_self, le_puts, le_put0, h1, hle, hle, h2]) ?_
                  focus (rw [rE3 he c0 (chk_bad h hx (ab6 (by assumption) (by first | exact pvp (by assumption) m2 (by simp [*]) | exact hpz (by assumption)) (by assumption) (by assumption) (by assumption)) (by decide)) (by decide)]; done)
                rotate_right 1
                simp (maxDischargeDepth := 9) only [↓gB, gV, gT, reduceIte, reduceCtorEq, Nat.reduceEqDiff, Nat.reduceAdd, Nat.reduceSub, Nat.reduceLeDiff, Nat.reduceLT, Int.reduceEq, Nat.reduceMul, h1, c00, f15, f1, f13, f14, c01, c0, f59, f1, f58, c1, hr, hr, f57, h2, e1, n2, c2, c3, c4, c5]
                refine Kup_val (by simp (maxDischargeDepth := 9) only [le_self, le_puts, le_put0, h1, hle, hle, h2]) ?_
                focus (rw [rE3 he c0 (chk_bad h hx (ab8 (by assumption) (by first | exact pvp (by assumption) m2 (by simp [*]) | exact hpz (by assumption)) (by first | exact .inl (by assumption) | exact .inr (by assumption))) (by decide)) (by decide)]; done)
              rotate_right 1
              simp (maxDischargeDepth := 9) only [↓gB, gV, gT, reduceIte, reduceCtorEq, Nat.reduceEqDiff, Nat.reduceAdd, Nat.reduceSub, Nat.reduceLeDiff, Nat.reduceLT, Int.reduceEq, Nat.reduceMul, h1, c00, f15, f1, f13, f14, c01, c0, f59, f1, f58, c1, hr, hr, f57, h2, e1, n2, c2, c3, c4]
              refine Kup_val (by simp (maxDischargeDepth := 9) only [le_self, le_puts, le_put0, h1, hle, hle, h2]) ?_
              focus (rw [rE3 he c0 (chk_bad h hx (ab8 (by assumption) (by first | exact pvp (by assumption) m2 (by simp [*]) | exact hpz (by assumption)) (by first | exact .inl (by assumption) | exact .inr (by assumption))) (by decide)) (by decide)]; done)
            rotate_right 1
            simp (maxDischargeDepth := 9) only [↓gB, gV, gT, reduceIte, reduceCtorEq, Nat.reduceEqDiff, Nat.reduceAdd, Nat.reduceSub, Nat.reduceLeDiff, Nat.reduceLT, Int.reduceEq, Nat.reduceMul, h1, c00, f15, f1, f13, f14, c01, c0, f59, f1, f58, c1, hr, hr, f57, h2, e1, n2, c2, c3]
            have q1 : Go.IntKind.i64.wrap (↑i - 1) = ↑i - 1 := wrap_id (by omega)
            simp (maxDischargeDepth := 9) only [↓gB, gV, gT, reduceIte, reduceCtorEq, Nat.reduceEqDiff, Nat.reduceAdd, Nat.reduceSub, Nat.reduceLeDiff, Nat.reduceLT, Int.reduceEq, Nat.reduceMul, h1, c00, f15, f1, f13, f14, c01, c0, f59, f1, f58, c1, hr, hr, f57, h2, e1, n2, c2, c3, q1]
            refine vguard_intro (by omega) ?_
            obtain ⟨x2, s2, m2, ⟨v2, rfl, w2⟩, e2⟩ := hw.at' (i - 1) (by omega) 5 rfl
            obtain ⟨aw2, cw2, rfl⟩ := RSl.val w2
            simp (maxDischargeDepth := 9) only [↓gB, gV, gT, reduceIte, reduceCtorEq, Nat.reduceEqDiff, Nat.reduceAdd, Nat.reduceSub, Nat.reduceLeDiff, Nat.reduceLT, Int.reduceEq, Nat.reduceMul, h1, c00, f15, f1, f13, f14, c01, c0, f59, f1, f58, c1, hr, hr, f57, h2, e1, n2, c2, c3, q1, e2]
            rcases bool_tf (Go.GL.sLt x2.Key x.Key) with c4 | c4
            rotate_left 1
            focus
              simp (maxDischargeDepth := 9) only [↓gB, gV, gT, reduceIte, reduceCtorEq, Nat.reduceEqDiff, Nat.reduceAdd, Nat.reduceSub, Nat.reduceLeDiff, Nat.reduceLT, Int.reduceEq, Nat.reduceMul, h1, c00, f15, f1, f13, f14, c01, c0, f59, f1, f58, c1, hr, hr, f57, h2, e1, n2, c2, c3, q1, e2, c4]
              refine Kup_val (by simp (maxDischargeDepth := 9) only [le_self, le_puts, le_put0, h1, hle, hle, h2]) ?_
              focus (rw [rE3 he c0 (chk_bad h hx (ab7 (by assumption) (pvp (by assumption) m2 (by simp [*]))) (by decide)) (by decide)]; done)
            rotate_right 1
            simp (maxDischargeDepth := 9) only [↓gB, gV, gT, reduceIte, reduceCtorEq, Nat.reduceEqDiff, Nat.reduceAdd, Nat.reduceSub, Nat.reduceLeDiff, Nat.reduceLT, Int.reduceEq, Nat.reduceMul, h1, c00, f15, f1, f13, f14, c01, c0, f59, f1, f58, c1, hr, hr, f57, h2, e1, n2, c2, c3, q1, e2, c4]
            refine Ycp (p29 (by exact RSl.put _ (by assumption) (by assumption)) (by omega)) ?_
            simp (maxDischargeDepth := 9) only [↓gB, gV, gT, reduceIte, reduceCtorEq, Nat.reduceEqDiff, Nat.reduceAdd, Nat.reduceSub, Nat.reduceLeDiff, Nat.reduceLT, Int.reduceEq, Nat.reduceMul, h1, c00, f15, f1, f13, f14, c01, c0, f59, f1, f58, c1, hr, hr, f57, h2, e1, n2, c2, c3, q1, e2, c4]
            by_cases c5 : (Go.Proofs.YtjhfhacdjmokaaaGreatDoor.keyAt Go.Proofs.YtjhfhacdjmokaaaGreatDoor.SNode.Key ns x.From : Int) < 0
            rotate_left 1
            focus
              simp (maxDischargeDepth := 9) only [↓gB, gV, gT, reduceIte, reduceCtorEq, Nat.reduceEqDiff, Nat.reduceAdd, Nat.reduceSub, Nat.reduceLeDiff, Nat.reduceLT, Int.reduceEq, Nat.reduceMul, h1, c00, f15, f1, f13, f14, c01, c0, f59, f1, f58, c1, hr, hr, f57, h2, e1, n2, c2, c3, q1, e2, c4, c5]
              refine Ycp (p29 (by exact RSl.put _ (by assumption) (by assumption)) (by omega)) ?_
              simp (maxDischargeDepth := 9) only [↓gB, gV, gT, reduceIte, reduceCtorEq, Nat.reduceEqDiff, Nat.reduceAdd, Nat.reduceSub, Nat.reduceLeDiff, Nat.reduceLT, Int.reduceEq, Nat.reduceMul, h1, c00, f15, f1, f13, f14, c01, c0, f59, f1, f58, c1, hr, hr, f57, h2, e1, n2, c2, c3, q1, e2, c4, c5]
              refine Xc_split _ _ _ _ _ (fun c6 => ?_) (fun c6 => ?_)
              rotate_left 1
              focus
                simp (maxDischargeDepth := 9) only [↓gB, gV, gT, reduceIte, reduceCtorEq, Nat.reduceEqDiff, Nat.reduceAdd, Nat.reduceSub, Nat.reduceLeDiff, Nat.reduceLT, Int.reduceEq, Nat.reduceMul, h1, c00, f15, f1, f13, f14, c01, c0, f59, f1, f58, c1, hr, hr, f57, h2, e1, n2, c2, c3, q1, e2, c4, c5, c6]
                refine Xc_split _ _ _ _ _ (fun c7 => ?_) (fun c7 => ?_)
                rotate_left 1
                focus
                  simp (maxDischargeDepth := 9) only [↓gB, gV, gT, reduceIte, reduceCtorEq, Nat.reduceEqDiff, Nat.reduceAdd, Nat.reduceSub, Nat.reduceLeDiff, Nat.reduceLT, Int.reduceEq, Nat.reduceMul, h1, c00, f15, f1, f13, f14, c01, c0, f59, f1, f58, c1, hr, hr, f57, h2, e1, n2, c2, c3, q1, e2, c4, c5, c6, c7]
                  refine Ycp (p28) ?_
                  simp (maxDischargeDepth := 9) only [↓gB, gV, gT, reduceIte, reduceCtorEq, Nat.reduceEqDiff, Nat.reduceAdd, Nat.reduceSub, Nat.reduceLeDiff, Nat.reduceLT, Int.reduceEq, Nat.reduceMul, h1, c00, f15, f1, f13, f14, c01, c0, f59, f1, f58, c1, hr, hr, f57, h2, e1, n2, c2, c3, q1, e2, c4, c5, c6, c7]
                  rcases bool_tf (Go.Proofs.YtjhfhacdjmokaaaGreatDoor.within x.Long 1 1000000) with c8 | c8
                  rotate_left 1
                  focus
                    simp (maxDischargeDepth := 9) only [↓gB, gV, gT, reduceIte, reduceCtorEq, Nat.reduceEqDiff, Nat.reduceAdd, Nat.reduceSub, Nat.reduceLeDiff, Nat.reduceLT, Int.reduceEq, Nat.reduceMul, h1, c00, f15, f1, f13, f14, c01, c0, f59, f1, f58, c1, hr, hr, f57, h2, e1, n2, c2, c3, q1, e2, c4, c5, c6, c7, c8]
                    refine Kup_val (by simp (maxDischargeDepth := 9) only [le_self, le_puts, le_put0, h1, hle, hle, h2]) ?_
                    focus (rw [rE3 he c0 (chk_bad h hx (ab1 (by assumption) (by first | exact pvp (by assumption) m2 (by simp [*]) | exact hpz (by assumption)) (by assumption) (by assumption) (by assumption) (by assumption)) (by decide)) (by decide)]; done)
                  rotate_right 1
                  simp (maxDischargeDepth := 9) only [↓gB, gV, gT, reduceIte, reduceCtorEq, Nat.reduceEqDiff, Nat.reduceAdd, Nat.reduceSub, Nat.reduceLeDiff, Nat.reduceLT, Int.reduceEq, Nat.reduceMul, h1, c00, f15, f1, f13, f14, c01, c0, f59, f1, f58, c1, hr, hr, f57, h2, e1, n2, c2, c3, q1, e2, c4, c5, c6, c7, c8]
                  refine Ycp (p30 (by exact RSl.put _ (by assumption) (by assumption)) (by omega)) ?_
                  simp (maxDischargeDepth := 9) only [↓gB, gV, gT, reduceIte, reduceCtorEq, Nat.reduceEqDiff, Nat.reduceAdd, Nat.reduceSub, Nat.reduceLeDiff, Nat.reduceLT, Int.reduceEq, Nat.reduceMul, h1, c00, f15, f1, f13, f14, c01, c0, f59, f1, f58, c1, hr, hr, f57, h2, e1, n2, c2, c3, q1, e2, c4, c5, c6, c7, c8]
                  refine Xc_split _ _ _ _ _ (fun c9 => ?_) (fun c9 => ?_)
                  rotate_left 1
                  focus
                    simp (maxDischargeDepth := 9) only [↓gB, gV, gT, reduceIte, reduceCtorEq, Nat.reduceEqDiff, Nat.reduceAdd, Nat.reduceSub, Nat.reduceLeDiff, Nat.reduceLT, Int.reduceEq, Nat.reduceMul, h1, c00, f15, f1, f13, f14, c01, c0, f59, f1, f58, c1, hr, hr, f57, h2, e1, n2, c2, c3, q1, e2, c4, c5, c6, c7, c8, c9]
                    have q2 : Go.IntKind.i64.wrap (↑i + 1) = ↑i + 1 := wrap_id (by omega)
                    simp (maxDischargeDepth := 9) only [↓gB, gV, gT, reduceIte, reduceCtorEq, Nat.reduceEqDiff, Nat.reduceAdd, Nat.reduceSub, Nat.reduceLeDiff, Nat.reduceLT, Int.reduceEq, Nat.reduceMul, h1, c00, f15, f1, f13, f14, c01, c0, f59, f1, f58, c1, hr, hr, f57, h2, e1, n2, c2, c3, q1, e2, c4, c5, c6, c7, c8, c9, q2]
                    rw [N_lp]
                    refine ⟨_, ?_, _, sub_refl _, i + 1, rfl, ?_, ?_, ?_, ?_, ?_, ?_, ?_, by simp (maxDischargeDepth := 9) only [↓gB, gV, gT, reduceIte, reduceCtorEq, Nat.reduceEqDiff, Nat.reduceAdd, Nat.reduceSub, Nat.reduceLeDiff, Nat.reduceLT, Int.reduceEq, Nat.reduceMul, h1, c00, f15, f1, f13, f14, c01, c0, f59, f1, f58, c1, hr, hr, f57, h2, e1, n2, c2, c3, q1, e2, c4, c5, c6, c7, c8, c9, q2, nat_succ, and_self]⟩
                    · omega
                    · omega
                    · (exact chk_next h hx ((abk (by assumption) (by first | exact pvp (by assumption) m2 (by simp [*]) | exact hpz (by assumption)) (by assumption) (by assumption) (by assumption) (by assumption)).trans (by omega)); done)
                    · exact (le_put (by assumption) _) _ _ (by assumption)
                    · exact RSl.put _ (by assumption) (by assumption)
                    · exact RSl.put _ (by assumption) (by assumption)
                    · exact RSl.put _ (by assumption) (by assumption)
                    · (simp (maxDischargeDepth := 9) only [le_self, le_puts, le_put0, sub_self, sub_puts, sub_put0, h1, hle, hle, h2]; done)
                  rotate_right 1
                  simp (maxDischargeDepth := 9) only [↓gB, gV, gT, reduceIte, reduceCtorEq, Nat.reduceEqDiff, Nat.reduceAdd, Nat.reduceSub, Nat.reduceLeDiff, Nat.reduceLT, Int.reduceEq, Nat.reduceMul, h1, c00, f15, f1, f13, f14, c01, c0, f59, f1, f58, c1, hr, hr, f57, h2, e1, n2, c2, c3, q1, e2, c4, c5, c6, c7, c8, c9]
                  refine Kup_val (by simp (maxDischargeDepth := 9) only [le_self, le_puts, le_put0, h1, hle, hle, h2]) ?_
                  focus (rw [rE3 he c0 (chk_bad h hx (abk (by assumption) (by first | exact pvp (by assumption) m2 (by simp [*]) | exact hpz (by assumption)) (by assumption) (by assumption) (by assumption) (by assumption)) (by assumption)) (by assumption)]; done)
                rotate_right 1
                simp (maxDischargeDepth := 9) only [↓gB, gV, gT, reduceIte, reduceCtorEq, Nat.reduceEqDiff, Nat.reduceAdd, Nat.reduceSub, Nat.reduceLeDiff, Nat.reduceLT, Int.reduceEq, Nat.reduceMul, h1, c00, f15, f1, f13, f14, c01, c0, f59, f1, f58, c1, hr, hr, f57, h2, e1, n2, c2, c3, q1, e2, c4, c5, c6, c7]
                refine Kup_val (by simp (maxDischargeDepth := 9) only [le_self, le_puts, le_put0, h1, hle, hle, h2]) ?_
                focus (rw [rE3 he c0 (chk_bad h hx (ab6 (by assumption) (by first | exact pvp (by assumption) m2 (by simp [*]) | exact hpz (by assumption)) (by assumption) (by assumption) (by assumption)) (by decide)) (by decide)]; done)
              rotate_right 1
              simp (maxDischargeDepth := 9) only [↓gB, gV, gT, reduceIte, reduceCtorEq, Nat.reduceEqDiff, Nat.reduceAdd, Nat.reduceSub, Nat.reduceLeDiff, Nat.reduceLT, Int.reduceEq, Nat.reduceMul, h1, c00, f15, f1, f13, f14, c01, c0, f59, f1, f58, c1, hr, hr, f57, h2, e1, n2, c2, c3, q1, e2, c4, c5, c6]
              refine Kup_val (by simp (maxDischargeDepth := 9) only [le_self, le_puts, le_put0, h1, hle, hle, h2]) ?_
              focus (rw [rE3 he c0 (chk_bad h hx (ab8 (by assumption) (by first | exact pvp (by assumption) m2 (by simp [*]) | exact hpz (by assumption)) (by first | exact .inl (by assumption) | exact .inr (by assumption))) (by decide)) (by decide)]; done)
            rotate_right 1
            simp (maxDischargeDepth := 9) only [↓gB, gV, gT, reduceIte, reduceCtorEq, Nat.reduceEqDiff, Nat.reduceAdd, Nat.reduceSub, Nat.reduceLeDiff, Nat.reduceLT, Int.reduceEq, Nat.reduceMul, h1, c00, f15, f1, f13, f14, c01, c0, f59, f1, f58, c1, hr, hr, f57, h2, e1, n2, c2, c3, q1, e2, c4, c5]
            refine Kup_val (by simp (maxDischargeDepth := 9) only [le_self, le_puts, le_put0, h1, hle, hle, h2]) ?_
            focus (rw [rE3 he c0 (chk_bad h hx (ab8 (by assumption) (by first | exact pvp (by assumption) m2 (by simp [*]) | exact hpz (by assumption)) (by first | exact .inl (by assumption) | exact .inr (by assumption))) (by decide)) (by decide)]; done)
        · have hc := chk_end h c1
          simp (maxDischargeDepth := 9) only [↓gB, gV, gT, reduceIte, reduceCtorEq, Nat.reduceEqDiff, Nat.reduceAdd, Nat.reduceSub, Nat.reduceLeDiff, Nat.reduceLT, Int.reduceEq, Nat.reduceMul, h1, c00, hr, f15, f1, f13, f14, c01, c0, hr, f59, f1, f57, f58, c1]
          refine Ycp (p31 (by assumption) (by assumption) (by assumption) (by assumption)) ?_
          simp (maxDischargeDepth := 9) only [↓gB, gV, gT, reduceIte, reduceCtorEq, Nat.reduceEqDiff, Nat.reduceAdd, Nat.reduceSub, Nat.reduceLeDiff, Nat.reduceLT, Int.reduceEq, Nat.reduceMul, h1, c00, hr, f15, f1, f13, f14, c01, c0, hr, f59, f1, f57, f58, c1]
          refine Kup_val (by simp (maxDischargeDepth := 9) only [le_self, le_puts, le_put0, h1, hle, hle]) ?_
          focus (rw [rE0 he c0 hc]; done)
end Go.Proofs.YtjhfhacdjmokaaaGreatDoor
namespace Go.Proofs.YtjhfhacdjmokaaaGreatDoor
open Go Go.GL
attribute [local irreducible] Ycall GCalls
set_option maxRecDepth 10000
set_option maxHeartbeats 0
abbrev Seen := List (ByteArray × Bool)
def nodesF : Option ByteArray → List ByteArray → Seen → Int × Seen
  | _, [], m => (0, m)
  | p, n :: l, m => if isKey n = false then (5, m) else if p.any (fun q => !sLt q n) then (7, m) else if mget false n m then (6, m) else nodesF (some n) l (mset n true m)
theorem pv_p {α : Type} {l : List α} {k : Nat} {z : α} {f : α → Bool} {b : Bool} (h : (0:Int) < k) (hz : l[k-1]? = some z) (hf : f z = b) : (prevOf l k).any f = b := by rw [prevOf_p h, hz]; exact hf
theorem pv_z {α : Type} {l : List α} {k : Nat} {f : α → Bool} (h : ¬ (0:Int) < k) : (prevOf l k).any f = false := by rw [prevOf_z h]; rfl
theorem nf5 {ns : List ByteArray} {k : Nat} {y : ByteArray} {m mm : Seen} (hh : nodesF none ns m = nodesF (prevOf ns k) (ns.drop k) mm) (m2 : ns[k]? = some y) (c : isKey y = false) : nodesF none ns m = (5, mm) := by rw [hh, drop_at m2]; simp [nodesF, c]
theorem nf7 {ns : List ByteArray} {k : Nat} {y : ByteArray} {m mm : Seen} (hh : nodesF none ns m = nodesF (prevOf ns k) (ns.drop k) mm) (m2 : ns[k]? = some y) (c : isKey y = true) (c2 : (prevOf ns k).any (fun q => !sLt q y) = true) : nodesF none ns m = (7, mm) := by rw [hh, drop_at m2]; simp only [nodesF, c, c2, if_true]; rfl
theorem nf6 {ns : List ByteArray} {k : Nat} {y : ByteArray} {m mm : Seen} (hh : nodesF none ns m = nodesF (prevOf ns k) (ns.drop k) mm) (m2 : ns[k]? = some y) (c : isKey y = true) (c2 : (prevOf ns k).any (fun q => !sLt q y) = false) (c3 : mget false y mm = true) : nodesF none ns m = (6, mm) := by rw [hh, drop_at m2]; simp only [nodesF, c, c2, c3, if_true]; rfl
theorem nf0 {ns : List ByteArray} {k : Nat} {y : ByteArray} {m mm : Seen} (hh : nodesF none ns m = nodesF (prevOf ns k) (ns.drop k) mm) (m2 : ns[k]? = some y) (c : isKey y = true) (c2 : (prevOf ns k).any (fun q => !sLt q y) = false) (c3 : mget false y mm = false) : nodesF none ns m = nodesF (prevOf ns (k + 1)) (ns.drop (k + 1)) (mset y true mm) := by
  rw [hh, drop_at m2, prevOf_s, m2]; simp only [nodesF, c, c2, c3]; rfl
theorem nf_end {ns : List ByteArray} {k : Nat} {m mm : Seen} (hh : nodesF none ns m = nodesF (prevOf ns k) (ns.drop k) mm) (hk : ¬ (k : Int) < ns.length) : nodesF none ns m = (0, mm) := by rw [hh, List.drop_eq_nil_of_le (by omega)]; rfl
end Go.Proofs.YtjhfhacdjmokaaaGreatDoor
namespace Go.Proofs.YtjhfhacdjmokaaaGreatDoor
open Go Go.GL
attribute [local irreducible] Ycall GCalls
set_option maxRecDepth 10000
set_option maxHeartbeats 0
end Go.Proofs.YtjhfhacdjmokaaaGreatDoor
namespace Go.Proofs.YtjhfhacdjmokaaaGreatDoor
open Go Go.GL
attribute [local irreducible] Ycall GCalls
set_option maxRecDepth 10000
set_option maxHeartbeats 0
theorem idx_has (l : List ByteArray) (t : ByteArray) : decide (0 ≤ (match l.findIdx? (fun x => decide (x = t)) with | some i => (i : Int) | none => -1)) = has t l := by
  cases h : l.findIdx? (fun x => decide (x = t)) with
  | none =>
    rw [List.findIdx?_eq_none_iff] at h
    have : has t l = false := by unfold has; rw [List.any_eq_false]; intro x hx; have := h x hx; simp at this ⊢; exact this
    rw [this]; rfl
  | some i =>
    rw [List.findIdx?_eq_some_iff_getElem] at h
    obtain ⟨hi, h1, _⟩ := h
    have : has t l = true := by unfold has; exact List.any_eq_true.2 ⟨l[i], by simp, h1⟩
    rw [this]; simp
end Go.Proofs.YtjhfhacdjmokaaaGreatDoor
namespace Go.Proofs.YtjhfhacdjmokaaaGreatDoor
open Go Go.GL
attribute [local irreducible] Ycall GCalls
set_option maxRecDepth 10000
set_option maxHeartbeats 0
def keyF (s : ByteArray) : Int := if isKey s then 0 else 5
def namesF (l : List ByteArray) (n : Int) : Int := if n < l.length then 2 else if l.any (fun s => !isKey s) then 5 else 0
end Go.Proofs.YtjhfhacdjmokaaaGreatDoor
namespace Go.Proofs.YtjhfhacdjmokaaaGreatDoor
open Go Go.GL
attribute [local irreducible] Ycall GCalls
set_option maxRecDepth 10000
set_option maxHeartbeats 0
theorem nodes_ok : ∀ {p : Option ByteArray} {l : List ByteArray} {m : Seen}, (nodesF p l m).1 = 0 → sorted l ∧ (∀ q, p = some q → ∀ x ∈ l, sLt q x = true) ∧ ∀ x ∈ l, isKey x = true
  | _, [], _, _ => ⟨List.Pairwise.nil, by simp, by simp⟩
  | p, n :: l, m, h => by
    unfold nodesF at h
    split at h
    · cases h
    · rename_i hk
      split at h
      · cases h
      · rename_i hp
        split at h
        · cases h
        · obtain ⟨h1, h2, h3⟩ := nodes_ok h
          refine ⟨List.pairwise_cons.2 ⟨fun y hy => h2 n rfl y hy, h1⟩, ?_, ?_⟩
          · rintro q rfl x hx
            have hq : sLt q n = true := by simpa using hp
            rcases List.mem_cons.1 hx with rfl | hx
            · exact hq
            · exact sLt_trans hq (h2 n rfl x hx)
          · intro x hx
            rcases List.mem_cons.1 hx with rfl | hx
            · simpa using hk
            · exact h3 x hx
end Go.Proofs.YtjhfhacdjmokaaaGreatDoor
namespace Go.Proofs.YtjhfhacdjmokaaaGreatDoor
open Go Go.GL
attribute [local irreducible] Ycall GCalls
set_option maxRecDepth 10000
set_option maxHeartbeats 0
theorem lastOr_get {α : Type} : ∀ (l : List α) (p : Option α), lastOr p l = if l = [] then p else l[l.length - 1]?
  | [], _ => by simp [lastOr]
  | [x], _ => by simp [lastOr]
  | x :: y :: l, p => by
    have := lastOr_get (y :: l) (some x)
    simp only [lastOr] at this ⊢
    rw [this]
    simp
theorem compCalls {e : TypeId} {G0 G : GH} {v : Value} {xs : List ByteArray} (hr : Row Rp.str e G0 G v xs) (hn : xs.length ≤ 1000000000) (hl : G0.le G) : GCalls Tryz.prog 58 [v].toArray G (fun u G' => Row Rp.str e G0 G' u (compF none xs) ∧ G0.le G') :=
  gcompact (fun blk cap zs w hH h1 h2 => Any.slices_Compact_string Tryz.layComp blk 0 cap zs w hH h1 h2) (fun a cap w => Any.slices_Compact_string_empty Tryz.layComp a cap w) hr hn hl
end Go.Proofs.YtjhfhacdjmokaaaGreatDoor
namespace Go.Proofs.YtjhfhacdjmokaaaGreatDoor
open Go Go.GL
attribute [local irreducible] Ycall GCalls
set_option maxRecDepth 10000
set_option maxHeartbeats 0
end Go.Proofs.YtjhfhacdjmokaaaGreatDoor
namespace Go.Proofs.YtjhfhacdjmokaaaGreatDoor
open Go Go.GL
attribute [local irreducible] Ycall GCalls
set_option maxRecDepth 10000
set_option maxHeartbeats 0
def swp {α : Type} (l : List α) (j : Nat) : List α := match l[j]?, l[j+1]? with
  | some x, some y => (l.set (j + 1) x).set j y
  | _, _ => l
def sink {α : Type} (cf : α → α → Int) : Nat → List α → List α
  | 0, l => l
  | j + 1, l => match l[j]?, l[j+1]? with
    | some x, some y => if cf y x < 0 then sink cf j (swp l j) else l
    | _, _ => l
def isortTo {α : Type} (cf : α → α → Int) (l : List α) : Nat → List α
  | 0 => l
  | i + 1 => sink cf i (isortTo cf l i)
def isort {α : Type} (cf : α → α → Int) (l : List α) : List α := isortTo cf l l.length
theorem swp_len {α : Type} (l : List α) (j : Nat) : (swp l j).length = l.length := by
  unfold swp; split <;> simp
theorem sink_len {α : Type} (cf : α → α → Int) : ∀ (j : Nat) (l : List α), (sink cf j l).length = l.length
  | 0, l => rfl
  | j + 1, l => by
    unfold sink; split
    · split
      · rw [sink_len cf j, swp_len]
      · rfl
    · rfl
theorem isortTo_len {α : Type} (cf : α → α → Int) (l : List α) : ∀ i, (isortTo cf l i).length = l.length
  | 0 => rfl
  | i + 1 => by unfold isortTo; rw [sink_len, isortTo_len cf l i]
theorem sink_step {α : Type} {cf : α → α → Int} {L : List α} {j : Nat} {x y : α} (hj : (0 : Int) < j) (hx : L[j]? = some x) (hy : L[j-1]? = some y) : sink cf j L = if cf x y < 0 then sink cf (j - 1) ((L.set j y).set (j - 1) x) else L := by
  cases j with
  | zero => omega
  | succ j =>
    simp only [Nat.add_sub_cancel] at hy
    simp [sink, hx, hy, swp]
end Go.Proofs.YtjhfhacdjmokaaaGreatDoor
namespace Go.Proofs.YtjhfhacdjmokaaaGreatDoor
open Go Go.GL
attribute [local irreducible] Ycall GCalls
set_option maxRecDepth 10000
set_option maxHeartbeats 0
theorem p76 {G0 : GH} {x : Int} (h0 : 0 ≤ x) (h1 : x ≤ 18446744073709551615) : Pure Tryz.prog G0 76 [.int .u64 x] (V (Lib.bitLen x.toNat)) := pure_of_calls G0 (fun w => Any.bits_Len Tryz.layLen x w h0 h1)
theorem s84 {G0 G : GH} {v : Value} {xs : List ByteArray} {n : Nat} (hrow : Row Rp.str 9 G0 G v xs) (hn : n = xs.length) (hb : xs.length ≤ 1000000000) :
    GCalls Tryz.prog 84 [v, V 0, V n].toArray G (fun u G' => u = .tuple #[] ∧ Row Rp.str 9 G0 G' v (isort sCmp xs) ∧ (∀ b o, G b = some o → notAt v b → G' b = some o) ∧ (G0.le G → G0.le G')) := by
  subst hn
  obtain ⟨a, c, rfl⟩ := hrow.val
  refine enter Tryz.func84 49 #[] rfl Tryz.ntmps84 rfl (by decide +kernel) rfl ?_
  simp (maxDischargeDepth := 9) only [↓gB, gV, gT, reduceIte, reduceCtorEq, Nat.reduceEqDiff, Nat.reduceAdd, Nat.reduceSub, Nat.reduceLeDiff, Nat.reduceLT, Int.reduceEq, Nat.reduceMul]
  have q1 : Go.IntKind.i64.wrap (0 + 1) = 0 + 1 := wrap_id (by omega)
  simp (maxDischargeDepth := 9) only [↓gB, gV, gT, reduceIte, reduceCtorEq, Nat.reduceEqDiff, Nat.reduceAdd, Nat.reduceSub, Nat.reduceLeDiff, Nat.reduceLT, Int.reduceEq, Nat.reduceMul, q1]
  focus
    refine Xloop_intro _ _ _ _ _ (fun k f G' => ∃ (i : Nat), k = xs.length - i ∧ (1 ≤ i) ∧ (i ≤ xs.length ∨ i = 1) ∧ (Row Rp.str 9 G0 G' (.slice a xs.length c) (isortTo sCmp xs i)) ∧ (∀ b o, G b = some o → notAt (.slice a xs.length c) b → G' b = some o) ∧ (G0.le G → G0.le G') ∧ f 6 = V i ∧ f 0 = Go.Value.slice a xs.length c ∧ f 1 = Go.GL.V 0 ∧ f 2 = Go.GL.V ↑xs.length) _ ⟨1, rfl, ?_, ?_, ?_, ?_, ?_, by simp (maxDischargeDepth := 9) only [↓gB, gV, gT, reduceIte, reduceCtorEq, Nat.reduceEqDiff, Nat.reduceAdd, Nat.reduceSub, Nat.reduceLeDiff, Nat.reduceLT, Int.reduceEq, Nat.reduceMul, q1, Int.zero_add, Int.natCast_one, and_self]⟩ ?_
    · omega
    · omega
    · assumption
    · exact fun _ _ h _ => h
    · exact id
    rintro k f G' ⟨i, rfl, hi, hi2, hrow, hk, hl, f6, f0, f1, f2⟩
  simp (maxDischargeDepth := 9) only [↓gB, gV, gT, reduceIte, reduceCtorEq, Nat.reduceEqDiff, Nat.reduceAdd, Nat.reduceSub, Nat.reduceLeDiff, Nat.reduceLT, Int.reduceEq, Nat.reduceMul, q1, hk, f6, f0, f1, f2]
  refine Xc_split _ _ _ _ _ (fun c1 => ?_) (fun c1 => ?_)
  · simp (maxDischargeDepth := 9) only [↓gB, gV, gT, reduceIte, reduceCtorEq, Nat.reduceEqDiff, Nat.reduceAdd, Nat.reduceSub, Nat.reduceLeDiff, Nat.reduceLT, Int.reduceEq, Nat.reduceMul, q1, hk, f6, f0, f1, f2, c1]
    focus
      refine Xloop_intro _ _ _ _ _ (fun k f G' => ∃ (j : Nat) (L : List ByteArray), k = j + 1 ∧ (j ≤ i) ∧ (L.length = xs.length) ∧ (sink sCmp j L = sink sCmp i (isortTo sCmp xs i)) ∧ (Row Rp.str 9 G0 G' (.slice a xs.length c) L) ∧ (∀ b o, G b = some o → notAt (.slice a xs.length c) b → G' b = some o) ∧ (G0.le G → G0.le G') ∧ f 7 = V j ∧ f 0 = Go.Value.slice a xs.length c ∧ f 1 = Go.GL.V 0 ∧ f 2 = Go.GL.V ↑xs.length ∧ f 6 = Go.GL.V ↑i) _ ⟨i, isortTo sCmp xs i, rfl, ?_, ?_, ?_, ?_, ?_, ?_, by simp (maxDischargeDepth := 9) only [↓gB, gV, gT, reduceIte, reduceCtorEq, Nat.reduceEqDiff, Nat.reduceAdd, Nat.reduceSub, Nat.reduceLeDiff, Nat.reduceLT, Int.reduceEq, Nat.reduceMul, q1, hk, f6, f0, f1, f2, c1, and_self]⟩ ?_
      · omega
      · (exact isortTo_len sCmp xs i; done)
      · rfl
      · assumption
      · assumption
      · assumption
      rintro k f G' ⟨j, L, rfl, hj, hL, h, hrow, hk, hl, f7, f0, f1, f2, f6⟩
    by_cases c2 : (0 : Int) < j
    · simp (maxDischargeDepth := 9) only [↓gB, gV, gT, reduceIte, reduceCtorEq, Nat.reduceEqDiff, Nat.reduceAdd, Nat.reduceSub, Nat.reduceLeDiff, Nat.reduceLT, Int.reduceEq, Nat.reduceMul, q1, hk, f6, f0, f1, f2, c1, hk, f7, f0, f1, f2, f6, c2]
      refine Xdraw_intro [0, 1, 2, 3, 4, 5, 6, 7, 8, 9, 10, 11, 12, 13, 14] mixed (by kernel_rfl) (by decide +kernel) ?_
      simp (maxDischargeDepth := 9) only [↓gB, gV, gT, reduceIte, reduceCtorEq, Nat.reduceEqDiff, Nat.reduceAdd, Nat.reduceSub, Nat.reduceLeDiff, Nat.reduceLT, Int.reduceEq, Nat.reduceMul, q1, hk, f6, f0, f1, f2, c1, hk, f7, f0, f1, f2, f6, c2]
      obtain ⟨x1, a1, s1, m1, rfl, rfl, e1⟩ := hrow.at1 (j) (by omega) rfl
      simp (maxDischargeDepth := 9) only [↓gB, gV, gT, reduceIte, reduceCtorEq, Nat.reduceEqDiff, Nat.reduceAdd, Nat.reduceSub, Nat.reduceLeDiff, Nat.reduceLT, Int.reduceEq, Nat.reduceMul, q1, f6, f1, f2, c1, f7, f1, f2, f6, c2, hk, f0, hk, f0, e1]
      refine vguard_intro (by omega) ?_
      have q2 : Go.IntKind.i64.wrap (↑j - 1) = ↑j - 1 := wrap_id (by omega)
      simp (maxDischargeDepth := 9) only [↓gB, gV, gT, reduceIte, reduceCtorEq, Nat.reduceEqDiff, Nat.reduceAdd, Nat.reduceSub, Nat.reduceLeDiff, Nat.reduceLT, Int.reduceEq, Nat.reduceMul, q1, f6, f1, f2, c1, f7, f1, f2, f6, c2, hk, f0, hk, f0, e1, q2]
      refine vguard_intro (by omega) ?_
      obtain ⟨x2, s2, m2, rfl, e2⟩ := hrow.at1' (j - 1) (by omega) rfl
      simp (maxDischargeDepth := 9) only [↓gB, gV, gT, reduceIte, reduceCtorEq, Nat.reduceEqDiff, Nat.reduceAdd, Nat.reduceSub, Nat.reduceLeDiff, Nat.reduceLT, Int.reduceEq, Nat.reduceMul, q1, f6, f1, f2, c1, f7, f1, f2, f6, c2, hk, f0, hk, f0, e1, q2, e2]
      refine Ycp (p90) ?_
      simp (maxDischargeDepth := 9) only [↓gB, gV, gT, reduceIte, reduceCtorEq, Nat.reduceEqDiff, Nat.reduceAdd, Nat.reduceSub, Nat.reduceLeDiff, Nat.reduceLT, Int.reduceEq, Nat.reduceMul, q1, f6, f1, f2, c1, f7, f1, f2, f6, c2, hk, f0, hk, f0, e1, q2, e2]
      by_cases c3 : sLt x1 x2 = true
      · have hjc : ((j - 1 : Nat) : Int) = (j : Int) - 1 := by omega
        focus
          simp (maxDischargeDepth := 9) only [↓gB, gV, gT, reduceIte, reduceCtorEq, Nat.reduceEqDiff, Nat.reduceAdd, Nat.reduceSub, Nat.reduceLeDiff, Nat.reduceLT, Int.reduceEq, Nat.reduceMul, q1, f6, f1, f2, c1, f7, f1, f2, f6, c2, hk, f0, hk, f0, e1, q2, e2, c3, hjc]
          refine Xdraw_intro [0, 1, 2, 3, 4, 5, 6, 7, 8, 9, 10, 11, 12, 13, 14, 15, 16, 17] mixed (by kernel_rfl) (by decide +kernel) ?_
          simp (maxDischargeDepth := 9) only [↓gB, gV, gT, reduceIte, reduceCtorEq, Nat.reduceEqDiff, Nat.reduceAdd, Nat.reduceSub, Nat.reduceLeDiff, Nat.reduceLT, Int.reduceEq, Nat.reduceMul, q1, f6, f1, f2, c1, f7, f1, f2, f6, c2, hk, f0, hk, f0, e1, q2, e2, c3, hjc]
          refine vguard_intro (by omega) ?_
          refine vguard_intro (by omega) ?_
          refine vguard_intro (by omega) ?_
          refine Yrow1 hrow rfl (by first | omega | (simp only [List.length_set]; omega)) (fun _ _ => rfl) fun G1 w1 i1 k1 kn1 l1 => ?_
          simp (maxDischargeDepth := 9) only [↓gB, gV, gT, reduceIte, reduceCtorEq, Nat.reduceEqDiff, Nat.reduceAdd, Nat.reduceSub, Nat.reduceLeDiff, Nat.reduceLT, Int.reduceEq, Nat.reduceMul, q1, f6, f1, f2, c1, f7, f1, f2, f6, c2, hk, f0, hk, f0, e1, q2, e2, c3, k1, kn1, hjc]
          refine vguard_intro (by omega) ?_
          refine Yrow1 w1 rfl (by first | omega | (simp only [List.length_set]; omega)) (fun _ _ => rfl) fun G2 w2 i2 k2 kn2 l2 => ?_
          simp (maxDischargeDepth := 9) only [↓gB, gV, gT, reduceIte, reduceCtorEq, Nat.reduceEqDiff, Nat.reduceAdd, Nat.reduceSub, Nat.reduceLeDiff, Nat.reduceLT, Int.reduceEq, Nat.reduceMul, q1, f6, f1, f2, c1, f7, f1, f2, f6, c2, hk, f0, hk, f0, e1, q2, e2, c3, k1, kn1, k2, kn2, hjc]
          rw [N_lp]
          refine ⟨_, ?_, _, sub_refl _, j - 1, (L.set j x2).set (j - 1) x1, rfl, ?_, ?_, ?_, ?_, ?_, ?_, by simp (maxDischargeDepth := 9) only [↓gB, gV, gT, reduceIte, reduceCtorEq, Nat.reduceEqDiff, Nat.reduceAdd, Nat.reduceSub, Nat.reduceLeDiff, Nat.reduceLT, Int.reduceEq, Nat.reduceMul, q1, f6, f1, f2, c1, f7, f1, f2, f6, c2, hk, f0, hk, f0, e1, q2, e2, c3, k1, kn1, k2, kn2, hjc, nat_succ, and_self]⟩
          · omega
          · omega
          · (simp [hL]; done)
          · ((rw [← h, sink_step c2 m1 m2, if_pos ((sCmp_lt _ _).2 c3)]); done)
          · assumption
          · (exact fun b o q1 q2 => k2 b o (k1 b o (hk b o q1 q2) q2) q2; done)
          · (exact fun q => l2 (l1 (hl q)); done)
      · have c4 : sLt x1 x2 = false := by simpa using c3
        have e : isortTo sCmp xs (i + 1) = L := by
          show sink sCmp i (isortTo sCmp xs i) = L
          rw [← h, sink_step c2 m1 m2, if_neg (fun q => c3 ((sCmp_lt _ _).1 q))]
        focus
          simp (maxDischargeDepth := 9) only [↓gB, gV, gT, reduceIte, reduceCtorEq, Nat.reduceEqDiff, Nat.reduceAdd, Nat.reduceSub, Nat.reduceLeDiff, Nat.reduceLT, Int.reduceEq, Nat.reduceMul, q1, f6, f1, f2, c1, f7, f1, f2, f6, c2, hk, f0, hk, f0, e1, q2, e2, c3, c4]
          have q3 : Go.IntKind.i64.wrap (↑i + 1) = ↑i + 1 := wrap_id (by omega)
          simp (maxDischargeDepth := 9) only [↓gB, gV, gT, reduceIte, reduceCtorEq, Nat.reduceEqDiff, Nat.reduceAdd, Nat.reduceSub, Nat.reduceLeDiff, Nat.reduceLT, Int.reduceEq, Nat.reduceMul, q1, f6, f1, f2, c1, f7, f1, f2, f6, c2, hk, f0, hk, f0, e1, q2, e2, c3, c4, q3]
          rw [N_lp]
          refine ⟨_, ?_, _, sub_refl _, i + 1, rfl, ?_, ?_, ?_, ?_, ?_, by simp (maxDischargeDepth := 9) only [↓gB, gV, gT, reduceIte, reduceCtorEq, Nat.reduceEqDiff, Nat.reduceAdd, Nat.reduceSub, Nat.reduceLeDiff, Nat.reduceLT, Int.reduceEq, Nat.reduceMul, q1, f6, f1, f2, c1, f7, f1, f2, f6, c2, hk, f0, hk, f0, e1, q2, e2, c3, c4, q3, nat_succ, and_self]⟩
          · omega
          · omega
          · omega
          · (rw [e]; exact hrow; done)
          · assumption
          · assumption
    · have e : isortTo sCmp xs (i + 1) = L := by
        have : j = 0 := by omega
        subst this
        exact h.symm
      focus
        simp (maxDischargeDepth := 9) only [↓gB, gV, gT, reduceIte, reduceCtorEq, Nat.reduceEqDiff, Nat.reduceAdd, Nat.reduceSub, Nat.reduceLeDiff, Nat.reduceLT, Int.reduceEq, Nat.reduceMul, q1, hk, f6, f0, f1, f2, c1, hk, f7, f0, f1, f2, f6, c2]
        refine Xdraw_intro [0, 1, 2, 3, 4, 5, 6, 7, 8, 9, 10, 11, 12, 13, 14] mixed (by kernel_rfl) (by decide +kernel) ?_
        simp (maxDischargeDepth := 9) only [↓gB, gV, gT, reduceIte, reduceCtorEq, Nat.reduceEqDiff, Nat.reduceAdd, Nat.reduceSub, Nat.reduceLeDiff, Nat.reduceLT, Int.reduceEq, Nat.reduceMul, q1, hk, f6, f0, f1, f2, c1, hk, f7, f0, f1, f2, f6, c2]
        have q2 : Go.IntKind.i64.wrap (↑i + 1) = ↑i + 1 := wrap_id (by omega)
        simp (maxDischargeDepth := 9) only [↓gB, gV, gT, reduceIte, reduceCtorEq, Nat.reduceEqDiff, Nat.reduceAdd, Nat.reduceSub, Nat.reduceLeDiff, Nat.reduceLT, Int.reduceEq, Nat.reduceMul, q1, hk, f6, f0, f1, f2, c1, hk, f7, f0, f1, f2, f6, c2, q2]
        rw [N_lp]
        refine ⟨_, ?_, _, sub_refl _, i + 1, rfl, ?_, ?_, ?_, ?_, ?_, by simp (maxDischargeDepth := 9) only [↓gB, gV, gT, reduceIte, reduceCtorEq, Nat.reduceEqDiff, Nat.reduceAdd, Nat.reduceSub, Nat.reduceLeDiff, Nat.reduceLT, Int.reduceEq, Nat.reduceMul, q1, hk, f6, f0, f1, f2, c1, hk, f7, f0, f1, f2, f6, c2, q2, nat_succ, and_self]⟩
        · omega
        · omega
        · omega
        · (rw [e]; exact hrow; done)
        · assumption
        · assumption
  · have e : isortTo sCmp xs i = isort sCmp xs := by
      rcases hi2 with h | h
      · have : i = xs.length := by omega
        rw [this]; rfl
      · subst h
        have : xs.length = 0 ∨ xs.length = 1 := by omega
        unfold isort
        rcases this with h | h <;> rw [h] <;> rfl
    simp (maxDischargeDepth := 9) only [↓gB, gV, gT, reduceIte, reduceCtorEq, Nat.reduceEqDiff, Nat.reduceAdd, Nat.reduceSub, Nat.reduceLeDiff, Nat.reduceLT, Int.reduceEq, Nat.reduceMul, q1, hk, f6, f0, f1, f2, c1]
    exact Kup_same ⟨rfl, e ▸ hrow, hk, hl⟩
theorem s75 {G0 G : GH} {v : Value} {xs : List ByteArray} {n : Nat} {m : Int} (hrow : Row Rp.str 9 G0 G v xs) (hn : n = xs.length) (hb : xs.length ≤ 12) :
    GCalls Tryz.prog 75 [v, V 0, V n, V m].toArray G (fun u G' => u = .tuple #[] ∧ Row Rp.str 9 G0 G' v (isort sCmp xs) ∧ (∀ b o, G b = some o → notAt v b → G' b = some o) ∧ (G0.le G → G0.le G')) := by
  have hn12 : (n : Int) ≤ 12 := by omega
  refine enter Tryz.func75 134 #[] rfl Tryz.ntmps75 rfl (by decide +kernel) rfl ?_
  simp (maxDischargeDepth := 9) only [↓gB, gV, gT, reduceIte, reduceCtorEq, Nat.reduceEqDiff, Nat.reduceAdd, Nat.reduceSub, Nat.reduceLeDiff, Nat.reduceLT, Int.reduceEq, Nat.reduceMul]
  refine Xloop_intro _ _ _ _ _ (fun k f G' => k = 0 ∧ (G = G') ∧ f 0 = v ∧ f 1 = V 0 ∧ f 2 = V n ∧ f 3 = V m ∧ f 8 = .bool true ∧ f 9 = .bool true) _ ⟨rfl, rfl, by simp (maxDischargeDepth := 9) only [↓gB, gV, gT, reduceIte, reduceCtorEq, Nat.reduceEqDiff, Nat.reduceAdd, Nat.reduceSub, Nat.reduceLeDiff, Nat.reduceLT, Int.reduceEq, Nat.reduceMul, and_self]⟩ ?_
  rintro k f G' ⟨rfl, rfl, f0, f1, f2, f3, f8, f9⟩
  simp (maxDischargeDepth := 9) only [↓gB, gV, gT, reduceIte, reduceCtorEq, Nat.reduceEqDiff, Nat.reduceAdd, Nat.reduceSub, Nat.reduceLeDiff, Nat.reduceLT, Int.reduceEq, Nat.reduceMul, f0, f1, f2, f3, f8, f9]
  have q1 : Go.IntKind.i64.wrap (↑n - 0) = ↑n - 0 := wrap_id (by omega)
  simp (maxDischargeDepth := 9) only [↓gB, gV, gT, reduceIte, reduceCtorEq, Nat.reduceEqDiff, Nat.reduceAdd, Nat.reduceSub, Nat.reduceLeDiff, Nat.reduceLT, Int.reduceEq, Nat.reduceMul, f0, f1, f2, f3, f8, f9, q1]
  refine Xc_pos _ _ _ _ _ (by omega) ?_
  simp (maxDischargeDepth := 9) only [↓gB, gV, gT, reduceIte, reduceCtorEq, Nat.reduceEqDiff, Nat.reduceAdd, Nat.reduceSub, Nat.reduceLeDiff, Nat.reduceLT, Int.reduceEq, Nat.reduceMul, f0, f1, f2, f3, f8, f9, q1]
  refine Ycall_intro (md := none) (s84 hrow hn (by omega)) ?_
  rintro u G1 ⟨rfl, hrow, hk, hl⟩
  simp (maxDischargeDepth := 9) only [↓gB, gV, gT, reduceIte, reduceCtorEq, Nat.reduceEqDiff, Nat.reduceAdd, Nat.reduceSub, Nat.reduceLeDiff, Nat.reduceLT, Int.reduceEq, Nat.reduceMul, f0, f1, f2, f3, f8, f9, q1, hk]
  exact Kup_same ⟨rfl, hrow, hk, hl⟩
theorem s57 {G0 G : GH} {v : Value} {xs : List ByteArray} (hrow : Row Rp.str 9 G0 G v xs) (hb : xs.length ≤ 12) :
    GCalls Tryz.prog 57 [v].toArray G (fun u G' => u = .tuple #[] ∧ Row Rp.str 9 G0 G' v (isort sCmp xs) ∧ (∀ b o, G b = some o → notAt v b → G' b = some o) ∧ (G0.le G → G0.le G')) := by
  obtain ⟨a, c, rfl⟩ := hrow.val
  have hw : IntKind.u64.wrap (xs.length : Int) = xs.length := by rw [IntKind.wrap_u64]; omega
  refine enter Tryz.func57 11 #[] rfl Tryz.ntmps57 rfl (by decide +kernel) rfl ?_
  simp (maxDischargeDepth := 9) only [↓gB, gV, gT, reduceIte, reduceCtorEq, Nat.reduceEqDiff, Nat.reduceAdd, Nat.reduceSub, Nat.reduceLeDiff, Nat.reduceLT, Int.reduceEq, Nat.reduceMul, hw]
  refine Ycp (p76 (by omega) (by omega)) ?_
  simp (maxDischargeDepth := 9) only [↓gB, gV, gT, reduceIte, reduceCtorEq, Nat.reduceEqDiff, Nat.reduceAdd, Nat.reduceSub, Nat.reduceLeDiff, Nat.reduceLT, Int.reduceEq, Nat.reduceMul, hw]
  refine Ycall_intro (md := none) (s75 hrow rfl hb) ?_
  rintro u G1 ⟨rfl, hrow, hk, hl⟩
  simp (maxDischargeDepth := 9) only [↓gB, gV, gT, reduceIte, reduceCtorEq, Nat.reduceEqDiff, Nat.reduceAdd, Nat.reduceSub, Nat.reduceLeDiff, Nat.reduceLT, Int.reduceEq, Nat.reduceMul, hw, hk]
  exact Kup_same ⟨rfl, hrow, hk, hl⟩
theorem compCalls2 {e : TypeId} {G0 G : GH} {v : Value} {xs : List ByteArray} (hr : Row Rp.str e G0 G v xs) (hn : xs.length ≤ 1000000000) (hl : G0.le G) : GCalls Tryz.prog 58 [v].toArray G (fun u G' => Row Rp.str e G0 G' u (compF none xs) ∧ G0.le G') :=
  gcompact (fun blk cap zs w hH h1 h2 => Any.slices_Compact_string Tryz.layComp blk 0 cap zs w hH h1 h2) (fun a cap w => Any.slices_Compact_string_empty Tryz.layComp a cap w) hr hn hl
end Go.Proofs.YtjhfhacdjmokaaaGreatDoor
