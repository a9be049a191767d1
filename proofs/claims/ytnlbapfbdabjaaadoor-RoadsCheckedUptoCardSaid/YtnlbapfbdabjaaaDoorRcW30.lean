/- A part of a proof: RoadsChecked, where what it reads is of bulk at most 1048576: the law holds of the program. No conditions but the statement's own. -/
import Derived.Shelf.Small.Bits
import Derived.Test.YtnlbapfbdabjaaaDoorRows
import Derived.WalkKit
import Derived.ProofKit
import Derived.OpenShut
import Derived.ChangeOld
import Derived.Below
import Derived.Carry
import Derived.ChangeArms
import Derived.JoinedCond
import Derived.Test.YtnlbapfbdabjaaaDoorRcSh
import Derived.Test.YtnlbapfbdabjaaaDoorRcW27
import Derived.Test.YtnlbapfbdabjaaaDoorRcW28
import Derived.Test.YtnlbapfbdabjaaaDoorRcW29
set_option linter.unusedSimpArgs false
set_option linter.unusedVariables false
set_option linter.unusedSectionVars false
namespace Go.Proofs.YtnlbapfbdabjaaaDoor
open Go Go.GL
attribute [local irreducible] Ycall GCalls
set_option maxRecDepth 10000
set_option maxHeartbeats 0
def crossE (l : List SZone) (ns : List ByteArray) : Int := orOf [checkZones l, namesF ns 2000]
theorem g31 {G0 : GH} {v w : Value} {l : List SZone} {ns : List ByteArray} (hv : RSl rZone G0 v l) (hw : RSl Rp.str G0 w ns) (hn : (l.length : Int) ≤ 9223372036854775807) (hm : ns.length ≤ 1000000000) : Gives Tryd.prog G0 31 [v, w] (fun u G' => ∃ x, RSl Rp.str G' x (if crossE l ns = 0 then crossF l ns else []) ∧ u = .tuple #[x, V (crossE l ns)]) := by
  intro G hG; replace hv := hv.le hG; replace hw := hw.le hG
  clear hG G0
  refine enter Tryd.func31 19 #[.tmp 4, .tmp 5] rfl Tryd.ntmps31 rfl (by decide +kernel) rfl ?_
  by_cases he : crossE l ns = 0
  · have hz : checkZones l = 0 := by
      unfold crossE at he; rw [orOf2] at he; split at he
      · assumption
      · rename_i q; exact absurd he q
    have hzz := cz_z hz
    have he' : orOf [checkZones l, namesF ns 2000] = 0 := he
    simp (maxDischargeDepth := 9) only [↓gB, gV, gT, reduceIte, reduceCtorEq, Nat.reduceEqDiff, Nat.reduceAdd, Nat.reduceSub, Nat.reduceLeDiff, Nat.reduceLT, Int.reduceEq, Nat.reduceMul, he', he]
    refine Ycp (p26 (by assumption) (by assumption)) ?_
    simp (maxDischargeDepth := 9) only [↓gB, gV, gT, reduceIte, reduceCtorEq, Nat.reduceEqDiff, Nat.reduceAdd, Nat.reduceSub, Nat.reduceLeDiff, Nat.reduceLT, Int.reduceEq, Nat.reduceMul, he', he]
    refine Ycp (p82 (by assumption) (by omega)) ?_
    simp (maxDischargeDepth := 9) only [↓gB, gV, gT, reduceIte, reduceCtorEq, Nat.reduceEqDiff, Nat.reduceAdd, Nat.reduceSub, Nat.reduceLeDiff, Nat.reduceLT, Int.reduceEq, Nat.reduceMul, he', he]
    refine Yn1 fun r1 h1 => ?_
    simp (maxDischargeDepth := 9) only [↓gB, gV, gT, reduceIte, reduceCtorEq, Nat.reduceEqDiff, Nat.reduceAdd, Nat.reduceSub, Nat.reduceLeDiff, Nat.reduceLT, Int.reduceEq, Nat.reduceMul, h1, he', he]
    refine Ycp (p81 (by exact put_self _ _ _)) ?_
    simp (maxDischargeDepth := 9) only [↓gB, gV, gT, reduceIte, reduceCtorEq, Nat.reduceEqDiff, Nat.reduceAdd, Nat.reduceSub, Nat.reduceLeDiff, Nat.reduceLT, Int.reduceEq, Nat.reduceMul, h1, he', he]
    have l1 := le_put h1 ((Go.Obj.cells #[Go.GL.V (Go.Proofs.YtnlbapfbdabjaaaDoor.checkZones l), Go.GL.V (Go.Proofs.YtnlbapfbdabjaaaDoor.namesF ns 2000)] 26, Bool.true))
    have y1 := put_self G r1 ((Go.Obj.cells #[Go.GL.V (Go.Proofs.YtnlbapfbdabjaaaDoor.checkZones l), Go.GL.V (Go.Proofs.YtnlbapfbdabjaaaDoor.namesF ns 2000)] 26, Bool.true))
    generalize GH.put G r1 ((Go.Obj.cells #[Go.GL.V (Go.Proofs.YtnlbapfbdabjaaaDoor.checkZones l), Go.GL.V (Go.Proofs.YtnlbapfbdabjaaaDoor.namesF ns 2000)] 26, Bool.true)) = G1 at *
    replace hv := RSl.le hv l1
    replace hw := RSl.le hw l1
    refine Ycg (g83 (by assumption) (by assumption) (by assumption) (by assumption) (by assumption)) ?_ ?_
    · exact upRSl _ _
    intro u2 G2 l2 w2
    replace l1 := GH.le.trans l1 l2
    replace y1 := l2 _ _ y1
    replace hv := RSl.le hv l2
    replace hw := RSl.le hw l2
    obtain ⟨aw2, cw2, rfl⟩ := RSl.val w2
    obtain ⟨ahv, chv, rfl⟩ := RSl.val hv
    obtain ⟨ahw, chw, rfl⟩ := RSl.val hw
    simp (maxDischargeDepth := 9) only [↓gB, gV, gT, reduceIte, reduceCtorEq, Nat.reduceEqDiff, Nat.reduceAdd, Nat.reduceSub, Nat.reduceLeDiff, Nat.reduceLT, Int.reduceEq, Nat.reduceMul, h1, y1, he', he]
    exact Kup_gives (sub_refl _) (by assumption) ⟨_, by assumption, rfl⟩
  · have he' : ¬ orOf [checkZones l, namesF ns 2000] = 0 := he
    simp (maxDischargeDepth := 9) only [↓gB, gV, gT, reduceIte, reduceCtorEq, Nat.reduceEqDiff, Nat.reduceAdd, Nat.reduceSub, Nat.reduceLeDiff, Nat.reduceLT, Int.reduceEq, Nat.reduceMul, he', he]
    refine Ycp (p26 (by assumption) (by assumption)) ?_
    simp (maxDischargeDepth := 9) only [↓gB, gV, gT, reduceIte, reduceCtorEq, Nat.reduceEqDiff, Nat.reduceAdd, Nat.reduceSub, Nat.reduceLeDiff, Nat.reduceLT, Int.reduceEq, Nat.reduceMul, he', he]
    refine Ycp (p82 (by assumption) (by omega)) ?_
    simp (maxDischargeDepth := 9) only [↓gB, gV, gT, reduceIte, reduceCtorEq, Nat.reduceEqDiff, Nat.reduceAdd, Nat.reduceSub, Nat.reduceLeDiff, Nat.reduceLT, Int.reduceEq, Nat.reduceMul, he', he]
    refine Yn1 fun r1 h1 => ?_
    simp (maxDischargeDepth := 9) only [↓gB, gV, gT, reduceIte, reduceCtorEq, Nat.reduceEqDiff, Nat.reduceAdd, Nat.reduceSub, Nat.reduceLeDiff, Nat.reduceLT, Int.reduceEq, Nat.reduceMul, h1, he', he]
    refine Ycp (p81 (by exact put_self _ _ _)) ?_
    simp (maxDischargeDepth := 9) only [↓gB, gV, gT, reduceIte, reduceCtorEq, Nat.reduceEqDiff, Nat.reduceAdd, Nat.reduceSub, Nat.reduceLeDiff, Nat.reduceLT, Int.reduceEq, Nat.reduceMul, h1, he', he]
    exact Kup_gives (sub_refl _) (by simp (maxDischargeDepth := 9) only [le_self, le_puts, le_put0, h1]) ⟨_, RSl.nil _ _, rfl⟩
theorem g27 {G0 : GH} {v : Value} {l : List SZone} (hv : RSl rZone G0 v l) (hn : l.length ≤ 1000000000) (hz : ∀ z ∈ l, z.Nodes.length ≤ 1000000000) : Gives Tryd.prog G0 27 [v] (fun u G' => RSl rZone G' u l) := by
  intro G hG; replace hv := hv.le hG
  clear hG G0
  refine enter Tryd.func27 22 #[.tmp 2] rfl Tryd.ntmps27 rfl (by decide +kernel) rfl ?_
  obtain ⟨a, c, rfl⟩ := hv.val
  simp (maxDischargeDepth := 9) only [↓gB, gV, gT, reduceIte, reduceCtorEq, Nat.reduceEqDiff, Nat.reduceAdd, Nat.reduceSub, Nat.reduceLeDiff, Nat.reduceLT, Int.reduceEq, Nat.reduceMul]
  focus
    refine Xloop_intro _ _ _ _ _ (fun k f G' => ∃ (i : Nat) (o : Value), k = l.length - i ∧ (i ≤ l.length) ∧ (Row rZone 122 G G' o (l.take i)) ∧ (RSl rZone G' (.slice a l.length c) l) ∧ (G.le G') ∧ f 8 = V i ∧ f 3 = o ∧ f 6 = Go.Value.slice a l.length c ∧ f 7 = Go.Value.int Go.IntKind.i64 ↑l.length) _ ⟨0, .slice none 0 0, rfl, ?_, ?_, ?_, ?_, by simp (maxDischargeDepth := 9) only [↓gB, gV, gT, reduceIte, reduceCtorEq, Nat.reduceEqDiff, Nat.reduceAdd, Nat.reduceSub, Nat.reduceLeDiff, Nat.reduceLT, Int.reduceEq, Nat.reduceMul, and_self]⟩ ?_
    · omega
    · (exact Row.nil; done)
    · assumption
    · exact le_refl _
    rintro k f G' ⟨i, o, rfl, hi, hrow, hv, hle, f8, f3, f6, f7⟩
  simp (maxDischargeDepth := 9) only [↓gB, gV, gT, reduceIte, reduceCtorEq, Nat.reduceEqDiff, Nat.reduceAdd, Nat.reduceSub, Nat.reduceLeDiff, Nat.reduceLT, Int.reduceEq, Nat.reduceMul, f8, f3, f6, f7]
  refine Xc_split _ _ _ _ _ (fun c1 => ?_) (fun c1 => ?_)
  · obtain ⟨z, hzi⟩ : ∃ z, l[i]? = some z := ⟨_, List.getElem?_eq_getElem (by omega)⟩
    have hz1 := hz z (List.mem_of_getElem? hzi)
    simp (maxDischargeDepth := 9) only [↓gB, gV, gT, reduceIte, reduceCtorEq, Nat.reduceEqDiff, Nat.reduceAdd, Nat.reduceSub, Nat.reduceLeDiff, Nat.reduceLT, Int.reduceEq, Nat.reduceMul, f8, f3, f6, f7, c1]
    obtain ⟨x1, a1, s1, m1, rfl, ⟨v1, rfl, w1⟩, e1⟩ := hv.at (i) (by omega) 2 rfl
    obtain ⟨aw1, cw1, rfl⟩ := RSl.val w1
    simp (maxDischargeDepth := 9) only [↓gB, gV, gT, reduceIte, reduceCtorEq, Nat.reduceEqDiff, Nat.reduceAdd, Nat.reduceSub, Nat.reduceLeDiff, Nat.reduceLT, Int.reduceEq, Nat.reduceMul, f8, f3, f7, c1, f6, e1]
    refine vguard_intro (by simp) ?_
    refine Yn2 fun r1 h1 => ?_
    simp (maxDischargeDepth := 9) only [↓gB, gV, gT, reduceIte, reduceCtorEq, Nat.reduceEqDiff, Nat.reduceAdd, Nat.reduceSub, Nat.reduceLeDiff, Nat.reduceLT, Int.reduceEq, Nat.reduceMul, f8, f3, f7, c1, f6, e1, h1]
    obtain rfl : z = x1 := by rw [hzi] at m1; cases m1; rfl
    focus
      have q1_0 := Row.fresh hrow h1
      have q1_1 := GH.le.none hle h1
      have l1 := le_put h1 ((Go.Obj.cells #[Go.Value.string z.Key, Go.Value.slice aw1 z.Nodes.length cw1] 122, Bool.true))
      have y1 := put_self G' r1 ((Go.Obj.cells #[Go.Value.string z.Key, Go.Value.slice aw1 z.Nodes.length cw1] 122, Bool.true))
      generalize GH.put G' r1 ((Go.Obj.cells #[Go.Value.string z.Key, Go.Value.slice aw1 z.Nodes.length cw1] 122, Bool.true)) = G1 at *
      replace hrow := Row.le hrow l1
      replace hle := GH.le.trans hle l1
      replace hv := RSl.le hv l1
      replace w1 := RSl.le w1 l1
      refine Ycg (g9 (by assumption) (by assumption)) ?_ ?_
      · exact upRSl _ _
      intro u2 G2 l2 w2
      replace l1 := GH.le.trans l1 l2
      replace y1 := l2 _ _ y1
      replace hrow := Row.le hrow l2
      replace hle := GH.le.trans hle l2
      replace hv := RSl.le hv l2
      replace w1 := RSl.le w1 l2
      obtain ⟨aw2, cw2, rfl⟩ := RSl.val w2
      simp (maxDischargeDepth := 9) only [↓gB, gV, gT, reduceIte, reduceCtorEq, Nat.reduceEqDiff, Nat.reduceAdd, Nat.reduceSub, Nat.reduceLeDiff, Nat.reduceLT, Int.reduceEq, Nat.reduceMul, f8, f3, f7, c1, f6, h1, e1, q1_1, y1]
      refine Yn2 fun r2 h2 => ?_
      have n2 := h2
      simp only [put_none_eq, ne_eq] at n2
      simp (maxDischargeDepth := 9) only [↓gB, gV, gT, reduceIte, reduceCtorEq, Nat.reduceEqDiff, Nat.reduceAdd, Nat.reduceSub, Nat.reduceLeDiff, Nat.reduceLT, Int.reduceEq, Nat.reduceMul, f8, f3, f7, c1, f6, h1, e1, q1_1, y1, h2, n2]
      refine Row.app1 sl52 (Row.put _ h2 (Row.over _ hrow y1 (by assumption))) (by exact put_self _ _ _) (y := ⟨_, _⟩) ⟨_, rfl, (by first | exact (RSl.put _ h2 (RSl.over _ hv y1)) | exact (RSl.put _ h2 (RSl.over _ w1 y1)) | exact (RSl.put _ h2 (RSl.over _ w2 y1)) | omega | decide | assumption | (unfold i64; omega) | (unfold i64 at *; omega) | (constructor <;> omega))⟩ (by (simp; omega)) (GH.le.trans (le_put_new hle (by assumption) _) (le_put h2 _)) fun v3 G3 w3 k3 l3 => ?_
      replace hv := RSl.appd (RSl.put _ h2 (RSl.over _ hv y1)) (Row.put _ h2 (Row.over _ hrow y1 (by assumption))) k3
      replace w1 := RSl.appd (RSl.put _ h2 (RSl.over _ w1 y1)) (Row.put _ h2 (Row.over _ hrow y1 (by assumption))) k3
      replace w2 := RSl.appd (RSl.put _ h2 (RSl.over _ w2 y1)) (Row.put _ h2 (Row.over _ hrow y1 (by assumption))) k3
      simp (maxDischargeDepth := 9) only [↓gB, gV, gT, reduceIte, reduceCtorEq, Nat.reduceEqDiff, Nat.reduceAdd, Nat.reduceSub, Nat.reduceLeDiff, Nat.reduceLT, Int.reduceEq, Nat.reduceMul, f8, f3, f7, c1, f6, h1, e1, q1_1, y1, h2, n2]
      have q1 : Go.IntKind.i64.wrap (↑i + 1) = ↑i + 1 := wrap_id (by omega)
      simp (maxDischargeDepth := 9) only [↓gB, gV, gT, reduceIte, reduceCtorEq, Nat.reduceEqDiff, Nat.reduceAdd, Nat.reduceSub, Nat.reduceLeDiff, Nat.reduceLT, Int.reduceEq, Nat.reduceMul, f8, f3, f7, c1, f6, h1, e1, q1_1, y1, h2, n2, q1]
      rw [N_lp]
      refine ⟨_, ?_, _, sub_refl _, i + 1, v3, rfl, ?_, ?_, ?_, ?_, by simp (maxDischargeDepth := 9) only [↓gB, gV, gT, reduceIte, reduceCtorEq, Nat.reduceEqDiff, Nat.reduceAdd, Nat.reduceSub, Nat.reduceLeDiff, Nat.reduceLT, Int.reduceEq, Nat.reduceMul, f8, f3, f7, c1, f6, h1, e1, q1_1, y1, h2, n2, q1, nat_succ, and_self]⟩
      · omega
      · omega
      · (rw [take_at m1]; exact w3; done)
      · assumption
      · assumption
  · simp (maxDischargeDepth := 9) only [↓gB, gV, gT, reduceIte, reduceCtorEq, Nat.reduceEqDiff, Nat.reduceAdd, Nat.reduceSub, Nat.reduceLeDiff, Nat.reduceLT, Int.reduceEq, Nat.reduceMul, f8, f3, f6, f7, c1]
    obtain ⟨G2, hs, hl, hr⟩ := hrow.fin hle
    rw [List.take_of_length_le (by omega)] at hr
    exact Kup_gives hs hl hr
end Go.Proofs.YtnlbapfbdabjaaaDoor
namespace Go.Proofs.YtnlbapfbdabjaaaDoor
open Go Go.GL
attribute [local irreducible] Ycall GCalls
set_option maxRecDepth 10000
set_option maxHeartbeats 0
def swp {α : Type} (l : List α) (j : Nat) : List α := match l[j]?, l[j+1]? with
  | some x, some y => (l.set (j + 1) x).set j y
  | _, _ => l
def sink {α : Type} (cf : α → α → Int) : Nat → List α → List α
  | 0, l => l
  | j + 1, l => match l[j]?, l[j+1]? with
    | some x, some y => if cf y x < 0 then sink cf j (swp l j) else l
    | _, _ => l
def isortTo {α : Type} (cf : α → α → Int) (l : List α) : Nat → List α
  | 0 => l
  | i + 1 => sink cf i (isortTo cf l i)
def isort {α : Type} (cf : α → α → Int) (l : List α) : List α := isortTo cf l l.length
theorem swp_len {α : Type} (l : List α) (j : Nat) : (swp l j).length = l.length := by
  unfold swp; split <;> simp
theorem sink_len {α : Type} (cf : α → α → Int) : ∀ (j : Nat) (l : List α), (sink cf j l).length = l.length
  | 0, l => rfl
  | j + 1, l => by
    unfold sink; split
    · split
      · rw [sink_len cf j, swp_len]
      · rfl
    · rfl
theorem isortTo_len {α : Type} (cf : α → α → Int) (l : List α) : ∀ i, (isortTo cf l i).length = l.length
  | 0 => rfl
  | i + 1 => by unfold isortTo; rw [sink_len, isortTo_len cf l i]
theorem sink_step {α : Type} {cf : α → α → Int} {L : List α} {j : Nat} {x y : α} (hj : (0 : Int) < j) (hx : L[j]? = some x) (hy : L[j-1]? = some y) : sink cf j L = if cf x y < 0 then sink cf (j - 1) ((L.set j y).set (j - 1) x) else L := by
  cases j with
  | zero => omega
  | succ j =>
    simp only [Nat.add_sub_cancel] at hy
    simp [sink, hx, hy, swp]
theorem s146 {G0 G : GH} {v : Value} {xs : List Int} {n : Nat} {cf : Int → Int → Int} {g : Nat} (hrow : Row Rp.int 3 G0 G v xs) (hn : n = xs.length) (hb : xs.length ≤ 1000000000) (hg : GL.Enters Tryd.prog g) (hf : ∀ (G' : GH) x y, Pure Tryd.prog G' g [V x, V y] (V (cf x y))) :
    GCalls Tryd.prog 146 [v, V 0, V n, .func (.func g) #[] #[]].toArray G (fun u G' => u = .tuple #[] ∧ Row Rp.int 3 G0 G' v (isort cf xs) ∧ (∀ b o, G b = some o → notAt v b → G' b = some o) ∧ (G0.le G → G0.le G')) := by
  subst hn
  have hg' := eq_true hg
  obtain ⟨a, c, rfl⟩ := hrow.val
  refine enter Tryd.func146 53 #[] rfl Tryd.ntmps146 rfl (by decide +kernel) rfl ?_
  simp (maxDischargeDepth := 9) only [↓gB, gV, gT, reduceIte, reduceCtorEq, Nat.reduceEqDiff, Nat.reduceAdd, Nat.reduceSub, Nat.reduceLeDiff, Nat.reduceLT, Int.reduceEq, Nat.reduceMul]
  have q1 : Go.IntKind.i64.wrap (0 + 1) = 0 + 1 := wrap_id (by omega)
  simp (maxDischargeDepth := 9) only [↓gB, gV, gT, reduceIte, reduceCtorEq, Nat.reduceEqDiff, Nat.reduceAdd, Nat.reduceSub, Nat.reduceLeDiff, Nat.reduceLT, Int.reduceEq, Nat.reduceMul, q1]
  focus
    refine Xloop_intro _ _ _ _ _ (fun k f G' => ∃ (i : Nat), k = xs.length - i ∧ (1 ≤ i) ∧ (i ≤ xs.length ∨ i = 1) ∧ (Row Rp.int 3 G0 G' (.slice a xs.length c) (isortTo cf xs i)) ∧ (∀ b o, G b = some o → notAt (.slice a xs.length c) b → G' b = some o) ∧ (G0.le G → G0.le G') ∧ f 8 = V i ∧ f 0 = Go.Value.slice a xs.length c ∧ f 1 = Go.GL.V 0 ∧ f 2 = Go.GL.V ↑xs.length ∧ f 3 = Go.Value.func (Go.Fn.func g) #[] #[]) _ ⟨1, rfl, ?_, ?_, ?_, ?_, ?_, by simp (maxDischargeDepth := 9) only [↓gB, gV, gT, reduceIte, reduceCtorEq, Nat.reduceEqDiff, Nat.reduceAdd, Nat.reduceSub, Nat.reduceLeDiff, Nat.reduceLT, Int.reduceEq, Nat.reduceMul, q1, Int.zero_add, Int.natCast_one, and_self]⟩ ?_
    · omega
    · omega
    · assumption
    · exact fun _ _ h _ => h
    · exact id
    rintro k f G' ⟨i, rfl, hi, hi2, hrow, hk, hl, f8, f0, f1, f2, f3⟩
  simp (maxDischargeDepth := 9) only [↓gB, gV, gT, reduceIte, reduceCtorEq, Nat.reduceEqDiff, Nat.reduceAdd, Nat.reduceSub, Nat.reduceLeDiff, Nat.reduceLT, Int.reduceEq, Nat.reduceMul, q1, hk, f8, f0, f1, f2, f3]
  refine Xc_split _ _ _ _ _ (fun c1 => ?_) (fun c1 => ?_)
  · simp (maxDischargeDepth := 9) only [↓gB, gV, gT, reduceIte, reduceCtorEq, Nat.reduceEqDiff, Nat.reduceAdd, Nat.reduceSub, Nat.reduceLeDiff, Nat.reduceLT, Int.reduceEq, Nat.reduceMul, q1, hk, f8, f0, f1, f2, f3, c1]
    focus
      refine Xloop_intro _ _ _ _ _ (fun k f G' => ∃ (j : Nat) (L : List Int), k = j + 1 ∧ (j ≤ i) ∧ (L.length = xs.length) ∧ (sink cf j L = sink cf i (isortTo cf xs i)) ∧ (Row Rp.int 3 G0 G' (.slice a xs.length c) L) ∧ (∀ b o, G b = some o → notAt (.slice a xs.length c) b → G' b = some o) ∧ (G0.le G → G0.le G') ∧ f 9 = V j ∧ f 0 = Go.Value.slice a xs.length c ∧ f 1 = Go.GL.V 0 ∧ f 2 = Go.GL.V ↑xs.length ∧ f 3 = Go.Value.func (Go.Fn.func g) #[] #[] ∧ f 8 = Go.GL.V ↑i) _ ⟨i, isortTo cf xs i, rfl, ?_, ?_, ?_, ?_, ?_, ?_, by simp (maxDischargeDepth := 9) only [↓gB, gV, gT, reduceIte, reduceCtorEq, Nat.reduceEqDiff, Nat.reduceAdd, Nat.reduceSub, Nat.reduceLeDiff, Nat.reduceLT, Int.reduceEq, Nat.reduceMul, q1, hk, f8, f0, f1, f2, f3, c1, and_self]⟩ ?_
      · omega
      · (exact isortTo_len cf xs i; done)
      · rfl
      · assumption
      · assumption
      · assumption
      rintro k f G' ⟨j, L, rfl, hj, hL, h, hrow, hk, hl, f9, f0, f1, f2, f3, f8⟩
    by_cases c2 : (0 : Int) < j
    · simp (maxDischargeDepth := 9) only [↓gB, gV, gT, reduceIte, reduceCtorEq, Nat.reduceEqDiff, Nat.reduceAdd, Nat.reduceSub, Nat.reduceLeDiff, Nat.reduceLT, Int.reduceEq, Nat.reduceMul, q1, hk, f8, f0, f1, f2, f3, c1, hk, f9, f0, f1, f2, f3, f8, c2, hg']
      refine Xdraw_intro [0, 1, 2, 3, 4, 5, 6, 7, 8, 9, 10, 11, 12, 13, 14, 15, 16] mixed (by kernel_rfl) (by decide +kernel) ?_
      simp (maxDischargeDepth := 9) only [↓gB, gV, gT, reduceIte, reduceCtorEq, Nat.reduceEqDiff, Nat.reduceAdd, Nat.reduceSub, Nat.reduceLeDiff, Nat.reduceLT, Int.reduceEq, Nat.reduceMul, q1, hk, f8, f0, f1, f2, f3, c1, hk, f9, f0, f1, f2, f3, f8, c2, hg']
      obtain ⟨x1, a1, s1, m1, rfl, ⟨rfl, w1⟩, e1⟩ := hrow.at1 (j) (by omega) rfl
      simp (maxDischargeDepth := 9) only [↓gB, gV, gT, reduceIte, reduceCtorEq, Nat.reduceEqDiff, Nat.reduceAdd, Nat.reduceSub, Nat.reduceLeDiff, Nat.reduceLT, Int.reduceEq, Nat.reduceMul, q1, f8, f1, f2, f3, c1, f9, f1, f2, f3, f8, c2, hk, f0, hk, f0, e1, hg']
      refine vguard_intro (by omega) ?_
      have q2 : Go.IntKind.i64.wrap (↑j - 1) = ↑j - 1 := wrap_id (by omega)
      simp (maxDischargeDepth := 9) only [↓gB, gV, gT, reduceIte, reduceCtorEq, Nat.reduceEqDiff, Nat.reduceAdd, Nat.reduceSub, Nat.reduceLeDiff, Nat.reduceLT, Int.reduceEq, Nat.reduceMul, q1, f8, f1, f2, f3, c1, f9, f1, f2, f3, f8, c2, hk, f0, hk, f0, e1, q2, hg']
      refine vguard_intro (by omega) ?_
      obtain ⟨x2, s2, m2, ⟨rfl, w2⟩, e2⟩ := hrow.at1' (j - 1) (by omega) rfl
      simp (maxDischargeDepth := 9) only [↓gB, gV, gT, reduceIte, reduceCtorEq, Nat.reduceEqDiff, Nat.reduceAdd, Nat.reduceSub, Nat.reduceLeDiff, Nat.reduceLT, Int.reduceEq, Nat.reduceMul, q1, f8, f1, f2, f3, c1, f9, f1, f2, f3, f8, c2, hk, f0, hk, f0, e1, q2, e2, hg']
      refine Ycp (hf _ x1 x2) ?_
      by_cases c3 : cf x1 x2 < 0
      · have hjc : ((j - 1 : Nat) : Int) = (j : Int) - 1 := by omega
        focus
          simp (maxDischargeDepth := 9) only [↓gB, gV, gT, reduceIte, reduceCtorEq, Nat.reduceEqDiff, Nat.reduceAdd, Nat.reduceSub, Nat.reduceLeDiff, Nat.reduceLT, Int.reduceEq, Nat.reduceMul, q1, f8, f1, f2, f3, c1, f9, f1, f2, f3, f8, c2, hk, f0, hk, f0, e1, q2, e2, c3, hjc]
          refine Xdraw_intro [0, 1, 2, 3, 4, 5, 6, 7, 8, 9, 10, 11, 12, 13, 14, 15, 16, 17] mixed (by kernel_rfl) (by decide +kernel) ?_
          simp (maxDischargeDepth := 9) only [↓gB, gV, gT, reduceIte, reduceCtorEq, Nat.reduceEqDiff, Nat.reduceAdd, Nat.reduceSub, Nat.reduceLeDiff, Nat.reduceLT, Int.reduceEq, Nat.reduceMul, q1, f8, f1, f2, f3, c1, f9, f1, f2, f3, f8, c2, hk, f0, hk, f0, e1, q2, e2, c3, hjc]
          refine vguard_intro (by omega) ?_
          refine vguard_intro (by omega) ?_
          refine vguard_intro (by omega) ?_
          refine Yrow1 hrow rfl (by first | omega | (simp only [List.length_set]; omega)) (fun _ _ => ⟨rfl, (by first | assumption | (unfold i64 at *; omega))⟩) fun G3 w3 i3 k3 kn3 l3 => ?_
          simp (maxDischargeDepth := 9) only [↓gB, gV, gT, reduceIte, reduceCtorEq, Nat.reduceEqDiff, Nat.reduceAdd, Nat.reduceSub, Nat.reduceLeDiff, Nat.reduceLT, Int.reduceEq, Nat.reduceMul, q1, f8, f1, f2, f3, c1, f9, f1, f2, f3, f8, c2, hk, f0, hk, f0, e1, q2, e2, c3, kn3, hjc]
          refine vguard_intro (by omega) ?_
          refine Yrow1 w3 rfl (by first | omega | (simp only [List.length_set]; omega)) (fun _ _ => ⟨rfl, (by first | assumption | (unfold i64 at *; omega))⟩) fun G4 w4 i4 k4 kn4 l4 => ?_
          simp (maxDischargeDepth := 9) only [↓gB, gV, gT, reduceIte, reduceCtorEq, Nat.reduceEqDiff, Nat.reduceAdd, Nat.reduceSub, Nat.reduceLeDiff, Nat.reduceLT, Int.reduceEq, Nat.reduceMul, q1, f8, f1, f2, f3, c1, f9, f1, f2, f3, f8, c2, hk, f0, hk, f0, e1, q2, e2, c3, kn3, kn4, hjc]
          rw [N_lp]
          refine ⟨_, ?_, _, sub_refl _, j - 1, (L.set j x2).set (j - 1) x1, rfl, ?_, ?_, ?_, ?_, ?_, ?_, by simp (maxDischargeDepth := 9) only [↓gB, gV, gT, reduceIte, reduceCtorEq, Nat.reduceEqDiff, Nat.reduceAdd, Nat.reduceSub, Nat.reduceLeDiff, Nat.reduceLT, Int.reduceEq, Nat.reduceMul, q1, f8, f1, f2, f3, c1, f9, f1, f2, f3, f8, c2, hk, f0, hk, f0, e1, q2, e2, c3, kn3, kn4, hjc, nat_succ, and_self]⟩
          · omega
          · omega
          · (simp [hL]; done)
          · ((rw [← h, sink_step c2 m1 m2, if_pos c3]); done)
          · assumption
          · (exact fun b o q1 q2 => k4 b o (k3 b o (hk b o q1 q2) q2) q2; done)
          · (exact fun q => l4 (l3 (hl q)); done)
      · have e : isortTo cf xs (i + 1) = L := by
          show sink cf i (isortTo cf xs i) = L
          rw [← h, sink_step c2 m1 m2, if_neg c3]
        focus
          simp (maxDischargeDepth := 9) only [↓gB, gV, gT, reduceIte, reduceCtorEq, Nat.reduceEqDiff, Nat.reduceAdd, Nat.reduceSub, Nat.reduceLeDiff, Nat.reduceLT, Int.reduceEq, Nat.reduceMul, q1, f8, f1, f2, f3, c1, f9, f1, f2, f3, f8, c2, hk, f0, hk, f0, e1, q2, e2, c3]
          have q3 : Go.IntKind.i64.wrap (↑i + 1) = ↑i + 1 := wrap_id (by omega)
          simp (maxDischargeDepth := 9) only [↓gB, gV, gT, reduceIte, reduceCtorEq, Nat.reduceEqDiff, Nat.reduceAdd, Nat.reduceSub, Nat.reduceLeDiff, Nat.reduceLT, Int.reduceEq, Nat.reduceMul, q1, f8, f1, f2, f3, c1, f9, f1, f2, f3, f8, c2, hk, f0, hk, f0, e1, q2, e2, c3, q3]
          rw [N_lp]
          refine ⟨_, ?_, _, sub_refl _, i + 1, rfl, ?_, ?_, ?_, ?_, ?_, by simp (maxDischargeDepth := 9) only [↓gB, gV, gT, reduceIte, reduceCtorEq, Nat.reduceEqDiff, Nat.reduceAdd, Nat.reduceSub, Nat.reduceLeDiff, Nat.reduceLT, Int.reduceEq, Nat.reduceMul, q1, f8, f1, f2, f3, c1, f9, f1, f2, f3, f8, c2, hk, f0, hk, f0, e1, q2, e2, c3, q3, nat_succ, and_self]⟩
          · omega
          · omega
          · omega
          · (rw [e]; exact hrow; done)
          · assumption
          · assumption
    · have e : isortTo cf xs (i + 1) = L := by
        have : j = 0 := by omega
        subst this
        exact h.symm
      focus
        simp (maxDischargeDepth := 9) only [↓gB, gV, gT, reduceIte, reduceCtorEq, Nat.reduceEqDiff, Nat.reduceAdd, Nat.reduceSub, Nat.reduceLeDiff, Nat.reduceLT, Int.reduceEq, Nat.reduceMul, q1, hk, f8, f0, f1, f2, f3, c1, hk, f9, f0, f1, f2, f3, f8, c2]
        refine Xdraw_intro [0, 1, 2, 3, 4, 5, 6, 7, 8, 9, 10, 11, 12, 13, 14, 15, 16] mixed (by kernel_rfl) (by decide +kernel) ?_
        simp (maxDischargeDepth := 9) only [↓gB, gV, gT, reduceIte, reduceCtorEq, Nat.reduceEqDiff, Nat.reduceAdd, Nat.reduceSub, Nat.reduceLeDiff, Nat.reduceLT, Int.reduceEq, Nat.reduceMul, q1, hk, f8, f0, f1, f2, f3, c1, hk, f9, f0, f1, f2, f3, f8, c2]
        have q2 : Go.IntKind.i64.wrap (↑i + 1) = ↑i + 1 := wrap_id (by omega)
        simp (maxDischargeDepth := 9) only [↓gB, gV, gT, reduceIte, reduceCtorEq, Nat.reduceEqDiff, Nat.reduceAdd, Nat.reduceSub, Nat.reduceLeDiff, Nat.reduceLT, Int.reduceEq, Nat.reduceMul, q1, hk, f8, f0, f1, f2, f3, c1, hk, f9, f0, f1, f2, f3, f8, c2, q2]
        rw [N_lp]
        refine ⟨_, ?_, _, sub_refl _, i + 1, rfl, ?_, ?_, ?_, ?_, ?_, by simp (maxDischargeDepth := 9) only [↓gB, gV, gT, reduceIte, reduceCtorEq, Nat.reduceEqDiff, Nat.reduceAdd, Nat.reduceSub, Nat.reduceLeDiff, Nat.reduceLT, Int.reduceEq, Nat.reduceMul, q1, hk, f8, f0, f1, f2, f3, c1, hk, f9, f0, f1, f2, f3, f8, c2, q2, nat_succ, and_self]⟩
        · omega
        · omega
        · omega
        · (rw [e]; exact hrow; done)
        · assumption
        · assumption
  · have e : isortTo cf xs i = isort cf xs := by
      rcases hi2 with h | h
      · have : i = xs.length := by omega
        rw [this]; rfl
      · subst h
        have : xs.length = 0 ∨ xs.length = 1 := by omega
        unfold isort
        rcases this with h | h <;> rw [h] <;> rfl
    simp (maxDischargeDepth := 9) only [↓gB, gV, gT, reduceIte, reduceCtorEq, Nat.reduceEqDiff, Nat.reduceAdd, Nat.reduceSub, Nat.reduceLeDiff, Nat.reduceLT, Int.reduceEq, Nat.reduceMul, q1, hk, f8, f0, f1, f2, f3, c1]
    exact Kup_same ⟨rfl, e ▸ hrow, hk, hl⟩
theorem s112 {G0 G : GH} {v : Value} {xs : List Int} {n : Nat} {cf : Int → Int → Int} {g : Nat} (hrow : Row Rp.int 3 G0 G v xs) (hn : n = xs.length) (hb : xs.length < 20) (hg : GL.Enters Tryd.prog g) (hf : ∀ (G' : GH) x y, Pure Tryd.prog G' g [V x, V y] (V (cf x y))) :
    GCalls Tryd.prog 112 [v, V n, .func (.func g) #[] #[]].toArray G (fun u G' => u = .tuple #[] ∧ Row Rp.int 3 G0 G' v (isort cf xs) ∧ (∀ b o, G b = some o → notAt v b → G' b = some o) ∧ (G0.le G → G0.le G')) := by
  have hn20 : ¬ (20 : Int) ≤ n := by omega
  have hn21 : ¬ (20 : Int) < n := by omega
  refine enter Tryd.func112 63 #[] rfl Tryd.ntmps112 rfl (by decide +kernel) rfl ?_
  simp (maxDischargeDepth := 9) only [↓gB, gV, gT, reduceIte, reduceCtorEq, Nat.reduceEqDiff, Nat.reduceAdd, Nat.reduceSub, Nat.reduceLeDiff, Nat.reduceLT, Int.reduceEq, Nat.reduceMul]
  refine Xloop_intro _ _ _ _ _ (fun k f G' => k = 0 ∧ (G = G') ∧ f 7 = V 0 ∧ f 8 = V 20 ∧ f 6 = V 20 ∧ f 0 = v ∧ f 1 = Go.GL.V ↑n ∧ f 2 = Go.Value.func (Go.Fn.func g) #[] #[]) _ ⟨rfl, rfl, by simp (maxDischargeDepth := 9) only [↓gB, gV, gT, reduceIte, reduceCtorEq, Nat.reduceEqDiff, Nat.reduceAdd, Nat.reduceSub, Nat.reduceLeDiff, Nat.reduceLT, Int.reduceEq, Nat.reduceMul, and_self]⟩ ?_
  rintro k f G' ⟨rfl, rfl, f7, f8, f6, f0, f1, f2⟩
  simp (maxDischargeDepth := 9) only [↓gB, gV, gT, reduceIte, reduceCtorEq, Nat.reduceEqDiff, Nat.reduceAdd, Nat.reduceSub, Nat.reduceLeDiff, Nat.reduceLT, Int.reduceEq, Nat.reduceMul, f7, f8, f6, f0, f1, f2]
  refine Xc_neg _ _ _ _ _ (by omega) ?_
  simp (maxDischargeDepth := 9) only [↓gB, gV, gT, reduceIte, reduceCtorEq, Nat.reduceEqDiff, Nat.reduceAdd, Nat.reduceSub, Nat.reduceLeDiff, Nat.reduceLT, Int.reduceEq, Nat.reduceMul, f7, f8, f6, f0, f1, f2]
  refine Ycall_intro (md := none) (s146 hrow hn (by omega) hg hf) ?_
  rintro u G1 ⟨rfl, hrow, hk, hl⟩
  simp (maxDischargeDepth := 9) only [↓gB, gV, gT, reduceIte, reduceCtorEq, Nat.reduceEqDiff, Nat.reduceAdd, Nat.reduceSub, Nat.reduceLeDiff, Nat.reduceLT, Int.reduceEq, Nat.reduceMul, f7, f8, f6, f0, f1, f2, hk]
  refine Xloop_intro _ _ _ _ _ (fun k f G' => k = 0 ∧ (G1 = G') ∧ f 6 = V 20 ∧ f 0 = v ∧ f 1 = Go.GL.V ↑n ∧ f 2 = Go.Value.func (Go.Fn.func g) #[] #[]) _ ⟨rfl, rfl, by simp (maxDischargeDepth := 9) only [↓gB, gV, gT, reduceIte, reduceCtorEq, Nat.reduceEqDiff, Nat.reduceAdd, Nat.reduceSub, Nat.reduceLeDiff, Nat.reduceLT, Int.reduceEq, Nat.reduceMul, f7, f8, f6, f0, f1, f2, hk, and_self]⟩ ?_
  rintro k f G' ⟨rfl, rfl, f6, f0, f1, f2⟩
  simp (maxDischargeDepth := 9) only [↓gB, gV, gT, reduceIte, reduceCtorEq, Nat.reduceEqDiff, Nat.reduceAdd, Nat.reduceSub, Nat.reduceLeDiff, Nat.reduceLT, Int.reduceEq, Nat.reduceMul, f7, f8, f6, f0, f1, f2, hk, f6, f0, f1, f2]
  refine Xc_neg _ _ _ _ _ (by omega) ?_
  simp (maxDischargeDepth := 9) only [↓gB, gV, gT, reduceIte, reduceCtorEq, Nat.reduceEqDiff, Nat.reduceAdd, Nat.reduceSub, Nat.reduceLeDiff, Nat.reduceLT, Int.reduceEq, Nat.reduceMul, f7, f8, f6, f0, f1, f2, hk, f6, f0, f1, f2]
  exact Kup_same ⟨rfl, hrow, hk, hl⟩
theorem s62 {G0 G : GH} {v : Value} {xs : List Int} {cf : Int → Int → Int} {g : Nat} (hrow : Row Rp.int 3 G0 G v xs) (hb : xs.length < 20) (hg : GL.Enters Tryd.prog g) (hf : ∀ (G' : GH) x y, Pure Tryd.prog G' g [V x, V y] (V (cf x y))) :
    GCalls Tryd.prog 62 [v, .func (.func g) #[] #[]].toArray G (fun u G' => u = .tuple #[] ∧ Row Rp.int 3 G0 G' v (isort cf xs) ∧ (∀ b o, G b = some o → notAt v b → G' b = some o) ∧ (G0.le G → G0.le G')) := by
  obtain ⟨a, c, rfl⟩ := hrow.val
  refine enter Tryd.func62 9 #[] rfl Tryd.ntmps62 rfl (by decide +kernel) rfl ?_
  simp (maxDischargeDepth := 9) only [↓gB, gV, gT, reduceIte, reduceCtorEq, Nat.reduceEqDiff, Nat.reduceAdd, Nat.reduceSub, Nat.reduceLeDiff, Nat.reduceLT, Int.reduceEq, Nat.reduceMul]
  refine Ycall_intro (md := none) (s112 hrow rfl hb hg hf) ?_
  rintro u G1 ⟨rfl, hrow, hk, hl⟩
  simp (maxDischargeDepth := 9) only [↓gB, gV, gT, reduceIte, reduceCtorEq, Nat.reduceEqDiff, Nat.reduceAdd, Nat.reduceSub, Nat.reduceLeDiff, Nat.reduceLT, Int.reduceEq, Nat.reduceMul, hk]
  exact Kup_same ⟨rfl, hrow, hk, hl⟩
end Go.Proofs.YtnlbapfbdabjaaaDoor
namespace Go.Proofs.YtnlbapfbdabjaaaDoor
open Go Go.GL
attribute [local irreducible] Ycall GCalls
set_option maxRecDepth 10000
set_option maxHeartbeats 0
theorem p134 {G0 : GH} {x : Int} (h0 : 0 ≤ x) (h1 : x ≤ 18446744073709551615) : Pure Tryd.prog G0 134 [.int .u64 x] (V (Lib.bitLen x.toNat)) := pure_of_calls G0 (fun w => Any.bits_Len Tryd.layLen x w h0 h1)
theorem s161 {G0 G : GH} {v : Value} {xs : List ByteArray} {n : Nat} (hrow : Row Rp.str 9 G0 G v xs) (hn : n = xs.length) (hb : xs.length ≤ 1000000000) :
    GCalls Tryd.prog 161 [v, V 0, V n].toArray G (fun u G' => u = .tuple #[] ∧ Row Rp.str 9 G0 G' v (isort sCmp xs) ∧ (∀ b o, G b = some o → notAt v b → G' b = some o) ∧ (G0.le G → G0.le G')) := by
  subst hn
  obtain ⟨a, c, rfl⟩ := hrow.val
  refine enter Tryd.func161 49 #[] rfl Tryd.ntmps161 rfl (by decide +kernel) rfl ?_
  simp (maxDischargeDepth := 9) only [↓gB, gV, gT, reduceIte, reduceCtorEq, Nat.reduceEqDiff, Nat.reduceAdd, Nat.reduceSub, Nat.reduceLeDiff, Nat.reduceLT, Int.reduceEq, Nat.reduceMul]
  have q1 : Go.IntKind.i64.wrap (0 + 1) = 0 + 1 := wrap_id (by omega)
  simp (maxDischargeDepth := 9) only [↓gB, gV, gT, reduceIte, reduceCtorEq, Nat.reduceEqDiff, Nat.reduceAdd, Nat.reduceSub, Nat.reduceLeDiff, Nat.reduceLT, Int.reduceEq, Nat.reduceMul, q1]
  focus
    refine Xloop_intro _ _ _ _ _ (fun k f G' => ∃ (i : Nat), k = xs.length - i ∧ (1 ≤ i) ∧ (i ≤ xs.length ∨ i = 1) ∧ (Row Rp.str 9 G0 G' (.slice a xs.length c) (isortTo sCmp xs i)) ∧ (∀ b o, G b = some o → notAt (.slice a xs.length c) b → G' b = some o) ∧ (G0.le G → G0.le G') ∧ f 6 = V i ∧ f 0 = Go.Value.slice a xs.length c ∧ f 1 = Go.GL.V 0 ∧ f 2 = Go.GL.V ↑xs.length) _ ⟨1, rfl, ?_, ?_, ?_, ?_, ?_, by simp (maxDischargeDepth := 9) only [↓gB, gV, gT, reduceIte, reduceCtorEq, Nat.reduceEqDiff, Nat.reduceAdd, Nat.reduceSub, Nat.reduceLeDiff, Nat.reduceLT, Int.reduceEq, Nat.reduceMul, q1, Int.zero_add, Int.natCast_one, and_self]⟩ ?_
    · omega
    · omega
    · assumption
    · exact fun _ _ h _ => h
    · exact id
    rintro k f G' ⟨i, rfl, hi, hi2, hrow, hk, hl, f6, f0, f1, f2⟩
  simp (maxDischargeDepth := 9) only [↓gB, gV, gT, reduceIte, reduceCtorEq, Nat.reduceEqDiff, Nat.reduceAdd, Nat.reduceSub, Nat.reduceLeDiff, Nat.reduceLT, Int.reduceEq, Nat.reduceMul, q1, hk, f6, f0, f1, f2]
  refine Xc_split _ _ _ _ _ (fun c1 => ?_) (fun c1 => ?_)
  · simp (maxDischargeDepth := 9) only [↓gB, gV, gT, reduceIte, reduceCtorEq, Nat.reduceEqDiff, Nat.reduceAdd, Nat.reduceSub, Nat.reduceLeDiff, Nat.reduceLT, Int.reduceEq, Nat.reduceMul, q1, hk, f6, f0, f1, f2, c1]
    focus
      refine Xloop_intro _ _ _ _ _ (fun k f G' => ∃ (j : Nat) (L : List ByteArray), k = j + 1 ∧ (j ≤ i) ∧ (L.length = xs.length) ∧ (sink sCmp j L = sink sCmp i (isortTo sCmp xs i)) ∧ (Row Rp.str 9 G0 G' (.slice a xs.length c) L) ∧ (∀ b o, G b = some o → notAt (.slice a xs.length c) b → G' b = some o) ∧ (G0.le G → G0.le G') ∧ f 7 = V j ∧ f 0 = Go.Value.slice a xs.length c ∧ f 1 = Go.GL.V 0 ∧ f 2 = Go.GL.V ↑xs.length ∧ f 6 = Go.GL.V ↑i) _ ⟨i, isortTo sCmp xs i, rfl, ?_, ?_, ?_, ?_, ?_, ?_, by simp (maxDischargeDepth := 9) only [↓gB, gV, gT, reduceIte, reduceCtorEq, Nat.reduceEqDiff, Nat.reduceAdd, Nat.reduceSub, Nat.reduceLeDiff, Nat.reduceLT, Int.reduceEq, Nat.reduceMul, q1, hk, f6, f0, f1, f2, c1, and_self]⟩ ?_
      · omega
      · (exact isortTo_len sCmp xs i; done)
      · rfl
      · assumption
      · assumption
      · assumption
      rintro k f G' ⟨j, L, rfl, hj, hL, h, hrow, hk, hl, f7, f0, f1, f2, f6⟩
    by_cases c2 : (0 : Int) < j
    · simp (maxDischargeDepth := 9) only [↓gB, gV, gT, reduceIte, reduceCtorEq, Nat.reduceEqDiff, Nat.reduceAdd, Nat.reduceSub, Nat.reduceLeDiff, Nat.reduceLT, Int.reduceEq, Nat.reduceMul, q1, hk, f6, f0, f1, f2, c1, hk, f7, f0, f1, f2, f6, c2]
      refine Xdraw_intro [0, 1, 2, 3, 4, 5, 6, 7, 8, 9, 10, 11, 12, 13, 14] mixed (by kernel_rfl) (by decide +kernel) ?_
      simp (maxDischargeDepth := 9) only [↓gB, gV, gT, reduceIte, reduceCtorEq, Nat.reduceEqDiff, Nat.reduceAdd, Nat.reduceSub, Nat.reduceLeDiff, Nat.reduceLT, Int.reduceEq, Nat.reduceMul, q1, hk, f6, f0, f1, f2, c1, hk, f7, f0, f1, f2, f6, c2]
      obtain ⟨x1, a1, s1, m1, rfl, rfl, e1⟩ := hrow.at1 (j) (by omega) rfl
      simp (maxDischargeDepth := 9) only [↓gB, gV, gT, reduceIte, reduceCtorEq, Nat.reduceEqDiff, Nat.reduceAdd, Nat.reduceSub, Nat.reduceLeDiff, Nat.reduceLT, Int.reduceEq, Nat.reduceMul, q1, f6, f1, f2, c1, f7, f1, f2, f6, c2, hk, f0, hk, f0, e1]
      refine vguard_intro (by omega) ?_
      have q2 : Go.IntKind.i64.wrap (↑j - 1) = ↑j - 1 := wrap_id (by omega)
      simp (maxDischargeDepth := 9) only [↓gB, gV, gT, reduceIte, reduceCtorEq, Nat.reduceEqDiff, Nat.reduceAdd, Nat.reduceSub, Nat.reduceLeDiff, Nat.reduceLT, Int.reduceEq, Nat.reduceMul, q1, f6, f1, f2, c1, f7, f1, f2, f6, c2, hk, f0, hk, f0, e1, q2]
      refine vguard_intro (by omega) ?_
      obtain ⟨x2, s2, m2, rfl, e2⟩ := hrow.at1' (j - 1) (by omega) rfl
      simp (maxDischargeDepth := 9) only [↓gB, gV, gT, reduceIte, reduceCtorEq, Nat.reduceEqDiff, Nat.reduceAdd, Nat.reduceSub, Nat.reduceLeDiff, Nat.reduceLT, Int.reduceEq, Nat.reduceMul, q1, f6, f1, f2, c1, f7, f1, f2, f6, c2, hk, f0, hk, f0, e1, q2, e2]
      refine Ycp (p156) ?_
      simp (maxDischargeDepth := 9) only [↓gB, gV, gT, reduceIte, reduceCtorEq, Nat.reduceEqDiff, Nat.reduceAdd, Nat.reduceSub, Nat.reduceLeDiff, Nat.reduceLT, Int.reduceEq, Nat.reduceMul, q1, f6, f1, f2, c1, f7, f1, f2, f6, c2, hk, f0, hk, f0, e1, q2, e2]
      by_cases c3 : sLt x1 x2 = true
      · have hjc : ((j - 1 : Nat) : Int) = (j : Int) - 1 := by omega
        focus
          simp (maxDischargeDepth := 9) only [↓gB, gV, gT, reduceIte, reduceCtorEq, Nat.reduceEqDiff, Nat.reduceAdd, Nat.reduceSub, Nat.reduceLeDiff, Nat.reduceLT, Int.reduceEq, Nat.reduceMul, q1, f6, f1, f2, c1, f7, f1, f2, f6, c2, hk, f0, hk, f0, e1, q2, e2, c3, hjc]
          refine Xdraw_intro [0, 1, 2, 3, 4, 5, 6, 7, 8, 9, 10, 11, 12, 13, 14, 15, 16, 17] mixed (by kernel_rfl) (by decide +kernel) ?_
          simp (maxDischargeDepth := 9) only [↓gB, gV, gT, reduceIte, reduceCtorEq, Nat.reduceEqDiff, Nat.reduceAdd, Nat.reduceSub, Nat.reduceLeDiff, Nat.reduceLT, Int.reduceEq, Nat.reduceMul, q1, f6, f1, f2, c1, f7, f1, f2, f6, c2, hk, f0, hk, f0, e1, q2, e2, c3, hjc]
          refine vguard_intro (by omega) ?_
          refine vguard_intro (by omega) ?_
          refine vguard_intro (by omega) ?_
          refine Yrow1 hrow rfl (by first | omega | (simp only [List.length_set]; omega)) (fun _ _ => rfl) fun G1 w1 i1 k1 kn1 l1 => ?_
          simp (maxDischargeDepth := 9) only [↓gB, gV, gT, reduceIte, reduceCtorEq, Nat.reduceEqDiff, Nat.reduceAdd, Nat.reduceSub, Nat.reduceLeDiff, Nat.reduceLT, Int.reduceEq, Nat.reduceMul, q1, f6, f1, f2, c1, f7, f1, f2, f6, c2, hk, f0, hk, f0, e1, q2, e2, c3, kn1, hjc]
          refine vguard_intro (by omega) ?_
          refine Yrow1 w1 rfl (by first | omega | (simp only [List.length_set]; omega)) (fun _ _ => rfl) fun G2 w2 i2 k2 kn2 l2 => ?_
          simp (maxDischargeDepth := 9) only [↓gB, gV, gT, reduceIte, reduceCtorEq, Nat.reduceEqDiff, Nat.reduceAdd, Nat.reduceSub, Nat.reduceLeDiff, Nat.reduceLT, Int.reduceEq, Nat.reduceMul, q1, f6, f1, f2, c1, f7, f1, f2, f6, c2, hk, f0, hk, f0, e1, q2, e2, c3, kn1, kn2, hjc]
          rw [N_lp]
          refine ⟨_, ?_, _, sub_refl _, j - 1, (L.set j x2).set (j - 1) x1, rfl, ?_, ?_, ?_, ?_, ?_, ?_, by simp (maxDischargeDepth := 9) only [↓gB, gV, gT, reduceIte, reduceCtorEq, Nat.reduceEqDiff, Nat.reduceAdd, Nat.reduceSub, Nat.reduceLeDiff, Nat.reduceLT, Int.reduceEq, Nat.reduceMul, q1, f6, f1, f2, c1, f7, f1, f2, f6, c2, hk, f0, hk, f0, e1, q2, e2, c3, kn1, kn2, hjc, nat_succ, and_self]⟩
          · omega
          · omega
          · (simp [hL]; done)
          · ((rw [← h, sink_step c2 m1 m2, if_pos ((sCmp_lt _ _).2 c3)]); done)
          · assumption
          · (exact fun b o q1 q2 => k2 b o (k1 b o (hk b o q1 q2) q2) q2; done)
          · (exact fun q => l2 (l1 (hl q)); done)
      · have c4 : sLt x1 x2 = false := by simpa using c3
        have e : isortTo sCmp xs (i + 1) = L := by
          show sink sCmp i (isortTo sCmp xs i) = L
          rw [← h, sink_step c2 m1 m2, if_neg (fun q => c3 ((sCmp_lt _ _).1 q))]
        focus
          simp (maxDischargeDepth := 9) only [↓gB, gV, gT, reduceIte, reduceCtorEq, Nat.reduceEqDiff, Nat.reduceAdd, Nat.reduceSub, Nat.reduceLeDiff, Nat.reduceLT, Int.reduceEq, Nat.reduceMul, q1, f6, f1, f2, c1, f7, f1, f2, f6, c2, hk, f0, hk, f0, e1, q2, e2, c3, c4]
          have q3 : Go.IntKind.i64.wrap (↑i + 1) = ↑i + 1 := wrap_id (by omega)
          simp (maxDischargeDepth := 9) only [↓gB, gV, gT, reduceIte, reduceCtorEq, Nat.reduceEqDiff, Nat.reduceAdd, Nat.reduceSub, Nat.reduceLeDiff, Nat.reduceLT, Int.reduceEq, Nat.reduceMul, q1, f6, f1, f2, c1, f7, f1, f2, f6, c2, hk, f0, hk, f0, e1, q2, e2, c3, c4, q3]
          rw [N_lp]
          refine ⟨_, ?_, _, sub_refl _, i + 1, rfl, ?_, ?_, ?_, ?_, ?_, by simp (maxDischargeDepth := 9) only [↓gB, gV, gT, reduceIte, reduceCtorEq, Nat.reduceEqDiff, Nat.reduceAdd, Nat.reduceSub, Nat.reduceLeDiff, Nat.reduceLT, Int.reduceEq, Nat.reduceMul, q1, f6, f1, f2, c1, f7, f1, f2, f6, c2, hk, f0, hk, f0, e1, q2, e2, c3, c4, q3, nat_succ, and_self]⟩
          · omega
          · omega
          · omega
          · (rw [e]; exact hrow; done)
          · assumption
          · assumption
    · have e : isortTo sCmp xs (i + 1) = L := by
        have : j = 0 := by omega
        subst this
        exact h.symm
      focus
        simp (maxDischargeDepth := 9) only [↓gB, gV, gT, reduceIte, reduceCtorEq, Nat.reduceEqDiff, Nat.reduceAdd, Nat.reduceSub, Nat.reduceLeDiff, Nat.reduceLT, Int.reduceEq, Nat.reduceMul, q1, hk, f6, f0, f1, f2, c1, hk, f7, f0, f1, f2, f6, c2]
        refine Xdraw_intro [0, 1, 2, 3, 4, 5, 6, 7, 8, 9, 10, 11, 12, 13, 14] mixed (by kernel_rfl) (by decide +kernel) ?_
        simp (maxDischargeDepth := 9) only [↓gB, gV, gT, reduceIte, reduceCtorEq, Nat.reduceEqDiff, Nat.reduceAdd, Nat.reduceSub, Nat.reduceLeDiff, Nat.reduceLT, Int.reduceEq, Nat.reduceMul, q1, hk, f6, f0, f1, f2, c1, hk, f7, f0, f1, f2, f6, c2]
        have q2 : Go.IntKind.i64.wrap (↑i + 1) = ↑i + 1 := wrap_id (by omega)
        simp (maxDischargeDepth := 9) only [↓gB, gV, gT, reduceIte, reduceCtorEq, Nat.reduceEqDiff, Nat.reduceAdd, Nat.reduceSub, Nat.reduceLeDiff, Nat.reduceLT, Int.reduceEq, Nat.reduceMul, q1, hk, f6, f0, f1, f2, c1, hk, f7, f0, f1, f2, f6, c2, q2]
        rw [N_lp]
        refine ⟨_, ?_, _, sub_refl _, i + 1, rfl, ?_, ?_, ?_, ?_, ?_, by simp (maxDischargeDepth := 9) only [↓gB, gV, gT, reduceIte, reduceCtorEq, Nat.reduceEqDiff, Nat.reduceAdd, Nat.reduceSub, Nat.reduceLeDiff, Nat.reduceLT, Int.reduceEq, Nat.reduceMul, q1, hk, f6, f0, f1, f2, c1, hk, f7, f0, f1, f2, f6, c2, q2, nat_succ, and_self]⟩
        · omega
        · omega
        · omega
        · (rw [e]; exact hrow; done)
        · assumption
        · assumption
  · have e : isortTo sCmp xs i = isort sCmp xs := by
      rcases hi2 with h | h
      · have : i = xs.length := by omega
        rw [this]; rfl
      · subst h
        have : xs.length = 0 ∨ xs.length = 1 := by omega
        unfold isort
        rcases this with h | h <;> rw [h] <;> rfl
    simp (maxDischargeDepth := 9) only [↓gB, gV, gT, reduceIte, reduceCtorEq, Nat.reduceEqDiff, Nat.reduceAdd, Nat.reduceSub, Nat.reduceLeDiff, Nat.reduceLT, Int.reduceEq, Nat.reduceMul, q1, hk, f6, f0, f1, f2, c1]
    exact Kup_same ⟨rfl, e ▸ hrow, hk, hl⟩
theorem s133 {G0 G : GH} {v : Value} {xs : List ByteArray} {n : Nat} {m : Int} (hrow : Row Rp.str 9 G0 G v xs) (hn : n = xs.length) (hb : xs.length ≤ 12) :
    GCalls Tryd.prog 133 [v, V 0, V n, V m].toArray G (fun u G' => u = .tuple #[] ∧ Row Rp.str 9 G0 G' v (isort sCmp xs) ∧ (∀ b o, G b = some o → notAt v b → G' b = some o) ∧ (G0.le G → G0.le G')) := by
  have hn12 : (n : Int) ≤ 12 := by omega
  refine enter Tryd.func133 134 #[] rfl Tryd.ntmps133 rfl (by decide +kernel) rfl ?_
  simp (maxDischargeDepth := 9) only [↓gB, gV, gT, reduceIte, reduceCtorEq, Nat.reduceEqDiff, Nat.reduceAdd, Nat.reduceSub, Nat.reduceLeDiff, Nat.reduceLT, Int.reduceEq, Nat.reduceMul]
  refine Xloop_intro _ _ _ _ _ (fun k f G' => k = 0 ∧ (G = G') ∧ f 0 = v ∧ f 1 = V 0 ∧ f 2 = V n ∧ f 3 = V m ∧ f 8 = .bool true ∧ f 9 = .bool true) _ ⟨rfl, rfl, by simp (maxDischargeDepth := 9) only [↓gB, gV, gT, reduceIte, reduceCtorEq, Nat.reduceEqDiff, Nat.reduceAdd, Nat.reduceSub, Nat.reduceLeDiff, Nat.reduceLT, Int.reduceEq, Nat.reduceMul, and_self]⟩ ?_
  rintro k f G' ⟨rfl, rfl, f0, f1, f2, f3, f8, f9⟩
  simp (maxDischargeDepth := 9) only [↓gB, gV, gT, reduceIte, reduceCtorEq, Nat.reduceEqDiff, Nat.reduceAdd, Nat.reduceSub, Nat.reduceLeDiff, Nat.reduceLT, Int.reduceEq, Nat.reduceMul, f0, f1, f2, f3, f8, f9]
  have q1 : Go.IntKind.i64.wrap (↑n - 0) = ↑n - 0 := wrap_id (by omega)
  simp (maxDischargeDepth := 9) only [↓gB, gV, gT, reduceIte, reduceCtorEq, Nat.reduceEqDiff, Nat.reduceAdd, Nat.reduceSub, Nat.reduceLeDiff, Nat.reduceLT, Int.reduceEq, Nat.reduceMul, f0, f1, f2, f3, f8, f9, q1]
  refine Xc_pos _ _ _ _ _ (by omega) ?_
  simp (maxDischargeDepth := 9) only [↓gB, gV, gT, reduceIte, reduceCtorEq, Nat.reduceEqDiff, Nat.reduceAdd, Nat.reduceSub, Nat.reduceLeDiff, Nat.reduceLT, Int.reduceEq, Nat.reduceMul, f0, f1, f2, f3, f8, f9, q1]
  refine Ycall_intro (md := none) (s161 hrow hn (by omega)) ?_
  rintro u G1 ⟨rfl, hrow, hk, hl⟩
  simp (maxDischargeDepth := 9) only [↓gB, gV, gT, reduceIte, reduceCtorEq, Nat.reduceEqDiff, Nat.reduceAdd, Nat.reduceSub, Nat.reduceLeDiff, Nat.reduceLT, Int.reduceEq, Nat.reduceMul, f0, f1, f2, f3, f8, f9, q1, hk]
  exact Kup_same ⟨rfl, hrow, hk, hl⟩
theorem s101 {G0 G : GH} {v : Value} {xs : List ByteArray} (hrow : Row Rp.str 9 G0 G v xs) (hb : xs.length ≤ 12) :
    GCalls Tryd.prog 101 [v].toArray G (fun u G' => u = .tuple #[] ∧ Row Rp.str 9 G0 G' v (isort sCmp xs) ∧ (∀ b o, G b = some o → notAt v b → G' b = some o) ∧ (G0.le G → G0.le G')) := by
  obtain ⟨a, c, rfl⟩ := hrow.val
  have hw : IntKind.u64.wrap (xs.length : Int) = xs.length := by rw [IntKind.wrap_u64]; omega
  refine enter Tryd.func101 11 #[] rfl Tryd.ntmps101 rfl (by decide +kernel) rfl ?_
  simp (maxDischargeDepth := 9) only [↓gB, gV, gT, reduceIte, reduceCtorEq, Nat.reduceEqDiff, Nat.reduceAdd, Nat.reduceSub, Nat.reduceLeDiff, Nat.reduceLT, Int.reduceEq, Nat.reduceMul, hw]
  refine Ycp (p134 (by omega) (by omega)) ?_
  simp (maxDischargeDepth := 9) only [↓gB, gV, gT, reduceIte, reduceCtorEq, Nat.reduceEqDiff, Nat.reduceAdd, Nat.reduceSub, Nat.reduceLeDiff, Nat.reduceLT, Int.reduceEq, Nat.reduceMul, hw]
  refine Ycall_intro (md := none) (s133 hrow rfl hb) ?_
  rintro u G1 ⟨rfl, hrow, hk, hl⟩
  simp (maxDischargeDepth := 9) only [↓gB, gV, gT, reduceIte, reduceCtorEq, Nat.reduceEqDiff, Nat.reduceAdd, Nat.reduceSub, Nat.reduceLeDiff, Nat.reduceLT, Int.reduceEq, Nat.reduceMul, hw, hk]
  exact Kup_same ⟨rfl, hrow, hk, hl⟩
theorem compCalls2 {e : TypeId} {G0 G : GH} {v : Value} {xs : List ByteArray} (hr : Row Rp.str e G0 G v xs) (hn : xs.length ≤ 1000000000) (hl : G0.le G) : GCalls Tryd.prog 86 [v].toArray G (fun u G' => Row Rp.str e G0 G' u (compF none xs) ∧ G0.le G') :=
  gcompact (fun blk cap zs w hH h1 h2 => Any.slices_Compact_string Tryd.layComp blk 0 cap zs w hH h1 h2) (fun a cap w => Any.slices_Compact_string_empty Tryd.layComp a cap w) hr hn hl
end Go.Proofs.YtnlbapfbdabjaaaDoor
namespace Go.Proofs.YtnlbapfbdabjaaaDoor
open Go Go.GL
attribute [local irreducible] Ycall GCalls
set_option maxRecDepth 10000
set_option maxHeartbeats 0
theorem p43 {G0 : GH} {v w u : Value} {ns : List SNode} {ar : List SArc} {bs : List SBan} (hv : RSl rNode G0 v ns) (hw : RSl rArc G0 w ar) (hu : RSl rBan G0 u bs) (hn : ns.length ≤ 1000000000) (hm : ar.length ≤ 1000000000) (hk : ∀ x ∈ ar, x.Knots.length ≤ 1000000000) (hb : bs.length ≤ 1000000000) : Pure Tryd.prog G0 43 [.agg #[v, w, u]] (V (roadsE ns ar bs)) := by
  intro G hG; replace hv := hv.le hG; replace hw := hw.le hG; replace hu := hu.le hG
  clear hG G0
  refine enter Tryd.func43 131 #[.tmp 2] rfl Tryd.ntmps43 rfl (by decide +kernel) rfl ?_
  obtain ⟨va, vc, rfl⟩ := hv.val
  obtain ⟨wa, wc, rfl⟩ := hw.val
  obtain ⟨ua, uc, rfl⟩ := hu.val
  by_cases he : nodesE ns = 0
  · obtain ⟨hnl, hnr⟩ := nodes_rise he
    simp (maxDischargeDepth := 9) only [↓gB, gV, gT, reduceIte, reduceCtorEq, Nat.reduceEqDiff, Nat.reduceAdd, Nat.reduceSub, Nat.reduceLeDiff, Nat.reduceLT, Int.reduceEq, Nat.reduceMul, he]
    refine Yn2 fun r1 h1 => ?_
    simp (maxDischargeDepth := 9) only [↓gB, gV, gT, reduceIte, reduceCtorEq, Nat.reduceEqDiff, Nat.reduceAdd, Nat.reduceSub, Nat.reduceLeDiff, Nat.reduceLT, Int.reduceEq, Nat.reduceMul, h1, he]
    refine Ycp (p91 (by exact RSl.put _ (by assumption) (by assumption)) (by omega)) ?_
    simp (maxDischargeDepth := 9) only [↓gB, gV, gT, reduceIte, reduceCtorEq, Nat.reduceEqDiff, Nat.reduceAdd, Nat.reduceSub, Nat.reduceLeDiff, Nat.reduceLT, Int.reduceEq, Nat.reduceMul, h1, he]
    refine Xc_split _ _ _ _ _ (fun c0 => ?_) (fun c0 => ?_)
    · simp (maxDischargeDepth := 9) only [↓gB, gV, gT, reduceIte, reduceCtorEq, Nat.reduceEqDiff, Nat.reduceAdd, Nat.reduceSub, Nat.reduceLeDiff, Nat.reduceLT, Int.reduceEq, Nat.reduceMul, h1, c0]
      refine Kup_val (by simp (maxDischargeDepth := 9) only [le_self, le_puts, le_put0, h1]) ?_
      focus (rw [rE2 he c0]; done)
    · simp (maxDischargeDepth := 9) only [↓gB, gV, gT, reduceIte, reduceCtorEq, Nat.reduceEqDiff, Nat.reduceAdd, Nat.reduceSub, Nat.reduceLeDiff, Nat.reduceLT, Int.reduceEq, Nat.reduceMul, h1, c0]
      focus
        refine Xloop_intro _ _ _ _ _ (fun k f G' => ∃ (i : Nat), k = ar.length - i ∧ (i ≤ ar.length) ∧ (chk (arcBad ns) none ar = chk (arcBad ns) (prevOf ar i) (ar.drop i)) ∧ (G' r1 = some (.cells [.slice va ns.length vc, .slice wa ar.length wc, .slice ua bs.length uc].toArray 84 (0, 0), true)) ∧ (RSl rNode G' (.slice va ns.length vc) ns) ∧ (RSl rArc G' (.slice wa ar.length wc) ar) ∧ (RSl rBan G' (.slice ua bs.length uc) bs) ∧ (G.le G') ∧ f 24 = V i ∧ f 1 = Go.Value.pointer (Option.some { block := r1, off := 0 }) ∧ f 22 = Go.Value.slice wa ar.length wc ∧ f 23 = Go.Value.int Go.IntKind.i64 ↑ar.length) _ ⟨0, rfl, ?_, ?_, ?_, ?_, ?_, ?_, ?_, by simp (maxDischargeDepth := 9) only [↓gB, gV, gT, reduceIte, reduceCtorEq, Nat.reduceEqDiff, Nat.reduceAdd, Nat.reduceSub, Nat.reduceLeDiff, Nat.reduceLT, Int.reduceEq, Nat.reduceMul, h1, c0, and_self]⟩ ?_
        · omega
        · rfl
        · exact put_self _ _ _
        · exact RSl.put _ (by assumption) (by assumption)
        · exact RSl.put _ (by assumption) (by assumption)
        · exact RSl.put _ (by assumption) (by assumption)
        · (simp (maxDischargeDepth := 9) only [le_self, le_puts, le_put0, sub_self, sub_puts, sub_put0, h1]; done)
        rintro k f G' ⟨i, rfl, hi, h, hr, hv, hw, hu, hle, f24, f1, f22, f23⟩
      simp (maxDischargeDepth := 9) only [↓gB, gV, gT, reduceIte, reduceCtorEq, Nat.reduceEqDiff, Nat.reduceAdd, Nat.reduceSub, Nat.reduceLeDiff, Nat.reduceLT, Int.reduceEq, Nat.reduceMul, h1, c0, hr, f24, f1, f22, f23]
      refine Xc_split _ _ _ _ _ (fun c1 => ?_) (fun c1 => ?_)
      · obtain ⟨x, hx⟩ : ∃ x, ar[i]? = some x := ⟨_, List.getElem?_eq_getElem (by omega)⟩
        have hxk := hk x (List.mem_of_getElem? hx)
        simp (maxDischargeDepth := 9) only [↓gB, gV, gT, reduceIte, reduceCtorEq, Nat.reduceEqDiff, Nat.reduceAdd, Nat.reduceSub, Nat.reduceLeDiff, Nat.reduceLT, Int.reduceEq, Nat.reduceMul, h1, c0, hr, f24, f1, f22, f23, c1]
        obtain ⟨x1, a1, s1, m1, rfl, ⟨v1, rfl, w1⟩, e1⟩ := hw.at (i) (by omega) 5 rfl
        obtain ⟨aw1, cw1, rfl⟩ := RSl.val w1
        simp (maxDischargeDepth := 9) only [↓gB, gV, gT, reduceIte, reduceCtorEq, Nat.reduceEqDiff, Nat.reduceAdd, Nat.reduceSub, Nat.reduceLeDiff, Nat.reduceLT, Int.reduceEq, Nat.reduceMul, h1, c0, f24, f1, f23, c1, hr, f22, e1]
        refine vguard_intro (by simp) ?_
        refine Yn2 fun r2 h2 => ?_
        simp (maxDischargeDepth := 9) only [↓gB, gV, gT, reduceIte, reduceCtorEq, Nat.reduceEqDiff, Nat.reduceAdd, Nat.reduceSub, Nat.reduceLeDiff, Nat.reduceLT, Int.reduceEq, Nat.reduceMul, h1, c0, f24, f1, f23, c1, hr, f22, e1, h2]
        refine Ycp (p78) ?_
        simp (maxDischargeDepth := 9) only [↓gB, gV, gT, reduceIte, reduceCtorEq, Nat.reduceEqDiff, Nat.reduceAdd, Nat.reduceSub, Nat.reduceLeDiff, Nat.reduceLT, Int.reduceEq, Nat.reduceMul, h1, c0, f24, f1, f23, c1, hr, f22, e1, h2]
        obtain rfl : x = x1 := by rw [hx] at m1; cases m1; rfl
        have n2 : r1 ≠ r2 := ne_of_none hr h2
        have hpz : ¬ (0 : Int) < i → (prevOf ar i).any (fun q => !sLt q.Key x.Key) = false := fun q => pvz q
        focus
          rcases bool_tf (Go.Proofs.YtnlbapfbdabjaaaDoor.isKey x.Key) with c2 | c2
          rotate_left 1
          focus
            simp (maxDischargeDepth := 9) only [↓gB, gV, gT, reduceIte, reduceCtorEq, Nat.reduceEqDiff, Nat.reduceAdd, Nat.reduceSub, Nat.reduceLeDiff, Nat.reduceLT, Int.reduceEq, Nat.reduceMul, h1, c0, f24, f1, f23, c1, hr, f22, h2, e1, n2, c2]
            refine Kup_val (by simp (maxDischargeDepth := 9) only [le_self, le_puts, le_put0, h1, hle, h2]) ?_
            focus (rw [rE3 he c0 (chk_bad h hx (ab5 (by assumption)) (by decide)) (by decide)]; done)
          rotate_right 1
          simp (maxDischargeDepth := 9) only [↓gB, gV, gT, reduceIte, reduceCtorEq, Nat.reduceEqDiff, Nat.reduceAdd, Nat.reduceSub, Nat.reduceLeDiff, Nat.reduceLT, Int.reduceEq, Nat.reduceMul, h1, c0, f24, f1, f23, c1, hr, f22, h2, e1, n2, c2]
          refine Xdraw_intro [0, 1, 2, 3, 4, 5, 6, 7, 8, 9, 10, 11, 12, 13, 14] mixed (by kernel_rfl) (by decide +kernel) ?_
          simp (maxDischargeDepth := 9) only [↓gB, gV, gT, reduceIte, reduceCtorEq, Nat.reduceEqDiff, Nat.reduceAdd, Nat.reduceSub, Nat.reduceLeDiff, Nat.reduceLT, Int.reduceEq, Nat.reduceMul, h1, c0, f24, f1, f23, c1, hr, f22, h2, e1, n2, c2]
          by_cases c3 : (0 : Int) < ↑i
          rotate_left 1
          focus
            simp (maxDischargeDepth := 9) only [↓gB, gV, gT, reduceIte, reduceCtorEq, Nat.reduceEqDiff, Nat.reduceAdd, Nat.reduceSub, Nat.reduceLeDiff, Nat.reduceLT, Int.reduceEq, Nat.reduceMul, h1, c0, f24, f1, f23, c1, hr, f22, h2, e1, n2, c2, c3]
            refine Ycp (p92 (by exact (le_put (by assumption) _) _ _ (by assumption)) (by exact RSl.put _ (by assumption) (by assumption)) (by omega) (by assumption)) ?_
            simp (maxDischargeDepth := 9) only [↓gB, gV, gT, reduceIte, reduceCtorEq, Nat.reduceEqDiff, Nat.reduceAdd, Nat.reduceSub, Nat.reduceLeDiff, Nat.reduceLT, Int.reduceEq, Nat.reduceMul, h1, c0, f24, f1, f23, c1, hr, f22, h2, e1, n2, c2, c3]
            by_cases c4 : (Go.Proofs.YtnlbapfbdabjaaaDoor.keyAt Go.Proofs.YtnlbapfbdabjaaaDoor.SNode.Key ns x.From : Int) < 0
            rotate_left 1
            focus
              simp (maxDischargeDepth := 9) only [↓gB, gV, gT, reduceIte, reduceCtorEq, Nat.reduceEqDiff, Nat.reduceAdd, Nat.reduceSub, Nat.reduceLeDiff, Nat.reduceLT, Int.reduceEq, Nat.reduceMul, h1, c0, f24, f1, f23, c1, hr, f22, h2, e1, n2, c2, c3, c4]
              refine Ycp (p92 (by exact (le_put (by assumption) _) _ _ (by assumption)) (by exact RSl.put _ (by assumption) (by assumption)) (by omega) (by assumption)) ?_
              simp (maxDischargeDepth := 9) only [↓gB, gV, gT, reduceIte, reduceCtorEq, Nat.reduceEqDiff, Nat.reduceAdd, Nat.reduceSub, Nat.reduceLeDiff, Nat.reduceLT, Int.reduceEq, Nat.reduceMul, h1, c0, f24, f1, f23, c1, hr, f22, h2, e1, n2, c2, c3, c4]
              refine Xc_split _ _ _ _ _ (fun c5 => ?_) (fun c5 => ?_)
              rotate_left 1
              focus
                simp (maxDischargeDepth := 9) only [↓gB, gV, gT, reduceIte, reduceCtorEq, Nat.reduceEqDiff, Nat.reduceAdd, Nat.reduceSub, Nat.reduceLeDiff, Nat.reduceLT, Int.reduceEq, Nat.reduceMul, h1, c0, f24, f1, f23, c1, hr, f22, h2, e1, n2, c2, c3, c4, c5]
                refine Xc_split _ _ _ _ _ (fun c6 => ?_) (fun c6 => ?_)
                rotate_left 1
                focus
                  simp (maxDischargeDepth := 9) only [↓gB, gV, gT, reduceIte, reduceCtorEq, Nat.reduceEqDiff, Nat.reduceAdd, Nat.reduceSub, Nat.reduceLeDiff, Nat.reduceLT, Int.reduceEq, Nat.reduceMul, h1, c0, f24, f1, f23, c1, hr, f22, h2, e1, n2, c2, c3, c4, c5, c6]
                  refine Ycp (p74) ?_
                  simp (maxDischargeDepth := 9) only [↓gB, gV, gT, reduceIte, reduceCtorEq, Nat.reduceEqDiff, Nat.reduceAdd, Nat.reduceSub, Nat.reduceLeDiff, Nat.reduceLT, Int.reduceEq, Nat.reduceMul, h1, c0, f24, f1, f23, c1, hr, f22, h2, e1, n2, c2, c3, c4, c5, c6]
                  rcases bool_tf (Go.Proofs.YtnlbapfbdabjaaaDoor.within x.Long 1 1000000) with c7 | c7
                  rotate_left 1
                  focus
                    simp (maxDischargeDepth := 9) only [↓gB, gV, gT, reduceIte, reduceCtorEq, Nat.reduceEqDiff, Nat.reduceAdd, Nat.reduceSub, Nat.reduceLeDiff, Nat.reduceLT, Int.reduceEq, Nat.reduceMul, h1, c0, f24, f1, f23, c1, hr, f22, h2, e1, n2, c2, c3, c4, c5, c6, c7]
                    refine Kup_val (by simp (maxDischargeDepth := 9) only [le_self, le_puts, le_put0, h1, hle, h2]) ?_
                    focus (rw [rE3 he c0 (chk_bad h hx (ab1 (by assumption) (by first | exact pvp (by assumption) m2 (by simp [*]) | exact hpz (by assumption)) (by assumption) (by assumption) (by assumption) (by assumption)) (by decide)) (by decide)]; done)
                  rotate_right 1
                  simp (maxDischargeDepth := 9) only [↓gB, gV, gT, reduceIte, reduceCtorEq, Nat.reduceEqDiff, Nat.reduceAdd, Nat.reduceSub, Nat.reduceLeDiff, Nat.reduceLT, Int.reduceEq, Nat.reduceMul, h1, c0, f24, f1, f23, c1, hr, f22, h2, e1, n2, c2, c3, c4, c5, c6, c7]
                  refine Ycp (p93 (by exact RSl.put _ (by assumption) (by assumption)) (by omega)) ?_
                  simp (maxDischargeDepth := 9) only [↓gB, gV, gT, reduceIte, reduceCtorEq, Nat.reduceEqDiff, Nat.reduceAdd, Nat.reduceSub, Nat.reduceLeDiff, Nat.reduceLT, Int.reduceEq, Nat.reduceMul, h1, c0, f24, f1, f23, c1, hr, f22, h2, e1, n2, c2, c3, c4, c5, c6, c7]
                  refine Xc_split _ _ _ _ _ (fun c8 => ?_) (fun c8 => ?_)
                  rotate_left 1
                  focus
                    simp (maxDischargeDepth := 9) only [↓gB, gV, gT, reduceIte, reduceCtorEq, Nat.reduceEqDiff, Nat.reduceAdd, Nat.reduceSub, Nat.reduceLeDiff, Nat.reduceLT, Int.reduceEq, Nat.reduceMul, h1, c0, f24, f1, f23, c1, hr, f22, h2, e1, n2, c2, c3, c4, c5, c6, c7, c8]
                    have q1 : Go.IntKind.i64.wrap (↑i + 1) = ↑i + 1 := wrap_id (by omega)
                    simp (maxDischargeDepth := 9) only [↓gB, gV, gT, reduceIte, reduceCtorEq, Nat.reduceEqDiff, Nat.reduceAdd, Nat.reduceSub, Nat.reduceLeDiff, Nat.reduceLT, Int.reduceEq, Nat.reduceMul, h1, c0, f24, f1, f23, c1, hr, f22, h2, e1, n2, c2, c3, c4, c5, c6, c7, c8, q1]
                    rw [N_lp]
                    refine ⟨_, ?_, _, sub_refl _, i + 1, rfl, ?_, ?_, ?_, ?_, ?_, ?_, ?_, by simp (maxDischargeDepth := 9) only [↓gB, gV, gT, reduceIte, reduceCtorEq, Nat.reduceEqDiff, Nat.reduceAdd, Nat.reduceSub, Nat.reduceLeDiff, Nat.reduceLT, Int.reduceEq, Nat.reduceMul, h1, c0, f24, f1, f23, c1, hr, f22, h2, e1, n2, c2, c3, c4, c5, c6, c7, c8, q1, nat_succ, and_self]⟩
                    · omega
                    · omega
                    · (exact chk_next h hx ((abk (by assumption) (by first | exact pvp (by assumption) m2 (by simp [*]) | exact hpz (by assumption)) (by assumption) (by assumption) (by assumption) (by assumption)).trans (by omega)); done)
                    · exact (le_put (by assumption) _) _ _ (by assumption)
                    · exact RSl.put _ (by assumption) (by assumption)
                    · exact RSl.put _ (by assumption) (by assumption)
                    · exact RSl.put _ (by assumption) (by assumption)
                    · (simp (maxDischargeDepth := 9) only [le_self, le_puts, le_put0, sub_self, sub_puts, sub_put0, h1, hle, h2]; done)
                  rotate_right 1
                  simp (maxDischargeDepth := 9) only [↓gB, gV, gT, reduceIte, reduceCtorEq, Nat.reduceEqDiff, Nat.reduceAdd, Nat.reduceSub, Nat.reduceLeDiff, Nat.reduceLT, Int.reduceEq, Nat.reduceMul, h1, c0, f24, f1, f23, c1, hr, f22, h2, e1, n2, c2, c3, c4, c5, c6, c7, c8]
                  refine Kup_val (by simp (maxDischargeDepth := 9) only [le_self, le_puts, le_put0, h1, hle, h2]) ?_
                  focus (rw [rE3 he c0 (chk_bad h hx (abk (by assumption) (by first | exact pvp (by assumption) m2 (by simp [*]) | exact hpz (by assumption)) (by assumption) (by assumption) (by assumption) (by assumption)) (by assumption)) (by assumption)]; done)
                rotate_right 1
                simp (maxDischargeDepth := 9) only [↓gB, gV, gT, reduceIte, reduceCtorEq, Nat.reduceEqDiff, Nat.reduceAdd, Nat.reduceSub, Nat.reduceLeDiff, Nat.reduceLT, Int.reduceEq, Nat.reduceMul, h1, c0, f24, f1, f23, c1, hr, f22, h2, e1, n2, c2, c3, c4, c5, c6]
                refine Kup_val (by simp (maxDischargeDepth := 9) only [le_self, le_puts, le_put0, h1, hle, h2]) ?_
                focus (rw [rE3 he c0 (chk_bad h hx (ab6 (by assumption) (by first | exact pvp (by assumption) m2 (by simp [*]) | exact hpz (by assumption)) (by assumption) (by assumption) (by assumption)) (by decide)) (by decide)]; done)
              rotate_right 1
              simp (maxDischargeDepth := 9) only [↓gB, gV, gT, reduceIte, reduceCtorEq, Nat.reduceEqDiff, Nat.reduceAdd, Nat.reduceSub, Nat.reduceLeDiff, Nat.reduceLT, Int.reduceEq, Nat.reduceMul, h1, c0, f24, f1, f23, c1, hr, f22, h2, e1, n2, c2, c3, c4, c5]
              refine Kup_val (by simp (maxDischargeDepth := 9) only [le_self, le_puts, le_put0, h1, hle, h2]) ?_
              focus (rw [rE3 he c0 (chk_bad h hx (ab8 (by assumption) (by first | exact pvp (by assumption) m2 (by simp [*]) | exact hpz (by assumption)) (by first | exact .inl (by assumption) | exact .inr (by assumption))) (by decide)) (by decide)]; done)
            rotate_right 1
            simp (maxDischargeDepth := 9) only [↓gB, gV, gT, reduceIte, reduceCtorEq, Nat.reduceEqDiff, Nat.reduceAdd, Nat.reduceSub, Nat.reduceLeDiff, Nat.reduceLT, Int.reduceEq, Nat.reduceMul, h1, c0, f24, f1, f23, c1, hr, f22, h2, e1, n2, c2, c3, c4]
            refine Kup_val (by simp (maxDischargeDepth := 9) only [le_self, le_puts, le_put0, h1, hle, h2]) ?_
            focus (rw [rE3 he c0 (chk_bad h hx (ab8 (by assumption) (by first | exact pvp (by assumption) m2 (by simp [*]) | exact hpz (by assumption)) (by first | exact .inl (by assumption) | exact .inr (by assumption))) (by decide)) (by decide)]; done)
          rotate_right 1
          simp (maxDischargeDepth := 9) only [↓gB, gV, gT, reduceIte, reduceCtorEq, Nat.reduceEqDiff, Nat.reduceAdd, Nat.reduceSub, Nat.reduceLeDiff, Nat.reduceLT, Int.reduceEq, Nat.reduceMul, h1, c0, f24, f1, f23, c1, hr, f22, h2, e1, n2, c2, c3]
          have q1 : Go.IntKind.i64.wrap (↑i - 1) = ↑i - 1 := wrap_id (by omega)
          simp (maxDischargeDepth := 9) only [↓gB, gV, gT, reduceIte, reduceCtorEq, Nat.reduceEqDiff, Nat.reduceAdd, Nat.reduceSub, Nat.reduceLeDiff, Nat.reduceLT, Int.reduceEq, Nat.reduceMul, h1, c0, f24, f1, f23, c1, hr, f22, h2, e1, n2, c2, c3, q1]
          refine vguard_intro (by omega) ?_
          obtain ⟨x2, s2, m2, ⟨v2, rfl, w2⟩, e2⟩ := hw.at' (i - 1) (by omega) 5 rfl
          obtain ⟨aw2, cw2, rfl⟩ := RSl.val w2
          simp (maxDischargeDepth := 9) only [↓gB, gV, gT, reduceIte, reduceCtorEq, Nat.reduceEqDiff, Nat.reduceAdd, Nat.reduceSub, Nat.reduceLeDiff, Nat.reduceLT, Int.reduceEq, Nat.reduceMul, h1, c0, f24, f1, f23, c1, hr, f22, h2, e1, n2, c2, c3, q1, e2]
          rcases bool_tf (Go.GL.sLt x2.Key x.Key) with c4 | c4
          rotate_left 1
          focus
            simp (maxDischargeDepth := 9) only [↓gB, gV, gT, reduceIte, reduceCtorEq, Nat.reduceEqDiff, Nat.reduceAdd, Nat.reduceSub, Nat.reduceLeDiff, Nat.reduceLT, Int.reduceEq, Nat.reduceMul, h1, c0, f24, f1, f23, c1, hr, f22, h2, e1, n2, c2, c3, q1, e2, c4]
            refine Kup_val (by simp (maxDischargeDepth := 9) only [le_self, le_puts, le_put0, h1, hle, h2]) ?_
            focus (rw [rE3 he c0 (chk_bad h hx (ab7 (by assumption) (pvp (by assumption) m2 (by simp [*]))) (by decide)) (by decide)]; done)
          rotate_right 1
          simp (maxDischargeDepth := 9) only [↓gB, gV, gT, reduceIte, reduceCtorEq, Nat.reduceEqDiff, Nat.reduceAdd, Nat.reduceSub, Nat.reduceLeDiff, Nat.reduceLT, Int.reduceEq, Nat.reduceMul, h1, c0, f24, f1, f23, c1, hr, f22, h2, e1, n2, c2, c3, q1, e2, c4]
          refine Ycp (p92 (by exact (le_put (by assumption) _) _ _ (by assumption)) (by exact RSl.put _ (by assumption) (by assumption)) (by omega) (by assumption)) ?_
          simp (maxDischargeDepth := 9) only [↓gB, gV, gT, reduceIte, reduceCtorEq, Nat.reduceEqDiff, Nat.reduceAdd, Nat.reduceSub, Nat.reduceLeDiff, Nat.reduceLT, Int.reduceEq, Nat.reduceMul, h1, c0, f24, f1, f23, c1, hr, f22, h2, e1, n2, c2, c3, q1, e2, c4]
          by_cases c5 : (Go.Proofs.YtnlbapfbdabjaaaDoor.keyAt Go.Proofs.YtnlbapfbdabjaaaDoor.SNode.Key ns x.From : Int) < 0
          rotate_left 1
          focus
            simp (maxDischargeDepth := 9) only [↓gB, gV, gT, reduceIte, reduceCtorEq, Nat.reduceEqDiff, Nat.reduceAdd, Nat.reduceSub, Nat.reduceLeDiff, Nat.reduceLT, Int.reduceEq, Nat.reduceMul, h1, c0, f24, f1, f23, c1, hr, f22, h2, e1, n2, c2, c3, q1, e2, c4, c5]
            refine Ycp (p92 (by exact (le_put (by assumption) _) _ _ (by assumption)) (by exact RSl.put _ (by assumption) (by assumption)) (by omega) (by assumption)) ?_
            simp (maxDischargeDepth := 9) only [↓gB, gV, gT, reduceIte, reduceCtorEq, Nat.reduceEqDiff, Nat.reduceAdd, Nat.reduceSub, Nat.reduceLeDiff, Nat.reduceLT, Int.reduceEq, Nat.reduceMul, h1, c0, f24, f1, f23, c1, hr, f22, h2, e1, n2, c2, c3, q1, e2, c4, c5]
            refine Xc_split _ _ _ _ _ (fun c6 => ?_) (fun c6 => ?_)
            rotate_left 1
            focus
              simp (maxDischargeDepth := 9) only [↓gB, gV, gT, reduceIte, reduceCtorEq, Nat.reduceEqDiff, Nat.reduceAdd, Nat.reduceSub, Nat.reduceLeDiff, Nat.reduceLT, Int.reduceEq, Nat.reduceMul, h1, c0, f24, f1, f23, c1, hr, f22, h2, e1, n2, c2, c3, q1, e2, c4, c5, c6]
              refine Xc_split _ _ _ _ _ (fun c7 => ?_) (fun c7 => ?_)
              rotate_left 1
              focus
                simp (maxDischargeDepth := 9) only [↓gB, gV, gT, reduceIte, reduceCtorEq, Nat.reduceEqDiff, Nat.reduceAdd, Nat.reduceSub, Nat.reduceLeDiff, Nat.reduceLT, Int.reduceEq, Nat.reduceMul, h1, c0, f24, f1, f23, c1, hr, f22, h2, e1, n2, c2, c3, q1, e2, c4, c5, c6, c7]
                refine Ycp (p74) ?_
                simp (maxDischargeDepth := 9) only [↓gB, gV, gT, reduceIte, reduceCtorEq, Nat.reduceEqDiff, Nat.reduceAdd, Nat.reduceSub, Nat.reduceLeDiff, Nat.reduceLT, Int.reduceEq, Nat.reduceMul, h1, c0, f24, f1, f23, c1, hr, f22, h2, e1, n2, c2, c3, q1, e2, c4, c5, c6, c7]
                rcases bool_tf (Go.Proofs.YtnlbapfbdabjaaaDoor.within x.Long 1 1000000) with c8 | c8
                rotate_left 1
                focus
                  simp (maxDischargeDepth := 9) only [↓gB, gV, gT, reduceIte, reduceCtorEq, Nat.reduceEqDiff, Nat.reduceAdd, Nat.reduceSub, Nat.reduceLeDiff, Nat.reduceLT, Int.reduceEq, Nat.reduceMul, h1, c0, f24, f1, f23, c1, hr, f22, h2, e1, n2, c2, c3, q1, e2, c4, c5, c6, c7, c8]
                  refine Kup_val (by simp (maxDischargeDepth := 9) only [le_self, le_puts, le_put0, h1, hle, h2]) ?_
                  focus (rw [rE3 he c0 (chk_bad h hx (ab1 (by assumption) (by first | exact pvp (by assumption) m2 (by simp [*]) | exact hpz (by assumption)) (by assumption) (by assumption) (by assumption) (by assumption)) (by decide)) (by decide)]; done)
                rotate_right 1
                simp (maxDischargeDepth := 9) only [↓gB, gV, gT, reduceIte, reduceCtorEq, Nat.reduceEqDiff, Nat.reduceAdd, Nat.reduceSub, Nat.reduceLeDiff, Nat.reduceLT, Int.reduceEq, Nat.reduceMul, h1, c0, f24, f1, f23, c1, hr, f22, h2, e1, n2, c2, c3, q1, e2, c4, c5, c6, c7, c8]
                refine Ycp (p93 (by exact RSl.put _ (by assumption) (by assumption)) (by omega)) ?_
                simp (maxDischargeDepth := 9) only [↓gB, gV, gT, reduceIte, reduceCtorEq, Nat.reduceEqDiff, Nat.reduceAdd, Nat.reduceSub, Nat.reduceLeDiff, Nat.reduceLT, Int.reduceEq, Nat.reduceMul, h1, c0, f24, f1, f23, c1, hr, f22, h2, e1, n2, c2, c3, q1, e2, c4, c5, c6, c7, c8]
                refine Xc_split _ _ _ _ _ (fun c9 => ?_) (fun c9 => ?_)
                rotate_left 1
                focus
                  simp (maxDischargeDepth := 9) only [↓gB, gV, gT, reduceIte, reduceCtorEq, Nat.reduceEqDiff, Nat.reduceAdd, Nat.reduceSub, Nat.reduceLeDiff, Nat.reduceLT, Int.reduceEq, Nat.reduceMul, h1, c0, f24, f1, f23, c1, hr, f22, h2, e1, n2, c2, c3, q1, e2, c4, c5, c6, c7, c8, c9]
                  have q2 : Go.IntKind.i64.wrap (↑i + 1) = ↑i + 1 := wrap_id (by omega)
                  simp (maxDischargeDepth := 9) only [↓gB, gV, gT, reduceIte, reduceCtorEq, Nat.reduceEqDiff, Nat.reduceAdd, Nat.reduceSub, Nat.reduceLeDiff, Nat.reduceLT, Int.reduceEq, Nat.reduceMul, h1, c0, f24, f1, f23, c1, hr, f22, h2, e1, n2, c2, c3, q1, e2, c4, c5, c6, c7, c8, c9, q2]
                  rw [N_lp]
                  refine ⟨_, ?_, _, sub_refl _, i + 1, rfl, ?_, ?_, ?_, ?_, ?_, ?_, ?_, by simp (maxDischargeDepth := 9) only [↓gB, gV, gT, reduceIte, reduceCtorEq, Nat.reduceEqDiff, Nat.reduceAdd, Nat.reduceSub, Nat.reduceLeDiff, Nat.reduceLT, Int.reduceEq, Nat.reduceMul, h1, c0, f24, f1, f23, c1, hr, f22, h2, e1, n2, c2, c3, q1, e2, c4, c5, c6, c7, c8, c9, q2, nat_succ, and_self]⟩
                  · omega
                  · omega
                  · (exact chk_next h hx ((abk (by assumption) (by first | exact pvp (by assumption) m2 (by simp [*]) | exact hpz (by assumption)) (by assumption) (by assumption) (by assumption) (by assumption)).trans (by omega)); done)
                  · exact (le_put (by assumption) _) _ _ (by assumption)
                  · exact RSl.put _ (by assumption) (by assumption)
                  · exact RSl.put _ (by assumption) (by assumption)
                  · exact RSl.put _ (by assumption) (by assumption)
                  · (simp (maxDischargeDepth := 9) only [le_self, le_puts, le_put0, sub_self, sub_puts, sub_put0, h1, hle, h2]; done)
                rotate_right 1
                simp (maxDischargeDepth := 9) only [↓gB, gV, gT, reduceIte, reduceCtorEq, Nat.reduceEqDiff, Nat.reduceAdd, Nat.reduceSub, Nat.reduceLeDiff, Nat.reduceLT, Int.reduceEq, Nat.reduceMul, h1, c0, f24, f1, f23, c1, hr, f22, h2, e1, n2, c2, c3, q1, e2, c4, c5, c6, c7, c8, c9]
                refine Kup_val (by simp (maxDischargeDepth := 9) only [le_self, le_puts, le_put0, h1, hle, h2]) ?_
                focus (rw [rE3 he c0 (chk_bad h hx (abk (by assumption) (by first | exact pvp (by assumption) m2 (by simp [*]) | exact hpz (by assumption)) (by assumption) (by assumption) (by assumption) (by assumption)) (by assumption)) (by assumption)]; done)
              rotate_right 1
              simp (maxDischargeDepth := 9) only [↓gB, gV, gT, reduceIte, reduceCtorEq, Nat.reduceEqDiff, Nat.reduceAdd, Nat.reduceSub, Nat.reduceLeDiff, Nat.reduceLT, Int.reduceEq, Nat.reduceMul, h1, c0, f24, f1, f23, c1, hr, f22, h2, e1, n2, c2, c3, q1, e2, c4, c5, c6, c7]
              refine Kup_val (by simp (maxDischargeDepth := 9) only [le_self, le_puts, le_put0, h1, hle, h2]) ?_
              focus (rw [rE3 he c0 (chk_bad h hx (ab6 (by assumption) (by first | exact pvp (by assumption) m2 (by simp [*]) | exact hpz (by assumption)) (by assumption) (by assumption) (by assumption)) (by decide)) (by decide)]; done)
            rotate_right 1
            simp (maxDischargeDepth := 9) only [↓gB, gV, gT, reduceIte, reduceCtorEq, Nat.reduceEqDiff, Nat.reduceAdd, Nat.reduceSub, Nat.reduceLeDiff, Nat.reduceLT, Int.reduceEq, Nat.reduceMul, h1, c0, f24, f1, f23, c1, hr, f22, h2, e1, n2, c2, c3, q1, e2, c4, c5, c6]
            refine Kup_val (by simp (maxDischargeDepth := 9) only [le_self, le_puts, le_put0, h1, hle, h2]) ?_
            focus (rw [rE3 he c0 (chk_bad h hx (ab8 (by assumption) (by first | exact pvp (by assumption) m2 (by simp [*]) | exact hpz (by assumption)) (by first | exact .inl (by assumption) | exact .inr (by assumption))) (by decide)) (by decide)]; done)
          rotate_right 1
          simp (maxDischargeDepth := 9) only [↓gB, gV, gT, reduceIte, reduceCtorEq, Nat.reduceEqDiff, Nat.reduceAdd, Nat.reduceSub, Nat.reduceLeDiff, Nat.reduceLT, Int.reduceEq, Nat.reduceMul, h1, c0, f24, f1, f23, c1, hr, f22, h2, e1, n2, c2, c3, q1, e2, c4, c5]
          refine Kup_val (by simp (maxDischargeDepth := 9) only [le_self, le_puts, le_put0, h1, hle, h2]) ?_
          focus (rw [rE3 he c0 (chk_bad h hx (ab8 (by assumption) (by first | exact pvp (by assumption) m2 (by simp [*]) | exact hpz (by assumption)) (by first | exact .inl (by assumption) | exact .inr (by assumption))) (by decide)) (by decide)]; done)
      · have hc := chk_end h c1
        have har := arcs_rise hc
        simp (maxDischargeDepth := 9) only [↓gB, gV, gT, reduceIte, reduceCtorEq, Nat.reduceEqDiff, Nat.reduceAdd, Nat.reduceSub, Nat.reduceLeDiff, Nat.reduceLT, Int.reduceEq, Nat.reduceMul, h1, c0, hr, f24, f1, f22, f23, c1]
        refine Xc_split _ _ _ _ _ (fun c2 => ?_) (fun c2 => ?_)
        · simp (maxDischargeDepth := 9) only [↓gB, gV, gT, reduceIte, reduceCtorEq, Nat.reduceEqDiff, Nat.reduceAdd, Nat.reduceSub, Nat.reduceLeDiff, Nat.reduceLT, Int.reduceEq, Nat.reduceMul, h1, c0, hr, f24, f1, f22, f23, c1, c2]
          refine Kup_val (by simp (maxDischargeDepth := 9) only [le_self, le_puts, le_put0, h1, hle]) ?_
          focus (rw [rE4 he c0 hc c2]; done)
        · rw [rE5 he c0 hc c2]
          simp (maxDischargeDepth := 9) only [↓gB, gV, gT, reduceIte, reduceCtorEq, Nat.reduceEqDiff, Nat.reduceAdd, Nat.reduceSub, Nat.reduceLeDiff, Nat.reduceLT, Int.reduceEq, Nat.reduceMul, h1, c0, hr, f24, f1, f22, f23, c1, c2]
          focus
            refine Xloop_intro _ _ _ _ _ (fun k f G' => ∃ (i : Nat), k = bs.length - i ∧ (i ≤ bs.length) ∧ (chk (banBad ar) none bs = chk (banBad ar) (prevOf bs i) (bs.drop i)) ∧ (G' r1 = some (.cells [.slice va ns.length vc, .slice wa ar.length wc, .slice ua bs.length uc].toArray 84 (0, 0), true)) ∧ (RSl rNode G' (.slice va ns.length vc) ns) ∧ (RSl rArc G' (.slice wa ar.length wc) ar) ∧ (RSl rBan G' (.slice ua bs.length uc) bs) ∧ (G.le G') ∧ f 84 = V i ∧ f 1 = Go.Value.pointer (Option.some { block := r1, off := 0 }) ∧ f 82 = Go.Value.slice ua bs.length uc ∧ f 83 = Go.Value.int Go.IntKind.i64 ↑bs.length) _ ⟨0, rfl, ?_, ?_, ?_, ?_, ?_, ?_, ?_, by simp (maxDischargeDepth := 9) only [↓gB, gV, gT, reduceIte, reduceCtorEq, Nat.reduceEqDiff, Nat.reduceAdd, Nat.reduceSub, Nat.reduceLeDiff, Nat.reduceLT, Int.reduceEq, Nat.reduceMul, h1, c0, hr, f24, f1, f22, f23, c1, c2, and_self]⟩ ?_
            · omega
            · rfl
            · assumption
            · assumption
            · assumption
            · assumption
            · assumption
            rintro k f G' ⟨i, rfl, hi, h, hr, hv, hw, hu, hle, f84, f1, f82, f83⟩
          simp (maxDischargeDepth := 9) only [↓gB, gV, gT, reduceIte, reduceCtorEq, Nat.reduceEqDiff, Nat.reduceAdd, Nat.reduceSub, Nat.reduceLeDiff, Nat.reduceLT, Int.reduceEq, Nat.reduceMul, h1, c0, hr, f24, f1, f22, f23, c1, c2, hr, f84, f1, f82, f83]
          refine Xc_split _ _ _ _ _ (fun c3 => ?_) (fun c3 => ?_)
          · obtain ⟨x, hx⟩ : ∃ x, bs[i]? = some x := ⟨_, List.getElem?_eq_getElem (by omega)⟩
            have k1 := keyAt_lt SArc.Key ar x.From
            have k2 := keyAt_lt SArc.Key ar x.To
            simp (maxDischargeDepth := 9) only [↓gB, gV, gT, reduceIte, reduceCtorEq, Nat.reduceEqDiff, Nat.reduceAdd, Nat.reduceSub, Nat.reduceLeDiff, Nat.reduceLT, Int.reduceEq, Nat.reduceMul, h1, c0, hr, f24, f1, f22, f23, c1, c2, hr, f84, f1, f82, f83, c3]
            obtain ⟨x1, a1, s1, m1, rfl, rfl, e1⟩ := hu.at (i) (by omega) 2 rfl
            simp (maxDischargeDepth := 9) only [↓gB, gV, gT, reduceIte, reduceCtorEq, Nat.reduceEqDiff, Nat.reduceAdd, Nat.reduceSub, Nat.reduceLeDiff, Nat.reduceLT, Int.reduceEq, Nat.reduceMul, h1, c0, f24, f1, f22, f23, c1, c2, f84, f1, f83, c3, hr, hr, f82, e1]
            refine vguard_intro (by simp) ?_
            refine Yn2 fun r2 h2 => ?_
            simp (maxDischargeDepth := 9) only [↓gB, gV, gT, reduceIte, reduceCtorEq, Nat.reduceEqDiff, Nat.reduceAdd, Nat.reduceSub, Nat.reduceLeDiff, Nat.reduceLT, Int.reduceEq, Nat.reduceMul, h1, c0, f24, f1, f22, f23, c1, c2, f84, f1, f83, c3, hr, hr, f82, e1, h2]
            refine Xdraw_intro [0, 1, 3, 4, 2, 5, 6, 7] mixed (by kernel_rfl) (by decide +kernel) ?_
            simp (maxDischargeDepth := 9) only [↓gB, gV, gT, reduceIte, reduceCtorEq, Nat.reduceEqDiff, Nat.reduceAdd, Nat.reduceSub, Nat.reduceLeDiff, Nat.reduceLT, Int.reduceEq, Nat.reduceMul, h1, c0, f24, f1, f22, f23, c1, c2, f84, f1, f83, c3, hr, hr, f82, e1, h2]
            refine Ycp (p94 (by exact (le_put (by assumption) _) _ _ (by assumption)) (by exact RSl.put _ (by assumption) (by assumption)) (by omega) (by assumption)) ?_
            simp (maxDischargeDepth := 9) only [↓gB, gV, gT, reduceIte, reduceCtorEq, Nat.reduceEqDiff, Nat.reduceAdd, Nat.reduceSub, Nat.reduceLeDiff, Nat.reduceLT, Int.reduceEq, Nat.reduceMul, h1, c0, f24, f1, f22, f23, c1, c2, f84, f1, f83, c3, hr, hr, f82, e1, h2]
            refine Ycp (p94 (by exact (le_put (by assumption) _) _ _ (by assumption)) (by exact RSl.put _ (by assumption) (by assumption)) (by omega) (by assumption)) ?_
            simp (maxDischargeDepth := 9) only [↓gB, gV, gT, reduceIte, reduceCtorEq, Nat.reduceEqDiff, Nat.reduceAdd, Nat.reduceSub, Nat.reduceLeDiff, Nat.reduceLT, Int.reduceEq, Nat.reduceMul, h1, c0, f24, f1, f22, f23, c1, c2, f84, f1, f83, c3, hr, hr, f82, e1, h2]
            obtain rfl : x = x1 := by rw [hx] at m1; cases m1; rfl
            have n2 : r1 ≠ r2 := ne_of_none hr h2
            focus
              by_cases c4 : (Go.Proofs.YtnlbapfbdabjaaaDoor.keyAt Go.Proofs.YtnlbapfbdabjaaaDoor.SArc.Key ar x.From : Int) < 0
              rotate_left 1
              focus
                simp (maxDischargeDepth := 9) only [↓gB, gV, gT, reduceIte, reduceCtorEq, Nat.reduceEqDiff, Nat.reduceAdd, Nat.reduceSub, Nat.reduceLeDiff, Nat.reduceLT, Int.reduceEq, Nat.reduceMul, h1, c0, f24, f1, f22, f23, c1, c2, f84, f1, f83, c3, hr, hr, f82, h2, e1, n2, c4]
                refine Xc_split _ _ _ _ _ (fun c5 => ?_) (fun c5 => ?_)
                rotate_left 1
                focus
                  simp (maxDischargeDepth := 9) only [↓gB, gV, gT, reduceIte, reduceCtorEq, Nat.reduceEqDiff, Nat.reduceAdd, Nat.reduceSub, Nat.reduceLeDiff, Nat.reduceLT, Int.reduceEq, Nat.reduceMul, h1, c0, f24, f1, f22, f23, c1, c2, f84, f1, f83, c3, hr, hr, f82, h2, e1, n2, c4, c5]
                  refine Xdraw_intro [0, 1, 2, 3, 4, 5, 6, 7, 8, 9, 10, 11, 12, 13] mixed (by kernel_rfl) (by decide +kernel) ?_
                  simp (maxDischargeDepth := 9) only [↓gB, gV, gT, reduceIte, reduceCtorEq, Nat.reduceEqDiff, Nat.reduceAdd, Nat.reduceSub, Nat.reduceLeDiff, Nat.reduceLT, Int.reduceEq, Nat.reduceMul, h1, c0, f24, f1, f22, f23, c1, c2, f84, f1, f83, c3, hr, hr, f82, h2, e1, n2, c4, c5]
                  obtain ⟨x2, a2, s2, m2, rfl, ⟨v2, rfl, w2⟩, e2⟩ := hw.at ((Int.toNat (Go.Proofs.YtnlbapfbdabjaaaDoor.keyAt Go.Proofs.YtnlbapfbdabjaaaDoor.SArc.Key ar x.From))) (by omega) 5 rfl
                  obtain ⟨aw2, cw2, rfl⟩ := RSl.val w2
                  simp (maxDischargeDepth := 9) only [↓gB, gV, gT, reduceIte, reduceCtorEq, Nat.reduceEqDiff, Nat.reduceAdd, Nat.reduceSub, Nat.reduceLeDiff, Nat.reduceLT, Int.reduceEq, Nat.reduceMul, h1, c0, f24, f1, f23, c1, c2, f84, f1, f83, c3, f82, h2, e1, n2, c4, c5, f22, hr, hr, e2]
                  refine vguard_intro (by omega) ?_
                  refine vguard_intro (by omega) ?_
                  obtain ⟨x3, s3, m3, ⟨v3, rfl, w3⟩, e3⟩ := hw.at' ((Go.Proofs.YtnlbapfbdabjaaaDoor.keyAt Go.Proofs.YtnlbapfbdabjaaaDoor.SArc.Key ar x.To).toNat) (by omega) 5 rfl
                  obtain ⟨aw3, cw3, rfl⟩ := RSl.val w3
                  simp (maxDischargeDepth := 9) only [↓gB, gV, gT, reduceIte, reduceCtorEq, Nat.reduceEqDiff, Nat.reduceAdd, Nat.reduceSub, Nat.reduceLeDiff, Nat.reduceLT, Int.reduceEq, Nat.reduceMul, h1, c0, f24, f1, f23, c1, c2, f84, f1, f83, c3, f82, h2, e1, n2, c4, c5, f22, hr, hr, e2, e3]
                  by_cases c6 : (x2.To : ByteArray) = x3.From
                  rotate_left 1
                  focus
                    simp (maxDischargeDepth := 9) only [↓gB, gV, gT, reduceIte, reduceCtorEq, Nat.reduceEqDiff, Nat.reduceAdd, Nat.reduceSub, Nat.reduceLeDiff, Nat.reduceLT, Int.reduceEq, Nat.reduceMul, h1, c0, f24, f1, f23, c1, c2, f84, f1, f83, c3, f82, h2, e1, n2, c4, c5, f22, hr, hr, e2, e3, c6]
                    refine Kup_val (by simp (maxDischargeDepth := 9) only [le_self, le_puts, le_put0, h1, hle, hle, h2]) ?_
                    focus (rw [chk_bad h hx (bb3 (by assumption) (by assumption) m2 m3 (by assumption)) (by decide)]; done)
                  rotate_right 1
                  simp (maxDischargeDepth := 9) only [↓gB, gV, gT, reduceIte, reduceCtorEq, Nat.reduceEqDiff, Nat.reduceAdd, Nat.reduceSub, Nat.reduceLeDiff, Nat.reduceLT, Int.reduceEq, Nat.reduceMul, h1, c0, f24, f1, f23, c1, c2, f84, f1, f83, c3, f82, h2, e1, n2, c4, c5, f22, hr, hr, e2, e3, c6]
                  refine Xdraw_intro [0, 1, 2, 3, 4, 5, 6, 7, 8, 9, 10, 11, 12, 13] mixed (by kernel_rfl) (by decide +kernel) ?_
                  simp (maxDischargeDepth := 9) only [↓gB, gV, gT, reduceIte, reduceCtorEq, Nat.reduceEqDiff, Nat.reduceAdd, Nat.reduceSub, Nat.reduceLeDiff, Nat.reduceLT, Int.reduceEq, Nat.reduceMul, h1, c0, f24, f1, f23, c1, c2, f84, f1, f83, c3, f82, h2, e1, n2, c4, c5, f22, hr, hr, e2, e3, c6]
                  by_cases c7 : (0 : Int) < ↑i
                  rotate_left 1
                  focus
                    simp (maxDischargeDepth := 9) only [↓gB, gV, gT, reduceIte, reduceCtorEq, Nat.reduceEqDiff, Nat.reduceAdd, Nat.reduceSub, Nat.reduceLeDiff, Nat.reduceLT, Int.reduceEq, Nat.reduceMul, h1, c0, f24, f1, f23, c1, c2, f84, f1, f83, c3, f82, h2, e1, n2, c4, c5, f22, hr, hr, e2, e3, c6, c7]
                    have q1 : Go.IntKind.i64.wrap (↑i + 1) = ↑i + 1 := wrap_id (by omega)
                    simp (maxDischargeDepth := 9) only [↓gB, gV, gT, reduceIte, reduceCtorEq, Nat.reduceEqDiff, Nat.reduceAdd, Nat.reduceSub, Nat.reduceLeDiff, Nat.reduceLT, Int.reduceEq, Nat.reduceMul, h1, c0, f24, f1, f23, c1, c2, f84, f1, f83, c3, f82, h2, e1, n2, c4, c5, f22, hr, hr, e2, e3, c6, c7, q1]
                    rw [N_lp]
                    refine ⟨_, ?_, _, sub_refl _, i + 1, rfl, ?_, ?_, ?_, ?_, ?_, ?_, ?_, by simp (maxDischargeDepth := 9) only [↓gB, gV, gT, reduceIte, reduceCtorEq, Nat.reduceEqDiff, Nat.reduceAdd, Nat.reduceSub, Nat.reduceLeDiff, Nat.reduceLT, Int.reduceEq, Nat.reduceMul, h1, c0, f24, f1, f23, c1, c2, f84, f1, f83, c3, f82, h2, e1, n2, c4, c5, f22, hr, hr, e2, e3, c6, c7, q1, nat_succ, and_self]⟩
                    · omega
                    · omega
                    · (exact chk_next h hx (bb0 (by assumption) (by assumption) m2 m3 (by assumption) (by first | exact pvp (by assumption) m4 (by simp [*]) | exact pvz (by assumption))); done)
                    · exact (le_put (by assumption) _) _ _ (by assumption)
                    · exact RSl.put _ (by assumption) (by assumption)
                    · exact RSl.put _ (by assumption) (by assumption)
                    · exact RSl.put _ (by assumption) (by assumption)
                    · (simp (maxDischargeDepth := 9) only [le_self, le_puts, le_put0, sub_self, sub_puts, sub_put0, h1, hle, hle, h2]; done)
                  rotate_right 1
                  simp (maxDischargeDepth := 9) only [↓gB, gV, gT, reduceIte, reduceCtorEq, Nat.reduceEqDiff, Nat.reduceAdd, Nat.reduceSub, Nat.reduceLeDiff, Nat.reduceLT, Int.reduceEq, Nat.reduceMul, h1, c0, f24, f1, f23, c1, c2, f84, f1, f83, c3, f82, h2, e1, n2, c4, c5, f22, hr, hr, e2, e3, c6, c7]
                  have q1 : Go.IntKind.i64.wrap (↑i - 1) = ↑i - 1 := wrap_id (by omega)
                  simp (maxDischargeDepth := 9) only [↓gB, gV, gT, reduceIte, reduceCtorEq, Nat.reduceEqDiff, Nat.reduceAdd, Nat.reduceSub, Nat.reduceLeDiff, Nat.reduceLT, Int.reduceEq, Nat.reduceMul, h1, c0, f24, f1, f23, c1, c2, f84, f1, f83, c3, f82, h2, e1, n2, c4, c5, f22, hr, hr, e2, e3, c6, c7, q1]
                  refine vguard_intro (by omega) ?_
                  obtain ⟨x4, s4, m4, rfl, e4⟩ := hu.at' (i - 1) (by omega) 2 rfl
                  simp (maxDischargeDepth := 9) only [↓gB, gV, gT, reduceIte, reduceCtorEq, Nat.reduceEqDiff, Nat.reduceAdd, Nat.reduceSub, Nat.reduceLeDiff, Nat.reduceLT, Int.reduceEq, Nat.reduceMul, h1, c0, f24, f1, f23, c1, c2, f84, f1, f83, c3, f82, h2, e1, n2, c4, c5, f22, hr, hr, e2, e3, c6, c7, q1, e4]
                  refine Ycp (p95) ?_
                  simp (maxDischargeDepth := 9) only [↓gB, gV, gT, reduceIte, reduceCtorEq, Nat.reduceEqDiff, Nat.reduceAdd, Nat.reduceSub, Nat.reduceLeDiff, Nat.reduceLT, Int.reduceEq, Nat.reduceMul, h1, c0, f24, f1, f23, c1, c2, f84, f1, f83, c3, f82, h2, e1, n2, c4, c5, f22, hr, hr, e2, e3, c6, c7, q1, e4]
                  refine Xc_split _ _ _ _ _ (fun c8 => ?_) (fun c8 => ?_)
                  rotate_left 1
                  focus
                    simp (maxDischargeDepth := 9) only [↓gB, gV, gT, reduceIte, reduceCtorEq, Nat.reduceEqDiff, Nat.reduceAdd, Nat.reduceSub, Nat.reduceLeDiff, Nat.reduceLT, Int.reduceEq, Nat.reduceMul, h1, c0, f24, f1, f23, c1, c2, f84, f1, f83, c3, f82, h2, e1, n2, c4, c5, f22, hr, hr, e2, e3, c6, c7, q1, e4, c8]
                    have q2 : Go.IntKind.i64.wrap (↑i + 1) = ↑i + 1 := wrap_id (by omega)
                    simp (maxDischargeDepth := 9) only [↓gB, gV, gT, reduceIte, reduceCtorEq, Nat.reduceEqDiff, Nat.reduceAdd, Nat.reduceSub, Nat.reduceLeDiff, Nat.reduceLT, Int.reduceEq, Nat.reduceMul, h1, c0, f24, f1, f23, c1, c2, f84, f1, f83, c3, f82, h2, e1, n2, c4, c5, f22, hr, hr, e2, e3, c6, c7, q1, e4, c8, q2]
                    rw [N_lp]
                    refine ⟨_, ?_, _, sub_refl _, i + 1, rfl, ?_, ?_, ?_, ?_, ?_, ?_, ?_, by simp (maxDischargeDepth := 9) only [↓gB, gV, gT, reduceIte, reduceCtorEq, Nat.reduceEqDiff, Nat.reduceAdd, Nat.reduceSub, Nat.reduceLeDiff, Nat.reduceLT, Int.reduceEq, Nat.reduceMul, h1, c0, f24, f1, f23, c1, c2, f84, f1, f83, c3, f82, h2, e1, n2, c4, c5, f22, hr, hr, e2, e3, c6, c7, q1, e4, c8, q2, nat_succ, and_self]⟩
                    · omega
                    · omega
                    · (exact chk_next h hx (bb0 (by assumption) (by assumption) m2 m3 (by assumption) (by first | exact pvp (by assumption) m4 (by simp [*]) | exact pvz (by assumption))); done)
                    · exact (le_put (by assumption) _) _ _ (by assumption)
                    · exact RSl.put _ (by assumption) (by assumption)
                    · exact RSl.put _ (by assumption) (by assumption)
                    · exact RSl.put _ (by assumption) (by assumption)
                    · (simp (maxDischargeDepth := 9) only [le_self, le_puts, le_put0, sub_self, sub_puts, sub_put0, h1, hle, hle, h2]; done)
                  rotate_right 1
                  simp (maxDischargeDepth := 9) only [↓gB, gV, gT, reduceIte, reduceCtorEq, Nat.reduceEqDiff, Nat.reduceAdd, Nat.reduceSub, Nat.reduceLeDiff, Nat.reduceLT, Int.reduceEq, Nat.reduceMul, h1, c0, f24, f1, f23, c1, c2, f84, f1, f83, c3, f82, h2, e1, n2, c4, c5, f22, hr, hr, e2, e3, c6, c7, q1, e4, c8]
                  refine Kup_val (by simp (maxDischargeDepth := 9) only [le_self, le_puts, le_put0, h1, hle, hle, h2]) ?_
                  focus (rw [chk_bad h hx (bb7 (by assumption) (by assumption) m2 m3 (by assumption) (pvp (by assumption) m4 (by simp [*]))) (by decide)]; done)
                rotate_right 1
                simp (maxDischargeDepth := 9) only [↓gB, gV, gT, reduceIte, reduceCtorEq, Nat.reduceEqDiff, Nat.reduceAdd, Nat.reduceSub, Nat.reduceLeDiff, Nat.reduceLT, Int.reduceEq, Nat.reduceMul, h1, c0, f24, f1, f22, f23, c1, c2, f84, f1, f83, c3, hr, hr, f82, h2, e1, n2, c4, c5]
                refine Kup_val (by simp (maxDischargeDepth := 9) only [le_self, le_puts, le_put0, h1, hle, hle, h2]) ?_
                focus (rw [chk_bad h hx (bb8 (by first | exact .inl (by assumption) | exact .inr (by assumption))) (by decide)]; done)
              rotate_right 1
              simp (maxDischargeDepth := 9) only [↓gB, gV, gT, reduceIte, reduceCtorEq, Nat.reduceEqDiff, Nat.reduceAdd, Nat.reduceSub, Nat.reduceLeDiff, Nat.reduceLT, Int.reduceEq, Nat.reduceMul, h1, c0, f24, f1, f22, f23, c1, c2, f84, f1, f83, c3, hr, hr, f82, h2, e1, n2, c4]
              refine Kup_val (by simp (maxDischargeDepth := 9) only [le_self, le_puts, le_put0, h1, hle, hle, h2]) ?_
              focus (rw [chk_bad h hx (bb8 (by first | exact .inl (by assumption) | exact .inr (by assumption))) (by decide)]; done)
          · simp (maxDischargeDepth := 9) only [↓gB, gV, gT, reduceIte, reduceCtorEq, Nat.reduceEqDiff, Nat.reduceAdd, Nat.reduceSub, Nat.reduceLeDiff, Nat.reduceLT, Int.reduceEq, Nat.reduceMul, h1, c0, hr, f24, f1, f22, f23, c1, c2, hr, f84, f1, f82, f83, c3]
            refine Kup_val (by simp (maxDischargeDepth := 9) only [le_self, le_puts, le_put0, h1, hle, hle]) ?_
            focus (rw [chk_end h c3]; done)
  · simp (maxDischargeDepth := 9) only [↓gB, gV, gT, reduceIte, reduceCtorEq, Nat.reduceEqDiff, Nat.reduceAdd, Nat.reduceSub, Nat.reduceLeDiff, Nat.reduceLT, Int.reduceEq, Nat.reduceMul, he]
    refine Yn2 fun r1 h1 => ?_
    simp (maxDischargeDepth := 9) only [↓gB, gV, gT, reduceIte, reduceCtorEq, Nat.reduceEqDiff, Nat.reduceAdd, Nat.reduceSub, Nat.reduceLeDiff, Nat.reduceLT, Int.reduceEq, Nat.reduceMul, h1, he]
    refine Ycp (p91 (by exact RSl.put _ (by assumption) (by assumption)) (by omega)) ?_
    simp (maxDischargeDepth := 9) only [↓gB, gV, gT, reduceIte, reduceCtorEq, Nat.reduceEqDiff, Nat.reduceAdd, Nat.reduceSub, Nat.reduceLeDiff, Nat.reduceLT, Int.reduceEq, Nat.reduceMul, h1, he]
    refine Kup_val (by simp (maxDischargeDepth := 9) only [le_self, le_puts, le_put0, h1]) ?_
    focus (rw [rE1 he]; done)
end Go.Proofs.YtnlbapfbdabjaaaDoor
namespace Go.Proofs.YtnlbapfbdabjaaaDoor
open Go Go.GL
attribute [local irreducible] Ycall GCalls
set_option maxRecDepth 10000
set_option maxHeartbeats 0
theorem mulB {a b A B : Int} (h : 0 ≤ a ∧ a ≤ A) (k : 0 ≤ b ∧ b ≤ B) : 0 ≤ a * b ∧ a * b ≤ A * B := ⟨Int.mul_nonneg h.1 k.1, Int.mul_le_mul h.2 k.2 k.1 (by omega)⟩
def FieldAt (G : GH) (ad : Addr) (i : Nat) (v : Value) : Prop := gcell G (ad.add i) = some v
theorem FieldAt.le {G G' : GH} {ad : Addr} {i : Nat} {v : Value} (h : FieldAt G ad i v) (hl : G.le G') : FieldAt G' ad i v := hl.cell' h
def lerp (k n : SKnot) (t : Int) : Int := (k.Time * (n.At - t) + n.Time * (t - k.At)) / (n.At - k.At)
def segIdx (l : List SKnot) (t : Int) : Nat := bsPos (fun k : SKnot => if k.At ≤ t then -1 else 0) l - 1
def timeF (l : List SKnot) (t : Int) : Int := match l[segIdx l (t % 86400000)]? with | some k => lerp k (afterK l (segIdx l (t % 86400000))) (t % 86400000) | none => 0
theorem kE_ok {l : List SKnot} (h : knotsE l = 0) : ¬ l.length = 0 ∧ l.length ≤ 48 ∧ chk knotBad none l = 0 ∧ rules l = true := by
  unfold knotsE at h
  split at h
  · cases h
  split at h
  · cases h
  split at h
  · split at h
    · rename_i h1 h2 h3 h4
      exact ⟨fun q => h1 (List.eq_nil_of_length_eq_zero q), by omega, h3, h4⟩
    · cases h
  · rename_i h1 h2 h3; exact absurd h h3
theorem kn_mono {l : List SKnot} (hc : chk knotBad none l = 0) : ∀ (d i : Nat) (x y : SKnot), l[i]? = some x → l[i + d + 1]? = some y → x.At < y.At := by
  intro d
  induction d with
  | zero =>
    intro i x y hx hy
    have h := (kb_ok (chk_prev hc hy)).2.2.2 x (by rw [Nat.add_zero, prevOf_s]; exact hx)
    exact h
  | succ d ih =>
    intro i x y hx hy
    have hz : ∃ z, l[i + d + 1]? = some z := by
      have : i + d + 1 < l.length := by
        by_cases q : i + (d + 1) + 1 < l.length
        · omega
        · rw [List.getElem?_eq_none (by omega)] at hy; cases hy
      exact ⟨_, List.getElem?_eq_getElem this⟩
    obtain ⟨z, hz⟩ := hz
    have h1 := ih i x z hx hz
    have h2 := (kb_ok (chk_prev hc hy)).2.2.2 z (by rw [show i + (d + 1) + 1 = (i + d + 1) + 1 from by omega, prevOf_s]; exact hz)
    omega
theorem kn_lt {l : List SKnot} (hc : chk knotBad none l = 0) {i j : Nat} {x y : SKnot} (hx : l[i]? = some x) (hy : l[j]? = some y) (hij : i < j) : x.At < y.At := by
  obtain ⟨d, rfl⟩ : ∃ d, j = i + d + 1 := ⟨j - i - 1, by omega⟩
  exact kn_mono hc d i x y hx hy
theorem kn_first {l : List SKnot} (hc : chk knotBad none l = 0) {x : SKnot} (hx : l[0]? = some x) : x.At = 0 := (kb_ok (chk_prev hc hx)).2.2.1 rfl
theorem seg_at {l : List SKnot} (hc : chk knotBad none l = 0) {t : Int} {i : Nat} {k : SKnot} (hk : l[i]? = some k) (h1 : k.At ≤ t) (h2 : t < (afterK l i).At) : segIdx l t = i := by
  have hi : i < l.length := by
    by_cases q : i < l.length
    · exact q
    · rw [List.getElem?_eq_none (by omega)] at hk; cases hk
  unfold segIdx
  rw [bsPos_at (i := i + 1) (by omega)]
  · rfl
  · intro j x hj hx
    have : x.At ≤ t := by
      by_cases e : j = i
      · subst e; rw [hk] at hx; cases hx; exact h1
      · have := kn_lt hc hx hk (by omega); omega
    rw [if_pos this]; decide
  · intro j x hj hx
    have hn : ∃ n, l[i + 1]? = some n := by
      have : i + 1 < l.length := by
        by_cases q : j < l.length
        · omega
        · rw [List.getElem?_eq_none (by omega)] at hx; cases hx
      exact ⟨_, List.getElem?_eq_getElem this⟩
    obtain ⟨n, hn⟩ := hn
    rw [after_s hn] at h2
    have : n.At ≤ x.At := by
      by_cases e : j = i + 1
      · subst e; rw [hn] at hx; cases hx; exact Int.le_refl _
      · have := kn_lt hc hn hx (by omega); omega
    rw [if_neg (by omega)]; decide
theorem time_at {l : List SKnot} (hc : chk knotBad none l = 0) {t : Int} {i : Nat} {k : SKnot} (hk : l[i]? = some k) (h1 : k.At ≤ t % 86400000) (h2 : t % 86400000 < (afterK l i).At) : timeF l t = lerp k (afterK l i) (t % 86400000) := by
  unfold timeF; rw [seg_at hc hk h1 h2, hk]
theorem time_one {l : List SKnot} (hc : chk knotBad none l = 0) (h : (l.length : Int) = 1) {k : SKnot} (hk : l[0]? = some k) (t : Int) : timeF l t = k.Time := by
  have h0 := kn_first hc hk
  have ha := after_e (i := 0) (by omega) hk
  have hm : 0 ≤ t % 86400000 ∧ t % 86400000 < 86400000 := by omega
  rw [time_at hc hk (by omega) (by rw [ha]; exact hm.2), ha]
  unfold lerp
  simp only [h0]
  rw [← Int.mul_add, show (86400000 - t % 86400000 + (t % 86400000 - 0)) = 86400000 - 0 by omega, Int.mul_ediv_cancel _ (by decide)]
theorem bsPos_spec {α : Type} (cf : α → Int) : ∀ (l : List α), bsPos cf l ≤ l.length ∧ (∀ (j : Nat) x, j < bsPos cf l → l[j]? = some x → cf x < 0) ∧ (∀ x, l[bsPos cf l]? = some x → ¬ cf x < 0)
  | [] => ⟨Nat.le_refl _, fun j x hj hx => by simp at hx, fun x hx => by simp at hx⟩
  | y :: l => by
    obtain ⟨h1, h2, h3⟩ := bsPos_spec cf l
    by_cases h : cf y < 0
    · have e : bsPos cf (y :: l) = bsPos cf l + 1 := by unfold bsPos; rw [List.takeWhile_cons_of_pos (by simpa using h)]; rfl
      rw [e]
      refine ⟨by simpa using h1, ?_, fun x hx => h3 x (by simpa using hx)⟩
      intro j x hj hx
      cases j with
      | zero => simp at hx; subst hx; exact h
      | succ j => exact h2 j x (by omega) (by simpa using hx)
    · have e : bsPos cf (y :: l) = 0 := by unfold bsPos; rw [List.takeWhile_cons_of_neg (by simpa using h)]; rfl
      rw [e]
      exact ⟨Nat.zero_le _, fun j x hj => by omega, fun x hx => by simp at hx; subst hx; exact h⟩
theorem seg_bs {l : List SKnot} (hne : ¬ l.length = 0) (hc : chk knotBad none l = 0) {t : Int} (h0 : 0 ≤ t) (h1 : t < 86400000) : (bsHas (fun k : SKnot => cmp3 k.At t) l = true → ∃ k, l[bsPos (fun k : SKnot => cmp3 k.At t) l]? = some k ∧ k.At ≤ t ∧ t < (afterK l (bsPos (fun k : SKnot => cmp3 k.At t) l)).At) ∧ (bsHas (fun k : SKnot => cmp3 k.At t) l = false → ∃ i, bsPos (fun k : SKnot => cmp3 k.At t) l = i + 1 ∧ ∃ k, l[i]? = some k ∧ k.At ≤ t ∧ t < (afterK l i).At) := by
  have c3 : ∀ a b : Int, (cmp3 a b < 0 ↔ a < b) ∧ (cmp3 a b = 0 ↔ a = b) := by intro a b; unfold cmp3; split <;> (try split) <;> constructor <;> constructor <;> omega
  have hp : ∃ p, p ≤ l.length ∧ bsPos (fun k : SKnot => cmp3 k.At t) l = p ∧ (∀ (j : Nat) x, j < p → l[j]? = some x → x.At < t) ∧ (∀ x, l[p]? = some x → t ≤ x.At) := by
    obtain ⟨q1, q2, q3⟩ := bsPos_spec (fun k : SKnot => cmp3 k.At t) l
    exact ⟨_, q1, rfl, fun j x hj hx => (c3 _ _).1.1 (q2 j x hj hx), fun x hx => by have := mt (c3 x.At t).1.2 (q3 x hx); omega⟩
  obtain ⟨p, hpl, hpe, hlt, hge⟩ := hp
  rw [hpe]
  obtain ⟨z, hz⟩ : ∃ z, l[0]? = some z := ⟨_, List.getElem?_eq_getElem (by omega)⟩
  have hz0 := kn_first hc hz
  constructor
  · intro hb
    unfold bsHas at hb
    rw [hpe] at hb
    cases hk : l[p]? with
    | none => rw [hk] at hb; cases hb
    | some k =>
      rw [hk] at hb
      have hkt : k.At = t := (c3 _ _).2.1 (by simpa using hb)
      refine ⟨k, rfl, by omega, ?_⟩
      by_cases q : p + 1 < l.length
      · obtain ⟨n, hn⟩ : ∃ n, l[p + 1]? = some n := ⟨_, List.getElem?_eq_getElem q⟩
        rw [after_s hn]
        have := kn_lt hc hk hn (by omega); omega
      · rw [after_e (by omega) hz]; exact h1
  · intro hb
    have hp0 : p ≠ 0 := by
      rintro rfl
      have h2 := hge z hz
      unfold bsHas at hb
      rw [hpe, hz] at hb
      have : z.At = t := by omega
      simp [(c3 z.At t).2.2 this] at hb
    obtain ⟨i, rfl⟩ : ∃ i, p = i + 1 := ⟨p - 1, by omega⟩
    obtain ⟨k, hk⟩ : ∃ k, l[i]? = some k := ⟨_, List.getElem?_eq_getElem (by omega)⟩
    have hkt := hlt i k (by omega) hk
    refine ⟨i, rfl, k, hk, by omega, ?_⟩
    by_cases q : i + 1 < l.length
    · obtain ⟨n, hn⟩ : ∃ n, l[i + 1]? = some n := ⟨_, List.getElem?_eq_getElem q⟩
      rw [after_s hn]
      have h3 := hge n hn
      unfold bsHas at hb
      rw [hpe, hn] at hb
      have : ¬ cmp3 n.At t = 0 := by simpa using hb
      have := mt (c3 n.At t).2.2 this
      omega
    · rw [after_e (by omega) hz]; exact h1
theorem cmp_mono {l : List SKnot} (hc : chk knotBad none l = 0) (t : Int) : ∀ (i j : Nat) x y, i < j → l[i]? = some x → l[j]? = some y → cmp3 y.At t < 0 → cmp3 x.At t < 0 := by
  intro i j x y hij hx hy h
  have := kn_lt hc hx hy hij
  unfold cmp3 at *
  split at h
  · rw [if_pos (by omega)]; decide
  · split at h <;> omega
structure Lb (k n : SKnot) (t : Int) : Prop where
  a : 0 ≤ k.Time * (n.At - t) ∧ k.Time * (n.At - t) ≤ 311040000000000
  b : 0 ≤ n.Time * (t - k.At) ∧ n.Time * (t - k.At) ≤ 311040000000000
  c : 0 < n.At - k.At ∧ n.At - k.At ≤ 86400000
theorem lb {l : List SKnot} (hc : chk knotBad none l = 0) {i : Nat} {k : SKnot} (hk : l[i]? = some k) {t : Int} (h1 : k.At ≤ t) (h2 : t < (afterK l i).At) : Lb k (afterK l i) t := by
  have hi : i < l.length := by
    by_cases q : i < l.length
    · exact q
    · rw [List.getElem?_eq_none (by omega)] at hk; cases hk
  have ha := after_b hc hi
  have hb := kn_b hc hk
  have m1 := mulB (A := 3600000) (B := 86400000) (show 0 ≤ k.Time ∧ k.Time ≤ 3600000 by omega) (show 0 ≤ (afterK l i).At - t ∧ (afterK l i).At - t ≤ 86400000 by omega)
  have m2 := mulB (A := 3600000) (B := 86400000) (show 0 ≤ (afterK l i).Time ∧ (afterK l i).Time ≤ 3600000 by omega) (show 0 ≤ t - k.At ∧ t - k.At ≤ 86400000 by omega)
  exact ⟨by omega, by omega, by omega⟩
theorem lerp_b {k n : SKnot} {t : Int} (h : Lb k n t) : 0 ≤ lerp k n t ∧ lerp k n t ≤ 622080000000000 := by
  obtain ⟨a, b, c⟩ := h
  unfold lerp
  refine ⟨Int.ediv_nonneg (by omega) (by omega), Int.le_trans (Int.ediv_le_self _ (by omega)) (by omega)⟩
theorem lerp_w {k n : SKnot} {t : Int} (h : Lb k n t) : IntKind.i64.wrap ((k.Time * (n.At - t) + n.Time * (t - k.At)) / (n.At - k.At)) = lerp k n t := by
  have := lerp_b h
  exact wrap_id (by unfold lerp at this; omega)
theorem time_b {l : List SKnot} (hc : knotsE l = 0) (t : Int) : 0 ≤ timeF l t ∧ timeF l t ≤ 622080000000000 := by
  obtain ⟨hne, hlen, hck, hrl⟩ := kE_ok hc
  have hs := seg_bs hne hck (t := t % 86400000) (by omega) (by omega)
  cases hb : bsHas (fun k : SKnot => cmp3 k.At (t % 86400000)) l
  · obtain ⟨i, hpe, k, hk, h1, h2⟩ := hs.2 hb
    rw [time_at hck hk h1 h2]; exact lerp_b (lb hck hk h1 h2)
  · obtain ⟨k, hk, h1, h2⟩ := hs.1 hb
    rw [time_at hck hk h1 h2]; exact lerp_b (lb hck hk h1 h2)
theorem p103 {G0 : GH} {ad : Addr} {v : Value} {l : List SKnot} {t : Int} (hv : RSl rKnot G0 v l) (hc : knotsE l = 0) (ht : 0 ≤ t) (ht2 : t ≤ 9000000000000000000) (hp : FieldAt G0 ad 4 v) : Pure Tryd.prog G0 103 [.pointer (some ad), V t] (V (timeF l t)) := by
  intro G hG; replace hp := hp.le hG; replace hv := hv.le hG
  clear hG G0
  refine enter Tryd.func103 72 #[.tmp 4] rfl Tryd.ntmps103 rfl (by decide +kernel) rfl ?_
  obtain ⟨a, c, rfl⟩ := hv.val
  have ek : gcell G (ad.add 4) = some (.slice a l.length c) := hp
  obtain ⟨hne, hlen, hck, hrl⟩ := kE_ok hc
  simp (maxDischargeDepth := 9) only [↓gB, gV, gT, reduceIte, reduceCtorEq, Nat.reduceEqDiff, Nat.reduceAdd, Nat.reduceSub, Nat.reduceLeDiff, Nat.reduceLT, Int.reduceEq, Nat.reduceMul, ek, hrl]
  refine Xc_split _ _ _ _ _ (fun c0 => ?_) (fun c0 => ?_)
  · simp (maxDischargeDepth := 9) only [↓gB, gV, gT, reduceIte, reduceCtorEq, Nat.reduceEqDiff, Nat.reduceAdd, Nat.reduceSub, Nat.reduceLeDiff, Nat.reduceLT, Int.reduceEq, Nat.reduceMul, ek, hrl, c0, Int.toNat_zero, Nat.zero_mul]
    obtain ⟨x1, a1, s1, m1, rfl, rfl, e1⟩ := hv.at (0) (by omega) 2 rfl
    simp (maxDischargeDepth := 9) only [↓gB, gV, gT, reduceIte, reduceCtorEq, Nat.reduceEqDiff, Nat.reduceAdd, Nat.reduceSub, Nat.reduceLeDiff, Nat.reduceLT, Int.reduceEq, Nat.reduceMul, hrl, c0, ek, e1, Int.toNat_zero, Nat.zero_mul]
    refine vguard_intro (by omega) ?_
    refine Kup_val (le_refl _) ?_
    focus (rw [time_one hck c0 m1]; done)
  · simp (maxDischargeDepth := 9) only [↓gB, gV, gT, reduceIte, reduceCtorEq, Nat.reduceEqDiff, Nat.reduceAdd, Nat.reduceSub, Nat.reduceLeDiff, Nat.reduceLT, Int.reduceEq, Nat.reduceMul, ek, hrl, c0]
    have q1 : Int.tmod (t) (86400000) = (t) % (86400000) := Int.tmod_eq_emod_of_nonneg (by omega)
    simp (maxDischargeDepth := 9) only [↓gB, gV, gT, reduceIte, reduceCtorEq, Nat.reduceEqDiff, Nat.reduceAdd, Nat.reduceSub, Nat.reduceLeDiff, Nat.reduceLT, Int.reduceEq, Nat.reduceMul, ek, hrl, c0, q1]
    refine Ycp (p135 (cf := fun k => cmp3 k.At (t % 86400000)) hv (of_eq_true en136) (by omega) (cmp_mono hck _) (fun G' _ x cs hx => by cases hx; exact p136)) ?_
    have hs := seg_bs hne hck (t := t % 86400000) (by omega) (by omega)
    cases hb : bsHas (fun k : SKnot => cmp3 k.At (t % 86400000)) l
    · obtain ⟨i, hpe, k, hk, h1, h2⟩ := hs.2 hb
      have hil : i < l.length := (List.getElem?_eq_some_iff.1 hk).1
      have hT := time_at hck hk h1 h2
      have hw := lerp_w (lb hck hk h1 h2)
      obtain ⟨b1, b2, b3⟩ := lb hck hk h1 h2
      have hkb := kn_b hck hk
      have hab := after_b hck hil
      have hq : ((i + 1 : Nat) : Int) - 1 = i := by omega
      simp (maxDischargeDepth := 9) only [↓gB, gV, gT, reduceIte, reduceCtorEq, Nat.reduceEqDiff, Nat.reduceAdd, Nat.reduceSub, Nat.reduceLeDiff, Nat.reduceLT, Int.reduceEq, Nat.reduceMul, ek, hrl, c0, q1, hb, hw, hpe, hq, hT]
      refine Xdraw_intro [0, 1, 2, 3, 4, 5, 6, 7, 8, 9, 10, 11, 12, 13, 14, 15, 16] mixed (by kernel_rfl) (by decide +kernel) ?_
      simp (maxDischargeDepth := 9) only [↓gB, gV, gT, reduceIte, reduceCtorEq, Nat.reduceEqDiff, Nat.reduceAdd, Nat.reduceSub, Nat.reduceLeDiff, Nat.reduceLT, Int.reduceEq, Nat.reduceMul, ek, hrl, c0, q1, hb, hw, hpe, hq, hT]
      have q2 : Go.IntKind.i64.wrap (↑i) = ↑i := wrap_id (by omega)
      simp (maxDischargeDepth := 9) only [↓gB, gV, gT, reduceIte, reduceCtorEq, Nat.reduceEqDiff, Nat.reduceAdd, Nat.reduceSub, Nat.reduceLeDiff, Nat.reduceLT, Int.reduceEq, Nat.reduceMul, ek, hrl, c0, q1, hb, hw, q2, hpe, hq, hT]
      obtain ⟨x1, a1, s1, m1, rfl, rfl, e1⟩ := hv.at (i) (by omega) 2 rfl
      simp (maxDischargeDepth := 9) only [↓gB, gV, gT, reduceIte, reduceCtorEq, Nat.reduceEqDiff, Nat.reduceAdd, Nat.reduceSub, Nat.reduceLeDiff, Nat.reduceLT, Int.reduceEq, Nat.reduceMul, hrl, c0, q1, hb, hw, q2, ek, e1, hpe, hq, hT]
      refine vguard_intro (by omega) ?_
      refine Ycp (p126 (by assumption) (by assumption) (by omega)) ?_
      simp (maxDischargeDepth := 9) only [↓gB, gV, gT, reduceIte, reduceCtorEq, Nat.reduceEqDiff, Nat.reduceAdd, Nat.reduceSub, Nat.reduceLeDiff, Nat.reduceLT, Int.reduceEq, Nat.reduceMul, hrl, c0, q1, hb, hw, q2, ek, e1, hpe, hq, hT]
      refine Yn3 fun r1 h1 k1 => ?_
      simp (maxDischargeDepth := 9) only [↓gB, gV, gT, reduceIte, reduceCtorEq, Nat.reduceEqDiff, Nat.reduceAdd, Nat.reduceSub, Nat.reduceLeDiff, Nat.reduceLT, Int.reduceEq, Nat.reduceMul, hrl, c0, q1, hb, hw, q2, ek, e1, h1, hpe, hq, hT]
      refine Yn3 fun r2 h2 k2 => ?_
      have n2 := h2
      simp only [put_none_eq, ne_eq] at n2
      have n20 := h2
      simp only [put_none_eq, ne_eq, @eq_comm Nat r2] at n20
      simp (maxDischargeDepth := 9) only [↓gB, gV, gT, reduceIte, reduceCtorEq, Nat.reduceEqDiff, Nat.reduceAdd, Nat.reduceSub, Nat.reduceLeDiff, Nat.reduceLT, Int.reduceEq, Nat.reduceMul, hrl, c0, q1, hb, hw, q2, ek, e1, h1, h2, n2, n20, hpe, hq, hT]
      obtain rfl : k = x1 := by rw [hk] at m1; cases m1; rfl
      have q3 : Go.IntKind.i64.wrap ((Go.Proofs.YtnlbapfbdabjaaaDoor.afterK l i).At - k.At) = (Go.Proofs.YtnlbapfbdabjaaaDoor.afterK l i).At - k.At := wrap_id (by omega)
      simp (maxDischargeDepth := 9) only [↓gB, gV, gT, reduceIte, reduceCtorEq, Nat.reduceEqDiff, Nat.reduceAdd, Nat.reduceSub, Nat.reduceLeDiff, Nat.reduceLT, Int.reduceEq, Nat.reduceMul, hrl, c0, q1, hb, hw, q2, ek, h1, h2, n2, n20, e1, q3, hpe, hq, hT]
      refine vguard_intro (by omega) ?_
      refine Kup_val (by simp (maxDischargeDepth := 9) only [le_self, le_puts, le_put0, h1, h2, n2, n20]) ?_
      have q4 : Go.IntKind.i64.wrap ((Go.Proofs.YtnlbapfbdabjaaaDoor.afterK l i).At - t % 86400000) = (Go.Proofs.YtnlbapfbdabjaaaDoor.afterK l i).At - t % 86400000 := wrap_id (by omega)
      simp (maxDischargeDepth := 9) only [↓gB, gV, gT, reduceIte, reduceCtorEq, Nat.reduceEqDiff, Nat.reduceAdd, Nat.reduceSub, Nat.reduceLeDiff, Nat.reduceLT, Int.reduceEq, Nat.reduceMul, hrl, c0, q1, hb, hw, q2, ek, h1, h2, n2, n20, e1, q3, q4, hpe, hq, hT]
      have q5 : Go.IntKind.i64.wrap (k.Time * ((Go.Proofs.YtnlbapfbdabjaaaDoor.afterK l i).At - t % 86400000)) = k.Time * ((Go.Proofs.YtnlbapfbdabjaaaDoor.afterK l i).At - t % 86400000) := wrap_id (by omega)
      simp (maxDischargeDepth := 9) only [↓gB, gV, gT, reduceIte, reduceCtorEq, Nat.reduceEqDiff, Nat.reduceAdd, Nat.reduceSub, Nat.reduceLeDiff, Nat.reduceLT, Int.reduceEq, Nat.reduceMul, hrl, c0, q1, hb, hw, q2, ek, h1, h2, n2, n20, e1, q3, q4, q5, hpe, hq, hT]
      have q6 : Go.IntKind.i64.wrap (t % 86400000 - k.At) = t % 86400000 - k.At := wrap_id (by omega)
      simp (maxDischargeDepth := 9) only [↓gB, gV, gT, reduceIte, reduceCtorEq, Nat.reduceEqDiff, Nat.reduceAdd, Nat.reduceSub, Nat.reduceLeDiff, Nat.reduceLT, Int.reduceEq, Nat.reduceMul, hrl, c0, q1, hb, hw, q2, ek, h1, h2, n2, n20, e1, q3, q4, q5, q6, hpe, hq, hT]
      have q7 : Go.IntKind.i64.wrap ((Go.Proofs.YtnlbapfbdabjaaaDoor.afterK l i).Time * (t % 86400000 - k.At)) = (Go.Proofs.YtnlbapfbdabjaaaDoor.afterK l i).Time * (t % 86400000 - k.At) := wrap_id (by omega)
      simp (maxDischargeDepth := 9) only [↓gB, gV, gT, reduceIte, reduceCtorEq, Nat.reduceEqDiff, Nat.reduceAdd, Nat.reduceSub, Nat.reduceLeDiff, Nat.reduceLT, Int.reduceEq, Nat.reduceMul, hrl, c0, q1, hb, hw, q2, ek, h1, h2, n2, n20, e1, q3, q4, q5, q6, q7, hpe, hq, hT]
      have q8 : Go.IntKind.i64.wrap (k.Time * ((Go.Proofs.YtnlbapfbdabjaaaDoor.afterK l i).At - t % 86400000) + (Go.Proofs.YtnlbapfbdabjaaaDoor.afterK l i).Time * (t % 86400000 - k.At)) = k.Time * ((Go.Proofs.YtnlbapfbdabjaaaDoor.afterK l i).At - t % 86400000) + (Go.Proofs.YtnlbapfbdabjaaaDoor.afterK l i).Time * (t % 86400000 - k.At) := wrap_id (by omega)
      simp (maxDischargeDepth := 9) only [↓gB, gV, gT, reduceIte, reduceCtorEq, Nat.reduceEqDiff, Nat.reduceAdd, Nat.reduceSub, Nat.reduceLeDiff, Nat.reduceLT, Int.reduceEq, Nat.reduceMul, hrl, c0, q1, hb, hw, q2, ek, h1, h2, n2, n20, e1, q3, q4, q5, q6, q7, q8, hpe, hq, hT]
      have q9 : Int.tdiv (k.Time * ((Go.Proofs.YtnlbapfbdabjaaaDoor.afterK l i).At - t % 86400000) + (Go.Proofs.YtnlbapfbdabjaaaDoor.afterK l i).Time * (t % 86400000 - k.At)) ((Go.Proofs.YtnlbapfbdabjaaaDoor.afterK l i).At - k.At) = (k.Time * ((Go.Proofs.YtnlbapfbdabjaaaDoor.afterK l i).At - t % 86400000) + (Go.Proofs.YtnlbapfbdabjaaaDoor.afterK l i).Time * (t % 86400000 - k.At)) / ((Go.Proofs.YtnlbapfbdabjaaaDoor.afterK l i).At - k.At) := Int.tdiv_eq_ediv_of_nonneg (by omega)
      simp (maxDischargeDepth := 9) only [↓gB, gV, gT, reduceIte, reduceCtorEq, Nat.reduceEqDiff, Nat.reduceAdd, Nat.reduceSub, Nat.reduceLeDiff, Nat.reduceLT, Int.reduceEq, Nat.reduceMul, hrl, c0, q1, hb, hw, q2, ek, h1, h2, n2, n20, e1, q3, q4, q5, q6, q7, q8, q9, hpe, hq, hT]
    · obtain ⟨k, hk, h1, h2⟩ := hs.1 hb
      have hT := time_at hck hk h1 h2
      have hw := lerp_w (lb hck hk h1 h2)
      obtain ⟨b1, b2, b3⟩ := lb hck hk h1 h2
      generalize bsPos (fun k : SKnot => cmp3 k.At (t % 86400000)) l = i at *
      have hil : i < l.length := (List.getElem?_eq_some_iff.1 hk).1
      have hkb := kn_b hck hk
      have hab := after_b hck hil
      simp (maxDischargeDepth := 9) only [↓gB, gV, gT, reduceIte, reduceCtorEq, Nat.reduceEqDiff, Nat.reduceAdd, Nat.reduceSub, Nat.reduceLeDiff, Nat.reduceLT, Int.reduceEq, Nat.reduceMul, ek, hrl, c0, q1, hb, hw, hT]
      refine Xdraw_intro [0, 1, 2, 3, 4, 5, 6, 7, 8, 9, 10, 11, 12, 13, 14, 15, 16] mixed (by kernel_rfl) (by decide +kernel) ?_
      simp (maxDischargeDepth := 9) only [↓gB, gV, gT, reduceIte, reduceCtorEq, Nat.reduceEqDiff, Nat.reduceAdd, Nat.reduceSub, Nat.reduceLeDiff, Nat.reduceLT, Int.reduceEq, Nat.reduceMul, ek, hrl, c0, q1, hb, hw, hT]
      obtain ⟨x1, a1, s1, m1, rfl, rfl, e1⟩ := hv.at (i) (by omega) 2 rfl
      simp (maxDischargeDepth := 9) only [↓gB, gV, gT, reduceIte, reduceCtorEq, Nat.reduceEqDiff, Nat.reduceAdd, Nat.reduceSub, Nat.reduceLeDiff, Nat.reduceLT, Int.reduceEq, Nat.reduceMul, hrl, c0, q1, hb, hw, ek, e1, hT]
      refine vguard_intro (by omega) ?_
      refine Ycp (p126 (by assumption) (by assumption) (by omega)) ?_
      simp (maxDischargeDepth := 9) only [↓gB, gV, gT, reduceIte, reduceCtorEq, Nat.reduceEqDiff, Nat.reduceAdd, Nat.reduceSub, Nat.reduceLeDiff, Nat.reduceLT, Int.reduceEq, Nat.reduceMul, hrl, c0, q1, hb, hw, ek, e1, hT]
      refine Yn3 fun r1 h1 k1 => ?_
      simp (maxDischargeDepth := 9) only [↓gB, gV, gT, reduceIte, reduceCtorEq, Nat.reduceEqDiff, Nat.reduceAdd, Nat.reduceSub, Nat.reduceLeDiff, Nat.reduceLT, Int.reduceEq, Nat.reduceMul, hrl, c0, q1, hb, hw, ek, e1, h1, hT]
      refine Yn3 fun r2 h2 k2 => ?_
      have n2 := h2
      simp only [put_none_eq, ne_eq] at n2
      have n20 := h2
      simp only [put_none_eq, ne_eq, @eq_comm Nat r2] at n20
      simp (maxDischargeDepth := 9) only [↓gB, gV, gT, reduceIte, reduceCtorEq, Nat.reduceEqDiff, Nat.reduceAdd, Nat.reduceSub, Nat.reduceLeDiff, Nat.reduceLT, Int.reduceEq, Nat.reduceMul, hrl, c0, q1, hb, hw, ek, e1, h1, h2, n2, n20, hT]
      obtain rfl : k = x1 := by rw [hk] at m1; cases m1; rfl
      have q2 : Go.IntKind.i64.wrap ((Go.Proofs.YtnlbapfbdabjaaaDoor.afterK l i).At - k.At) = (Go.Proofs.YtnlbapfbdabjaaaDoor.afterK l i).At - k.At := wrap_id (by omega)
      simp (maxDischargeDepth := 9) only [↓gB, gV, gT, reduceIte, reduceCtorEq, Nat.reduceEqDiff, Nat.reduceAdd, Nat.reduceSub, Nat.reduceLeDiff, Nat.reduceLT, Int.reduceEq, Nat.reduceMul, hrl, c0, q1, hb, hw, ek, h1, h2, n2, n20, e1, q2, hT]
      refine vguard_intro (by omega) ?_
      refine Kup_val (by simp (maxDischargeDepth := 9) only [le_self, le_puts, le_put0, h1, h2, n2, n20]) ?_
      have q3 : Go.IntKind.i64.wrap ((Go.Proofs.YtnlbapfbdabjaaaDoor.afterK l i).At - t % 86400000) = (Go.Proofs.YtnlbapfbdabjaaaDoor.afterK l i).At - t % 86400000 := wrap_id (by omega)
      simp (maxDischargeDepth := 9) only [↓gB, gV, gT, reduceIte, reduceCtorEq, Nat.reduceEqDiff, Nat.reduceAdd, Nat.reduceSub, Nat.reduceLeDiff, Nat.reduceLT, Int.reduceEq, Nat.reduceMul, hrl, c0, q1, hb, hw, ek, h1, h2, n2, n20, e1, q2, q3, hT]
      have q4 : Go.IntKind.i64.wrap (k.Time * ((Go.Proofs.YtnlbapfbdabjaaaDoor.afterK l i).At - t % 86400000)) = k.Time * ((Go.Proofs.YtnlbapfbdabjaaaDoor.afterK l i).At - t % 86400000) := wrap_id (by omega)
      simp (maxDischargeDepth := 9) only [↓gB, gV, gT, reduceIte, reduceCtorEq, Nat.reduceEqDiff, Nat.reduceAdd, Nat.reduceSub, Nat.reduceLeDiff, Nat.reduceLT, Int.reduceEq, Nat.reduceMul, hrl, c0, q1, hb, hw, ek, h1, h2, n2, n20, e1, q2, q3, q4, hT]
      have q5 : Go.IntKind.i64.wrap (t % 86400000 - k.At) = t % 86400000 - k.At := wrap_id (by omega)
      simp (maxDischargeDepth := 9) only [↓gB, gV, gT, reduceIte, reduceCtorEq, Nat.reduceEqDiff, Nat.reduceAdd, Nat.reduceSub, Nat.reduceLeDiff, Nat.reduceLT, Int.reduceEq, Nat.reduceMul, hrl, c0, q1, hb, hw, ek, h1, h2, n2, n20, e1, q2, q3, q4, q5, hT]
      have q6 : Go.IntKind.i64.wrap ((Go.Proofs.YtnlbapfbdabjaaaDoor.afterK l i).Time * (t % 86400000 - k.At)) = (Go.Proofs.YtnlbapfbdabjaaaDoor.afterK l i).Time * (t % 86400000 - k.At) := wrap_id (by omega)
      simp (maxDischargeDepth := 9) only [↓gB, gV, gT, reduceIte, reduceCtorEq, Nat.reduceEqDiff, Nat.reduceAdd, Nat.reduceSub, Nat.reduceLeDiff, Nat.reduceLT, Int.reduceEq, Nat.reduceMul, hrl, c0, q1, hb, hw, ek, h1, h2, n2, n20, e1, q2, q3, q4, q5, q6, hT]
      have q7 : Go.IntKind.i64.wrap (k.Time * ((Go.Proofs.YtnlbapfbdabjaaaDoor.afterK l i).At - t % 86400000) + (Go.Proofs.YtnlbapfbdabjaaaDoor.afterK l i).Time * (t % 86400000 - k.At)) = k.Time * ((Go.Proofs.YtnlbapfbdabjaaaDoor.afterK l i).At - t % 86400000) + (Go.Proofs.YtnlbapfbdabjaaaDoor.afterK l i).Time * (t % 86400000 - k.At) := wrap_id (by omega)
      simp (maxDischargeDepth := 9) only [↓gB, gV, gT, reduceIte, reduceCtorEq, Nat.reduceEqDiff, Nat.reduceAdd, Nat.reduceSub, Nat.reduceLeDiff, Nat.reduceLT, Int.reduceEq, Nat.reduceMul, hrl, c0, q1, hb, hw, ek, h1, h2, n2, n20, e1, q2, q3, q4, q5, q6, q7, hT]
      have q8 : Int.tdiv (k.Time * ((Go.Proofs.YtnlbapfbdabjaaaDoor.afterK l i).At - t % 86400000) + (Go.Proofs.YtnlbapfbdabjaaaDoor.afterK l i).Time * (t % 86400000 - k.At)) ((Go.Proofs.YtnlbapfbdabjaaaDoor.afterK l i).At - k.At) = (k.Time * ((Go.Proofs.YtnlbapfbdabjaaaDoor.afterK l i).At - t % 86400000) + (Go.Proofs.YtnlbapfbdabjaaaDoor.afterK l i).Time * (t % 86400000 - k.At)) / ((Go.Proofs.YtnlbapfbdabjaaaDoor.afterK l i).At - k.At) := Int.tdiv_eq_ediv_of_nonneg (by omega)
      simp (maxDischargeDepth := 9) only [↓gB, gV, gT, reduceIte, reduceCtorEq, Nat.reduceEqDiff, Nat.reduceAdd, Nat.reduceSub, Nat.reduceLeDiff, Nat.reduceLT, Int.reduceEq, Nat.reduceMul, hrl, c0, q1, hb, hw, ek, h1, h2, n2, n20, e1, q2, q3, q4, q5, q6, q7, q8, hT]
end Go.Proofs.YtnlbapfbdabjaaaDoor
namespace Go.Proofs.YtnlbapfbdabjaaaDoor
open Go Go.GL
attribute [local irreducible] Ycall GCalls
set_option maxRecDepth 10000
set_option maxHeartbeats 0
theorem g104 {G0 : GH} {v : Value} {l : List SKnot} (hv : RSl rKnot G0 v l) (hn : l.length ≤ 1000000000) : Gives Tryd.prog G0 104 [v] (fun u G' => RSl rKnot G' u l) := by
  intro G hG; replace hv := hv.le hG
  clear hG G0
  refine enter Tryd.func104 8 #[.tmp 2] rfl Tryd.ntmps104 rfl (by decide +kernel) rfl ?_
  obtain ⟨a, c, rfl⟩ := hv.val
  simp (maxDischargeDepth := 9) only [↓gB, gV, gT, reduceIte, reduceCtorEq, Nat.reduceEqDiff, Nat.reduceAdd, Nat.reduceSub, Nat.reduceLeDiff, Nat.reduceLT, Int.reduceEq, Nat.reduceMul]
  cases a with
  | none =>
    simp (maxDischargeDepth := 9) only [↓gB, gV, gT, reduceIte, reduceCtorEq, Nat.reduceEqDiff, Nat.reduceAdd, Nat.reduceSub, Nat.reduceLeDiff, Nat.reduceLT, Int.reduceEq, Nat.reduceMul, Option.isNone_none]
    have : l = [] := by
      cases l with
      | nil => rfl
      | cons x l => obtain ⟨ad, _, e, _⟩ := hv.get (i := 0) (x := x) rfl; cases e
    subst this
    exact Kup_gives (sub_refl _) (le_refl _) (RSl.nil _ _)
  | some ad =>
    simp (maxDischargeDepth := 9) only [↓gB, gV, gT, reduceIte, reduceCtorEq, Nat.reduceEqDiff, Nat.reduceAdd, Nat.reduceSub, Nat.reduceLeDiff, Nat.reduceLT, Int.reduceEq, Nat.reduceMul, Option.isNone_some]
    refine Yn1 fun r1 h1 => ?_
    simp (maxDischargeDepth := 9) only [↓gB, gV, gT, reduceIte, reduceCtorEq, Nat.reduceEqDiff, Nat.reduceAdd, Nat.reduceSub, Nat.reduceLeDiff, Nat.reduceLT, Int.reduceEq, Nat.reduceMul, h1, Option.isNone_some]
    obtain ⟨ds, h1, h2⟩ := (hv.le (le_put h1 (.cells #[] 141 (0, 0), true))).read
    refine Row.append sl85 (ρ := rKnot) (G0 := G) (xs := []) (ys := l) ⟨[], ⟨rfl, .inr ⟨r1, 0, #[], rfl, by assumption, put_self _ _ _, rfl, Nat.le_refl _, rfl⟩⟩, Cellsof.nil _ _⟩ h1 h2 (by simp; omega) (le_put (by assumption) _) ?_
    intro v' G' hrow hk hle
    simp (maxDischargeDepth := 9) only [↓gB, gV, gT, reduceIte, reduceCtorEq, Nat.reduceEqDiff, Nat.reduceAdd, Nat.reduceSub, Nat.reduceLeDiff, Nat.reduceLT, Int.reduceEq, Nat.reduceMul, h1, hk]
    obtain ⟨G2, hs, hl, hr⟩ := hrow.fin hle
    exact Kup_gives hs hl (by simpa using hr)
theorem g104b {G0 : GH} {v : Value} {l : List SKnot} (hv : RSl rKnot G0 v l) (hn : l.length ≤ 1000000000) : Gives Tryd.prog G0 104 [v] (fun u G' => Row rKnot 141 G0 G' u l) := by
  intro G hG; replace hv := hv.le hG
  refine enter Tryd.func104 8 #[.tmp 2] rfl Tryd.ntmps104 rfl (by decide +kernel) rfl ?_
  obtain ⟨a, c, rfl⟩ := hv.val
  simp (maxDischargeDepth := 9) only [↓gB, gV, gT, reduceIte, reduceCtorEq, Nat.reduceEqDiff, Nat.reduceAdd, Nat.reduceSub, Nat.reduceLeDiff, Nat.reduceLT, Int.reduceEq, Nat.reduceMul]
  cases a with
  | none =>
    simp (maxDischargeDepth := 9) only [↓gB, gV, gT, reduceIte, reduceCtorEq, Nat.reduceEqDiff, Nat.reduceAdd, Nat.reduceSub, Nat.reduceLeDiff, Nat.reduceLT, Int.reduceEq, Nat.reduceMul, Option.isNone_none]
    have : l = [] := by
      cases l with
      | nil => rfl
      | cons x l => obtain ⟨ad, _, e, _⟩ := hv.get (i := 0) (x := x) rfl; cases e
    subst this
    exact Kup_gives (sub_refl _) (le_refl _) Row.nil
  | some ad =>
    simp (maxDischargeDepth := 9) only [↓gB, gV, gT, reduceIte, reduceCtorEq, Nat.reduceEqDiff, Nat.reduceAdd, Nat.reduceSub, Nat.reduceLeDiff, Nat.reduceLT, Int.reduceEq, Nat.reduceMul, Option.isNone_some]
    refine Yn1 fun r1 h1 => ?_
    simp (maxDischargeDepth := 9) only [↓gB, gV, gT, reduceIte, reduceCtorEq, Nat.reduceEqDiff, Nat.reduceAdd, Nat.reduceSub, Nat.reduceLeDiff, Nat.reduceLT, Int.reduceEq, Nat.reduceMul, h1, Option.isNone_some]
    obtain ⟨ds, h1, h2⟩ := (hv.le (le_put h1 (.cells #[] 141 (0, 0), true))).read
    refine Row.append sl85 (ρ := rKnot) (G0 := G) (xs := []) (ys := l) ⟨[], ⟨rfl, .inr ⟨r1, 0, #[], rfl, by assumption, put_self _ _ _, rfl, Nat.le_refl _, rfl⟩⟩, Cellsof.nil _ _⟩ h1 h2 (by simp; omega) (le_put (by assumption) _) ?_
    intro v' G' hrow hk hle
    simp (maxDischargeDepth := 9) only [↓gB, gV, gT, reduceIte, reduceCtorEq, Nat.reduceEqDiff, Nat.reduceAdd, Nat.reduceSub, Nat.reduceLeDiff, Nat.reduceLT, Int.reduceEq, Nat.reduceMul, h1, hk]
    obtain ⟨cs, q1, q2⟩ := hrow
    exact Kup_gives (sub_refl _) hle ⟨cs, by simpa using q1.base hG, by simpa using q2⟩
theorem floor_lerp {k n : SKnot} {t : Int} (h : Lb k n t) : k.Time + ((n.Time - k.Time) * (t - k.At)) / (n.At - k.At) = lerp k n t := by
  obtain ⟨a, b, c⟩ := h
  unfold lerp
  have e : k.Time * (n.At - t) + n.Time * (t - k.At) = (n.Time - k.Time) * (t - k.At) + k.Time * (n.At - k.At) := by
    have : n.At - t = (n.At - k.At) - (t - k.At) := by omega
    rw [this, Int.mul_sub, Int.sub_mul]; omega
  rw [e, Int.add_mul_ediv_right _ _ (by omega)]; omega
theorem fdiv_ed (x s : Int) (hs : 0 < s) (h1 : -4611686018427387904 ≤ x) (h2 : x ≤ 4611686018427387904) : fdiv x s = x / s := by
  have hb1 : x.tdiv s ≤ 4611686018427387904 ∧ -4611686018427387904 ≤ x.tdiv s := by
    have := Int.natAbs_tdiv_le_natAbs x s
    omega
  have hw : IntKind.i64.wrap (x.tdiv s) = x.tdiv s := wrap_id (by omega)
  have hw2 : IntKind.i64.wrap (x.tdiv s - 1) = x.tdiv s - 1 := wrap_id (by omega)
  unfold fdiv
  rw [hw, hw2]
  have hm := Int.tmod_add_mul_tdiv x s
  by_cases hx : 0 ≤ x
  · have h3 : x.tdiv s = x / s := Int.tdiv_eq_ediv_of_nonneg hx
    have h4 : 0 ≤ x.tmod s := Int.tmod_nonneg s hx
    rw [if_neg (by omega), h3]
  · have h5 : -s < x.tmod s := Int.lt_tmod_of_pos x hs
    have h6 : x.tmod s ≤ 0 := by
      have := Int.tmod_nonneg s (show 0 ≤ -x by omega)
      rw [Int.neg_tmod] at this; omega
    by_cases h7 : x.tmod s < 0
    · rw [if_pos h7]
      symm
      rw [Int.ediv_eq_iff_of_pos hs]
      rw [Int.sub_mul, Int.mul_comm (x.tdiv s) s]
      omega
    · have h8 : x.tmod s = 0 := by omega
      rw [if_neg h7]
      symm
      rw [Int.ediv_eq_iff_of_pos hs, Int.mul_comm (x.tdiv s) s]
      omega
end Go.Proofs.YtnlbapfbdabjaaaDoor
namespace Go.Proofs.YtnlbapfbdabjaaaDoor
open Go Go.GL
attribute [local irreducible] Ycall GCalls
set_option maxRecDepth 10000
set_option maxHeartbeats 0
theorem ext_at {l : List SKnot} {i : Nat} {z : SKnot} (hz : l[0]? = some z) (h : i < l.length) : (l ++ [⟨86400000, z.Time⟩])[i + 1]? = some (afterK l i) := by
  by_cases q : i + 1 < l.length
  · obtain ⟨n, hn⟩ : ∃ n, l[i + 1]? = some n := ⟨_, List.getElem?_eq_getElem q⟩
    rw [List.getElem?_append_left q, hn, after_s hn]
  · have e : i + 1 = l.length := by omega
    rw [List.getElem?_append_right (by omega), e, Nat.sub_self, after_e (by omega) hz]; rfl
theorem p50 {G0 : GH} {x : SArc} {v : Value} {t : Int} (hv : RSl rKnot G0 v x.Knots) (hc : knotsE x.Knots = 0) (ht : 0 ≤ t) (ht2 : t ≤ 9000000000000000000) : Pure Tryd.prog G0 50 [.agg #[.string x.Key, .string x.From, .string x.To, V x.Long, v], V t] (V (timeF x.Knots t)) := by
  intro G hG; replace hv := hv.le hG
  clear hG G0
  refine enter Tryd.func50 62 #[.tmp 4] rfl Tryd.ntmps50 rfl (by decide +kernel) rfl ?_
  obtain ⟨a, c, rfl⟩ := hv.val
  obtain ⟨hne, hlen, hck, hrl⟩ := kE_ok hc
  obtain ⟨z, hz⟩ : ∃ z, x.Knots[0]? = some z := ⟨_, List.getElem?_eq_getElem (by omega)⟩
  simp (maxDischargeDepth := 9) only [↓gB, gV, gT, reduceIte, reduceCtorEq, Nat.reduceEqDiff, Nat.reduceAdd, Nat.reduceSub, Nat.reduceLeDiff, Nat.reduceLT, Int.reduceEq, Nat.reduceMul, hrl, Int.toNat_zero, Nat.zero_mul]
  refine Yn2 fun r1 h1 => ?_
  simp (maxDischargeDepth := 9) only [↓gB, gV, gT, reduceIte, reduceCtorEq, Nat.reduceEqDiff, Nat.reduceAdd, Nat.reduceSub, Nat.reduceLeDiff, Nat.reduceLT, Int.reduceEq, Nat.reduceMul, hrl, h1, Int.toNat_zero, Nat.zero_mul]
  refine Xdraw_intro [0, 1, 3, 4, 5, 6, 7, 8, 2, 9, 10, 11] mixed (by kernel_rfl) (by decide +kernel) ?_
  simp (maxDischargeDepth := 9) only [↓gB, gV, gT, reduceIte, reduceCtorEq, Nat.reduceEqDiff, Nat.reduceAdd, Nat.reduceSub, Nat.reduceLeDiff, Nat.reduceLT, Int.reduceEq, Nat.reduceMul, hrl, h1, Int.toNat_zero, Nat.zero_mul]
  obtain ⟨x1, a1, s1, m1, rfl, rfl, e1⟩ := hv.at (0) (by omega) 2 rfl
  simp (maxDischargeDepth := 9) only [↓gB, gV, gT, reduceIte, reduceCtorEq, Nat.reduceEqDiff, Nat.reduceAdd, Nat.reduceSub, Nat.reduceLeDiff, Nat.reduceLT, Int.reduceEq, Nat.reduceMul, hrl, h1, e1, Int.toNat_zero, Nat.zero_mul]
  refine vguard_intro (by omega) ?_
  obtain rfl : z = x1 := by have m1' : x.Knots[0]? = some x1 := m1; rw [hz] at m1'; cases m1'; rfl
  have y1 := put_self G r1 (.cells [.string x.Key, .string x.From, .string x.To, V x.Long, .slice (some a1) x.Knots.length c].toArray 87 (0, 0), true)
  have l1 := le_put h1 (.cells [.string x.Key, .string x.From, .string x.To, V x.Long, .slice (some a1) x.Knots.length c].toArray 87 (0, 0), true)
  refine Ycg (g104b (hv.le l1) (by omega)) (fun _ _ _ h hu => Row.le hu h) ?_
  intro u G2 l2 hrow
  replace hv := hv.le (l1.trans l2)
  replace y1 := l2 _ _ y1
  have hle := l1.trans l2
  simp (maxDischargeDepth := 9) only [↓gB, gV, gT, reduceIte, reduceCtorEq, Nat.reduceEqDiff, Nat.reduceAdd, Nat.reduceSub, Nat.reduceLeDiff, Nat.reduceLT, Int.reduceEq, Nat.reduceMul, hrl, h1, e1, y1, Int.toNat_zero, Nat.zero_mul]
  refine Yn3 fun r2 h2 k2 => ?_
  have n2 := h2
  simp only [put_none_eq, ne_eq] at n2
  have n20 := h2
  simp only [put_none_eq, ne_eq, @eq_comm Nat r2] at n20
  simp (maxDischargeDepth := 9) only [↓gB, gV, gT, reduceIte, reduceCtorEq, Nat.reduceEqDiff, Nat.reduceAdd, Nat.reduceSub, Nat.reduceLeDiff, Nat.reduceLT, Int.reduceEq, Nat.reduceMul, hrl, h1, e1, y1, h2, n2, n20, Int.toNat_zero, Nat.zero_mul]
  refine Row.app1 sl85 (Row.le hrow (le_put3 k2)) (by exact put_self _ _ _) (y := ⟨86400000, z.Time⟩) rfl (by omega) (l2.trans (le_put3 k2)) fun v3 G3 w3 k3 l3 => ?_
  have hl3 : G.le G3 := l1.trans l3
  obtain ⟨a3, c3, rfl⟩ := w3.val
  have hlen3 : (x.Knots ++ [(⟨86400000, z.Time⟩ : SKnot)]).length = x.Knots.length + 1 := by simp
  have hm : 0 ≤ t % 86400000 ∧ t % 86400000 < 86400000 := by omega
  simp (maxDischargeDepth := 9) only [↓gB, gV, gT, reduceIte, reduceCtorEq, Nat.reduceEqDiff, Nat.reduceAdd, Nat.reduceSub, Nat.reduceLeDiff, Nat.reduceLT, Int.reduceEq, Nat.reduceMul, hrl, h1, e1, y1, h2, n2, n20, hlen3]
  have q1 : Int.tmod (t) (86400000) = (t) % (86400000) := Int.tmod_eq_emod_of_nonneg (by omega)
  simp (maxDischargeDepth := 9) only [↓gB, gV, gT, reduceIte, reduceCtorEq, Nat.reduceEqDiff, Nat.reduceAdd, Nat.reduceSub, Nat.reduceLeDiff, Nat.reduceLT, Int.reduceEq, Nat.reduceMul, hrl, h1, e1, y1, h2, n2, n20, q1, hlen3]
  have q2 : Go.IntKind.i64.wrap (↑(x.Knots.length + 1) - 1) = ↑(x.Knots.length + 1) - 1 := wrap_id (by omega)
  simp (maxDischargeDepth := 9) only [↓gB, gV, gT, reduceIte, reduceCtorEq, Nat.reduceEqDiff, Nat.reduceAdd, Nat.reduceSub, Nat.reduceLeDiff, Nat.reduceLT, Int.reduceEq, Nat.reduceMul, hrl, h1, e1, y1, h2, n2, n20, q1, q2, hlen3]
  rw [hlen3] at w3
  generalize G.put r1 (.cells [.string x.Key, .string x.From, .string x.To, V x.Long, .slice (some a1) x.Knots.length c].toArray 87 (0, 0), true) = Gb at *
  focus
    refine Xloop_intro _ _ _ _ _ (fun k f G' => ∃ (i : Nat), k = x.Knots.length - i ∧ (i ≤ x.Knots.length) ∧ (∀ j : Nat, j < i → (afterK x.Knots j).At ≤ t % 86400000) ∧ (Row rKnot 141 Gb G' (.slice a3 (x.Knots.length + 1) c3) (x.Knots ++ [⟨86400000, z.Time⟩])) ∧ (G.le G') ∧ f 26 = V i ∧ f 5 = Go.Value.int Go.IntKind.i64 (t % 86400000) ∧ f 6 = Go.Value.slice a3 (x.Knots.length + 1) c3 ∧ f 25 = Go.Value.int Go.IntKind.i64 (↑(x.Knots.length + 1) - 1)) _ ⟨0, rfl, ?_, ?_, ?_, ?_, by simp (maxDischargeDepth := 9) only [↓gB, gV, gT, reduceIte, reduceCtorEq, Nat.reduceEqDiff, Nat.reduceAdd, Nat.reduceSub, Nat.reduceLeDiff, Nat.reduceLT, Int.reduceEq, Nat.reduceMul, hrl, h1, e1, y1, n2, n20, q1, q2, h2, and_self]⟩ ?_
    · omega
    · omega
    · assumption
    · assumption
    rintro k f G' ⟨i, rfl, hi, h, w3, hl3, f26, f5, f6, f25⟩
  simp (maxDischargeDepth := 9) only [↓gB, gV, gT, reduceIte, reduceCtorEq, Nat.reduceEqDiff, Nat.reduceAdd, Nat.reduceSub, Nat.reduceLeDiff, Nat.reduceLT, Int.reduceEq, Nat.reduceMul, hrl, h1, e1, y1, n2, n20, q1, q2, h2, f26, f5, f6, f25, hlen3]
  refine Xc_split _ _ _ _ _ (fun c1 => ?_) (fun c1 => ?_)
  · obtain ⟨k, hk⟩ : ∃ k, x.Knots[i]? = some k := ⟨_, List.getElem?_eq_getElem (by omega)⟩
    have hki : (x.Knots ++ [(⟨86400000, z.Time⟩ : SKnot)])[i]? = some k := by rw [List.getElem?_append_left (by omega)]; exact hk
    have hke := ext_at hz (i := i) (by omega)
    have hka : k.At ≤ t % 86400000 := by
      cases i with
      | zero => rw [kn_first hck hk]; omega
      | succ i => have := h i (by omega); rwa [after_s hk] at this
    have hkb := kn_b hck hk
    have hab := after_b hck (i := i) (by omega)
    simp (maxDischargeDepth := 9) only [↓gB, gV, gT, reduceIte, reduceCtorEq, Nat.reduceEqDiff, Nat.reduceAdd, Nat.reduceSub, Nat.reduceLeDiff, Nat.reduceLT, Int.reduceEq, Nat.reduceMul, hrl, h1, e1, y1, n2, n20, q1, q2, h2, f26, f5, f6, f25, c1, hlen3]
    refine Xsimple_intro [0, 1, 2, 3, 4, 5, 6, 7, 8] [9, 10, 11, 12] mixed (by decide +kernel) ?_
    simp (maxDischargeDepth := 9) only [↓gB, gV, gT, reduceIte, reduceCtorEq, Nat.reduceEqDiff, Nat.reduceAdd, Nat.reduceSub, Nat.reduceLeDiff, Nat.reduceLT, Int.reduceEq, Nat.reduceMul, hrl, h1, e1, y1, n2, n20, q1, q2, h2, f26, f5, f6, f25, c1, hlen3]
    obtain ⟨x2, a2, s2, m2, rfl, rfl, e2⟩ := w3.at (i) (by omega) 2 rfl
    simp (maxDischargeDepth := 9) only [↓gB, gV, gT, reduceIte, reduceCtorEq, Nat.reduceEqDiff, Nat.reduceAdd, Nat.reduceSub, Nat.reduceLeDiff, Nat.reduceLT, Int.reduceEq, Nat.reduceMul, hrl, h1, e1, y1, n2, n20, q1, q2, h2, f26, f5, f25, c1, f6, e2, hlen3]
    refine vguard_intro (by omega) ?_
    have q3 : Go.IntKind.i64.wrap (↑i + 1) = ↑i + 1 := wrap_id (by omega)
    simp (maxDischargeDepth := 9) only [↓gB, gV, gT, reduceIte, reduceCtorEq, Nat.reduceEqDiff, Nat.reduceAdd, Nat.reduceSub, Nat.reduceLeDiff, Nat.reduceLT, Int.reduceEq, Nat.reduceMul, hrl, h1, e1, y1, n2, n20, q1, q2, h2, f26, f5, f25, c1, f6, e2, q3, hlen3]
    refine vguard_intro (by omega) ?_
    obtain ⟨x3, s3, m3, rfl, e3⟩ := w3.at' (i + 1) (by omega) 2 rfl
    simp (maxDischargeDepth := 9) only [↓gB, gV, gT, reduceIte, reduceCtorEq, Nat.reduceEqDiff, Nat.reduceAdd, Nat.reduceSub, Nat.reduceLeDiff, Nat.reduceLT, Int.reduceEq, Nat.reduceMul, hrl, h1, e1, y1, n2, n20, q1, q2, h2, f26, f5, f25, c1, f6, e2, q3, e3, hlen3]
    refine Yn2 fun r3 h3 => ?_
    simp (maxDischargeDepth := 9) only [↓gB, gV, gT, reduceIte, reduceCtorEq, Nat.reduceEqDiff, Nat.reduceAdd, Nat.reduceSub, Nat.reduceLeDiff, Nat.reduceLT, Int.reduceEq, Nat.reduceMul, hrl, h1, e1, y1, n2, n20, q1, q2, h2, f26, f5, f25, c1, f6, e2, q3, e3, h3, hlen3]
    refine Yn2 fun r4 h4 => ?_
    have n4 := h4
    simp only [put_none_eq, ne_eq] at n4
    simp (maxDischargeDepth := 9) only [↓gB, gV, gT, reduceIte, reduceCtorEq, Nat.reduceEqDiff, Nat.reduceAdd, Nat.reduceSub, Nat.reduceLeDiff, Nat.reduceLT, Int.reduceEq, Nat.reduceMul, hrl, h1, e1, y1, n2, n20, q1, q2, h2, f26, f5, f25, c1, f6, e2, q3, e3, h3, h4, n4, hlen3]
    obtain rfl : k = x2 := by rw [hki] at m2; cases m2; rfl
    obtain rfl : x3 = afterK x.Knots i := by rw [hke] at m3; cases m3; rfl
    have n34 : r3 ≠ r4 := fun q => n4.1 q.symm
    by_cases c2 : t % 86400000 < (afterK x.Knots i).At
    · have hT := time_at hck hk hka c2
      have hL := lb hck hk hka c2
      have hfl := floor_lerp hL
      have hlb := lerp_b hL
      obtain ⟨b1, b2, b3⟩ := hL
      have b4 := mulB (A := 3600000) (B := 86400000) (show 0 ≤ k.Time ∧ k.Time ≤ 3600000 by omega) (show 0 ≤ t % 86400000 - k.At ∧ t % 86400000 - k.At ≤ 86400000 by omega)
      have b5 : ((afterK x.Knots i).Time - k.Time) * (t % 86400000 - k.At) = (afterK x.Knots i).Time * (t % 86400000 - k.At) - k.Time * (t % 86400000 - k.At) := Int.sub_mul _ _ _
      have b6 : -311040000000000 ≤ ((afterK x.Knots i).Time - k.Time) * (t % 86400000 - k.At) ∧ ((afterK x.Knots i).Time - k.Time) * (t % 86400000 - k.At) ≤ 311040000000000 := by omega
      have hF : fdiv (((afterK x.Knots i).Time - k.Time) * (t % 86400000 - k.At)) ((afterK x.Knots i).At - k.At) = lerp k (afterK x.Knots i) (t % 86400000) - k.Time := by
        rw [fdiv_ed _ _ (by omega) (by omega) (by omega)]; omega
      simp (maxDischargeDepth := 9) only [↓gB, gV, gT, reduceIte, reduceCtorEq, Nat.reduceEqDiff, Nat.reduceAdd, Nat.reduceSub, Nat.reduceLeDiff, Nat.reduceLT, Int.reduceEq, Nat.reduceMul, hrl, h1, e1, y1, n2, n20, q1, q2, h2, f26, f5, f25, c1, f6, q3, h3, h4, n4, e2, e3, n34, c2, hlen3, hF, hT]
      refine Xdraw_intro [0, 1, 2, 3, 4, 5, 6, 7, 8, 9, 10, 11, 12, 13, 14, 15, 16, 17, 18, 19] mixed (by kernel_rfl) (by decide +kernel) ?_
      simp (maxDischargeDepth := 9) only [↓gB, gV, gT, reduceIte, reduceCtorEq, Nat.reduceEqDiff, Nat.reduceAdd, Nat.reduceSub, Nat.reduceLeDiff, Nat.reduceLT, Int.reduceEq, Nat.reduceMul, hrl, h1, e1, y1, n2, n20, q1, q2, h2, f26, f5, f25, c1, f6, q3, h3, h4, n4, e2, e3, n34, c2, hlen3, hF, hT]
      have q4 : Go.IntKind.i64.wrap ((Go.Proofs.YtnlbapfbdabjaaaDoor.afterK x.Knots i).Time - k.Time) = (Go.Proofs.YtnlbapfbdabjaaaDoor.afterK x.Knots i).Time - k.Time := wrap_id (by omega)
      simp (maxDischargeDepth := 9) only [↓gB, gV, gT, reduceIte, reduceCtorEq, Nat.reduceEqDiff, Nat.reduceAdd, Nat.reduceSub, Nat.reduceLeDiff, Nat.reduceLT, Int.reduceEq, Nat.reduceMul, hrl, h1, e1, y1, n2, n20, q1, q2, h2, f26, f5, f25, c1, f6, q3, h3, h4, n4, e2, e3, n34, c2, q4, hlen3, hF, hT]
      have q5 : Go.IntKind.i64.wrap (t % 86400000 - k.At) = t % 86400000 - k.At := wrap_id (by omega)
      simp (maxDischargeDepth := 9) only [↓gB, gV, gT, reduceIte, reduceCtorEq, Nat.reduceEqDiff, Nat.reduceAdd, Nat.reduceSub, Nat.reduceLeDiff, Nat.reduceLT, Int.reduceEq, Nat.reduceMul, hrl, h1, e1, y1, n2, n20, q1, q2, h2, f26, f5, f25, c1, f6, q3, h3, h4, n4, e2, e3, n34, c2, q4, q5, hlen3, hF, hT]
      have q6 : Go.IntKind.i64.wrap (((Go.Proofs.YtnlbapfbdabjaaaDoor.afterK x.Knots i).Time - k.Time) * (t % 86400000 - k.At)) = ((Go.Proofs.YtnlbapfbdabjaaaDoor.afterK x.Knots i).Time - k.Time) * (t % 86400000 - k.At) := wrap_id (by omega)
      simp (maxDischargeDepth := 9) only [↓gB, gV, gT, reduceIte, reduceCtorEq, Nat.reduceEqDiff, Nat.reduceAdd, Nat.reduceSub, Nat.reduceLeDiff, Nat.reduceLT, Int.reduceEq, Nat.reduceMul, hrl, h1, e1, y1, n2, n20, q1, q2, h2, f26, f5, f25, c1, f6, q3, h3, h4, n4, e2, e3, n34, c2, q4, q5, q6, hlen3, hF, hT]
      have q7 : Go.IntKind.i64.wrap ((Go.Proofs.YtnlbapfbdabjaaaDoor.afterK x.Knots i).At - k.At) = (Go.Proofs.YtnlbapfbdabjaaaDoor.afterK x.Knots i).At - k.At := wrap_id (by omega)
      simp (maxDischargeDepth := 9) only [↓gB, gV, gT, reduceIte, reduceCtorEq, Nat.reduceEqDiff, Nat.reduceAdd, Nat.reduceSub, Nat.reduceLeDiff, Nat.reduceLT, Int.reduceEq, Nat.reduceMul, hrl, h1, e1, y1, n2, n20, q1, q2, h2, f26, f5, f25, c1, f6, q3, h3, h4, n4, e2, e3, n34, c2, q4, q5, q6, q7, hlen3, hF, hT]
      refine Ycp (p105 (by omega)) ?_
      simp (maxDischargeDepth := 9) only [↓gB, gV, gT, reduceIte, reduceCtorEq, Nat.reduceEqDiff, Nat.reduceAdd, Nat.reduceSub, Nat.reduceLeDiff, Nat.reduceLT, Int.reduceEq, Nat.reduceMul, hrl, h1, e1, y1, n2, n20, q1, q2, h2, f26, f5, f25, c1, f6, q3, h3, h4, n4, e2, e3, n34, c2, q4, q5, q6, q7, hlen3, hF, hT]
      have q8 : Go.IntKind.i64.wrap (k.Time + (Go.Proofs.YtnlbapfbdabjaaaDoor.lerp k (Go.Proofs.YtnlbapfbdabjaaaDoor.afterK x.Knots i) (t % 86400000) - k.Time)) = k.Time + (Go.Proofs.YtnlbapfbdabjaaaDoor.lerp k (Go.Proofs.YtnlbapfbdabjaaaDoor.afterK x.Knots i) (t % 86400000) - k.Time) := wrap_id (by omega)
      simp (maxDischargeDepth := 9) only [↓gB, gV, gT, reduceIte, reduceCtorEq, Nat.reduceEqDiff, Nat.reduceAdd, Nat.reduceSub, Nat.reduceLeDiff, Nat.reduceLT, Int.reduceEq, Nat.reduceMul, hrl, h1, e1, y1, n2, n20, q1, q2, h2, f26, f5, f25, c1, f6, q3, h3, h4, n4, e2, e3, n34, c2, q4, q5, q6, q7, q8, hlen3, hF, hT]
      refine ⟨G', ?_, hl3, ?_⟩
      · simp (maxDischargeDepth := 9) only [sub_self, sub_puts, sub_put0, h3, n4]
      · show V (k.Time + (lerp k (afterK x.Knots i) (t % 86400000) - k.Time)) = V _
        congr 1; omega
    · focus
        simp (maxDischargeDepth := 9) only [↓gB, gV, gT, reduceIte, reduceCtorEq, Nat.reduceEqDiff, Nat.reduceAdd, Nat.reduceSub, Nat.reduceLeDiff, Nat.reduceLT, Int.reduceEq, Nat.reduceMul, hrl, h1, e1, y1, n2, n20, q1, q2, h2, f26, f5, f25, c1, f6, q3, h3, h4, n4, e2, e3, n34, c2, hlen3]
        rw [N_lp]
        refine ⟨_, ?_, G', ?_, i + 1, rfl, ?_, ?_, ?_, ?_, by simp (maxDischargeDepth := 9) only [↓gB, gV, gT, reduceIte, reduceCtorEq, Nat.reduceEqDiff, Nat.reduceAdd, Nat.reduceSub, Nat.reduceLeDiff, Nat.reduceLT, Int.reduceEq, Nat.reduceMul, hrl, h1, e1, y1, n2, n20, q1, q2, h2, f26, f5, f25, c1, f6, q3, h3, h4, n4, e2, e3, n34, c2, hlen3, nat_succ, and_self]⟩
        · omega
        · (simp (maxDischargeDepth := 9) only [le_self, le_puts, le_put0, sub_self, sub_puts, sub_put0, h1, hle, n2, n20, hl3, l1, l2, h2, l3, hl3, h3, h4, n4]; done)
        · omega
        · (intro j hj; by_cases e : j = i; (subst e; omega); exact h j (by omega); done)
        · assumption
        · assumption
  · exfalso
    have h1 := h (x.Knots.length - 1) (by omega)
    rw [after_e (by omega) hz] at h1
    simp only at h1; omega
end Go.Proofs.YtnlbapfbdabjaaaDoor
namespace Go.Proofs.YtnlbapfbdabjaaaDoor
open Go Go.GL
attribute [local irreducible] Ycall GCalls
set_option maxRecDepth 10000
set_option maxHeartbeats 0
theorem cellS {α : Type} {ρ : Rp α} {G : GH} {x : α} {cs : List Value} (h : ρ.R G x cs) : Cellsof ρ G [x] cs := ⟨[cs], by simp, rfl, by
  intro i y c h1 h2
  cases i with
  | zero => simp only [List.getElem?_cons_zero, Option.some.injEq] at h1 h2; subst h1 h2; exact h
  | succ i => simp at h1⟩
theorem p43b {G0 : GH} {v w : Value} {ns : List SNode} {x : SArc} {r : Nat} {e : TypeId} (hn : ns.length ≤ 1000000000) (hk : x.Knots.length ≤ 1000000000) (hr : G0 r = some (.cells [.string x.Key, .string x.From, .string x.To, V x.Long, w].toArray e (0, 0), true)) (hv : RSl rNode G0 v ns) (hw : RSl rKnot G0 w x.Knots) : Pure Tryd.prog G0 43 [.agg #[v, .slice (some ⟨r, 0, none⟩) 1 1, .slice none 0 0]] (V (roadsE ns [x] [])) :=
  Pure.own hr (p43 (ar := [x]) (bs := []) (hv.ile (ile_put hr _)) (frz_at G0 r (cellS (ρ := rArc) ⟨w, rfl, hw.ile (ile_put hr _)⟩)) (RSl.nil _ _) hn (by simp) (by simpa using hk) (by simp))
theorem p45b {G0 : GH} {v w : Value} {ns : List SNode} {x : SArc} {r : Nat} {e : TypeId} (hn : ns.length ≤ 1000000000) (hk : x.Knots.length ≤ 1000000000) (hr : G0 r = some (.cells [.string x.Key, .string x.From, .string x.To, V x.Long, w].toArray e (0, 0), true)) (hv : RSl rNode G0 v ns) (hw : RSl rKnot G0 w x.Knots) : Pure Tryd.prog G0 45 [.agg #[v, .slice (some ⟨r, 0, none⟩) 1 1, .slice none 0 0]] (V (roadsE ns [x] [])) :=
  Pure.own hr (p45 (ar := [x]) (bs := []) (hv.ile (ile_put hr _)) (frz_at G0 r (cellS (ρ := rArc) ⟨w, rfl, hw.ile (ile_put hr _)⟩)) (RSl.nil _ _) hn (by simp) (by simpa using hk) (by simp))
theorem one_ok {ns : List SNode} {x : SArc} (h : roadsE ns [x] [] = 0) : knotsE x.Knots = 0 := by
  unfold roadsE at h
  split at h
  · rename_i q; exact absurd h q
  · split at h
    · cases h
    · split at h
      · rename_i q; exact absurd h q
      · rename_i q
        have q : chk (arcBad ns) none [x] = 0 := by omega
        exact (ab_ok (chk_prev q (i := 0) (x := x) rfl)).2.2.2.2.2.2
def keysOf (x : SArc) : List ByteArray := compF none (isort sCmp [x.From, x.To])
def nodeOf (k : ByteArray) : SNode := ⟨k, 0, 0⟩
def timeE (x : SArc) (t : Int) : Int := orOf [roadsE ((keysOf x).map nodeOf) [x] [], bi (moment t)]
def timeV (x : SArc) (t : Int) : Value := if timeE x t = 0 then .tuple #[V (timeF x.Knots t), V 0] else .tuple #[V 0, V (timeE x t)]
theorem keys_len (x : SArc) : (keysOf x).length ≤ 2 := by
  unfold keysOf
  refine Nat.le_trans (compF_len _ _) ?_
  show (isortTo _ _ _).length ≤ 2
  rw [isortTo_len]; exact Nat.le_refl _
theorem fieldAt_of {G : GH} {r k : Nat} {cs : List Value} {v : Value} {e : TypeId} {fr : Nat × Nat} {b : Bool} (h : G r = some (.cells cs.toArray e fr, b)) (hk : cs[k]? = some v) : FieldAt G ⟨r, 0, none⟩ k v := by
  unfold FieldAt gcell
  rw [add_block, h]
  simp only [add_spot _ _ (rfl : (⟨r, 0, none⟩ : Addr).spot = none), add_off, Option.isSome_none, Bool.false_eq_true, if_false, Nat.zero_add, List.getElem?_toArray]
  exact hk
theorem p46 {G0 : GH} {x : SArc} {v : Value} {t : Int} (hv : RSl rKnot G0 v x.Knots) (hl : x.Knots.length ≤ 1000000000) : Pure Tryd.prog G0 46 [.agg #[.string x.Key, .string x.From, .string x.To, V x.Long, v], V t] (timeV x t) := by
  intro G hG; replace hv := hv.le hG
  clear hG G0
  refine enter Tryd.func46 44 #[.tmp 4, .tmp 5] rfl Tryd.ntmps46 rfl (by decide +kernel) rfl ?_
  obtain ⟨a, c, rfl⟩ := hv.val
  simp (maxDischargeDepth := 9) only [↓gB, gV, gT, reduceIte, reduceCtorEq, Nat.reduceEqDiff, Nat.reduceAdd, Nat.reduceSub, Nat.reduceLeDiff, Nat.reduceLT, Int.reduceEq, Nat.reduceMul]
  refine Yn2 fun r1 h1 => ?_
  simp (maxDischargeDepth := 9) only [↓gB, gV, gT, reduceIte, reduceCtorEq, Nat.reduceEqDiff, Nat.reduceAdd, Nat.reduceSub, Nat.reduceLeDiff, Nat.reduceLT, Int.reduceEq, Nat.reduceMul, h1]
  refine Yn1 fun r2 h2 => ?_
  have n2 := h2
  simp only [put_none_eq, ne_eq] at n2
  simp (maxDischargeDepth := 9) only [↓gB, gV, gT, reduceIte, reduceCtorEq, Nat.reduceEqDiff, Nat.reduceAdd, Nat.reduceSub, Nat.reduceLeDiff, Nat.reduceLT, Int.reduceEq, Nat.reduceMul, h1, h2, n2]
  have y1 := put_self G r1 (.cells [.string x.Key, .string x.From, .string x.To, V x.Long, .slice a x.Knots.length c].toArray 87 (0, 0), true)
  have lA := le_put h1 (.cells [.string x.Key, .string x.From, .string x.To, V x.Long, .slice a x.Knots.length c].toArray 87 (0, 0), true)
  generalize G.put r1 (.cells [.string x.Key, .string x.From, .string x.To, V x.Long, .slice a x.Knots.length c].toArray 87 (0, 0), true) = A at *
  have yA := y1
  have y2 := put_self A r2 (.cells [.string x.From, .string x.To].toArray 9 (0, 0), true)
  have l2 := le_put h2 (.cells [.string x.From, .string x.To].toArray 9 (0, 0), true)
  generalize A.put r2 (.cells [.string x.From, .string x.To].toArray 9 (0, 0), true) = B at *
  have hrow : Row Rp.str 9 A B (.slice (some ⟨r2, 0, none⟩) 2 2) [x.From, x.To] := ⟨[.string x.From, .string x.To], ⟨rfl, .inr ⟨r2, 2, _, rfl, h2, y2, rfl, Nat.le_refl _, rfl⟩⟩, cells1 (enc := Value.string) (fun _ _ => rfl)⟩
  refine Ycall_intro (md := none) (s101 hrow (by simp)) ?_
  rintro u C ⟨rfl, hrow, hk, hlC⟩
  have lC := hlC l2
  simp (maxDischargeDepth := 9) only [↓gB, gV, gT, reduceIte, reduceCtorEq, Nat.reduceEqDiff, Nat.reduceAdd, Nat.reduceSub, Nat.reduceLeDiff, Nat.reduceLT, Int.reduceEq, Nat.reduceMul, h1, n2, h2, y1, yA, y2, hk]
  refine Ycall_intro (md := none) (compCalls2 hrow (by show (isortTo _ _ _).length ≤ _; rw [isortTo_len]; simp) lC) ?_
  rintro u D ⟨hrow, lD⟩
  replace hrow : Row Rp.str 9 A D u (keysOf x) := hrow
  have hkl := keys_len x
  replace hv := hv.le (lA.trans lD)
  replace y1 := lD _ _ y1
  have lG := lA.trans lD
  obtain ⟨ka, kc, rfl⟩ := hrow.val
  simp (maxDischargeDepth := 9) only [↓gB, gV, gT, reduceIte, reduceCtorEq, Nat.reduceEqDiff, Nat.reduceAdd, Nat.reduceSub, Nat.reduceLeDiff, Nat.reduceLT, Int.reduceEq, Nat.reduceMul, h1, n2, h2, yA, y2, hk, y1]
  focus
    refine Xloop_intro _ _ _ _ _ (fun k f G' => ∃ (i : Nat) (o : Value), k = (keysOf x).length - i ∧ (i ≤ (keysOf x).length) ∧ (Row rNode 93 A G' o (((keysOf x).map nodeOf).take i)) ∧ (Row Rp.str 9 A G' (.slice ka (keysOf x).length kc) (keysOf x)) ∧ (G' r1 = some (.cells [.string x.Key, .string x.From, .string x.To, V x.Long, .slice a x.Knots.length c].toArray 87 (0, 0), true)) ∧ (RSl rKnot G' (.slice a x.Knots.length c) x.Knots) ∧ (A.le G') ∧ (G.le G') ∧ f 21 = V i ∧ f 7 = o ∧ f 1 = Go.GL.V t ∧ f 2 = Go.Value.pointer (Option.some { block := r1, off := 0 }) ∧ f 19 = Go.Value.slice ka (Go.Proofs.YtnlbapfbdabjaaaDoor.keysOf x).length kc ∧ f 20 = Go.Value.int Go.IntKind.i64 ↑(Go.Proofs.YtnlbapfbdabjaaaDoor.keysOf x).length) _ ⟨0, .slice none 0 0, rfl, ?_, ?_, ?_, ?_, ?_, ?_, ?_, by simp (maxDischargeDepth := 9) only [↓gB, gV, gT, reduceIte, reduceCtorEq, Nat.reduceEqDiff, Nat.reduceAdd, Nat.reduceSub, Nat.reduceLeDiff, Nat.reduceLT, Int.reduceEq, Nat.reduceMul, h1, n2, h2, yA, y2, hk, y1, and_self]⟩ ?_
    · omega
    · (exact Row.nil; done)
    · assumption
    · assumption
    · assumption
    · assumption
    · assumption
    rintro k f G' ⟨i, o, rfl, hi, hn, hrow, y1, hv, lD, lG, f21, f7, f1, f2, f19, f20⟩
  simp (maxDischargeDepth := 9) only [↓gB, gV, gT, reduceIte, reduceCtorEq, Nat.reduceEqDiff, Nat.reduceAdd, Nat.reduceSub, Nat.reduceLeDiff, Nat.reduceLT, Int.reduceEq, Nat.reduceMul, h1, n2, h2, yA, y2, hk, y1, y1, f21, f7, f1, f2, f19, f20]
  refine Xc_split _ _ _ _ _ (fun c1 => ?_) (fun c1 => ?_)
  · obtain ⟨k, hk⟩ : ∃ k, (keysOf x)[i]? = some k := ⟨_, List.getElem?_eq_getElem (by omega)⟩
    have hkm : ((keysOf x).map nodeOf)[i]? = some (nodeOf k) := by rw [List.getElem?_map, hk]; rfl
    have htl : (((keysOf x).map nodeOf).take i).length ≤ 2 := by rw [List.length_take, List.length_map]; omega
    focus
      simp (maxDischargeDepth := 9) only [↓gB, gV, gT, reduceIte, reduceCtorEq, Nat.reduceEqDiff, Nat.reduceAdd, Nat.reduceSub, Nat.reduceLeDiff, Nat.reduceLT, Int.reduceEq, Nat.reduceMul, h1, n2, h2, yA, y2, hk, y1, y1, f21, f7, f1, f2, f19, f20, c1]
      obtain ⟨x1, a1, s1, m1, rfl, rfl, e1⟩ := hrow.at1 (i) (by omega) rfl
      simp (maxDischargeDepth := 9) only [↓gB, gV, gT, reduceIte, reduceCtorEq, Nat.reduceEqDiff, Nat.reduceAdd, Nat.reduceSub, Nat.reduceLeDiff, Nat.reduceLT, Int.reduceEq, Nat.reduceMul, h1, n2, h2, yA, y2, hk, y1, y1, f21, f7, f1, f2, f20, c1, f19, e1]
      refine vguard_intro (by simp) ?_
      refine Yn2 fun r3 h3 => ?_
      simp (maxDischargeDepth := 9) only [↓gB, gV, gT, reduceIte, reduceCtorEq, Nat.reduceEqDiff, Nat.reduceAdd, Nat.reduceSub, Nat.reduceLeDiff, Nat.reduceLT, Int.reduceEq, Nat.reduceMul, h1, n2, h2, yA, y2, hk, y1, y1, f21, f7, f1, f2, f20, c1, f19, e1, h3]
      refine Row.app1 sl80 (Row.put _ h3 hn) (by exact put_self _ _ _) (y := ⟨_, _, _⟩) rfl (by omega) (GH.le.trans lD (le_put h3 _)) fun v1 G1 w1 k1 l1 => ?_
      replace hv := RSl.appd (RSl.put _ h3 hv) (Row.put _ h3 hn) k1
      replace hrow := Row.keepTy (Row.put _ h3 hrow) (Row.put _ h3 hn) k1 (by decide)
      simp (maxDischargeDepth := 9) only [↓gB, gV, gT, reduceIte, reduceCtorEq, Nat.reduceEqDiff, Nat.reduceAdd, Nat.reduceSub, Nat.reduceLeDiff, Nat.reduceLT, Int.reduceEq, Nat.reduceMul, h1, n2, h2, yA, y2, hk, y1, y1, f21, f7, f1, f2, f20, c1, f19, e1, h3]
      have q1 : Go.IntKind.i64.wrap (↑i + 1) = ↑i + 1 := wrap_id (by omega)
      simp (maxDischargeDepth := 9) only [↓gB, gV, gT, reduceIte, reduceCtorEq, Nat.reduceEqDiff, Nat.reduceAdd, Nat.reduceSub, Nat.reduceLeDiff, Nat.reduceLT, Int.reduceEq, Nat.reduceMul, h1, n2, h2, yA, y2, hk, y1, y1, f21, f7, f1, f2, f20, c1, f19, e1, h3, q1]
      rw [N_lp]
      refine ⟨_, ?_, _, sub_refl _, i + 1, v1, rfl, ?_, ?_, ?_, ?_, ?_, ?_, ?_, by simp (maxDischargeDepth := 9) only [↓gB, gV, gT, reduceIte, reduceCtorEq, Nat.reduceEqDiff, Nat.reduceAdd, Nat.reduceSub, Nat.reduceLeDiff, Nat.reduceLT, Int.reduceEq, Nat.reduceMul, h1, n2, h2, yA, y2, hk, y1, y1, f21, f7, f1, f2, f20, c1, f19, e1, h3, q1, nat_succ, and_self]⟩
      · omega
      · omega
      · ((have e : k = x1 := by (rw [hk] at m1; cases m1; rfl)); subst e; rw [take_at hkm]; exact w1; done)
      · assumption
      · (exact (show A.le _ from by assumption) _ _ yA; done)
      · assumption
      · assumption
      · (exact lA.trans (by assumption); done)
  · rw [List.take_of_length_le (by rw [List.length_map]; omega)] at hn
    obtain ⟨ao, co, rfl⟩ := hn.val
    simp (maxDischargeDepth := 9) only [↓gB, gV, gT, reduceIte, reduceCtorEq, Nat.reduceEqDiff, Nat.reduceAdd, Nat.reduceSub, Nat.reduceLeDiff, Nat.reduceLT, Int.reduceEq, Nat.reduceMul, h1, n2, h2, yA, y2, hk, y1, y1, f21, f1, f2, f19, f20, c1, f7]
    refine Yn2 fun r3 h3 => ?_
    simp (maxDischargeDepth := 9) only [↓gB, gV, gT, reduceIte, reduceCtorEq, Nat.reduceEqDiff, Nat.reduceAdd, Nat.reduceSub, Nat.reduceLeDiff, Nat.reduceLT, Int.reduceEq, Nat.reduceMul, h1, n2, h2, yA, y2, hk, y1, y1, f21, f1, f2, f19, f20, c1, f7, h3]
    obtain ⟨E, hs, hnE, hke, hleE⟩ := (Row.put (.cells [.string x.Key, .string x.From, .string x.To, V x.Long, .slice a x.Knots.length c].toArray 87 (0, 0), true) h3 hn).freeze
    refine Ycsub hs ?_
    have il := Row.ileOf (Row.put _ h3 hn) hke
    have y3 := hke _ _ (put_self G' r3 (.cells [.string x.Key, .string x.From, .string x.To, V x.Long, .slice a x.Knots.length c].toArray 87 (0, 0), true)) (Row.fresh hn h3)
    have y1E := hke _ _ ((put_pk h3 (kn_of y1)).trans y1) (hn.apart0 (kn_of yA))
    have hvE := (RSl.put (.cells [.string x.Key, .string x.From, .string x.To, V x.Long, .slice a x.Knots.length c].toArray 87 (0, 0), true) h3 hv).ile il
    have lE : G.le E := lA.trans (hleE (lD.trans (le_put h3 _)))
    refine Ycp (p43b (by rw [List.length_map]; omega) hl y3 hnE hvE) ?_
    by_cases he0 : roadsE ((keysOf x).map nodeOf) [x] [] = 0
    · have hkn := one_ok he0
      cases hm : moment t
      · have hT : timeV x t = .tuple #[V 0, V 1] := by unfold timeV timeE; rw [orOf2, if_pos he0, hm]; rfl
        rw [hT]
        simp (maxDischargeDepth := 9) only [↓gB, gV, gT, reduceIte, reduceCtorEq, Nat.reduceEqDiff, Nat.reduceAdd, Nat.reduceSub, Nat.reduceLeDiff, Nat.reduceLT, Int.reduceEq, Nat.reduceMul, h1, n2, h2, yA, y2, hk, y1, y1, f21, f1, f2, f19, f20, c1, f7, h3, hke, y3, y1E, hm, he0]
        refine Ycp (p102) ?_
        simp (maxDischargeDepth := 9) only [↓gB, gV, gT, reduceIte, reduceCtorEq, Nat.reduceEqDiff, Nat.reduceAdd, Nat.reduceSub, Nat.reduceLeDiff, Nat.reduceLT, Int.reduceEq, Nat.reduceMul, h1, n2, h2, yA, y2, hk, y1, y1, f21, f1, f2, f19, f20, c1, f7, h3, hke, y3, y1E, hm, he0]
        exact Kup_val (by simp (maxDischargeDepth := 9) only [le_self, le_puts, le_put0, h1, n2, h2, lA, l2, lC, lD, lG, lD, lG, h3, lE]) rfl
      · have hT : timeV x t = .tuple #[V (timeF x.Knots t), V 0] := by unfold timeV timeE; rw [orOf2, if_pos he0, hm]; rfl
        have hmb := within_iff.1 (show within t 0 345686399999 = true from hm)
        rw [hT]
        simp (maxDischargeDepth := 9) only [↓gB, gV, gT, reduceIte, reduceCtorEq, Nat.reduceEqDiff, Nat.reduceAdd, Nat.reduceSub, Nat.reduceLeDiff, Nat.reduceLT, Int.reduceEq, Nat.reduceMul, h1, n2, h2, yA, y2, hk, y1, y1, f21, f1, f2, f19, f20, c1, f7, h3, hke, y3, y1E, hm, he0]
        refine Ycp (p102) ?_
        simp (maxDischargeDepth := 9) only [↓gB, gV, gT, reduceIte, reduceCtorEq, Nat.reduceEqDiff, Nat.reduceAdd, Nat.reduceSub, Nat.reduceLeDiff, Nat.reduceLT, Int.reduceEq, Nat.reduceMul, h1, n2, h2, yA, y2, hk, y1, y1, f21, f1, f2, f19, f20, c1, f7, h3, hke, y3, y1E, hm, he0]
        refine Ycp (p103 hvE hkn (by omega) (by omega) (fieldAt_of y1E rfl)) ?_
        simp (maxDischargeDepth := 9) only [↓gB, gV, gT, reduceIte, reduceCtorEq, Nat.reduceEqDiff, Nat.reduceAdd, Nat.reduceSub, Nat.reduceLeDiff, Nat.reduceLT, Int.reduceEq, Nat.reduceMul, h1, n2, h2, yA, y2, hk, y1, y1, f21, f1, f2, f19, f20, c1, f7, h3, hke, y3, y1E, hm, he0]
        exact Kup_val (by simp (maxDischargeDepth := 9) only [le_self, le_puts, le_put0, h1, n2, h2, lA, l2, lC, lD, lG, lD, lG, h3, lE]) rfl
    · have hT : timeV x t = .tuple #[V 0, V (roadsE ((keysOf x).map nodeOf) [x] [])] := by unfold timeV timeE; rw [orOf2, if_neg he0, if_neg he0]
      rw [hT]
      simp (maxDischargeDepth := 9) only [↓gB, gV, gT, reduceIte, reduceCtorEq, Nat.reduceEqDiff, Nat.reduceAdd, Nat.reduceSub, Nat.reduceLeDiff, Nat.reduceLT, Int.reduceEq, Nat.reduceMul, h1, n2, h2, yA, y2, hk, y1, y1, f21, f1, f2, f19, f20, c1, f7, h3, hke, y3, y1E, he0]
      exact Kup_val (by simp (maxDischargeDepth := 9) only [le_self, le_puts, le_put0, h1, n2, h2, lA, l2, lC, lD, lG, lD, lG, h3, lE]) rfl
end Go.Proofs.YtnlbapfbdabjaaaDoor
namespace Go.Proofs.YtnlbapfbdabjaaaDoor
open Go Go.GL
attribute [local irreducible] Ycall GCalls
set_option maxRecDepth 10000
set_option maxHeartbeats 0
theorem g96 {G0 : GH} {v : Value} {l : List SNode} (hv : RSl rNode G0 v l) (hn : l.length ≤ 1000000000) : Gives Tryd.prog G0 96 [v] (fun u G' => RSl rNode G' u l) := by
  intro G hG; replace hv := hv.le hG
  clear hG G0
  refine enter Tryd.func96 8 #[.tmp 2] rfl Tryd.ntmps96 rfl (by decide +kernel) rfl ?_
  obtain ⟨a, c, rfl⟩ := hv.val
  simp (maxDischargeDepth := 9) only [↓gB, gV, gT, reduceIte, reduceCtorEq, Nat.reduceEqDiff, Nat.reduceAdd, Nat.reduceSub, Nat.reduceLeDiff, Nat.reduceLT, Int.reduceEq, Nat.reduceMul]
  cases a with
  | none =>
    simp (maxDischargeDepth := 9) only [↓gB, gV, gT, reduceIte, reduceCtorEq, Nat.reduceEqDiff, Nat.reduceAdd, Nat.reduceSub, Nat.reduceLeDiff, Nat.reduceLT, Int.reduceEq, Nat.reduceMul, Option.isNone_none]
    have : l = [] := by
      cases l with
      | nil => rfl
      | cons x l => obtain ⟨ad, _, e, _⟩ := hv.get (i := 0) (x := x) rfl; cases e
    subst this
    exact Kup_gives (sub_refl _) (le_refl _) (RSl.nil _ _)
  | some ad =>
    simp (maxDischargeDepth := 9) only [↓gB, gV, gT, reduceIte, reduceCtorEq, Nat.reduceEqDiff, Nat.reduceAdd, Nat.reduceSub, Nat.reduceLeDiff, Nat.reduceLT, Int.reduceEq, Nat.reduceMul, Option.isNone_some]
    refine Yn1 fun r1 h1 => ?_
    simp (maxDischargeDepth := 9) only [↓gB, gV, gT, reduceIte, reduceCtorEq, Nat.reduceEqDiff, Nat.reduceAdd, Nat.reduceSub, Nat.reduceLeDiff, Nat.reduceLT, Int.reduceEq, Nat.reduceMul, h1, Option.isNone_some]
    obtain ⟨ds, h1, h2⟩ := (hv.le (le_put h1 (.cells #[] 93 (0, 0), true))).read
    refine Row.append sl80 (ρ := rNode) (G0 := G) (xs := []) (ys := l) ⟨[], ⟨rfl, .inr ⟨r1, 0, #[], rfl, by assumption, put_self _ _ _, rfl, Nat.le_refl _, rfl⟩⟩, Cellsof.nil _ _⟩ h1 h2 (by simp; omega) (le_put (by assumption) _) ?_
    intro v' G' hrow hk hle
    simp (maxDischargeDepth := 9) only [↓gB, gV, gT, reduceIte, reduceCtorEq, Nat.reduceEqDiff, Nat.reduceAdd, Nat.reduceSub, Nat.reduceLeDiff, Nat.reduceLT, Int.reduceEq, Nat.reduceMul, h1, hk]
    obtain ⟨G2, hs, hl, hr⟩ := hrow.fin hle
    exact Kup_gives hs hl (by simpa using hr)
theorem g97 {G0 : GH} {v : Value} {l : List SBan} (hv : RSl rBan G0 v l) (hn : l.length ≤ 1000000000) : Gives Tryd.prog G0 97 [v] (fun u G' => RSl rBan G' u l) := by
  intro G hG; replace hv := hv.le hG
  clear hG G0
  refine enter Tryd.func97 8 #[.tmp 2] rfl Tryd.ntmps97 rfl (by decide +kernel) rfl ?_
  obtain ⟨a, c, rfl⟩ := hv.val
  simp (maxDischargeDepth := 9) only [↓gB, gV, gT, reduceIte, reduceCtorEq, Nat.reduceEqDiff, Nat.reduceAdd, Nat.reduceSub, Nat.reduceLeDiff, Nat.reduceLT, Int.reduceEq, Nat.reduceMul]
  cases a with
  | none =>
    simp (maxDischargeDepth := 9) only [↓gB, gV, gT, reduceIte, reduceCtorEq, Nat.reduceEqDiff, Nat.reduceAdd, Nat.reduceSub, Nat.reduceLeDiff, Nat.reduceLT, Int.reduceEq, Nat.reduceMul, Option.isNone_none]
    have : l = [] := by
      cases l with
      | nil => rfl
      | cons x l => obtain ⟨ad, _, e, _⟩ := hv.get (i := 0) (x := x) rfl; cases e
    subst this
    exact Kup_gives (sub_refl _) (le_refl _) (RSl.nil _ _)
  | some ad =>
    simp (maxDischargeDepth := 9) only [↓gB, gV, gT, reduceIte, reduceCtorEq, Nat.reduceEqDiff, Nat.reduceAdd, Nat.reduceSub, Nat.reduceLeDiff, Nat.reduceLT, Int.reduceEq, Nat.reduceMul, Option.isNone_some]
    refine Yn1 fun r1 h1 => ?_
    simp (maxDischargeDepth := 9) only [↓gB, gV, gT, reduceIte, reduceCtorEq, Nat.reduceEqDiff, Nat.reduceAdd, Nat.reduceSub, Nat.reduceLeDiff, Nat.reduceLT, Int.reduceEq, Nat.reduceMul, h1, Option.isNone_some]
    obtain ⟨ds, h1, h2⟩ := (hv.le (le_put h1 (.cells #[] 131 (0, 0), true))).read
    refine Row.append sl82 (ρ := rBan) (G0 := G) (xs := []) (ys := l) ⟨[], ⟨rfl, .inr ⟨r1, 0, #[], rfl, by assumption, put_self _ _ _, rfl, Nat.le_refl _, rfl⟩⟩, Cellsof.nil _ _⟩ h1 h2 (by simp; omega) (le_put (by assumption) _) ?_
    intro v' G' hrow hk hle
    simp (maxDischargeDepth := 9) only [↓gB, gV, gT, reduceIte, reduceCtorEq, Nat.reduceEqDiff, Nat.reduceAdd, Nat.reduceSub, Nat.reduceLeDiff, Nat.reduceLT, Int.reduceEq, Nat.reduceMul, h1, hk]
    obtain ⟨G2, hs, hl, hr⟩ := hrow.fin hle
    exact Kup_gives hs hl (by simpa using hr)
theorem rslK {α : Type} {ρ : Rp α} {G : GH} {w : Value} {ys : List α} {r : Nat} {o : Obj} (o' : Obj × Bool) (k : ∀ x, G r = some x → x = (o, true)) (h : RSl ρ G w ys) : RSl ρ (G.put r o') w ys := by
  cases hr : G r with
  | none => exact RSl.put _ hr h
  | some x => exact RSl.over _ h (by rw [hr, k x hr])
theorem Row.notTy {α : Type} {ρ : Rp α} {e e2 : TypeId} {G0 G : GH} {v : Value} {xs : List α} {r : Nat} {c : Array Value} {fr : Nat × Nat} {t : Bool} (h : Row ρ e G0 G v xs) (hr : G r = some (.cells c e2 fr, t)) (hne : e ≠ e2) : notAt v r := by
  intro n cc hv
  obtain ⟨cs, hov, _⟩ := h
  rcases hov.2 with ⟨h1, _⟩ | ⟨b, cap, c', h1, _, h3, _⟩
  · rw [h1] at hv; cases hv
  · rw [h1] at hv; cases hv
    rw [hr] at h3; cases h3; exact hne rfl
theorem g47 {G0 : GH} {x : SArc} {v : Value} (hv : RSl rKnot G0 v x.Knots) (hl : x.Knots.length ≤ 1000000000) : Gives Tryd.prog G0 47 [.agg #[.string x.Key, .string x.From, .string x.To, V x.Long, v]] (fun u G' => ∃ w, RSl rKnot G' w x.Knots ∧ u = .agg #[.string x.Key, .string x.From, .string x.To, V x.Long, w]) := by
  intro G hG; replace hv := hv.le hG
  clear hG G0
  refine enter Tryd.func47 8 #[.cell 2 87] rfl Tryd.ntmps47 rfl (by decide +kernel) rfl ?_
  obtain ⟨a, c, rfl⟩ := hv.val
  simp (maxDischargeDepth := 9) only [↓gB, gV, gT, reduceIte, reduceCtorEq, Nat.reduceEqDiff, Nat.reduceAdd, Nat.reduceSub, Nat.reduceLeDiff, Nat.reduceLT, Int.reduceEq, Nat.reduceMul]
  refine Yn2 fun r1 h1 => ?_
  simp (maxDischargeDepth := 9) only [↓gB, gV, gT, reduceIte, reduceCtorEq, Nat.reduceEqDiff, Nat.reduceAdd, Nat.reduceSub, Nat.reduceLeDiff, Nat.reduceLT, Int.reduceEq, Nat.reduceMul, h1]
  refine Yn2 fun r2 h2 => ?_
  have n2 := h2
  simp only [put_none_eq, ne_eq] at n2
  simp (maxDischargeDepth := 9) only [↓gB, gV, gT, reduceIte, reduceCtorEq, Nat.reduceEqDiff, Nat.reduceAdd, Nat.reduceSub, Nat.reduceLeDiff, Nat.reduceLT, Int.reduceEq, Nat.reduceMul, h1, h2, n2]
  have l1 := le_put h1 ((Go.Obj.cells #[Go.Value.string x.Key, Go.Value.string x.From, Go.Value.string x.To, Go.GL.V x.Long, Go.Value.slice a x.Knots.length c] 87, Bool.true))
  have y1 := put_self G r1 ((Go.Obj.cells #[Go.Value.string x.Key, Go.Value.string x.From, Go.Value.string x.To, Go.GL.V x.Long, Go.Value.slice a x.Knots.length c] 87, Bool.true))
  generalize GH.put G r1 ((Go.Obj.cells #[Go.Value.string x.Key, Go.Value.string x.From, Go.Value.string x.To, Go.GL.V x.Long, Go.Value.slice a x.Knots.length c] 87, Bool.true)) = G1 at *
  replace hv := RSl.le hv l1
  have q2_0 := GH.le.none l1 h2
  have l2 := le_put h2 ((Go.Obj.cells #[Go.Value.string ByteArray.empty, Go.Value.string ByteArray.empty, Go.Value.string ByteArray.empty, Go.Value.int Go.IntKind.i64 0, Go.Value.slice Option.none 0 0] 87, Bool.true))
  have y2 := put_self G1 r2 ((Go.Obj.cells #[Go.Value.string ByteArray.empty, Go.Value.string ByteArray.empty, Go.Value.string ByteArray.empty, Go.Value.int Go.IntKind.i64 0, Go.Value.slice Option.none 0 0] 87, Bool.true))
  generalize GH.put G1 r2 ((Go.Obj.cells #[Go.Value.string ByteArray.empty, Go.Value.string ByteArray.empty, Go.Value.string ByteArray.empty, Go.Value.int Go.IntKind.i64 0, Go.Value.slice Option.none 0 0] 87, Bool.true)) = G2 at *
  replace l1 := GH.le.trans l1 l2
  replace y1 := l2 _ _ y1
  replace hv := RSl.le hv l2
  refine Ycg (g104 (by assumption) (by assumption)) ?_ ?_
  · exact upRSl _ _
  intro u3 G3 l3 w3
  replace l2 := GH.le.trans l2 l3
  replace y2 := l3 _ _ y2
  replace l1 := GH.le.trans l1 l3
  replace y1 := l3 _ _ y1
  replace hv := RSl.le hv l3
  obtain ⟨aw3, cw3, rfl⟩ := RSl.val w3
  simp (maxDischargeDepth := 9) only [↓gB, gV, gT, reduceIte, reduceCtorEq, Nat.reduceEqDiff, Nat.reduceAdd, Nat.reduceSub, Nat.reduceLeDiff, Nat.reduceLT, Int.reduceEq, Nat.reduceMul, h1, n2, h2, q2_0, y2, y1]
  exact Kup_gives (sub_refl _) (le_put_new (le_put_new l1 h1 _) n2.2 _) ⟨_, RSl.over _ (RSl.over _ w3 y1) ((put_not _ _ n2.1).trans y2), rfl⟩
theorem g44 {G0 : GH} {v w u0 : Value} {ns : List SNode} {ar : List SArc} {bs : List SBan} (hv : RSl rNode G0 v ns) (hw : RSl rArc G0 w ar) (hu : RSl rBan G0 u0 bs) (hn : ns.length ≤ 1000000000) (hm : ar.length ≤ 1000000000) (hk : ∀ x ∈ ar, x.Knots.length ≤ 1000000000) (hb : bs.length ≤ 1000000000) : Gives Tryd.prog G0 44 [.agg #[v, w, u0]] (fun u G' => ∃ v' w' u', RSl rNode G' v' ns ∧ RSl rArc G' w' ar ∧ RSl rBan G' u' bs ∧ u = .agg #[v', w', u']) := by
  intro G hG; replace hv := hv.le hG; replace hw := hw.le hG; replace hu := hu.le hG
  clear hG G0
  refine enter Tryd.func44 29 #[.cell 2 84] rfl Tryd.ntmps44 rfl (by decide +kernel) rfl ?_
  obtain ⟨va, vc, rfl⟩ := hv.val
  obtain ⟨wa, wc, rfl⟩ := hw.val
  obtain ⟨ua, uc, rfl⟩ := hu.val
  rw [X_seq]
  focus
    refine Xcut _ _ _ _ _ (J := fun f G' => ∃ (r1 r2 : Nat), (∀ r, G' r = none → r1 ≠ r) ∧ (∀ r, G' r = none → r2 ≠ r) ∧ (∀ r, G' r = none → G r = none) ∧ (r1 ≠ r2) ∧ (G r1 = none) ∧ (G r2 = none) ∧ (G' r1 = some (.cells [.slice va ns.length vc, .slice wa ar.length wc, .slice ua bs.length uc].toArray 84 (0, 0), true)) ∧ (G' r2 = some (.cells [.slice none 0 0, .slice none 0 0, .slice none 0 0].toArray 84 (0, 0), true)) ∧ (RSl rNode G' (.slice va ns.length vc) ns) ∧ (RSl rArc G' (.slice wa ar.length wc) ar) ∧ (RSl rBan G' (.slice ua bs.length uc) bs) ∧ (G.le G') ∧ f 1 = .pointer (some ⟨r1, 0, none⟩) ∧ f 2 = .pointer (some ⟨r2, 0, none⟩)) ?_ ?_
    rotate_left 1
    rintro f G' ⟨r1, r2, nn1, nn2, nn3, n12, g1, g2, y1, y2, hv, hw, hu, hle, f1, f2⟩
    rotate_right 1
  · simp (maxDischargeDepth := 9) only [↓gB, gV, gT, reduceIte, reduceCtorEq, Nat.reduceEqDiff, Nat.reduceAdd, Nat.reduceSub, Nat.reduceLeDiff, Nat.reduceLT, Int.reduceEq, Nat.reduceMul]
    refine Yn2 fun r1 h1 => ?_
    simp (maxDischargeDepth := 9) only [↓gB, gV, gT, reduceIte, reduceCtorEq, Nat.reduceEqDiff, Nat.reduceAdd, Nat.reduceSub, Nat.reduceLeDiff, Nat.reduceLT, Int.reduceEq, Nat.reduceMul, h1]
    refine Yn2 fun r2 h2 => ?_
    have n2 := h2
    simp only [put_none_eq, ne_eq] at n2
    simp (maxDischargeDepth := 9) only [↓gB, gV, gT, reduceIte, reduceCtorEq, Nat.reduceEqDiff, Nat.reduceAdd, Nat.reduceSub, Nat.reduceLeDiff, Nat.reduceLT, Int.reduceEq, Nat.reduceMul, h1, h2, n2]
    have n21 : r1 ≠ r2 := fun q => n2.1 q.symm
    have g2 := n2.2
    have z1 : ((G.put r1 (.cells [.slice va ns.length vc, .slice wa ar.length wc, .slice ua bs.length uc].toArray 84 (0, 0), true)).put r2 (.cells [.slice none 0 0, .slice none 0 0, .slice none 0 0].toArray 84 (0, 0), true)) r1 = some (.cells [.slice va ns.length vc, .slice wa ar.length wc, .slice ua bs.length uc].toArray 84 (0, 0), true) := (put_not _ _ n21).trans (put_self _ _ _)
    focus
      rw [N_cut]
      refine ⟨_, sub_refl _, r1, r2, ?_, ?_, ?_, ?_, ?_, ?_, ?_, ?_, ?_, ?_, ?_, ?_, by simp (maxDischargeDepth := 9) only [↓gB, gV, gT, reduceIte, reduceCtorEq, Nat.reduceEqDiff, Nat.reduceAdd, Nat.reduceSub, Nat.reduceLeDiff, Nat.reduceLT, Int.reduceEq, Nat.reduceMul, h1, h2, n2, n21, g2, z1, nat_succ, and_self]⟩
      · (exact fun r h => ne_of_none z1 h; done)
      · (exact fun r h => ne_of_none (put_self _ _ _) h; done)
      · (exact fun r h => GH.le.none ((le_put h1 _).trans (le_put h2 _)) h; done)
      · assumption
      · assumption
      · assumption
      · assumption
      · exact put_self _ _ _
      · exact RSl.put _ (by assumption) (RSl.put _ (by assumption) (by assumption))
      · exact RSl.put _ (by assumption) (RSl.put _ (by assumption) (by assumption))
      · exact RSl.put _ (by assumption) (RSl.put _ (by assumption) (by assumption))
      · (simp (maxDischargeDepth := 9) only [le_self, le_puts, le_put0, sub_self, sub_puts, sub_put0, h1, h2, n2, g2]; done)
  · simp (maxDischargeDepth := 9) only [↓gB, gV, gT, reduceIte, reduceCtorEq, Nat.reduceEqDiff, Nat.reduceAdd, Nat.reduceSub, Nat.reduceLeDiff, Nat.reduceLT, Int.reduceEq, Nat.reduceMul, nn1, nn2, nn3, n12, g1, g2, y1, y2, f1, f2]
    refine Xdraw_intro [0, 1, 3, 4, 2, 5, 6, 7, 8] mixed (by kernel_rfl) (by decide +kernel) ?_
    simp (maxDischargeDepth := 9) only [↓gB, gV, gT, reduceIte, reduceCtorEq, Nat.reduceEqDiff, Nat.reduceAdd, Nat.reduceSub, Nat.reduceLeDiff, Nat.reduceLT, Int.reduceEq, Nat.reduceMul, nn1, nn2, nn3, n12, g1, g2, y1, y2, f1, f2]
    refine Ycg (g96 (by assumption) (by assumption)) ?_ ?_
    · exact upRSl _ _
    intro u1 G1 l1 w1
    replace y1 := l1 _ _ y1
    replace y2 := l1 _ _ y2
    replace hv := RSl.le hv l1
    replace hw := RSl.le hw l1
    replace hu := RSl.le hu l1
    replace hle := GH.le.trans hle l1
    obtain ⟨aw1, cw1, rfl⟩ := RSl.val w1
    simp (maxDischargeDepth := 9) only [↓gB, gV, gT, reduceIte, reduceCtorEq, Nat.reduceEqDiff, Nat.reduceAdd, Nat.reduceSub, Nat.reduceLeDiff, Nat.reduceLT, Int.reduceEq, Nat.reduceMul, nn1, nn2, nn3, n12, g1, g2, f1, f2, y1, y2]
    refine Ycg (g97 (by assumption) (by assumption)) ?_ ?_
    · exact upRSl _ _
    intro u2 G2 l2 w2
    replace l1 := GH.le.trans l1 l2
    replace y1 := l2 _ _ y1
    replace y2 := l2 _ _ y2
    replace hv := RSl.le hv l2
    replace hw := RSl.le hw l2
    replace hu := RSl.le hu l2
    replace hle := GH.le.trans hle l2
    replace w1 := RSl.le w1 l2
    obtain ⟨aw2, cw2, rfl⟩ := RSl.val w2
    simp (maxDischargeDepth := 9) only [↓gB, gV, gT, reduceIte, reduceCtorEq, Nat.reduceEqDiff, Nat.reduceAdd, Nat.reduceSub, Nat.reduceLeDiff, Nat.reduceLT, Int.reduceEq, Nat.reduceMul, nn1, nn2, nn3, n12, g1, g2, f1, f2, y1, y2]
    refine Yn3 fun r3 h3 k3 => ?_
    simp (maxDischargeDepth := 9) only [↓gB, gV, gT, reduceIte, reduceCtorEq, Nat.reduceEqDiff, Nat.reduceAdd, Nat.reduceSub, Nat.reduceLeDiff, Nat.reduceLT, Int.reduceEq, Nat.reduceMul, nn1, nn2, nn3, n12, g1, g2, f1, f2, y1, y2, h3]
    have n13 : r1 ≠ r3 := nn1 _ h3
    have n23 : r2 ≠ r3 := nn2 _ h3
    have g3 : G r3 = none := nn3 _ h3
    generalize aw1 = pa at *
    generalize cw1 = pc at *
    generalize aw2 = qa at *
    generalize cw2 = qc at *
    focus
      refine Xloop_intro _ _ _ _ _ (fun k f G' => ∃ (i : Nat) (o : Value), k = ar.length - i ∧ (i ≤ ar.length) ∧ (G' r2 = some (.cells [.slice none 0 0, .slice none 0 0, .slice none 0 0].toArray 84 (0, 0), true)) ∧ (G' r3 = some (.cells [.slice pa ns.length pc, o, .slice qa bs.length qc].toArray 84 (0, 0), true)) ∧ (Row rArc 87 G G' o (ar.take i)) ∧ (RSl rNode G' (.slice pa ns.length pc) ns) ∧ (RSl rArc G' (.slice wa ar.length wc) ar) ∧ (RSl rBan G' (.slice qa bs.length qc) bs) ∧ (G.le G') ∧ f 16 = V i ∧ f 2 = Go.Value.pointer (Option.some { block := r2, off := 0 }) ∧ f 3 = Go.Value.pointer (Option.some { block := r3, off := 0 }) ∧ f 14 = Go.Value.slice wa ar.length wc ∧ f 15 = Go.Value.int Go.IntKind.i64 ↑ar.length) _ ⟨0, .slice none 0 0, rfl, ?_, ?_, ?_, ?_, ?_, ?_, ?_, ?_, by simp (maxDischargeDepth := 9) only [↓gB, gV, gT, reduceIte, reduceCtorEq, Nat.reduceEqDiff, Nat.reduceAdd, Nat.reduceSub, Nat.reduceLeDiff, Nat.reduceLT, Int.reduceEq, Nat.reduceMul, nn1, nn2, nn3, n12, g1, g2, f1, f2, y1, y2, h3, n13, n23, g3, and_self]⟩ ?_
      · omega
      · exact (put_not _ _ (by assumption)).trans (by assumption)
      · exact put_self _ _ _
      · (exact Row.nil; done)
      · (exact rslK _ k3 (by assumption); done)
      · (exact rslK _ k3 (by assumption); done)
      · (exact rslK _ k3 (by assumption); done)
      · exact le_put_new (by assumption) (by assumption) _
      rintro k f G' ⟨i, o, rfl, hi, y2, y3, hrow, vn, hw, vb, hle, f16, f2, f3, f14, f15⟩
    obtain ⟨ao, co, rfl⟩ := hrow.val
    simp (maxDischargeDepth := 9) only [↓gB, gV, gT, reduceIte, reduceCtorEq, Nat.reduceEqDiff, Nat.reduceAdd, Nat.reduceSub, Nat.reduceLeDiff, Nat.reduceLT, Int.reduceEq, Nat.reduceMul, nn1, nn2, nn3, n12, g1, g2, f1, f2, y1, y2, h3, n13, n23, g3, y2, f16, f2, f3, f14, f15, y3]
    refine Xc_split _ _ _ _ _ (fun c1 => ?_) (fun c1 => ?_)
    · obtain ⟨x, hx⟩ : ∃ x, ar[i]? = some x := ⟨_, List.getElem?_eq_getElem (by omega)⟩
      have hxk := hk x (List.mem_of_getElem? hx)
      have htl : (ar.take i).length = i := by rw [List.length_take]; omega
      simp (maxDischargeDepth := 9) only [↓gB, gV, gT, reduceIte, reduceCtorEq, Nat.reduceEqDiff, Nat.reduceAdd, Nat.reduceSub, Nat.reduceLeDiff, Nat.reduceLT, Int.reduceEq, Nat.reduceMul, nn1, nn2, nn3, n12, g1, g2, f1, f2, y1, y2, h3, n13, n23, g3, y2, f16, f2, f3, f14, f15, y3, c1]
      obtain ⟨x1, a1, s1, m1, rfl, ⟨v1, rfl, w1⟩, e1⟩ := hw.at (i) (by omega) 5 rfl
      obtain ⟨aw1, cw1, rfl⟩ := RSl.val w1
      simp (maxDischargeDepth := 9) only [↓gB, gV, gT, reduceIte, reduceCtorEq, Nat.reduceEqDiff, Nat.reduceAdd, Nat.reduceSub, Nat.reduceLeDiff, Nat.reduceLT, Int.reduceEq, Nat.reduceMul, nn1, nn2, nn3, n12, g1, g2, f1, f2, y2, h3, n13, n23, g3, y2, f16, f2, f3, f15, y3, c1, y1, f14, e1]
      refine vguard_intro (by simp) ?_
      refine Yn2 fun r4 h4 => ?_
      simp (maxDischargeDepth := 9) only [↓gB, gV, gT, reduceIte, reduceCtorEq, Nat.reduceEqDiff, Nat.reduceAdd, Nat.reduceSub, Nat.reduceLeDiff, Nat.reduceLT, Int.reduceEq, Nat.reduceMul, nn1, nn2, nn3, n12, g1, g2, f1, f2, y2, h3, n13, n23, g3, y2, f16, f2, f3, f15, y3, c1, y1, f14, e1, h4]
      refine Xdraw_intro [0, 1, 2, 3, 4, 5, 6, 7] mixed (by kernel_rfl) (by decide +kernel) ?_
      simp (maxDischargeDepth := 9) only [↓gB, gV, gT, reduceIte, reduceCtorEq, Nat.reduceEqDiff, Nat.reduceAdd, Nat.reduceSub, Nat.reduceLeDiff, Nat.reduceLT, Int.reduceEq, Nat.reduceMul, nn1, nn2, nn3, n12, g1, g2, f1, f2, y2, h3, n13, n23, g3, y2, f16, f2, f3, f15, y3, c1, y1, f14, e1, h4]
      obtain rfl : x = x1 := by rw [hx] at m1; cases m1; rfl
      have n34 : r3 ≠ r4 := ne_of_none y3 h4
      simp (maxDischargeDepth := 9) only [↓gB, gV, gT, reduceIte, reduceCtorEq, Nat.reduceEqDiff, Nat.reduceAdd, Nat.reduceSub, Nat.reduceLeDiff, Nat.reduceLT, Int.reduceEq, Nat.reduceMul, nn1, nn2, nn3, n12, g1, g2, f1, f2, y2, h3, n13, n23, g3, y2, f16, f2, f3, f15, y3, c1, y1, f14, h4, e1, n34]
      have q4_0 := GH.le.none hle h4
      have q4_1 := Row.fresh hrow h4
      have l4 := le_put h4 ((Go.Obj.cells #[Go.Value.string x.Key, Go.Value.string x.From, Go.Value.string x.To, Go.Value.int Go.IntKind.i64 x.Long, Go.Value.slice aw1 x.Knots.length cw1] 87, Bool.true))
      have y4 := put_self G' r4 ((Go.Obj.cells #[Go.Value.string x.Key, Go.Value.string x.From, Go.Value.string x.To, Go.Value.int Go.IntKind.i64 x.Long, Go.Value.slice aw1 x.Knots.length cw1] 87, Bool.true))
      generalize GH.put G' r4 ((Go.Obj.cells #[Go.Value.string x.Key, Go.Value.string x.From, Go.Value.string x.To, Go.Value.int Go.IntKind.i64 x.Long, Go.Value.slice aw1 x.Knots.length cw1] 87, Bool.true)) = G4 at *
      replace y2 := l4 _ _ y2
      replace vn := RSl.le vn l4
      replace vb := RSl.le vb l4
      replace hle := GH.le.trans hle l4
      replace y3 := l4 _ _ y3
      replace hrow := Row.le hrow l4
      replace hw := RSl.le hw l4
      replace w1 := RSl.le w1 l4
      refine Ycg (g47 (by assumption) (by assumption)) ?_ ?_
      · exact fun _ _ _ hl q => by obtain ⟨z0, w0', rfl⟩ := q; exact ⟨z0, (by first | exact w0' | exact RSl.le w0' hl | exact Row.le w0' hl | exact hl _ _ w0' | exact GH.le.trans w0' hl), rfl⟩
      intro u3 G3 l3 w3
      replace l4 := GH.le.trans l4 l3
      replace y4 := l3 _ _ y4
      replace y2 := l3 _ _ y2
      replace vn := RSl.le vn l3
      replace vb := RSl.le vb l3
      replace hle := GH.le.trans hle l3
      replace y3 := l3 _ _ y3
      replace hrow := Row.le hrow l3
      replace hw := RSl.le hw l3
      replace w1 := RSl.le w1 l3
      obtain ⟨z3, w3', rfl⟩ := w3
      obtain ⟨aw3', cw3', rfl⟩ := RSl.val w3'
      simp (maxDischargeDepth := 9) only [↓gB, gV, gT, reduceIte, reduceCtorEq, Nat.reduceEqDiff, Nat.reduceAdd, Nat.reduceSub, Nat.reduceLeDiff, Nat.reduceLT, Int.reduceEq, Nat.reduceMul, nn1, nn2, nn3, n12, g1, g2, f1, f2, y2, h3, n13, n23, g3, f16, f2, f3, f15, c1, y1, f14, h4, e1, n34, q4_0, y4, y2, y3]
      refine Yn3 fun r5 h5 k5 => ?_
      simp (maxDischargeDepth := 9) only [↓gB, gV, gT, reduceIte, reduceCtorEq, Nat.reduceEqDiff, Nat.reduceAdd, Nat.reduceSub, Nat.reduceLeDiff, Nat.reduceLT, Int.reduceEq, Nat.reduceMul, nn1, nn2, nn3, n12, g1, g2, f1, f2, y2, h3, n13, n23, g3, f16, f2, f3, f15, c1, y1, f14, h4, e1, n34, q4_0, y4, y2, y3, h5]
      have hrow5 := Row.le hrow (le_put3 k5)
      refine Row.app1 sl81 hrow5 (by exact put_self _ _ _) (y := x) ⟨_, rfl, RSl.le w3' (le_put3 k5)⟩ (by omega) (hle.trans (le_put3 k5)) fun v6 G6 w6 k6 l6 => ?_
      have il6 := Row.ileOf hrow5 k6
      have y26 := k6 _ _ (le_put3 k5 _ _ y2) (Row.notTy hrow5 (le_put3 k5 _ _ y2) (by decide))
      have y36 := k6 _ _ (le_put3 k5 _ _ y3) (Row.notTy hrow5 (le_put3 k5 _ _ y3) (by decide))
      have vn6 := (RSl.le vn (le_put3 k5)).ile il6
      have vb6 := (RSl.le vb (le_put3 k5)).ile il6
      have hw6 := (RSl.le hw (le_put3 k5)).ile il6
      rw [← take_at m1] at w6
      obtain ⟨a6, c6, rfl⟩ := w6.val
      clear y2 y3 vn vb hw hrow hle
      focus
        simp (maxDischargeDepth := 9) only [↓gB, gV, gT, reduceIte, reduceCtorEq, Nat.reduceEqDiff, Nat.reduceAdd, Nat.reduceSub, Nat.reduceLeDiff, Nat.reduceLT, Int.reduceEq, Nat.reduceMul, nn1, nn2, nn3, n12, g1, g2, f1, f2, y2, h3, n13, n23, g3, f16, f2, f3, f15, c1, y1, f14, h4, e1, n34, q4_0, y4, h5, y36, y26]
        have q1 : Go.IntKind.i64.wrap (↑i + 1) = ↑i + 1 := wrap_id (by omega)
        simp (maxDischargeDepth := 9) only [↓gB, gV, gT, reduceIte, reduceCtorEq, Nat.reduceEqDiff, Nat.reduceAdd, Nat.reduceSub, Nat.reduceLeDiff, Nat.reduceLT, Int.reduceEq, Nat.reduceMul, nn1, nn2, nn3, n12, g1, g2, f1, f2, y2, h3, n13, n23, g3, f16, f2, f3, f15, c1, y1, f14, h4, e1, n34, q4_0, y4, h5, q1, y36, y26]
        rw [N_lp]
        refine ⟨_, ?_, _, sub_refl _, i + 1, .slice a6 (ar.take (i + 1)).length c6, rfl, ?_, ?_, ?_, ?_, ?_, ?_, ?_, ?_, by simp (maxDischargeDepth := 9) only [↓gB, gV, gT, reduceIte, reduceCtorEq, Nat.reduceEqDiff, Nat.reduceAdd, Nat.reduceSub, Nat.reduceLeDiff, Nat.reduceLT, Int.reduceEq, Nat.reduceMul, nn1, nn2, nn3, n12, g1, g2, f1, f2, y2, h3, n13, n23, g3, f16, f2, f3, f15, c1, y1, f14, h4, e1, n34, q4_0, y4, h5, q1, y36, y26, nat_succ, and_self]⟩
        · omega
        · omega
        · exact (put_not _ _ (by assumption)).trans (by assumption)
        · exact put_self _ _ _
        · (exact Row.over _ w6 y36 (Row.notTy w6 y36 (by decide)); done)
        · exact RSl.ile (by assumption) (ile_put (by assumption) _)
        · exact RSl.ile (by assumption) (ile_put (by assumption) _)
        · exact RSl.ile (by assumption) (ile_put (by assumption) _)
        · exact le_put_new (by assumption) (by assumption) _
    · have htl2 : ar.take i = ar := List.take_of_length_le (by omega)
      rw [htl2] at hrow
      simp (maxDischargeDepth := 9) only [↓gB, gV, gT, reduceIte, reduceCtorEq, Nat.reduceEqDiff, Nat.reduceAdd, Nat.reduceSub, Nat.reduceLeDiff, Nat.reduceLT, Int.reduceEq, Nat.reduceMul, nn1, nn2, nn3, n12, g1, g2, f1, f2, y1, y2, h3, n13, n23, g3, y2, f16, f2, f3, f14, f15, y3, c1, htl2]
      obtain ⟨E, hs, hrE, hke, hleE⟩ := (Row.over (.cells [.slice pa ns.length pc, .slice ao ar.length co, .slice qa bs.length qc].toArray 84 (0, 0), true) hrow y2 (Row.notTy hrow y2 (by decide))).freeze
      have il := Row.ileOf (Row.over (.cells [.slice pa ns.length pc, .slice ao ar.length co, .slice qa bs.length qc].toArray 84 (0, 0), true) hrow y2 (Row.notTy hrow y2 (by decide))) hke
      exact Kup_gives hs (hleE (le_put_new hle g2 _)) ⟨_, _, _, (RSl.over _ vn y2).ile il, hrE, (RSl.over _ vb y2).ile il, rfl⟩
end Go.Proofs.YtnlbapfbdabjaaaDoor
namespace Go.Proofs.YtnlbapfbdabjaaaDoor
open Go Go.GL
attribute [local irreducible] Ycall GCalls
set_option maxRecDepth 10000
set_option maxHeartbeats 0
theorem slt_s (a b : ByteArray) : slt a.toList b.toList = sLt a b := by
  rw [slt, bl_eq, ByteArray.toList_eq, ByteArray.toList_eq]; rfl
theorem pvMinS0 {P : Program} (T U : TypeId) (a b : ByteArray) : pvB1 P .min [T, U] [.string a, .string b] = some (.string (if (slt a.toList b.toList || a.toList == b.toList) = true then a else b)) := det_some fun G K => by
  simp [Builtin.min_, Builtin.min2, Op.stringOp, gwp_pure, slt, asBool]
theorem pvMaxS0 {P : Program} (T U : TypeId) (a b : ByteArray) : pvB1 P .max [T, U] [.string a, .string b] = some (.string (if (!(slt a.toList b.toList)) = true then a else b)) := det_some fun G K => by
  simp [Builtin.max_, Builtin.max2, Op.stringOp, gwp_pure, slt, asBool]
def minS (a b : ByteArray) : ByteArray := if sLt b a = true then b else a
def maxS (a b : ByteArray) : ByteArray := if sLt a b = true then b else a
theorem pvMinS {P : Program} (T U : TypeId) (a b : ByteArray) : pvB1 P .min [T, U] [.string a, .string b] = some (.string (minS a b)) := by
  rw [pvMinS0, le_lt]; unfold minS; cases sLt b a <;> rfl
theorem pvMaxS {P : Program} (T U : TypeId) (a b : ByteArray) : pvB1 P .max [T, U] [.string a, .string b] = some (.string (maxS a b)) := by
  rw [pvMaxS0, slt_s]; unfold maxS; cases sLt a b <;> rfl
theorem keys_same {x : SArc} (h : x.From = x.To) : keysOf x = [minS x.From x.To] := by
  have h0 : ¬ sCmp x.To x.To < 0 := by rw [(sCmp_eq _ _).2 rfl]; decide
  unfold keysOf minS
  rw [h, sLt_irrefl]
  simp [isort, isortTo, sink, compF, h0]
theorem keys_two {x : SArc} (h : ¬ x.From = x.To) : keysOf x = [minS x.From x.To, maxS x.From x.To] := by
  unfold keysOf minS maxS
  cases h1 : sLt x.To x.From
  · have h2 : sLt x.From x.To = true := by
      cases h3 : sLt x.From x.To
      · exact absurd (sLt_tri h3 h1) h
      · rfl
    have h0 : ¬ sCmp x.To x.From < 0 := by rw [sCmp_lt, h1]; decide
    simp [isort, isortTo, sink, compF, h0, h2, h]
  · have h0 : sCmp x.To x.From < 0 := (sCmp_lt _ _).2 h1
    have h2 := sLt_asymm h1
    simp [isort, isortTo, sink, swp, compF, h0, h2, Ne.symm h]
def drvArc : SArc := ⟨⟨#[97]⟩, ⟨#[120]⟩, ⟨#[121]⟩, 5, [⟨0, 100⟩, ⟨1000, 600⟩]⟩
theorem drv0 : timeE drvArc 500 = 0 := by decide +kernel
theorem drv1 : timeF drvArc.Knots 500 = 350 := by decide +kernel
theorem drv : timeV drvArc 500 = .tuple #[V 350, V 0] := by unfold timeV; rw [if_pos drv0, drv1]
theorem p49 {G0 : GH}   : Pure Tryd.prog G0 49 [] (.bool true) := by
  intro G hG
  clear hG G0
  refine enter Tryd.func49 17 #[.tmp 0] rfl Tryd.ntmps49 rfl (by decide +kernel) rfl ?_
  simp (maxDischargeDepth := 9) only [↓gB, gV, gT, reduceIte, reduceCtorEq, Nat.reduceEqDiff, Nat.reduceAdd, Nat.reduceSub, Nat.reduceLeDiff, Nat.reduceLT, Int.reduceEq, Nat.reduceMul]
  refine Yn1 fun r1 h1 => ?_
  simp (maxDischargeDepth := 9) only [↓gB, gV, gT, reduceIte, reduceCtorEq, Nat.reduceEqDiff, Nat.reduceAdd, Nat.reduceSub, Nat.reduceLeDiff, Nat.reduceLT, Int.reduceEq, Nat.reduceMul, h1]
  have hc : Cellsof rKnot (G.put r1 (.cells [V 0, V 100, V 1000, V 600].toArray 141 (0, 0), true)) drvArc.Knots [V 0, V 100, V 1000, V 600] := ⟨[[V 0, V 100], [V 1000, V 600]], by simp, rfl, by
    intro i y c h1 h2
    match i with
    | 0 => simp [drvArc] at h1 h2; subst h1 h2; rfl
    | 1 => simp [drvArc] at h1 h2; subst h1 h2; rfl
    | i + 2 => simp at h2⟩
  obtain ⟨G2, hs, hv, hk, hil, hle⟩ := frz_list (put_self G r1 (.cells [V 0, V 100, V 1000, V 600].toArray 141 (0, 0), true)) hc
  refine Ycsub hs ?_
  have hl := hle G (le_put h1 _) h1
  refine Ycp (p46 (x := drvArc) hv (by simp [drvArc])) ?_
  simp (maxDischargeDepth := 9) only [↓gB, gV, gT, reduceIte, reduceCtorEq, Nat.reduceEqDiff, Nat.reduceAdd, Nat.reduceSub, Nat.reduceLeDiff, Nat.reduceLT, Int.reduceEq, Nat.reduceMul, h1, hk, drv]
  exact Kup_val (by simp (maxDischargeDepth := 9) only [le_self, le_puts, le_put0, h1, hl]) rfl
end Go.Proofs.YtnlbapfbdabjaaaDoor
namespace Go.Proofs.YtnlbapfbdabjaaaDoor
open Go Go.GL
attribute [local irreducible] Ycall GCalls
set_option maxRecDepth 10000
set_option maxHeartbeats 0
theorem time_ok {x : SArc} {t : Int} (he : timeE x t = 0) : knotsE x.Knots = 0 ∧ 0 ≤ t ∧ t ≤ 345686399999 := by
  unfold timeE at he
  rw [orOf2] at he
  split at he
  · rename_i h
    refine ⟨one_ok h, within_iff.1 ?_⟩
    unfold bi at he
    split at he
    · rename_i q; exact q
    · cases he
  · rename_i h; exact absurd he h
theorem two_cells {G : GH} (a b : ByteArray) : Cellsof rNode G [nodeOf a, nodeOf b] [.string a, V 0, V 0, .string b, V 0, V 0] := ⟨[[.string a, V 0, V 0], [.string b, V 0, V 0]], by simp, rfl, by
  intro i y c h1 h2
  match i with
  | 0 => simp at h1 h2; subst h1 h2; rfl
  | 1 => simp at h1 h2; subst h1 h2; rfl
  | i + 2 => simp at h2⟩
theorem p6 {G0 : GH} {v w u0 vk : Value} {ns : List SNode} {ar : List SArc} {bs : List SBan} {x : SArc} {t : Int} (hv : RSl rNode G0 v ns) (hw : RSl rArc G0 w ar) (hu : RSl rBan G0 u0 bs) (hkx : RSl rKnot G0 vk x.Knots) (hn : ns.length ≤ 1000000000) (hm : ar.length ≤ 1000000000) (hk : ∀ y ∈ ar, y.Knots.length ≤ 1000000000) (hb : bs.length ≤ 1000000000) (hx : x.Knots.length ≤ 1000000000) : Pure Tryd.prog G0 6 [.agg #[v, w, u0], .agg #[.string x.Key, .string x.From, .string x.To, V x.Long, vk], V t] (.bool true) := by
  intro G hG; replace hv := hv.le hG; replace hw := hw.le hG; replace hu := hu.le hG; replace hkx := hkx.le hG
  clear hG G0
  refine enter Tryd.func6 77 #[.tmp 6] rfl Tryd.ntmps6 rfl (by decide +kernel) rfl ?_
  obtain ⟨va, vc, rfl⟩ := hv.val
  obtain ⟨wa, wc, rfl⟩ := hw.val
  obtain ⟨ua, uc, rfl⟩ := hu.val
  obtain ⟨ka, kc, rfl⟩ := hkx.val
  by_cases he : timeE x t = 0
  · have hT : timeV x t = .tuple #[V (timeF x.Knots t), V 0] := if_pos he
    obtain ⟨hkn, ht1, ht2⟩ := time_ok he
    simp (maxDischargeDepth := 9) only [↓gB, gV, gT, reduceIte, reduceCtorEq, Nat.reduceEqDiff, Nat.reduceAdd, Nat.reduceSub, Nat.reduceLeDiff, Nat.reduceLT, Int.reduceEq, Nat.reduceMul, hT, pvMinS, pvMaxS]
    refine Yn2 fun r1 h1 => ?_
    simp (maxDischargeDepth := 9) only [↓gB, gV, gT, reduceIte, reduceCtorEq, Nat.reduceEqDiff, Nat.reduceAdd, Nat.reduceSub, Nat.reduceLeDiff, Nat.reduceLT, Int.reduceEq, Nat.reduceMul, h1, hT, pvMinS, pvMaxS]
    refine Yn2 fun r2 h2 => ?_
    have n2 := h2
    simp only [put_none_eq, ne_eq] at n2
    simp (maxDischargeDepth := 9) only [↓gB, gV, gT, reduceIte, reduceCtorEq, Nat.reduceEqDiff, Nat.reduceAdd, Nat.reduceSub, Nat.reduceLeDiff, Nat.reduceLT, Int.reduceEq, Nat.reduceMul, h1, h2, n2, hT, pvMinS, pvMaxS]
    refine Xdraw_intro [0, 3, 1, 2, 4, 5] mixed (by kernel_rfl) (by decide +kernel) ?_
    simp (maxDischargeDepth := 9) only [↓gB, gV, gT, reduceIte, reduceCtorEq, Nat.reduceEqDiff, Nat.reduceAdd, Nat.reduceSub, Nat.reduceLeDiff, Nat.reduceLT, Int.reduceEq, Nat.reduceMul, h1, h2, n2, hT, pvMinS, pvMaxS]
    have l1 := le_put h1 ((Go.Obj.cells #[Go.Value.slice va ns.length vc, Go.Value.slice wa ar.length wc, Go.Value.slice ua bs.length uc] 84, Bool.true))
    have y1 := put_self G r1 ((Go.Obj.cells #[Go.Value.slice va ns.length vc, Go.Value.slice wa ar.length wc, Go.Value.slice ua bs.length uc] 84, Bool.true))
    generalize GH.put G r1 ((Go.Obj.cells #[Go.Value.slice va ns.length vc, Go.Value.slice wa ar.length wc, Go.Value.slice ua bs.length uc] 84, Bool.true)) = G1 at *
    replace hv := RSl.le hv l1
    replace hw := RSl.le hw l1
    replace hu := RSl.le hu l1
    replace hkx := RSl.le hkx l1
    have q2_0 := GH.le.none l1 h2
    have l2 := le_put h2 ((Go.Obj.cells #[Go.Value.string x.Key, Go.Value.string x.From, Go.Value.string x.To, Go.GL.V x.Long, Go.Value.slice ka x.Knots.length kc] 87, Bool.true))
    have y2 := put_self G1 r2 ((Go.Obj.cells #[Go.Value.string x.Key, Go.Value.string x.From, Go.Value.string x.To, Go.GL.V x.Long, Go.Value.slice ka x.Knots.length kc] 87, Bool.true))
    generalize GH.put G1 r2 ((Go.Obj.cells #[Go.Value.string x.Key, Go.Value.string x.From, Go.Value.string x.To, Go.GL.V x.Long, Go.Value.slice ka x.Knots.length kc] 87, Bool.true)) = G2 at *
    replace l1 := GH.le.trans l1 l2
    replace y1 := l2 _ _ y1
    replace hv := RSl.le hv l2
    replace hw := RSl.le hw l2
    replace hu := RSl.le hu l2
    replace hkx := RSl.le hkx l2
    refine Ycg (g44 (by assumption) (by assumption) (by assumption) (by assumption) (by assumption) (by assumption) (by assumption)) ?_ ?_
    · exact fun _ _ _ hl q => by obtain ⟨z0, z0', z0'', w0''', w0'''', w0''''', rfl⟩ := q; exact ⟨z0, z0', z0'', (by first | exact w0''' | exact RSl.le w0''' hl | exact Row.le w0''' hl | exact hl _ _ w0''' | exact GH.le.trans w0''' hl), (by first | exact w0'''' | exact RSl.le w0'''' hl | exact Row.le w0'''' hl | exact hl _ _ w0'''' | exact GH.le.trans w0'''' hl), (by first | exact w0''''' | exact RSl.le w0''''' hl | exact Row.le w0''''' hl | exact hl _ _ w0''''' | exact GH.le.trans w0''''' hl), rfl⟩
    intro u3 G3 l3 w3
    replace l2 := GH.le.trans l2 l3
    replace y2 := l3 _ _ y2
    replace l1 := GH.le.trans l1 l3
    replace y1 := l3 _ _ y1
    replace hv := RSl.le hv l3
    replace hw := RSl.le hw l3
    replace hu := RSl.le hu l3
    replace hkx := RSl.le hkx l3
    obtain ⟨z3, z3', z3'', w3''', w3'''', w3''''', rfl⟩ := w3
    obtain ⟨aw3''', cw3''', rfl⟩ := RSl.val w3'''
    obtain ⟨aw3'''', cw3'''', rfl⟩ := RSl.val w3''''
    obtain ⟨aw3''''', cw3''''', rfl⟩ := RSl.val w3'''''
    simp (maxDischargeDepth := 9) only [↓gB, gV, gT, reduceIte, reduceCtorEq, Nat.reduceEqDiff, Nat.reduceAdd, Nat.reduceSub, Nat.reduceLeDiff, Nat.reduceLT, Int.reduceEq, Nat.reduceMul, h1, n2, h2, q2_0, y2, y1, hT, pvMinS, pvMaxS]
    refine Ycp (p43 (by assumption) (by assumption) (by assumption) (by assumption) (by assumption) (by assumption) (by assumption)) ?_
    simp (maxDischargeDepth := 9) only [↓gB, gV, gT, reduceIte, reduceCtorEq, Nat.reduceEqDiff, Nat.reduceAdd, Nat.reduceSub, Nat.reduceLeDiff, Nat.reduceLT, Int.reduceEq, Nat.reduceMul, h1, n2, h2, q2_0, y2, y1, hT, pvMinS, pvMaxS]
    refine Ycp (p45 (by assumption) (by assumption) (by assumption) (by assumption) (by assumption) (by assumption) (by assumption)) ?_
    simp (maxDischargeDepth := 9) only [↓gB, gV, gT, reduceIte, reduceCtorEq, Nat.reduceEqDiff, Nat.reduceAdd, Nat.reduceSub, Nat.reduceLeDiff, Nat.reduceLT, Int.reduceEq, Nat.reduceMul, h1, n2, h2, q2_0, y2, y1, hT, pvMinS, pvMaxS]
    refine Ycg (g47 (by assumption) (by assumption)) ?_ ?_
    · exact fun _ _ _ hl q => by obtain ⟨z0, w0', rfl⟩ := q; exact ⟨z0, (by first | exact w0' | exact RSl.le w0' hl | exact Row.le w0' hl | exact hl _ _ w0' | exact GH.le.trans w0' hl), rfl⟩
    intro u4 G4 l4 w4
    replace l3 := GH.le.trans l3 l4
    replace l2 := GH.le.trans l2 l4
    replace y2 := l4 _ _ y2
    replace l1 := GH.le.trans l1 l4
    replace y1 := l4 _ _ y1
    replace hv := RSl.le hv l4
    replace hw := RSl.le hw l4
    replace hu := RSl.le hu l4
    replace hkx := RSl.le hkx l4
    replace w3''' := RSl.le w3''' l4
    replace w3'''' := RSl.le w3'''' l4
    replace w3''''' := RSl.le w3''''' l4
    obtain ⟨z4, w4', rfl⟩ := w4
    obtain ⟨aw4', cw4', rfl⟩ := RSl.val w4'
    simp (maxDischargeDepth := 9) only [↓gB, gV, gT, reduceIte, reduceCtorEq, Nat.reduceEqDiff, Nat.reduceAdd, Nat.reduceSub, Nat.reduceLeDiff, Nat.reduceLT, Int.reduceEq, Nat.reduceMul, h1, n2, h2, q2_0, y2, y1, hT, pvMinS, pvMaxS]
    refine Ycp (p46 (by assumption) (by assumption)) ?_
    simp (maxDischargeDepth := 9) only [↓gB, gV, gT, reduceIte, reduceCtorEq, Nat.reduceEqDiff, Nat.reduceAdd, Nat.reduceSub, Nat.reduceLeDiff, Nat.reduceLT, Int.reduceEq, Nat.reduceMul, h1, n2, h2, q2_0, y2, y1, hT, pvMinS, pvMaxS]
    refine Yn1 fun r3 h3 => ?_
    simp (maxDischargeDepth := 9) only [↓gB, gV, gT, reduceIte, reduceCtorEq, Nat.reduceEqDiff, Nat.reduceAdd, Nat.reduceSub, Nat.reduceLeDiff, Nat.reduceLT, Int.reduceEq, Nat.reduceMul, h1, n2, h2, q2_0, y2, y1, h3, hT, pvMinS, pvMaxS]
    have n23 : r2 ≠ r3 := ne_of_none y2 h3
    have zG : G r3 = none := GH.le.none l1 h3
    have hE : orOf [roadsE ((keysOf x).map nodeOf) [x] [], bi (moment t)] = timeE x t := rfl
    cases hd : decide (x.From = x.To)
    · have hks : [nodeOf (minS x.From x.To), nodeOf (maxS x.From x.To)] = (keysOf x).map nodeOf := by rw [keys_two (by simpa using hd)]; rfl
      simp (maxDischargeDepth := 9) only [↓gB, gV, gT, reduceIte, reduceCtorEq, Nat.reduceEqDiff, Nat.reduceAdd, Nat.reduceSub, Nat.reduceLeDiff, Nat.reduceLT, Int.reduceEq, Nat.reduceMul, h1, n2, h2, q2_0, y2, y1, h3, n23, zG, hd, hT, pvMinS, pvMaxS]
      refine Yn2 fun r4 h4 => ?_
      have n4 := h4
      simp only [put_none_eq, ne_eq] at n4
      simp (maxDischargeDepth := 9) only [↓gB, gV, gT, reduceIte, reduceCtorEq, Nat.reduceEqDiff, Nat.reduceAdd, Nat.reduceSub, Nat.reduceLeDiff, Nat.reduceLT, Int.reduceEq, Nat.reduceMul, h1, n2, h2, q2_0, y2, y1, h3, n23, zG, hd, h4, n4, hT, pvMinS, pvMaxS]
      have n43 := n4.1
      have q5_0 := GH.le.none l4 h3
      have q5_1 := GH.le.none l3 h3
      have q5_2 := GH.le.none l2 h3
      have q5_3 := GH.le.none l1 h3
      have l5 := le_put h3 ((Go.Obj.cells #[Go.Value.string (Go.Proofs.YtnlbapfbdabjaaaDoor.minS x.From x.To), Go.Value.int Go.IntKind.i64 0, Go.Value.int Go.IntKind.i64 0, Go.Value.string (Go.Proofs.YtnlbapfbdabjaaaDoor.maxS x.From x.To), Go.Value.int Go.IntKind.i64 0, Go.Value.int Go.IntKind.i64 0] 93, Bool.true))
      have y5 := put_self G4 r3 ((Go.Obj.cells #[Go.Value.string (Go.Proofs.YtnlbapfbdabjaaaDoor.minS x.From x.To), Go.Value.int Go.IntKind.i64 0, Go.Value.int Go.IntKind.i64 0, Go.Value.string (Go.Proofs.YtnlbapfbdabjaaaDoor.maxS x.From x.To), Go.Value.int Go.IntKind.i64 0, Go.Value.int Go.IntKind.i64 0] 93, Bool.true))
      generalize GH.put G4 r3 ((Go.Obj.cells #[Go.Value.string (Go.Proofs.YtnlbapfbdabjaaaDoor.minS x.From x.To), Go.Value.int Go.IntKind.i64 0, Go.Value.int Go.IntKind.i64 0, Go.Value.string (Go.Proofs.YtnlbapfbdabjaaaDoor.maxS x.From x.To), Go.Value.int Go.IntKind.i64 0, Go.Value.int Go.IntKind.i64 0] 93, Bool.true)) = G5 at *
      replace l4 := GH.le.trans l4 l5
      replace l3 := GH.le.trans l3 l5
      replace l2 := GH.le.trans l2 l5
      replace y2 := l5 _ _ y2
      replace l1 := GH.le.trans l1 l5
      replace y1 := l5 _ _ y1
      replace hv := RSl.le hv l5
      replace hw := RSl.le hw l5
      replace hu := RSl.le hu l5
      replace hkx := RSl.le hkx l5
      replace w3''' := RSl.le w3''' l5
      replace w3'''' := RSl.le w3'''' l5
      replace w3''''' := RSl.le w3''''' l5
      replace w4' := RSl.le w4' l5
      have q6_0 := GH.le.none l5 h4
      have q6_1 := GH.le.none l4 h4
      have q6_2 := GH.le.none l3 h4
      have q6_3 := GH.le.none l2 h4
      have q6_4 := GH.le.none l1 h4
      have l6 := le_put h4 ((Go.Obj.cells #[Go.Value.string x.Key, Go.Value.string x.From, Go.Value.string x.To, Go.GL.V x.Long, Go.Value.slice ka x.Knots.length kc] 87, Bool.true))
      have y6 := put_self G5 r4 ((Go.Obj.cells #[Go.Value.string x.Key, Go.Value.string x.From, Go.Value.string x.To, Go.GL.V x.Long, Go.Value.slice ka x.Knots.length kc] 87, Bool.true))
      generalize GH.put G5 r4 ((Go.Obj.cells #[Go.Value.string x.Key, Go.Value.string x.From, Go.Value.string x.To, Go.GL.V x.Long, Go.Value.slice ka x.Knots.length kc] 87, Bool.true)) = G6 at *
      replace l5 := GH.le.trans l5 l6
      replace y5 := l6 _ _ y5
      replace l4 := GH.le.trans l4 l6
      replace l3 := GH.le.trans l3 l6
      replace l2 := GH.le.trans l2 l6
      replace y2 := l6 _ _ y2
      replace l1 := GH.le.trans l1 l6
      replace y1 := l6 _ _ y1
      replace hv := RSl.le hv l6
      replace hw := RSl.le hw l6
      replace hu := RSl.le hu l6
      replace hkx := RSl.le hkx l6
      replace w3''' := RSl.le w3''' l6
      replace w3'''' := RSl.le w3'''' l6
      replace w3''''' := RSl.le w3''''' l6
      replace w4' := RSl.le w4' l6
      obtain ⟨E, hs, hvE, hkE, il, hleE⟩ := frz_list y5 (two_cells (minS x.From x.To) (maxS x.From x.To))
      refine Ycsub hs ?_
      have y6E := hkE _ _ n43 y6
      have y2E := hkE _ _ n23 y2
      have hkxE := hkx.ile il
      have hGE := hleE G l1 zG
      replace hvE : RSl rNode E (.slice (some ⟨r3, 0, none⟩) 2 2) [nodeOf (minS x.From x.To), nodeOf (maxS x.From x.To)] := hvE
      rw [hks] at hvE
      have kr2 := kn_of y2E
      refine Ycp (p45b (ns := (keysOf x).map nodeOf) (by have := keys_len x; rw [List.length_map]; omega) hx y6E hvE hkxE) ?_
      simp (maxDischargeDepth := 9) only [↓gB, gV, gT, reduceIte, reduceCtorEq, Nat.reduceEqDiff, Nat.reduceAdd, Nat.reduceSub, Nat.reduceLeDiff, Nat.reduceLT, Int.reduceEq, Nat.reduceMul, h1, n2, h2, q2_0, h3, n23, zG, hd, n4, q5_0, q5_1, q5_2, q5_3, h4, q6_0, q6_1, q6_2, q6_3, q6_4, y6, y5, y2, y1, hkE, y6E, y2E, kr2, hE, he]
      refine Ycp (p48) ?_
      simp (maxDischargeDepth := 9) only [↓gB, gV, gT, reduceIte, reduceCtorEq, Nat.reduceEqDiff, Nat.reduceAdd, Nat.reduceSub, Nat.reduceLeDiff, Nat.reduceLT, Int.reduceEq, Nat.reduceMul, h1, n2, h2, q2_0, h3, n23, zG, hd, n4, q5_0, q5_1, q5_2, q5_3, h4, q6_0, q6_1, q6_2, q6_3, q6_4, y6, y5, y2, y1, hkE, y6E, y2E, kr2, hE, he]
      refine Yn1 fun r5 h5 => ?_
      simp (maxDischargeDepth := 9) only [↓gB, gV, gT, reduceIte, reduceCtorEq, Nat.reduceEqDiff, Nat.reduceAdd, Nat.reduceSub, Nat.reduceLeDiff, Nat.reduceLT, Int.reduceEq, Nat.reduceMul, h1, n2, h2, q2_0, h3, n23, zG, hd, n4, q5_0, q5_1, q5_2, q5_3, h4, q6_0, q6_1, q6_2, q6_3, q6_4, y6, y5, y2, y1, hkE, y6E, y2E, kr2, h5, hE, he]
      refine Ycp (p16 (by exact put_self _ _ _)) ?_
      simp (maxDischargeDepth := 9) only [↓gB, gV, gT, reduceIte, reduceCtorEq, Nat.reduceEqDiff, Nat.reduceAdd, Nat.reduceSub, Nat.reduceLeDiff, Nat.reduceLT, Int.reduceEq, Nat.reduceMul, h1, n2, h2, q2_0, h3, n23, zG, hd, n4, q5_0, q5_1, q5_2, q5_3, h4, q6_0, q6_1, q6_2, q6_3, q6_4, y6, y5, y2, y1, hkE, y6E, y2E, kr2, h5, hE, he]
      refine Ycp (p50 (by exact RSl.put _ (by assumption) (by assumption)) (by assumption) (by assumption) (by omega)) ?_
      simp (maxDischargeDepth := 9) only [↓gB, gV, gT, reduceIte, reduceCtorEq, Nat.reduceEqDiff, Nat.reduceAdd, Nat.reduceSub, Nat.reduceLeDiff, Nat.reduceLT, Int.reduceEq, Nat.reduceMul, h1, n2, h2, q2_0, h3, n23, zG, hd, n4, q5_0, q5_1, q5_2, q5_3, h4, q6_0, q6_1, q6_2, q6_3, q6_4, y6, y5, y2, y1, hkE, y6E, y2E, kr2, h5, hE, he]
      refine Ycp (p49) ?_
      simp (maxDischargeDepth := 9) only [↓gB, gV, gT, reduceIte, reduceCtorEq, Nat.reduceEqDiff, Nat.reduceAdd, Nat.reduceSub, Nat.reduceLeDiff, Nat.reduceLT, Int.reduceEq, Nat.reduceMul, h1, n2, h2, q2_0, h3, n23, zG, hd, n4, q5_0, q5_1, q5_2, q5_3, h4, q6_0, q6_1, q6_2, q6_3, q6_4, y6, y5, y2, y1, hkE, y6E, y2E, kr2, h5, hE, he]
      exact Kup_val (by simp (maxDischargeDepth := 9) only [le_self, le_puts, le_put0, h1, n2, h2, q2_0, h3, zG, n4, q5_0, q5_1, q5_2, q5_3, h4, q6_0, q6_1, q6_2, q6_3, q6_4, l6, l5, l4, l3, l2, l1, hGE, h5]) rfl
    · have hks : [nodeOf (minS x.From x.To)] = (keysOf x).map nodeOf := by rw [keys_same (by simpa using hd)]; rfl
      simp (maxDischargeDepth := 9) only [↓gB, gV, gT, reduceIte, reduceCtorEq, Nat.reduceEqDiff, Nat.reduceAdd, Nat.reduceSub, Nat.reduceLeDiff, Nat.reduceLT, Int.reduceEq, Nat.reduceMul, h1, n2, h2, q2_0, y2, y1, h3, n23, zG, hd, hT, pvMinS, pvMaxS]
      refine vguard_intro (by omega) ?_
      refine Yn2 fun r4 h4 => ?_
      have n4 := h4
      simp only [put_none_eq, ne_eq] at n4
      simp (maxDischargeDepth := 9) only [↓gB, gV, gT, reduceIte, reduceCtorEq, Nat.reduceEqDiff, Nat.reduceAdd, Nat.reduceSub, Nat.reduceLeDiff, Nat.reduceLT, Int.reduceEq, Nat.reduceMul, h1, n2, h2, q2_0, y2, y1, h3, n23, zG, hd, h4, n4, hT, pvMinS, pvMaxS]
      have n43 := n4.1
      have q5_0 := GH.le.none l4 h3
      have q5_1 := GH.le.none l3 h3
      have q5_2 := GH.le.none l2 h3
      have q5_3 := GH.le.none l1 h3
      have l5 := le_put h3 ((Go.Obj.cells #[Go.Value.string (Go.Proofs.YtnlbapfbdabjaaaDoor.minS x.From x.To), Go.Value.int Go.IntKind.i64 0, Go.Value.int Go.IntKind.i64 0, Go.Value.string (Go.Proofs.YtnlbapfbdabjaaaDoor.maxS x.From x.To), Go.Value.int Go.IntKind.i64 0, Go.Value.int Go.IntKind.i64 0] 93, Bool.true))
      have y5 := put_self G4 r3 ((Go.Obj.cells #[Go.Value.string (Go.Proofs.YtnlbapfbdabjaaaDoor.minS x.From x.To), Go.Value.int Go.IntKind.i64 0, Go.Value.int Go.IntKind.i64 0, Go.Value.string (Go.Proofs.YtnlbapfbdabjaaaDoor.maxS x.From x.To), Go.Value.int Go.IntKind.i64 0, Go.Value.int Go.IntKind.i64 0] 93, Bool.true))
      generalize GH.put G4 r3 ((Go.Obj.cells #[Go.Value.string (Go.Proofs.YtnlbapfbdabjaaaDoor.minS x.From x.To), Go.Value.int Go.IntKind.i64 0, Go.Value.int Go.IntKind.i64 0, Go.Value.string (Go.Proofs.YtnlbapfbdabjaaaDoor.maxS x.From x.To), Go.Value.int Go.IntKind.i64 0, Go.Value.int Go.IntKind.i64 0] 93, Bool.true)) = G5 at *
      replace l4 := GH.le.trans l4 l5
      replace l3 := GH.le.trans l3 l5
      replace l2 := GH.le.trans l2 l5
      replace y2 := l5 _ _ y2
      replace l1 := GH.le.trans l1 l5
      replace y1 := l5 _ _ y1
      replace hv := RSl.le hv l5
      replace hw := RSl.le hw l5
      replace hu := RSl.le hu l5
      replace hkx := RSl.le hkx l5
      replace w3''' := RSl.le w3''' l5
      replace w3'''' := RSl.le w3'''' l5
      replace w3''''' := RSl.le w3''''' l5
      replace w4' := RSl.le w4' l5
      have q6_0 := GH.le.none l5 h4
      have q6_1 := GH.le.none l4 h4
      have q6_2 := GH.le.none l3 h4
      have q6_3 := GH.le.none l2 h4
      have q6_4 := GH.le.none l1 h4
      have l6 := le_put h4 ((Go.Obj.cells #[Go.Value.string x.Key, Go.Value.string x.From, Go.Value.string x.To, Go.GL.V x.Long, Go.Value.slice ka x.Knots.length kc] 87, Bool.true))
      have y6 := put_self G5 r4 ((Go.Obj.cells #[Go.Value.string x.Key, Go.Value.string x.From, Go.Value.string x.To, Go.GL.V x.Long, Go.Value.slice ka x.Knots.length kc] 87, Bool.true))
      generalize GH.put G5 r4 ((Go.Obj.cells #[Go.Value.string x.Key, Go.Value.string x.From, Go.Value.string x.To, Go.GL.V x.Long, Go.Value.slice ka x.Knots.length kc] 87, Bool.true)) = G6 at *
      replace l5 := GH.le.trans l5 l6
      replace y5 := l6 _ _ y5
      replace l4 := GH.le.trans l4 l6
      replace l3 := GH.le.trans l3 l6
      replace l2 := GH.le.trans l2 l6
      replace y2 := l6 _ _ y2
      replace l1 := GH.le.trans l1 l6
      replace y1 := l6 _ _ y1
      replace hv := RSl.le hv l6
      replace hw := RSl.le hw l6
      replace hu := RSl.le hu l6
      replace hkx := RSl.le hkx l6
      replace w3''' := RSl.le w3''' l6
      replace w3'''' := RSl.le w3'''' l6
      replace w3''''' := RSl.le w3''''' l6
      replace w4' := RSl.le w4' l6
      obtain ⟨E, hs, hvE, hkE, il, hleE⟩ := frz_list y5 (two_cells (minS x.From x.To) (maxS x.From x.To))
      refine Ycsub hs ?_
      have y6E := hkE _ _ n43 y6
      have y2E := hkE _ _ n23 y2
      have hkxE := hkx.ile il
      have hGE := hleE G l1 zG
      replace hvE : RSl rNode E (.slice (some ⟨r3, 0, none⟩) 1 2) [nodeOf (minS x.From x.To)] := RSl.take hvE (m := 1) (by simp)
      rw [hks] at hvE
      have kr2 := kn_of y2E
      refine Ycp (p45b (ns := (keysOf x).map nodeOf) (by have := keys_len x; rw [List.length_map]; omega) hx y6E hvE hkxE) ?_
      simp (maxDischargeDepth := 9) only [↓gB, gV, gT, reduceIte, reduceCtorEq, Nat.reduceEqDiff, Nat.reduceAdd, Nat.reduceSub, Nat.reduceLeDiff, Nat.reduceLT, Int.reduceEq, Nat.reduceMul, h1, n2, h2, q2_0, h3, n23, zG, hd, n4, q5_0, q5_1, q5_2, q5_3, h4, q6_0, q6_1, q6_2, q6_3, q6_4, y6, y5, y2, y1, hkE, y6E, y2E, kr2, hE, he]
      refine Ycp (p48) ?_
      simp (maxDischargeDepth := 9) only [↓gB, gV, gT, reduceIte, reduceCtorEq, Nat.reduceEqDiff, Nat.reduceAdd, Nat.reduceSub, Nat.reduceLeDiff, Nat.reduceLT, Int.reduceEq, Nat.reduceMul, h1, n2, h2, q2_0, h3, n23, zG, hd, n4, q5_0, q5_1, q5_2, q5_3, h4, q6_0, q6_1, q6_2, q6_3, q6_4, y6, y5, y2, y1, hkE, y6E, y2E, kr2, hE, he]
      refine Yn1 fun r5 h5 => ?_
      simp (maxDischargeDepth := 9) only [↓gB, gV, gT, reduceIte, reduceCtorEq, Nat.reduceEqDiff, Nat.reduceAdd, Nat.reduceSub, Nat.reduceLeDiff, Nat.reduceLT, Int.reduceEq, Nat.reduceMul, h1, n2, h2, q2_0, h3, n23, zG, hd, n4, q5_0, q5_1, q5_2, q5_3, h4, q6_0, q6_1, q6_2, q6_3, q6_4, y6, y5, y2, y1, hkE, y6E, y2E, kr2, h5, hE, he]
      refine Ycp (p16 (by exact put_self _ _ _)) ?_
      simp (maxDischargeDepth := 9) only [↓gB, gV, gT, reduceIte, reduceCtorEq, Nat.reduceEqDiff, Nat.reduceAdd, Nat.reduceSub, Nat.reduceLeDiff, Nat.reduceLT, Int.reduceEq, Nat.reduceMul, h1, n2, h2, q2_0, h3, n23, zG, hd, n4, q5_0, q5_1, q5_2, q5_3, h4, q6_0, q6_1, q6_2, q6_3, q6_4, y6, y5, y2, y1, hkE, y6E, y2E, kr2, h5, hE, he]
      refine Ycp (p50 (by exact RSl.put _ (by assumption) (by assumption)) (by assumption) (by assumption) (by omega)) ?_
      simp (maxDischargeDepth := 9) only [↓gB, gV, gT, reduceIte, reduceCtorEq, Nat.reduceEqDiff, Nat.reduceAdd, Nat.reduceSub, Nat.reduceLeDiff, Nat.reduceLT, Int.reduceEq, Nat.reduceMul, h1, n2, h2, q2_0, h3, n23, zG, hd, n4, q5_0, q5_1, q5_2, q5_3, h4, q6_0, q6_1, q6_2, q6_3, q6_4, y6, y5, y2, y1, hkE, y6E, y2E, kr2, h5, hE, he]
      refine Ycp (p49) ?_
      simp (maxDischargeDepth := 9) only [↓gB, gV, gT, reduceIte, reduceCtorEq, Nat.reduceEqDiff, Nat.reduceAdd, Nat.reduceSub, Nat.reduceLeDiff, Nat.reduceLT, Int.reduceEq, Nat.reduceMul, h1, n2, h2, q2_0, h3, n23, zG, hd, n4, q5_0, q5_1, q5_2, q5_3, h4, q6_0, q6_1, q6_2, q6_3, q6_4, y6, y5, y2, y1, hkE, y6E, y2E, kr2, h5, hE, he]
      exact Kup_val (by simp (maxDischargeDepth := 9) only [le_self, le_puts, le_put0, h1, n2, h2, q2_0, h3, zG, n4, q5_0, q5_1, q5_2, q5_3, h4, q6_0, q6_1, q6_2, q6_3, q6_4, l6, l5, l4, l3, l2, l1, hGE, h5]) rfl
  · have hT : timeV x t = .tuple #[V 0, V (timeE x t)] := if_neg he
    simp (maxDischargeDepth := 9) only [↓gB, gV, gT, reduceIte, reduceCtorEq, Nat.reduceEqDiff, Nat.reduceAdd, Nat.reduceSub, Nat.reduceLeDiff, Nat.reduceLT, Int.reduceEq, Nat.reduceMul, hT, pvMinS, pvMaxS]
    refine Yn2 fun r1 h1 => ?_
    simp (maxDischargeDepth := 9) only [↓gB, gV, gT, reduceIte, reduceCtorEq, Nat.reduceEqDiff, Nat.reduceAdd, Nat.reduceSub, Nat.reduceLeDiff, Nat.reduceLT, Int.reduceEq, Nat.reduceMul, h1, hT, pvMinS, pvMaxS]
    refine Yn2 fun r2 h2 => ?_
    have n2 := h2
    simp only [put_none_eq, ne_eq] at n2
    simp (maxDischargeDepth := 9) only [↓gB, gV, gT, reduceIte, reduceCtorEq, Nat.reduceEqDiff, Nat.reduceAdd, Nat.reduceSub, Nat.reduceLeDiff, Nat.reduceLT, Int.reduceEq, Nat.reduceMul, h1, h2, n2, hT, pvMinS, pvMaxS]
    refine Xdraw_intro [0, 3, 1, 2, 4, 5] mixed (by kernel_rfl) (by decide +kernel) ?_
    simp (maxDischargeDepth := 9) only [↓gB, gV, gT, reduceIte, reduceCtorEq, Nat.reduceEqDiff, Nat.reduceAdd, Nat.reduceSub, Nat.reduceLeDiff, Nat.reduceLT, Int.reduceEq, Nat.reduceMul, h1, h2, n2, hT, pvMinS, pvMaxS]
    have l1 := le_put h1 ((Go.Obj.cells #[Go.Value.slice va ns.length vc, Go.Value.slice wa ar.length wc, Go.Value.slice ua bs.length uc] 84, Bool.true))
    have y1 := put_self G r1 ((Go.Obj.cells #[Go.Value.slice va ns.length vc, Go.Value.slice wa ar.length wc, Go.Value.slice ua bs.length uc] 84, Bool.true))
    generalize GH.put G r1 ((Go.Obj.cells #[Go.Value.slice va ns.length vc, Go.Value.slice wa ar.length wc, Go.Value.slice ua bs.length uc] 84, Bool.true)) = G1 at *
    replace hv := RSl.le hv l1
    replace hw := RSl.le hw l1
    replace hu := RSl.le hu l1
    replace hkx := RSl.le hkx l1
    have q2_0 := GH.le.none l1 h2
    have l2 := le_put h2 ((Go.Obj.cells #[Go.Value.string x.Key, Go.Value.string x.From, Go.Value.string x.To, Go.GL.V x.Long, Go.Value.slice ka x.Knots.length kc] 87, Bool.true))
    have y2 := put_self G1 r2 ((Go.Obj.cells #[Go.Value.string x.Key, Go.Value.string x.From, Go.Value.string x.To, Go.GL.V x.Long, Go.Value.slice ka x.Knots.length kc] 87, Bool.true))
    generalize GH.put G1 r2 ((Go.Obj.cells #[Go.Value.string x.Key, Go.Value.string x.From, Go.Value.string x.To, Go.GL.V x.Long, Go.Value.slice ka x.Knots.length kc] 87, Bool.true)) = G2 at *
    replace l1 := GH.le.trans l1 l2
    replace y1 := l2 _ _ y1
    replace hv := RSl.le hv l2
    replace hw := RSl.le hw l2
    replace hu := RSl.le hu l2
    replace hkx := RSl.le hkx l2
    refine Ycg (g44 (by assumption) (by assumption) (by assumption) (by assumption) (by assumption) (by assumption) (by assumption)) ?_ ?_
    · exact fun _ _ _ hl q => by obtain ⟨z0, z0', z0'', w0''', w0'''', w0''''', rfl⟩ := q; exact ⟨z0, z0', z0'', (by first | exact w0''' | exact RSl.le w0''' hl | exact Row.le w0''' hl | exact hl _ _ w0''' | exact GH.le.trans w0''' hl), (by first | exact w0'''' | exact RSl.le w0'''' hl | exact Row.le w0'''' hl | exact hl _ _ w0'''' | exact GH.le.trans w0'''' hl), (by first | exact w0''''' | exact RSl.le w0''''' hl | exact Row.le w0''''' hl | exact hl _ _ w0''''' | exact GH.le.trans w0''''' hl), rfl⟩
    intro u3 G3 l3 w3
    replace l2 := GH.le.trans l2 l3
    replace y2 := l3 _ _ y2
    replace l1 := GH.le.trans l1 l3
    replace y1 := l3 _ _ y1
    replace hv := RSl.le hv l3
    replace hw := RSl.le hw l3
    replace hu := RSl.le hu l3
    replace hkx := RSl.le hkx l3
    obtain ⟨z3, z3', z3'', w3''', w3'''', w3''''', rfl⟩ := w3
    obtain ⟨aw3''', cw3''', rfl⟩ := RSl.val w3'''
    obtain ⟨aw3'''', cw3'''', rfl⟩ := RSl.val w3''''
    obtain ⟨aw3''''', cw3''''', rfl⟩ := RSl.val w3'''''
    simp (maxDischargeDepth := 9) only [↓gB, gV, gT, reduceIte, reduceCtorEq, Nat.reduceEqDiff, Nat.reduceAdd, Nat.reduceSub, Nat.reduceLeDiff, Nat.reduceLT, Int.reduceEq, Nat.reduceMul, h1, n2, h2, q2_0, y2, y1, hT, pvMinS, pvMaxS]
    refine Ycp (p43 (by assumption) (by assumption) (by assumption) (by assumption) (by assumption) (by assumption) (by assumption)) ?_
    simp (maxDischargeDepth := 9) only [↓gB, gV, gT, reduceIte, reduceCtorEq, Nat.reduceEqDiff, Nat.reduceAdd, Nat.reduceSub, Nat.reduceLeDiff, Nat.reduceLT, Int.reduceEq, Nat.reduceMul, h1, n2, h2, q2_0, y2, y1, hT, pvMinS, pvMaxS]
    refine Ycp (p45 (by assumption) (by assumption) (by assumption) (by assumption) (by assumption) (by assumption) (by assumption)) ?_
    simp (maxDischargeDepth := 9) only [↓gB, gV, gT, reduceIte, reduceCtorEq, Nat.reduceEqDiff, Nat.reduceAdd, Nat.reduceSub, Nat.reduceLeDiff, Nat.reduceLT, Int.reduceEq, Nat.reduceMul, h1, n2, h2, q2_0, y2, y1, hT, pvMinS, pvMaxS]
    refine Ycg (g47 (by assumption) (by assumption)) ?_ ?_
    · exact fun _ _ _ hl q => by obtain ⟨z0, w0', rfl⟩ := q; exact ⟨z0, (by first | exact w0' | exact RSl.le w0' hl | exact Row.le w0' hl | exact hl _ _ w0' | exact GH.le.trans w0' hl), rfl⟩
    intro u4 G4 l4 w4
    replace l3 := GH.le.trans l3 l4
    replace l2 := GH.le.trans l2 l4
    replace y2 := l4 _ _ y2
    replace l1 := GH.le.trans l1 l4
    replace y1 := l4 _ _ y1
    replace hv := RSl.le hv l4
    replace hw := RSl.le hw l4
    replace hu := RSl.le hu l4
    replace hkx := RSl.le hkx l4
    replace w3''' := RSl.le w3''' l4
    replace w3'''' := RSl.le w3'''' l4
    replace w3''''' := RSl.le w3''''' l4
    obtain ⟨z4, w4', rfl⟩ := w4
    obtain ⟨aw4', cw4', rfl⟩ := RSl.val w4'
    simp (maxDischargeDepth := 9) only [↓gB, gV, gT, reduceIte, reduceCtorEq, Nat.reduceEqDiff, Nat.reduceAdd, Nat.reduceSub, Nat.reduceLeDiff, Nat.reduceLT, Int.reduceEq, Nat.reduceMul, h1, n2, h2, q2_0, y2, y1, hT, pvMinS, pvMaxS]
    refine Ycp (p46 (by assumption) (by assumption)) ?_
    simp (maxDischargeDepth := 9) only [↓gB, gV, gT, reduceIte, reduceCtorEq, Nat.reduceEqDiff, Nat.reduceAdd, Nat.reduceSub, Nat.reduceLeDiff, Nat.reduceLT, Int.reduceEq, Nat.reduceMul, h1, n2, h2, q2_0, y2, y1, hT, pvMinS, pvMaxS]
    refine Yn1 fun r3 h3 => ?_
    simp (maxDischargeDepth := 9) only [↓gB, gV, gT, reduceIte, reduceCtorEq, Nat.reduceEqDiff, Nat.reduceAdd, Nat.reduceSub, Nat.reduceLeDiff, Nat.reduceLT, Int.reduceEq, Nat.reduceMul, h1, n2, h2, q2_0, y2, y1, h3, hT, pvMinS, pvMaxS]
    have n23 : r2 ≠ r3 := ne_of_none y2 h3
    have zG : G r3 = none := GH.le.none l1 h3
    have hE : orOf [roadsE ((keysOf x).map nodeOf) [x] [], bi (moment t)] = timeE x t := rfl
    cases hd : decide (x.From = x.To)
    · have hks : [nodeOf (minS x.From x.To), nodeOf (maxS x.From x.To)] = (keysOf x).map nodeOf := by rw [keys_two (by simpa using hd)]; rfl
      simp (maxDischargeDepth := 9) only [↓gB, gV, gT, reduceIte, reduceCtorEq, Nat.reduceEqDiff, Nat.reduceAdd, Nat.reduceSub, Nat.reduceLeDiff, Nat.reduceLT, Int.reduceEq, Nat.reduceMul, h1, n2, h2, q2_0, y2, y1, h3, n23, zG, hd, hT, pvMinS, pvMaxS]
      refine Yn2 fun r4 h4 => ?_
      have n4 := h4
      simp only [put_none_eq, ne_eq] at n4
      simp (maxDischargeDepth := 9) only [↓gB, gV, gT, reduceIte, reduceCtorEq, Nat.reduceEqDiff, Nat.reduceAdd, Nat.reduceSub, Nat.reduceLeDiff, Nat.reduceLT, Int.reduceEq, Nat.reduceMul, h1, n2, h2, q2_0, y2, y1, h3, n23, zG, hd, h4, n4, hT, pvMinS, pvMaxS]
      have n43 := n4.1
      have q5_0 := GH.le.none l4 h3
      have q5_1 := GH.le.none l3 h3
      have q5_2 := GH.le.none l2 h3
      have q5_3 := GH.le.none l1 h3
      have l5 := le_put h3 ((Go.Obj.cells #[Go.Value.string (Go.Proofs.YtnlbapfbdabjaaaDoor.minS x.From x.To), Go.Value.int Go.IntKind.i64 0, Go.Value.int Go.IntKind.i64 0, Go.Value.string (Go.Proofs.YtnlbapfbdabjaaaDoor.maxS x.From x.To), Go.Value.int Go.IntKind.i64 0, Go.Value.int Go.IntKind.i64 0] 93, Bool.true))
      have y5 := put_self G4 r3 ((Go.Obj.cells #[Go.Value.string (Go.Proofs.YtnlbapfbdabjaaaDoor.minS x.From x.To), Go.Value.int Go.IntKind.i64 0, Go.Value.int Go.IntKind.i64 0, Go.Value.string (Go.Proofs.YtnlbapfbdabjaaaDoor.maxS x.From x.To), Go.Value.int Go.IntKind.i64 0, Go.Value.int Go.IntKind.i64 0] 93, Bool.true))
      generalize GH.put G4 r3 ((Go.Obj.cells #[Go.Value.string (Go.Proofs.YtnlbapfbdabjaaaDoor.minS x.From x.To), Go.Value.int Go.IntKind.i64 0, Go.Value.int Go.IntKind.i64 0, Go.Value.string (Go.Proofs.YtnlbapfbdabjaaaDoor.maxS x.From x.To), Go.Value.int Go.IntKind.i64 0, Go.Value.int Go.IntKind.i64 0] 93, Bool.true)) = G5 at *
      replace l4 := GH.le.trans l4 l5
      replace l3 := GH.le.trans l3 l5
      replace l2 := GH.le.trans l2 l5
      replace y2 := l5 _ _ y2
      replace l1 := GH.le.trans l1 l5
      replace y1 := l5 _ _ y1
      replace hv := RSl.le hv l5
      replace hw := RSl.le hw l5
      replace hu := RSl.le hu l5
      replace hkx := RSl.le hkx l5
      replace w3''' := RSl.le w3''' l5
      replace w3'''' := RSl.le w3'''' l5
      replace w3''''' := RSl.le w3''''' l5
      replace w4' := RSl.le w4' l5
      have q6_0 := GH.le.none l5 h4
      have q6_1 := GH.le.none l4 h4
      have q6_2 := GH.le.none l3 h4
      have q6_3 := GH.le.none l2 h4
      have q6_4 := GH.le.none l1 h4
      have l6 := le_put h4 ((Go.Obj.cells #[Go.Value.string x.Key, Go.Value.string x.From, Go.Value.string x.To, Go.GL.V x.Long, Go.Value.slice ka x.Knots.length kc] 87, Bool.true))
      have y6 := put_self G5 r4 ((Go.Obj.cells #[Go.Value.string x.Key, Go.Value.string x.From, Go.Value.string x.To, Go.GL.V x.Long, Go.Value.slice ka x.Knots.length kc] 87, Bool.true))
      generalize GH.put G5 r4 ((Go.Obj.cells #[Go.Value.string x.Key, Go.Value.string x.From, Go.Value.string x.To, Go.GL.V x.Long, Go.Value.slice ka x.Knots.length kc] 87, Bool.true)) = G6 at *
      replace l5 := GH.le.trans l5 l6
      replace y5 := l6 _ _ y5
      replace l4 := GH.le.trans l4 l6
      replace l3 := GH.le.trans l3 l6
      replace l2 := GH.le.trans l2 l6
      replace y2 := l6 _ _ y2
      replace l1 := GH.le.trans l1 l6
      replace y1 := l6 _ _ y1
      replace hv := RSl.le hv l6
      replace hw := RSl.le hw l6
      replace hu := RSl.le hu l6
      replace hkx := RSl.le hkx l6
      replace w3''' := RSl.le w3''' l6
      replace w3'''' := RSl.le w3'''' l6
      replace w3''''' := RSl.le w3''''' l6
      replace w4' := RSl.le w4' l6
      obtain ⟨E, hs, hvE, hkE, il, hleE⟩ := frz_list y5 (two_cells (minS x.From x.To) (maxS x.From x.To))
      refine Ycsub hs ?_
      have y6E := hkE _ _ n43 y6
      have y2E := hkE _ _ n23 y2
      have hkxE := hkx.ile il
      have hGE := hleE G l1 zG
      replace hvE : RSl rNode E (.slice (some ⟨r3, 0, none⟩) 2 2) [nodeOf (minS x.From x.To), nodeOf (maxS x.From x.To)] := hvE
      rw [hks] at hvE
      have kr2 := kn_of y2E
      refine Ycp (p45b (ns := (keysOf x).map nodeOf) (by have := keys_len x; rw [List.length_map]; omega) hx y6E hvE hkxE) ?_
      simp (maxDischargeDepth := 9) only [↓gB, gV, gT, reduceIte, reduceCtorEq, Nat.reduceEqDiff, Nat.reduceAdd, Nat.reduceSub, Nat.reduceLeDiff, Nat.reduceLT, Int.reduceEq, Nat.reduceMul, h1, n2, h2, q2_0, h3, n23, zG, hd, n4, q5_0, q5_1, q5_2, q5_3, h4, q6_0, q6_1, q6_2, q6_3, q6_4, y6, y5, y2, y1, hkE, y6E, y2E, kr2, hE, beq_self_eq_true]
      refine Ycp (p48) ?_
      simp (maxDischargeDepth := 9) only [↓gB, gV, gT, reduceIte, reduceCtorEq, Nat.reduceEqDiff, Nat.reduceAdd, Nat.reduceSub, Nat.reduceLeDiff, Nat.reduceLT, Int.reduceEq, Nat.reduceMul, h1, n2, h2, q2_0, h3, n23, zG, hd, n4, q5_0, q5_1, q5_2, q5_3, h4, q6_0, q6_1, q6_2, q6_3, q6_4, y6, y5, y2, y1, hkE, y6E, y2E, kr2, hE, beq_self_eq_true]
      refine Yn1 fun r5 h5 => ?_
      simp (maxDischargeDepth := 9) only [↓gB, gV, gT, reduceIte, reduceCtorEq, Nat.reduceEqDiff, Nat.reduceAdd, Nat.reduceSub, Nat.reduceLeDiff, Nat.reduceLT, Int.reduceEq, Nat.reduceMul, h1, n2, h2, q2_0, h3, n23, zG, hd, n4, q5_0, q5_1, q5_2, q5_3, h4, q6_0, q6_1, q6_2, q6_3, q6_4, y6, y5, y2, y1, hkE, y6E, y2E, kr2, h5, hE, beq_self_eq_true]
      refine Ycp (p16 (by exact put_self _ _ _)) ?_
      simp (maxDischargeDepth := 9) only [↓gB, gV, gT, reduceIte, reduceCtorEq, Nat.reduceEqDiff, Nat.reduceAdd, Nat.reduceSub, Nat.reduceLeDiff, Nat.reduceLT, Int.reduceEq, Nat.reduceMul, h1, n2, h2, q2_0, h3, n23, zG, hd, n4, q5_0, q5_1, q5_2, q5_3, h4, q6_0, q6_1, q6_2, q6_3, q6_4, y6, y5, y2, y1, hkE, y6E, y2E, kr2, h5, hE, beq_self_eq_true]
      refine Xc_pos _ _ _ _ _ (by omega) ?_
      simp (maxDischargeDepth := 9) only [↓gB, gV, gT, reduceIte, reduceCtorEq, Nat.reduceEqDiff, Nat.reduceAdd, Nat.reduceSub, Nat.reduceLeDiff, Nat.reduceLT, Int.reduceEq, Nat.reduceMul, h1, n2, h2, q2_0, h3, n23, zG, hd, n4, q5_0, q5_1, q5_2, q5_3, h4, q6_0, q6_1, q6_2, q6_3, q6_4, y6, y5, y2, y1, hkE, y6E, y2E, kr2, h5, hE, beq_self_eq_true]
      refine Ycp (p49) ?_
      simp (maxDischargeDepth := 9) only [↓gB, gV, gT, reduceIte, reduceCtorEq, Nat.reduceEqDiff, Nat.reduceAdd, Nat.reduceSub, Nat.reduceLeDiff, Nat.reduceLT, Int.reduceEq, Nat.reduceMul, h1, n2, h2, q2_0, h3, n23, zG, hd, n4, q5_0, q5_1, q5_2, q5_3, h4, q6_0, q6_1, q6_2, q6_3, q6_4, y6, y5, y2, y1, hkE, y6E, y2E, kr2, h5, hE, beq_self_eq_true]
      exact Kup_val (by simp (maxDischargeDepth := 9) only [le_self, le_puts, le_put0, h1, n2, h2, q2_0, h3, zG, n4, q5_0, q5_1, q5_2, q5_3, h4, q6_0, q6_1, q6_2, q6_3, q6_4, l6, l5, l4, l3, l2, l1, hGE, h5]) rfl
    · have hks : [nodeOf (minS x.From x.To)] = (keysOf x).map nodeOf := by rw [keys_same (by simpa using hd)]; rfl
      simp (maxDischargeDepth := 9) only [↓gB, gV, gT, reduceIte, reduceCtorEq, Nat.reduceEqDiff, Nat.reduceAdd, Nat.reduceSub, Nat.reduceLeDiff, Nat.reduceLT, Int.reduceEq, Nat.reduceMul, h1, n2, h2, q2_0, y2, y1, h3, n23, zG, hd, hT, pvMinS, pvMaxS]
      refine vguard_intro (by omega) ?_
      refine Yn2 fun r4 h4 => ?_
      have n4 := h4
      simp only [put_none_eq, ne_eq] at n4
      simp (maxDischargeDepth := 9) only [↓gB, gV, gT, reduceIte, reduceCtorEq, Nat.reduceEqDiff, Nat.reduceAdd, Nat.reduceSub, Nat.reduceLeDiff, Nat.reduceLT, Int.reduceEq, Nat.reduceMul, h1, n2, h2, q2_0, y2, y1, h3, n23, zG, hd, h4, n4, hT, pvMinS, pvMaxS]
      have n43 := n4.1
      have q5_0 := GH.le.none l4 h3
      have q5_1 := GH.le.none l3 h3
      have q5_2 := GH.le.none l2 h3
      have q5_3 := GH.le.none l1 h3
      have l5 := le_put h3 ((Go.Obj.cells #[Go.Value.string (Go.Proofs.YtnlbapfbdabjaaaDoor.minS x.From x.To), Go.Value.int Go.IntKind.i64 0, Go.Value.int Go.IntKind.i64 0, Go.Value.string (Go.Proofs.YtnlbapfbdabjaaaDoor.maxS x.From x.To), Go.Value.int Go.IntKind.i64 0, Go.Value.int Go.IntKind.i64 0] 93, Bool.true))
      have y5 := put_self G4 r3 ((Go.Obj.cells #[Go.Value.string (Go.Proofs.YtnlbapfbdabjaaaDoor.minS x.From x.To), Go.Value.int Go.IntKind.i64 0, Go.Value.int Go.IntKind.i64 0, Go.Value.string (Go.Proofs.YtnlbapfbdabjaaaDoor.maxS x.From x.To), Go.Value.int Go.IntKind.i64 0, Go.Value.int Go.IntKind.i64 0] 93, Bool.true))
      generalize GH.put G4 r3 ((Go.Obj.cells #[Go.Value.string (Go.Proofs.YtnlbapfbdabjaaaDoor.minS x.From x.To), Go.Value.int Go.IntKind.i64 0, Go.Value.int Go.IntKind.i64 0, Go.Value.string (Go.Proofs.YtnlbapfbdabjaaaDoor.maxS x.From x.To), Go.Value.int Go.IntKind.i64 0, Go.Value.int Go.IntKind.i64 0] 93, Bool.true)) = G5 at *
      replace l4 := GH.le.trans l4 l5
      replace l3 := GH.le.trans l3 l5
      replace l2 := GH.le.trans l2 l5
      replace y2 := l5 _ _ y2
      replace l1 := GH.le.trans l1 l5
      replace y1 := l5 _ _ y1
      replace hv := RSl.le hv l5
      replace hw := RSl.le hw l5
      replace hu := RSl.le hu l5
      replace hkx := RSl.le hkx l5
      replace w3''' := RSl.le w3''' l5
      replace w3'''' := RSl.le w3'''' l5
      replace w3''''' := RSl.le w3''''' l5
      replace w4' := RSl.le w4' l5
      have q6_0 := GH.le.none l5 h4
      have q6_1 := GH.le.none l4 h4
      have q6_2 := GH.le.none l3 h4
      have q6_3 := GH.le.none l2 h4
      have q6_4 := GH.le.none l1 h4
      have l6 := le_put h4 ((Go.Obj.cells #[Go.Value.string x.Key, Go.Value.string x.From, Go.Value.string x.To, Go.GL.V x.Long, Go.Value.slice ka x.Knots.length kc] 87, Bool.true))
      have y6 := put_self G5 r4 ((Go.Obj.cells #[Go.Value.string x.Key, Go.Value.string x.From, Go.Value.string x.To, Go.GL.V x.Long, Go.Value.slice ka x.Knots.length kc] 87, Bool.true))
      generalize GH.put G5 r4 ((Go.Obj.cells #[Go.Value.string x.Key, Go.Value.string x.From, Go.Value.string x.To, Go.GL.V x.Long, Go.Value.slice ka x.Knots.length kc] 87, Bool.true)) = G6 at *
      replace l5 := GH.le.trans l5 l6
      replace y5 := l6 _ _ y5
      replace l4 := GH.le.trans l4 l6
      replace l3 := GH.le.trans l3 l6
      replace l2 := GH.le.trans l2 l6
      replace y2 := l6 _ _ y2
      replace l1 := GH.le.trans l1 l6
      replace y1 := l6 _ _ y1
      replace hv := RSl.le hv l6
      replace hw := RSl.le hw l6
      replace hu := RSl.le hu l6
      replace hkx := RSl.le hkx l6
      replace w3''' := RSl.le w3''' l6
      replace w3'''' := RSl.le w3'''' l6
      replace w3''''' := RSl.le w3''''' l6
      replace w4' := RSl.le w4' l6
      obtain ⟨E, hs, hvE, hkE, il, hleE⟩ := frz_list y5 (two_cells (minS x.From x.To) (maxS x.From x.To))
      refine Ycsub hs ?_
      have y6E := hkE _ _ n43 y6
      have y2E := hkE _ _ n23 y2
      have hkxE := hkx.ile il
      have hGE := hleE G l1 zG
      replace hvE : RSl rNode E (.slice (some ⟨r3, 0, none⟩) 1 2) [nodeOf (minS x.From x.To)] := RSl.take hvE (m := 1) (by simp)
      rw [hks] at hvE
      have kr2 := kn_of y2E
      refine Ycp (p45b (ns := (keysOf x).map nodeOf) (by have := keys_len x; rw [List.length_map]; omega) hx y6E hvE hkxE) ?_
      simp (maxDischargeDepth := 9) only [↓gB, gV, gT, reduceIte, reduceCtorEq, Nat.reduceEqDiff, Nat.reduceAdd, Nat.reduceSub, Nat.reduceLeDiff, Nat.reduceLT, Int.reduceEq, Nat.reduceMul, h1, n2, h2, q2_0, h3, n23, zG, hd, n4, q5_0, q5_1, q5_2, q5_3, h4, q6_0, q6_1, q6_2, q6_3, q6_4, y6, y5, y2, y1, hkE, y6E, y2E, kr2, hE, beq_self_eq_true]
      refine Ycp (p48) ?_
      simp (maxDischargeDepth := 9) only [↓gB, gV, gT, reduceIte, reduceCtorEq, Nat.reduceEqDiff, Nat.reduceAdd, Nat.reduceSub, Nat.reduceLeDiff, Nat.reduceLT, Int.reduceEq, Nat.reduceMul, h1, n2, h2, q2_0, h3, n23, zG, hd, n4, q5_0, q5_1, q5_2, q5_3, h4, q6_0, q6_1, q6_2, q6_3, q6_4, y6, y5, y2, y1, hkE, y6E, y2E, kr2, hE, beq_self_eq_true]
      refine Yn1 fun r5 h5 => ?_
      simp (maxDischargeDepth := 9) only [↓gB, gV, gT, reduceIte, reduceCtorEq, Nat.reduceEqDiff, Nat.reduceAdd, Nat.reduceSub, Nat.reduceLeDiff, Nat.reduceLT, Int.reduceEq, Nat.reduceMul, h1, n2, h2, q2_0, h3, n23, zG, hd, n4, q5_0, q5_1, q5_2, q5_3, h4, q6_0, q6_1, q6_2, q6_3, q6_4, y6, y5, y2, y1, hkE, y6E, y2E, kr2, h5, hE, beq_self_eq_true]
      refine Ycp (p16 (by exact put_self _ _ _)) ?_
      simp (maxDischargeDepth := 9) only [↓gB, gV, gT, reduceIte, reduceCtorEq, Nat.reduceEqDiff, Nat.reduceAdd, Nat.reduceSub, Nat.reduceLeDiff, Nat.reduceLT, Int.reduceEq, Nat.reduceMul, h1, n2, h2, q2_0, h3, n23, zG, hd, n4, q5_0, q5_1, q5_2, q5_3, h4, q6_0, q6_1, q6_2, q6_3, q6_4, y6, y5, y2, y1, hkE, y6E, y2E, kr2, h5, hE, beq_self_eq_true]
      refine Xc_pos _ _ _ _ _ (by omega) ?_
      simp (maxDischargeDepth := 9) only [↓gB, gV, gT, reduceIte, reduceCtorEq, Nat.reduceEqDiff, Nat.reduceAdd, Nat.reduceSub, Nat.reduceLeDiff, Nat.reduceLT, Int.reduceEq, Nat.reduceMul, h1, n2, h2, q2_0, h3, n23, zG, hd, n4, q5_0, q5_1, q5_2, q5_3, h4, q6_0, q6_1, q6_2, q6_3, q6_4, y6, y5, y2, y1, hkE, y6E, y2E, kr2, h5, hE, beq_self_eq_true]
      refine Ycp (p49) ?_
      simp (maxDischargeDepth := 9) only [↓gB, gV, gT, reduceIte, reduceCtorEq, Nat.reduceEqDiff, Nat.reduceAdd, Nat.reduceSub, Nat.reduceLeDiff, Nat.reduceLT, Int.reduceEq, Nat.reduceMul, h1, n2, h2, q2_0, h3, n23, zG, hd, n4, q5_0, q5_1, q5_2, q5_3, h4, q6_0, q6_1, q6_2, q6_3, q6_4, y6, y5, y2, y1, hkE, y6E, y2E, kr2, h5, hE, beq_self_eq_true]
      exact Kup_val (by simp (maxDischargeDepth := 9) only [le_self, le_puts, le_put0, h1, n2, h2, q2_0, h3, zG, n4, q5_0, q5_1, q5_2, q5_3, h4, q6_0, q6_1, q6_2, q6_3, q6_4, l6, l5, l4, l3, l2, l1, hGE, h5]) rfl
end Go.Proofs.YtnlbapfbdabjaaaDoor
namespace Go.Proofs.YtnlbapfbdabjaaaDoor
open Go Go.GL
attribute [local irreducible] Ycall GCalls
set_option maxRecDepth 10000
set_option maxHeartbeats 0
open Go.RowKit
set_option maxRecDepth 10000
def G0of (W : World) : GH := fun b => (W.heap[b]?).map fun o => (o, false)
theorem holdsG0 (W : World) : GL.Holds W (G0of W) W := by
  refine ⟨Go.RowKit.Below.refl _ _, ?_, ?_, Nat.le_refl _⟩
  · intro b o t h
    unfold G0of at h
    rw [Option.map_eq_some_iff] at h
    obtain ⟨o', h1, h2⟩ := h
    cases h2; exact h1
  · intro b o h
    unfold G0of at h
    rw [Option.map_eq_some_iff] at h
    obtain ⟨o', h1, h2⟩ := h
    cases h2
theorem mapM_some {α β : Type} {f : α → Option β} : ∀ (l : List α) (r : List β), l.mapM f = some r → r.length = l.length ∧ ∀ (i : Nat) x, l[i]? = some x → f x = r[i]?
  | [], r, h => by
    rw [List.mapM_nil] at h; cases h; exact ⟨rfl, by simp⟩
  | y :: l, r, h => by
    rw [List.mapM_cons] at h
    simp only [bind, Option.bind_eq_some_iff, pure, Option.some.injEq] at h
    obtain ⟨b, hb, r', hr, rfl⟩ := h
    obtain ⟨h1, h2⟩ := mapM_some l r' hr
    refine ⟨by simp [h1], ?_⟩
    intro i x hx
    cases i with
    | zero => simp at hx; subst hx; simpa using hb
    | succ i => simp at hx; simpa using h2 i x hx
theorem cellsI_of {W : World} {a : Addr} {n : Nat} {cs : List Value} (hn : 0 < n) (h : W.cells? 0 a n = some cs) : gcellsI (G0of W) a n = some cs := by
  unfold World.cells? at h
  rw [if_pos (Nat.zero_le _)] at h
  obtain ⟨h1, h2⟩ := mapM_some _ _ h
  rw [List.length_range] at h1
  have hc : ∀ i, i < n → W.cell? (a.add i) = cs[i]? := fun i hi => h2 i i (by simp [hi])
  have h0 := hc 0 hn
  have ha0 : a.add 0 = a := by cases a; rfl
  rw [ha0, List.getElem?_eq_getElem (by omega)] at h0
  unfold World.cell? at h0
  split at h0
  case h_2 => cases h0
  rename_i c e fr hb
  split at h0
  · cases h0
  rename_i hsp
  have hspn : a.spot = none := by cases hs : a.spot <;> simp_all
  have hall : ∀ i, i < n → c[a.off + i]? = cs[i]? := by
    intro i hi
    have := hc i hi
    unfold World.cell? at this
    rw [add_block, hb] at this
    simp only [add_spot _ _ hspn, add_off, Option.isSome_none, Bool.false_eq_true, if_false] at this
    exact this
  have hlast := hall (n - 1) (by omega)
  rw [List.getElem?_eq_getElem (by omega)] at hlast
  have hsz : a.off + n ≤ c.size := by
    have := (Array.getElem?_eq_some_iff.1 hlast).1
    omega
  unfold gcellsI G0of
  simp only [hb, Option.map_some]
  rw [if_pos ⟨by rw [hspn]; rfl, hsz⟩]
  congr 1
  apply List.ext_getElem?
  intro i
  rw [List.getElem?_take]
  split
  · rename_i hi
    rw [List.getElem?_drop, Array.getElem?_toList, hall i hi]
  · rw [List.getElem?_eq_none (by omega)]
theorem exists_list {α : Type} {Q : Nat → α → Prop} : ∀ n, (∀ i, i < n → ∃ x, Q i x) → ∃ l : List α, l.length = n ∧ ∀ (i : Nat) x, l[i]? = some x → Q i x
  | 0, _ => ⟨[], rfl, by simp⟩
  | n + 1, h => by
    obtain ⟨l, h1, h2⟩ := exists_list n fun i hi => h i (by omega)
    obtain ⟨x, hx⟩ := h n (by omega)
    refine ⟨l ++ [x], by simp [h1], ?_⟩
    intro i y hy
    rw [List.getElem?_append] at hy
    split at hy
    · exact h2 i y hy
    · rename_i hi
      have : i = n := by
        by_cases e : i = n
        · exact e
        · rw [List.getElem?_eq_none (by simp; omega)] at hy; cases hy
      subst this
      simp [h1] at hy
      subst hy; exact hx
theorem wf_i64 {n : Int} (h : (Lit.int .i64 n).wf = true) : i64 n := by
  simp [Lit.wf, IntKind.min, IntKind.max, IntKind.signed, IntKind.bits] at h
  unfold i64; omega
def OT (W : World) {α : Type} (ρ : Rp α) (m : α → Nat) (T : TypeId) : Prop := ∀ (H : Type) (enc : TypeId × Value → H) (sp : Nat → Bool) (held : Bool) (fuel : Nat) (cs : List Value) (x : DataW H × List MemPlace), DataW.trod enc Tryd.prog W 0 sp held fuel T cs = some x → ∃ c : α, ρ.R (G0of W) c cs ∧ m c ≤ Rows.uptoBulk x.1
def mlist {α : Type} (m : α → Nat) (l : List α) : Nat := (l.map m).sum + 1
theorem OT.int {W : World} {T : TypeId} (hT : Tryd.prog.underlying T = some (.int .i64)) : OT W Rp.int (fun _ => 1) T := by
  intro H enc sp held fuel cs x h
  obtain ⟨n, e, hx, w⟩ := DataW.trod_int hT h
  subst e hx
  exact ⟨n, ⟨rfl, wf_i64 w⟩, by simp [Rows.uptoBulk]⟩
theorem OT.str {W : World} {T : TypeId} (hT : Tryd.prog.underlying T = some .string) : OT W Rp.str (fun s => s.size + 1) T := by
  intro H enc sp held fuel cs x h
  obtain ⟨s, e, hx, w⟩ := DataW.trod_string hT h
  subst e hx
  refine ⟨s, rfl, ?_⟩
  simp [Rows.uptoBulk]
theorem OT.bool {W : World} {T : TypeId} (hT : Tryd.prog.underlying T = some .bool) : OT W Rp.bool (fun _ => 1) T := by
  intro H enc sp held fuel cs x h
  obtain ⟨n, e, hx⟩ := DataW.trod_bool hT h
  subst e hx
  exact ⟨n, rfl, by simp [Rows.uptoBulk]⟩
theorem exists_list2 {α β : Type} {Q : Nat → α → Prop} {m : α → Nat} {m2 : β → Nat} : ∀ (els : List β), (∀ (i : Nat) e, els[i]? = some e → ∃ x, Q i x ∧ m x ≤ m2 e) → ∃ l : List α, l.length = els.length ∧ (∀ (i : Nat) x, l[i]? = some x → Q i x) ∧ (l.map m).sum ≤ (els.map m2).sum
  | [], _ => ⟨[], rfl, by simp, by simp⟩
  | e :: els, h => by
    obtain ⟨x, hx, hm⟩ := h 0 e rfl
    obtain ⟨l, h1, h2, h3⟩ := exists_list2 (Q := fun i x => Q (i + 1) x) (m := m) (m2 := m2) els (fun i e he => h (i + 1) e (by simpa using he))
    refine ⟨x :: l, by simp [h1], ?_, by simp; omega⟩
    intro i y hy
    cases i with
    | zero => simp at hy; subst hy; exact hx
    | succ i => exact h2 i y (by simpa using hy)
theorem bulkAll_sum {H : Type} : ∀ (l : List (DataW H)), Rows.uptoBulkAll l = (l.map Rows.uptoBulk).sum
  | [] => rfl
  | x :: l => by simp [Rows.uptoBulkAll, bulkAll_sum l]
theorem OT.slice {W : World} {α : Type} {ρ : Rp α} {m : α → Nat} {T e : TypeId} (hT : Tryd.prog.underlying T = some (.slice e)) (hc : Tryd.prog.cellsOf e = ρ.sz) (hpos : 0 < ρ.sz) (hel : OT W ρ m e) : OT W ρ.slice (mlist m) T := by
  intro H enc sp held fuel cs x h
  rcases DataW.trod_slice hT h with ⟨hcs, hx⟩ | ⟨a, len, cap, elems, rest, n, _, hcs, hx, _, hlc, _, hel', he, _⟩
  · subst hcs hx
    exact ⟨[], ⟨_, rfl, RSl.nil _ _⟩, by simp [mlist, Rows.uptoBulk]⟩
  · subst hcs hx
    rw [hc] at he
    have key : ∀ (i : Nat) el, elems[i]? = some el → ∃ c : α, (∃ cs, gcellsI (G0of W) (a.add (i * ρ.sz)) ρ.sz = some cs ∧ ρ.R (G0of W) c cs) ∧ m c ≤ Rows.uptoBulk el.1 := by
      intro i el hi
      have hil : i < elems.length := by
        by_cases q : i < elems.length
        · exact q
        · rw [List.getElem?_eq_none (by omega)] at hi; cases hi
      have h1 := he i (by omega)
      rw [hi, Option.bind_eq_some_iff] at h1
      obtain ⟨cs, h2, h3⟩ := h1
      obtain ⟨c, hc, hb⟩ := hel _ _ _ _ _ _ _ h3
      exact ⟨c, ⟨cs, cellsI_of hpos h2, hc⟩, hb⟩
    obtain ⟨l, h1, h2, h3⟩ := exists_list2 elems key
    refine ⟨l, ⟨_, rfl, ⟨some a, len, cap, rfl, by omega, hlc, fun hpos' => ⟨a, rfl, ?_, fun i x hx => h2 i x hx⟩⟩⟩, ?_⟩
    · obtain ⟨c, ⟨cs, hg, _⟩, _⟩ := key 0 (elems[0]'(by omega)) (List.getElem?_eq_getElem (by omega))
      have e : a.add (0 * ρ.sz) = a := by cases a; simp [Addr.add]
      rw [e] at hg
      unfold gcellsI at hg
      split at hg
      · split at hg
        · rename_i hc; have := hc.1; cases hs : a.spot <;> simp_all
        · cases hg
      · cases hg
    · simp only [mlist, Rows.uptoBulk, bulkAll_sum, List.map_map]
      have : (elems.map (Rows.uptoBulk ∘ fun x => x.1)).sum = (elems.map fun x => Rows.uptoBulk x.1).sum := rfl
      omega
theorem mlist_len {α : Type} {m : α → Nat} (h1 : ∀ x, 1 ≤ m x) (l : List α) : l.length + 1 ≤ mlist m l := by
  unfold mlist
  induction l with
  | nil => simp
  | cons x l ih => have := h1 x; simp; omega
theorem mlist_mem {α : Type} {m : α → Nat} {l : List α} {x : α} (h : x ∈ l) : m x + 1 ≤ mlist m l := by
  unfold mlist
  induction l with
  | nil => cases h
  | cons y l ih =>
    rcases List.mem_cons.1 h with rfl | h
    · simp
    · have := ih h; simp; omega
theorem OT.row {W : World} {α : Type} {ρ : Rp α} {m : List α → Nat} {T : TypeId} (h : OT W ρ.slice m T) {H : Type} {enc : TypeId × Value → H} {sp : Nat → Bool} {held : Bool} {a : Option Addr} {n c : Nat} {d : DataW H} {ps : List MemPlace} (ht : DataW.Trod enc Tryd.prog W 0 sp held T (.slice a n c) d ps) : ∃ l : List α, RSl ρ (G0of W) (.slice a n c) l ∧ m l ≤ Rows.uptoBulk d := by
  obtain ⟨fuel, hf⟩ := ht
  obtain ⟨l, ⟨v, hv, hr⟩, hm⟩ := h _ _ _ _ _ _ _ hf
  simp [Value.cells] at hv
  subst hv
  exact ⟨l, hr, hm⟩
theorem OT.agg {W : World} {α : Type} {ρ : Rp α} {m : α → Nat} {T : TypeId} (h : OT W ρ m T) {H : Type} {enc : TypeId × Value → H} {sp : Nat → Bool} {held : Bool} {xs : Array Value} {d : DataW H} {ps : List MemPlace} (ht : DataW.Trod enc Tryd.prog W 0 sp held T (.agg xs) d ps) : ∃ c : α, ρ.R (G0of W) c xs.toList ∧ m c ≤ Rows.uptoBulk d := by
  obtain ⟨fuel, hf⟩ := ht
  obtain ⟨l, hr, hm⟩ := h _ _ _ _ _ _ _ hf
  exact ⟨l, by simpa [Value.cells] using hr, hm⟩
end Go.Proofs.YtnlbapfbdabjaaaDoor
