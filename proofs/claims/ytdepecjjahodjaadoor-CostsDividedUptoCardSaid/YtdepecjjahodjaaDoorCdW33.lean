/- A part of a proof: CostsDivided: a card of costs, parts and legs: what Divide, CheckLegs and ByLegs give is what their simple ones give -/
import Derived.Shelf.SlSortCmp.NoneTotal
import Derived.Test.YtdepecjjahodjaaDoorCdGlMk
import Derived.Test.YtdepecjjahodjaaDoorCdGlS
import Derived.Test.YtdepecjjahodjaaDoorCdSh
import Derived.Test.YtdepecjjahodjaaDoorCdW30
import Derived.Test.YtdepecjjahodjaaDoorCdW31
import Derived.Test.YtdepecjjahodjaaDoorCdW32
set_option linter.unusedSimpArgs false
set_option linter.unusedVariables false
set_option linter.unusedSectionVars false
namespace Go.Proofs.YtdepecjjahodjaaDoor
open Go Go.GL
attribute [local irreducible] Ycall GCalls
set_option maxRecDepth 10000
set_option maxHeartbeats 0
def fillL {α : Type} (l : List α) (n : Nat) (z : α) : List α := l ++ List.replicate (n - l.length) z
theorem fill_len {α : Type} {l : List α} {n : Nat} {z : α} (h : l.length ≤ n) : (fillL l n z).length = n := by unfold fillL; rw [List.length_append, List.length_replicate]; omega
theorem fill_done {α : Type} {l : List α} {n : Nat} {z : α} (h : l.length = n) : fillL l n z = l := by unfold fillL; rw [h, Nat.sub_self]; simp
theorem fill_set {α : Type} {l : List α} {n i : Nat} {y z : α} (h : l.length = i) (hi : i < n) : (fillL l n z).set i y = fillL (l ++ [y]) n z := by
  subst h
  unfold fillL
  rw [show n - l.length = (n - (l ++ [y]).length) + 1 by simp; omega, List.replicate_succ, set_app rfl]; simp
theorem map_s {α β : Type} {l : List α} {i : Nat} {x : α} {f : α → β} (h : l[i]? = some x) : (l.take (i + 1)).map f = (l.take i).map f ++ [f x] := by rw [take_at h, List.map_append]; rfl
theorem map_take_len {α β : Type} {l : List α} {i : Nat} {f : α → β} (h : i ≤ l.length) : ((l.take i).map f).length = i := by rw [List.length_map, List.length_take]; omega
theorem fdiv_q (x s : Int) (hs : 0 < s) (h1 : -4611686018427387904 ≤ x) (h2 : x ≤ 4611686018427387904) : fdiv x s = x / s := by
  have hb1 : x.tdiv s ≤ 4611686018427387904 ∧ -4611686018427387904 ≤ x.tdiv s := by
    have := Int.natAbs_tdiv_le_natAbs x s
    omega
  have hw : IntKind.i64.wrap (x.tdiv s) = x.tdiv s := wrap_id (by omega)
  have hw2 : IntKind.i64.wrap (x.tdiv s - 1) = x.tdiv s - 1 := wrap_id (by omega)
  unfold fdiv
  rw [hw, hw2]
  have hm := Int.tmod_add_mul_tdiv x s
  by_cases hx : 0 ≤ x
  · have h3 : x.tdiv s = x / s := Int.tdiv_eq_ediv_of_nonneg hx
    have h4 : 0 ≤ x.tmod s := Int.tmod_nonneg s hx
    rw [if_neg (by omega), h3]
  · have h5 : -s < x.tmod s := Int.lt_tmod_of_pos x hs
    have h6 : x.tmod s ≤ 0 := by
      have := Int.tmod_nonneg s (show 0 ≤ -x by omega)
      rw [Int.neg_tmod] at this; omega
    by_cases h7 : x.tmod s < 0
    · rw [if_pos h7]
      symm
      rw [Int.ediv_eq_iff_of_pos hs]
      rw [Int.sub_mul, Int.mul_comm (x.tdiv s) s]
      omega
    · have h8 : x.tmod s = 0 := by omega
      rw [if_neg h7]
      symm
      rw [Int.ediv_eq_iff_of_pos hs, Int.mul_comm (x.tdiv s) s]
      omega
theorem sum_bb {l : List Int} {M : Int} : (∀ q ∈ l, -M ≤ q ∧ q ≤ M) → -(M * l.length) ≤ l.sum ∧ l.sum ≤ M * l.length := by
  induction l with
  | nil => simp
  | cons x l ih =>
    intro h
    have h1 := h x (by simp)
    have h2 := ih (fun q hq => h q (by simp [hq]))
    rw [List.sum_cons, List.length_cons, Int.natCast_add, Int.mul_add]
    simp only [Int.natCast_one, Int.mul_one]; omega
theorem mem_set_b {o : List Int} {i : Nat} {y k left M : Int} (h : ∀ q ∈ o, -M ≤ q ∧ q ≤ M + (k - left)) (hy : -M ≤ y ∧ y ≤ M + (k - left)) : ∀ q ∈ o.set i (y + 1), -M ≤ q ∧ q ≤ M + (k - (left - 1)) := by
  intro q hq
  rcases List.mem_or_eq_of_mem_set hq with hq | rfl
  · have := h q hq; omega
  · omega
theorem hand_step {o r T : List Int} {left : Int} {y : Int} (h : handL left.toNat o r = T) (hl : 0 < left) (hy : o[bestTo r r.length]? = some y) : handL (left - 1).toNat (o.set (bestTo r r.length) (y + 1)) (r.set (bestTo r r.length) (-1)) = T := by
  have : left.toNat = (left - 1).toNat + 1 := by omega
  rw [this] at h
  unfold handL at h
  rw [modify_set hy] at h; exact h
theorem best_s {r : List Int} {i : Nat} {x y : Int} (hx : r[i]? = some x) (hy : r[bestTo r i]? = some y) : bestTo r (i + 1) = if y < x then i else bestTo r i := by
  show (if r.getD (bestTo r i) 0 < r.getD i 0 then i else bestTo r i) = _
  rw [List.getD_eq_getElem?_getD, List.getD_eq_getElem?_getD, hx, hy]; rfl
theorem g40 {G0 : GH} {all_ den : Int} {v : Value} {l : List Int} (hv : RSl Rp.int G0 v l) (hd : 0 < den) (hd2 : den ≤ 1000000000000000) (ha : 0 ≤ all_ ∧ all_ ≤ 1000000000) (hlen : l.length ≤ 1000) (hne : l = [] → all_ ≤ 0) (hx : ∀ x ∈ l, -4000000000000000000 ≤ x ∧ x ≤ 4000000000000000000) (hq : ∀ q ∈ l.map (· / den), -2000000000000 ≤ q ∧ q ≤ 2000000000000) : Gives Tryd.prog G0 40 [V all_, v, V den] (fun u G' => RSl Rp.int G' u (handF all_ den l)) := by
  intro G hG; replace hv := hv.le hG
  clear hG G0
  refine enter Tryd.func40 82 #[.tmp 6] rfl Tryd.ntmps40 rfl (by decide +kernel) rfl ?_
  obtain ⟨a, c, rfl⟩ := hv.val
  simp (maxDischargeDepth := 9) only [↓gB, gV, gT, reduceIte, reduceCtorEq, Nat.reduceEqDiff, Nat.reduceAdd, Nat.reduceSub, Nat.reduceLeDiff, Nat.reduceLT, Int.reduceEq, Nat.reduceMul]
  refine Yms_row sl23 (ρ := Rp.int) (x0 := (0 : Int)) zv3 (fun _ => ⟨rfl, by unfold i64; omega⟩) (by omega) fun ad1 G1 h1 l1 wm1 => ?_
  replace hv := RSl.le hv l1
  simp (maxDischargeDepth := 9) only [↓gB, gV, gT, reduceIte, reduceCtorEq, Nat.reduceEqDiff, Nat.reduceAdd, Nat.reduceSub, Nat.reduceLeDiff, Nat.reduceLT, Int.reduceEq, Nat.reduceMul, h1]
  refine Yms_row sl23 (ρ := Rp.int) (x0 := (0 : Int)) zv3 (fun _ => ⟨rfl, by unfold i64; omega⟩) (by omega) fun ad2 G2 h2 l2 wm2 => ?_
  have n2_0 := ne_row wm1 h2
  replace wm2 := Row.rebase wm2 l1
  replace l1 := GH.le.trans l1 l2
  replace wm1 := Row.le wm1 l2
  replace hv := RSl.le hv l2
  simp (maxDischargeDepth := 9) only [↓gB, gV, gT, reduceIte, reduceCtorEq, Nat.reduceEqDiff, Nat.reduceAdd, Nat.reduceSub, Nat.reduceLeDiff, Nat.reduceLT, Int.reduceEq, Nat.reduceMul, h1, h2]
  focus
    refine Xloop_intro _ _ _ _ _ (fun k f G' => ∃ (i : Nat), k = l.length - i ∧ (i ≤ l.length) ∧ (RSl Rp.int G' (.slice a l.length c) l) ∧ (G.le G') ∧ (Row Rp.int 3 G G' (.slice (some ad1) l.length l.length) (fillL ((l.take i).map (· / den)) l.length 0)) ∧ (Row Rp.int 3 G G' (.slice (some ad2) l.length l.length) (fillL ((l.take i).map (· % den)) l.length 0)) ∧ f 23 = V i ∧ f 8 = V (all_ - ((l.take i).map (· / den)).sum) ∧ f 2 = Go.GL.V den ∧ f 7 = Go.Value.slice (Option.some ad1) l.length l.length ∧ f 9 = Go.Value.slice (Option.some ad2) l.length l.length ∧ f 21 = Go.Value.slice a l.length c ∧ f 22 = Go.Value.int Go.IntKind.i64 ↑l.length) _ ⟨0, rfl, ?_, ?_, ?_, ?_, ?_, by simp (maxDischargeDepth := 9) only [↓gB, gV, gT, reduceIte, reduceCtorEq, Nat.reduceEqDiff, Nat.reduceAdd, Nat.reduceSub, Nat.reduceLeDiff, Nat.reduceLT, Int.reduceEq, Nat.reduceMul, h1, h2, List.sum_nil, Int.sub_zero, and_self]⟩ ?_
    · omega
    · assumption
    · assumption
    · assumption
    · assumption
    rintro k f G' ⟨i, rfl, hi, hv, hle, ho, hr, f23, f8, f2, f7, f9, f21, f22⟩
  simp (maxDischargeDepth := 9) only [↓gB, gV, gT, reduceIte, reduceCtorEq, Nat.reduceEqDiff, Nat.reduceAdd, Nat.reduceSub, Nat.reduceLeDiff, Nat.reduceLT, Int.reduceEq, Nat.reduceMul, h1, h2, f23, f8, f2, f7, f9, f21, f22]
  refine Xc_split _ _ _ _ _ (fun c1 => ?_) (fun c1 => ?_)
  · obtain ⟨x, hel⟩ : ∃ x, l[i]? = some x := ⟨_, List.getElem?_eq_getElem (by omega)⟩
    have hxb := hx x (List.mem_of_getElem? hel)
    have hqb := hq (x / den) (List.mem_map.2 ⟨x, List.mem_of_getElem? hel, rfl⟩)
    have hfd := fdiv_q x den hd (by omega) (by omega)
    have hsb := sum_bb (M := 2000000000000) (l := (l.take i).map (· / den)) (fun q h => hq q (by rw [List.map_take] at h; exact List.mem_of_mem_take h))
    have hsl := map_take_len (f := fun x : Int => x / den) hi
    have hsm := map_take_len (f := fun x : Int => x % den) hi
    rw [hsl] at hsb
    have hd0 : den ≠ 0 := by omega
    have hem := Int.mul_ediv_add_emod x den
    have he0 := Int.emod_nonneg x hd0
    have he1 := Int.emod_lt_of_pos x hd
    have hcm : x / den * den = den * (x / den) := Int.mul_comm _ _
    have hxm : x - x / den * den = x % den := by omega
    have hss : ((l.take (i + 1)).map (· / den)).sum = ((l.take i).map (· / den)).sum + x / den := by rw [map_s hel, List.sum_append]; simp
    have hss2 : all_ - ((l.take (i + 1)).map (· / den)).sum = all_ - ((l.take i).map (· / den)).sum - x / den := by omega
    have hol := fill_len (n := l.length) (z := (0 : Int)) (l := (l.take i).map (· / den)) (by omega)
    have hrl := fill_len (n := l.length) (z := (0 : Int)) (l := (l.take i).map (· % den)) (by omega)
    have fs1 := fill_set (y := x / den) (z := (0 : Int)) hsl (show i < l.length by omega)
    have fs2 := fill_set (y := x % den) (z := (0 : Int)) hsm (show i < l.length by omega)
    rw [← map_s (f := fun x : Int => x / den) hel] at fs1
    rw [← map_s (f := fun x : Int => x % den) hel] at fs2
    focus
      simp (maxDischargeDepth := 9) only [↓gB, gV, gT, reduceIte, reduceCtorEq, Nat.reduceEqDiff, Nat.reduceAdd, Nat.reduceSub, Nat.reduceLeDiff, Nat.reduceLT, Int.reduceEq, Nat.reduceMul, h1, h2, f23, f8, f2, f7, f9, f21, f22, c1, hfd, hxm, hss2]
      obtain ⟨x1, a1, s1, m1, rfl, ⟨rfl, w1⟩, e1⟩ := hv.at1 (i) (by omega) rfl
      obtain rfl := el_eq hel m1
      simp (maxDischargeDepth := 9) only [↓gB, gV, gT, reduceIte, reduceCtorEq, Nat.reduceEqDiff, Nat.reduceAdd, Nat.reduceSub, Nat.reduceLeDiff, Nat.reduceLT, Int.reduceEq, Nat.reduceMul, h1, h2, f23, f8, f2, f7, f9, f22, c1, f21, e1, hfd, hxm, hss2]
      refine vguard_intro (by simp) ?_
      refine Ycp (p58 (by assumption)) ?_
      simp (maxDischargeDepth := 9) only [↓gB, gV, gT, reduceIte, reduceCtorEq, Nat.reduceEqDiff, Nat.reduceAdd, Nat.reduceSub, Nat.reduceLeDiff, Nat.reduceLT, Int.reduceEq, Nat.reduceMul, h1, h2, f23, f8, f2, f7, f9, f22, c1, f21, e1, hfd, hxm, hss2]
      refine vguard_intro (by simp) ?_
      refine Yrow1 ho rfl (by first | omega | (simp only [List.length_set]; omega)) (fun _ _ => ⟨rfl, (by first | assumption | (unfold i64 at *; omega))⟩) fun G3 w3 i3 k3 kn3 l3 => ?_
      replace hle := l3 hle
      replace hr := Row.keep hr i3 k3 (apart_ne (Ne.symm (by assumption)))
      replace hv := RSl.ile hv i3
      simp (maxDischargeDepth := 9) only [↓gB, gV, gT, reduceIte, reduceCtorEq, Nat.reduceEqDiff, Nat.reduceAdd, Nat.reduceSub, Nat.reduceLeDiff, Nat.reduceLT, Int.reduceEq, Nat.reduceMul, h1, h2, f23, f8, f2, f7, f9, f22, c1, f21, e1, k3, kn3, hfd, hxm, hss2]
      refine vguard_intro (by simp) ?_
      obtain ⟨x2, s2, m2, ⟨rfl, w2⟩, e2⟩ := w3.at1' (i) (by simp only [List.length_set]; omega) rfl
      obtain rfl := set_get1 m2
      simp (maxDischargeDepth := 9) only [↓gB, gV, gT, reduceIte, reduceCtorEq, Nat.reduceEqDiff, Nat.reduceAdd, Nat.reduceSub, Nat.reduceLeDiff, Nat.reduceLT, Int.reduceEq, Nat.reduceMul, h1, h2, f23, f8, f2, f7, f9, f22, c1, f21, e1, k3, kn3, e2, hfd, hxm, hss2]
      refine vguard_intro (by simp) ?_
      have q1 : Go.IntKind.i64.wrap (x / den * den) = x / den * den := wrap_id (by omega)
      simp (maxDischargeDepth := 9) only [↓gB, gV, gT, reduceIte, reduceCtorEq, Nat.reduceEqDiff, Nat.reduceAdd, Nat.reduceSub, Nat.reduceLeDiff, Nat.reduceLT, Int.reduceEq, Nat.reduceMul, h1, h2, f23, f8, f2, f7, f9, f22, c1, f21, e1, k3, kn3, e2, q1, hfd, hxm, hss2]
      have q2 : Go.IntKind.i64.wrap (x % den) = x % den := wrap_id (by omega)
      simp (maxDischargeDepth := 9) only [↓gB, gV, gT, reduceIte, reduceCtorEq, Nat.reduceEqDiff, Nat.reduceAdd, Nat.reduceSub, Nat.reduceLeDiff, Nat.reduceLT, Int.reduceEq, Nat.reduceMul, h1, h2, f23, f8, f2, f7, f9, f22, c1, f21, e1, k3, kn3, e2, q1, q2, hfd, hxm, hss2]
      refine Yrow1 hr rfl (by first | omega | (simp only [List.length_set]; omega)) (fun _ _ => ⟨rfl, (by first | assumption | (unfold i64 at *; omega))⟩) fun G4 w4 i4 k4 kn4 l4 => ?_
      replace w3 := Row.keep w3 i4 k4 (apart_ne (by assumption))
      replace hle := l4 hle
      replace hv := RSl.ile hv i4
      simp (maxDischargeDepth := 9) only [↓gB, gV, gT, reduceIte, reduceCtorEq, Nat.reduceEqDiff, Nat.reduceAdd, Nat.reduceSub, Nat.reduceLeDiff, Nat.reduceLT, Int.reduceEq, Nat.reduceMul, h1, h2, f23, f8, f2, f7, f9, f22, c1, f21, e1, k3, kn3, e2, q1, q2, k4, kn4, hfd, hxm, hss2]
      refine vguard_intro (by simp) ?_
      obtain ⟨x3, s3, m3, ⟨rfl, wx3⟩, e3⟩ := w3.at1' (i) (by simp only [List.length_set]; omega) rfl
      obtain rfl := set_get1 m3
      simp (maxDischargeDepth := 9) only [↓gB, gV, gT, reduceIte, reduceCtorEq, Nat.reduceEqDiff, Nat.reduceAdd, Nat.reduceSub, Nat.reduceLeDiff, Nat.reduceLT, Int.reduceEq, Nat.reduceMul, h1, h2, f23, f8, f2, f7, f9, f22, c1, f21, e1, k3, kn3, e2, q1, q2, k4, kn4, e3, hfd, hxm, hss2]
      have q3 : Go.IntKind.i64.wrap (all_ - (List.map (fun x ↦ x / den) (List.take i l)).sum - x / den) = all_ - (List.map (fun x ↦ x / den) (List.take i l)).sum - x / den := wrap_id (by omega)
      simp (maxDischargeDepth := 9) only [↓gB, gV, gT, reduceIte, reduceCtorEq, Nat.reduceEqDiff, Nat.reduceAdd, Nat.reduceSub, Nat.reduceLeDiff, Nat.reduceLT, Int.reduceEq, Nat.reduceMul, h1, h2, f23, f8, f2, f7, f9, f22, c1, f21, e1, k3, kn3, e2, q1, q2, k4, kn4, e3, q3, hfd, hxm, hss2]
      have q4 : Go.IntKind.i64.wrap (↑i + 1) = ↑i + 1 := wrap_id (by omega)
      simp (maxDischargeDepth := 9) only [↓gB, gV, gT, reduceIte, reduceCtorEq, Nat.reduceEqDiff, Nat.reduceAdd, Nat.reduceSub, Nat.reduceLeDiff, Nat.reduceLT, Int.reduceEq, Nat.reduceMul, h1, h2, f23, f8, f2, f7, f9, f22, c1, f21, e1, k3, kn3, e2, q1, q2, k4, kn4, e3, q3, q4, hfd, hxm, hss2]
      rw [N_lp]
      refine ⟨_, ?_, _, sub_refl _, i + 1, rfl, ?_, ?_, ?_, ?_, ?_, by simp (maxDischargeDepth := 9) only [↓gB, gV, gT, reduceIte, reduceCtorEq, Nat.reduceEqDiff, Nat.reduceAdd, Nat.reduceSub, Nat.reduceLeDiff, Nat.reduceLT, Int.reduceEq, Nat.reduceMul, h1, h2, f23, f8, f2, f7, f9, f22, c1, f21, e1, k3, kn3, e2, q1, q2, k4, kn4, e3, q3, q4, hfd, hxm, hss2, nat_succ, and_self]⟩
      · omega
      · omega
      · assumption
      · assumption
      · ((rw [← fs1]; assumption); done)
      · ((rw [← fs2]; assumption); done)
  · have e : l.take i = l := List.take_of_length_le (by omega)
    rw [e] at f8 ho hr
    rw [fill_done (by simp)] at ho hr
    have hsb := sum_bb hq
    rw [List.length_map] at hsb
    have hol : (l.map (· / den)).length = l.length := by simp
    have hrl : (l.map (· % den)).length = l.length := by simp
    have hz : ∀ z ∈ l.map (· % den), -1000000000000000 ≤ z ∧ z ≤ 1000000000000000 := by
      intro z hz
      obtain ⟨x, _, rfl⟩ := List.mem_map.1 hz
      have he0 := Int.emod_nonneg x (show den ≠ 0 by omega)
      have he1 := Int.emod_lt_of_pos x hd
      omega
    have hT : handL (all_ - (l.map (· / den)).sum).toNat (l.map (· / den)) (l.map (· % den)) = handF all_ den l := rfl
    generalize hk0 : all_ - (l.map (· / den)).sum = k0 at *
    have hk1 : k0 ≤ 3000000000000000 := by omega
    have hne' : l.length = 0 → k0 ≤ 0 := by
      intro h0
      have h0' : l = [] := List.length_eq_zero_iff.1 h0
      subst h0'
      have := hne rfl
      simp at hk0; omega
    generalize handF all_ den l = T at *
    generalize l.map (· / den) = o0 at *
    generalize l.map (· % den) = s0 at *
    clear hx hsb hk0
    simp (maxDischargeDepth := 9) only [↓gB, gV, gT, reduceIte, reduceCtorEq, Nat.reduceEqDiff, Nat.reduceAdd, Nat.reduceSub, Nat.reduceLeDiff, Nat.reduceLT, Int.reduceEq, Nat.reduceMul, h1, h2, f23, f2, f7, f9, f21, f22, c1, f8]
    focus
      refine Xloop_intro _ _ _ _ _ (fun k f G' => ∃ (left : Int) (o r : List Int), k = left.toNat ∧ (handL left.toNat o r = T) ∧ (left ≤ k0) ∧ (o.length = l.length) ∧ (r.length = l.length) ∧ (∀ q ∈ o, -2000000000000 ≤ q ∧ q ≤ 2000000000000 + (k0 - left)) ∧ (G.le G') ∧ (Row Rp.int 3 G G' (.slice (some ad1) l.length l.length) o) ∧ (Row Rp.int 3 G G' (.slice (some ad2) l.length l.length) r) ∧ f 8 = V left ∧ f 7 = Go.Value.slice (Option.some ad1) l.length l.length ∧ f 9 = Go.Value.slice (Option.some ad2) l.length l.length) _ ⟨k0, o0, s0, rfl, ?_, ?_, ?_, ?_, ?_, ?_, ?_, ?_, by simp (maxDischargeDepth := 9) only [↓gB, gV, gT, reduceIte, reduceCtorEq, Nat.reduceEqDiff, Nat.reduceAdd, Nat.reduceSub, Nat.reduceLeDiff, Nat.reduceLT, Int.reduceEq, Nat.reduceMul, h1, h2, f23, f2, f7, f9, f21, f22, c1, f8, and_self]⟩ ?_
      · assumption
      · omega
      · assumption
      · assumption
      · (exact fun q h => ⟨(hq q h).1, by have := (hq q h).2; omega⟩; done)
      · assumption
      · assumption
      · assumption
      rintro k f G' ⟨left, o, r, rfl, hT, hlk, hol, hrl, hob, hle, ho, hr, f8, f7, f9⟩
    simp (maxDischargeDepth := 9) only [↓gB, gV, gT, reduceIte, reduceCtorEq, Nat.reduceEqDiff, Nat.reduceAdd, Nat.reduceSub, Nat.reduceLeDiff, Nat.reduceLT, Int.reduceEq, Nat.reduceMul, h1, h2, f23, f2, f7, f9, f21, f22, c1, f8, f8, f7, f9]
    refine Xc_split _ _ _ _ _ (fun c2 => ?_) (fun c2 => ?_)
    · simp (maxDischargeDepth := 9) only [↓gB, gV, gT, reduceIte, reduceCtorEq, Nat.reduceEqDiff, Nat.reduceAdd, Nat.reduceSub, Nat.reduceLeDiff, Nat.reduceLT, Int.reduceEq, Nat.reduceMul, h1, h2, f23, f2, f7, f9, f21, f22, c1, f8, f8, f7, f9, c2]
      focus
        refine Xloop_intro _ _ _ _ _ (fun k f G' => ∃ (i : Nat), k = l.length - i ∧ (i ≤ l.length) ∧ (G.le G') ∧ (Row Rp.int 3 G G' (.slice (some ad1) l.length l.length) o) ∧ (Row Rp.int 3 G G' (.slice (some ad2) l.length l.length) r) ∧ f 58 = V i ∧ f 12 = V (bestTo r i) ∧ f 7 = Go.Value.slice (Option.some ad1) l.length l.length ∧ f 8 = Go.GL.V left ∧ f 9 = Go.Value.slice (Option.some ad2) l.length l.length ∧ f 57 = Go.Value.int Go.IntKind.i64 ↑l.length) _ ⟨0, rfl, ?_, ?_, ?_, ?_, by simp (maxDischargeDepth := 9) only [↓gB, gV, gT, reduceIte, reduceCtorEq, Nat.reduceEqDiff, Nat.reduceAdd, Nat.reduceSub, Nat.reduceLeDiff, Nat.reduceLT, Int.reduceEq, Nat.reduceMul, h1, h2, f23, f2, f7, f9, f21, f22, c1, f8, f8, f7, f9, c2, show bestTo r 0 = 0 from rfl, Int.natCast_zero, and_self]⟩ ?_
        · omega
        · assumption
        · assumption
        · assumption
        rintro k f G' ⟨i, rfl, hi, hle, ho, hr, f58, f12, f7, f8, f9, f57⟩
      simp (maxDischargeDepth := 9) only [↓gB, gV, gT, reduceIte, reduceCtorEq, Nat.reduceEqDiff, Nat.reduceAdd, Nat.reduceSub, Nat.reduceLeDiff, Nat.reduceLT, Int.reduceEq, Nat.reduceMul, h1, h2, f23, f2, f7, f9, f21, f22, c1, f8, f8, f7, f9, c2, f58, f12, f7, f8, f9, f57]
      refine Xc_split _ _ _ _ _ (fun c3 => ?_) (fun c3 => ?_)
      · have hbl : i = 0 ∧ bestTo r i = 0 ∨ bestTo r i < i := by
          rcases Nat.eq_zero_or_pos i with h | h
          · subst h; exact .inl ⟨rfl, rfl⟩
          · exact .inr (bestTo_lt r i h)
        obtain ⟨x, helx⟩ : ∃ x, r[i]? = some x := ⟨_, List.getElem?_eq_getElem (by omega)⟩
        obtain ⟨y, hely⟩ : ∃ y, r[bestTo r i]? = some y := ⟨_, List.getElem?_eq_getElem (by omega)⟩
        have hbs := best_s helx hely
        simp (maxDischargeDepth := 9) only [↓gB, gV, gT, reduceIte, reduceCtorEq, Nat.reduceEqDiff, Nat.reduceAdd, Nat.reduceSub, Nat.reduceLeDiff, Nat.reduceLT, Int.reduceEq, Nat.reduceMul, h1, h2, f23, f2, f7, f9, f21, f22, c1, f8, f8, f7, f9, c2, f58, f12, f7, f8, f9, f57, c3]
        refine Xdraw_intro [0, 1, 2, 3, 4, 5, 6, 7, 8] mixed (by kernel_rfl) (by decide +kernel) ?_
        simp (maxDischargeDepth := 9) only [↓gB, gV, gT, reduceIte, reduceCtorEq, Nat.reduceEqDiff, Nat.reduceAdd, Nat.reduceSub, Nat.reduceLeDiff, Nat.reduceLT, Int.reduceEq, Nat.reduceMul, h1, h2, f23, f2, f7, f9, f21, f22, c1, f8, f8, f7, f9, c2, f58, f12, f7, f8, f9, f57, c3]
        refine vguard_intro (by simp) ?_
        obtain ⟨x1, s1, m1, ⟨rfl, w1⟩, e1⟩ := hr.at1' (i) (by omega) rfl
        obtain rfl := el_eq helx m1
        simp (maxDischargeDepth := 9) only [↓gB, gV, gT, reduceIte, reduceCtorEq, Nat.reduceEqDiff, Nat.reduceAdd, Nat.reduceSub, Nat.reduceLeDiff, Nat.reduceLT, Int.reduceEq, Nat.reduceMul, h1, h2, f23, f2, f7, f9, f21, f22, c1, f8, f8, f7, f9, c2, f58, f12, f7, f8, f9, f57, c3, e1]
        refine vguard_intro (by omega) ?_
        obtain ⟨x2, s2, m2, ⟨rfl, w2⟩, e2⟩ := hr.at1' (Go.Proofs.YtdepecjjahodjaaDoor.bestTo r i) (by omega) rfl
        obtain rfl := el_eq hely m2
        simp (maxDischargeDepth := 9) only [↓gB, gV, gT, reduceIte, reduceCtorEq, Nat.reduceEqDiff, Nat.reduceAdd, Nat.reduceSub, Nat.reduceLeDiff, Nat.reduceLT, Int.reduceEq, Nat.reduceMul, h1, h2, f23, f2, f7, f9, f21, f22, c1, f8, f8, f7, f9, c2, f58, f12, f7, f8, f9, f57, c3, e1, e2]
        refine Xc_split _ _ _ _ _ (fun c4 => ?_) (fun c4 => ?_)
        · rw [if_pos (by omega)] at hbs
          focus
            simp (maxDischargeDepth := 9) only [↓gB, gV, gT, reduceIte, reduceCtorEq, Nat.reduceEqDiff, Nat.reduceAdd, Nat.reduceSub, Nat.reduceLeDiff, Nat.reduceLT, Int.reduceEq, Nat.reduceMul, h1, h2, f23, f2, f7, f9, f21, f22, c1, f8, f8, f7, f9, c2, f58, f12, f7, f8, f9, f57, c3, e1, e2, c4, hbs]
            have q1 : Go.IntKind.i64.wrap (↑i + 1) = ↑i + 1 := wrap_id (by omega)
            simp (maxDischargeDepth := 9) only [↓gB, gV, gT, reduceIte, reduceCtorEq, Nat.reduceEqDiff, Nat.reduceAdd, Nat.reduceSub, Nat.reduceLeDiff, Nat.reduceLT, Int.reduceEq, Nat.reduceMul, h1, h2, f23, f2, f7, f9, f21, f22, c1, f8, f8, f7, f9, c2, f58, f12, f7, f8, f9, f57, c3, e1, e2, c4, q1, hbs]
            rw [N_lp]
            refine ⟨_, ?_, _, sub_refl _, i + 1, rfl, ?_, ?_, ?_, ?_, by simp (maxDischargeDepth := 9) only [↓gB, gV, gT, reduceIte, reduceCtorEq, Nat.reduceEqDiff, Nat.reduceAdd, Nat.reduceSub, Nat.reduceLeDiff, Nat.reduceLT, Int.reduceEq, Nat.reduceMul, h1, h2, f23, f2, f7, f9, f21, f22, c1, f8, f8, f7, f9, c2, f58, f12, f7, f8, f9, f57, c3, e1, e2, c4, q1, hbs, nat_succ, and_self]⟩
            · omega
            · omega
            · assumption
            · assumption
            · assumption
        · rw [if_neg (by omega)] at hbs
          focus
            simp (maxDischargeDepth := 9) only [↓gB, gV, gT, reduceIte, reduceCtorEq, Nat.reduceEqDiff, Nat.reduceAdd, Nat.reduceSub, Nat.reduceLeDiff, Nat.reduceLT, Int.reduceEq, Nat.reduceMul, h1, h2, f23, f2, f7, f9, f21, f22, c1, f8, f8, f7, f9, c2, f58, f12, f7, f8, f9, f57, c3, e1, e2, c4, hbs]
            have q1 : Go.IntKind.i64.wrap (↑i + 1) = ↑i + 1 := wrap_id (by omega)
            simp (maxDischargeDepth := 9) only [↓gB, gV, gT, reduceIte, reduceCtorEq, Nat.reduceEqDiff, Nat.reduceAdd, Nat.reduceSub, Nat.reduceLeDiff, Nat.reduceLT, Int.reduceEq, Nat.reduceMul, h1, h2, f23, f2, f7, f9, f21, f22, c1, f8, f8, f7, f9, c2, f58, f12, f7, f8, f9, f57, c3, e1, e2, c4, q1, hbs]
            rw [N_lp]
            refine ⟨_, ?_, _, sub_refl _, i + 1, rfl, ?_, ?_, ?_, ?_, by simp (maxDischargeDepth := 9) only [↓gB, gV, gT, reduceIte, reduceCtorEq, Nat.reduceEqDiff, Nat.reduceAdd, Nat.reduceSub, Nat.reduceLeDiff, Nat.reduceLT, Int.reduceEq, Nat.reduceMul, h1, h2, f23, f2, f7, f9, f21, f22, c1, f8, f8, f7, f9, c2, f58, f12, f7, f8, f9, f57, c3, e1, e2, c4, q1, hbs, nat_succ, and_self]⟩
            · omega
            · omega
            · assumption
            · assumption
            · assumption
      · have e3 : i = r.length := by omega
        subst e3
        have hbl := bestTo_lt r r.length (by omega)
        obtain ⟨y, hely⟩ : ∃ y, o[bestTo r r.length]? = some y := ⟨_, List.getElem?_eq_getElem (by omega)⟩
        have hyb := hob y (List.mem_of_getElem? hely)
        have hst := hand_step hT c2 hely
        focus
          simp (maxDischargeDepth := 9) only [↓gB, gV, gT, reduceIte, reduceCtorEq, Nat.reduceEqDiff, Nat.reduceAdd, Nat.reduceSub, Nat.reduceLeDiff, Nat.reduceLT, Int.reduceEq, Nat.reduceMul, h1, h2, f23, f2, f7, f9, f21, f22, c1, f8, f8, f7, f9, c2, f7, f8, f9, f57, f58, f12, c3]
          refine vguard_intro (by omega) ?_
          obtain ⟨x1, s1, m1, ⟨rfl, w1⟩, e1⟩ := ho.at1' (Go.Proofs.YtdepecjjahodjaaDoor.bestTo r r.length) (by omega) rfl
          obtain rfl := el_eq hely m1
          simp (maxDischargeDepth := 9) only [↓gB, gV, gT, reduceIte, reduceCtorEq, Nat.reduceEqDiff, Nat.reduceAdd, Nat.reduceSub, Nat.reduceLeDiff, Nat.reduceLT, Int.reduceEq, Nat.reduceMul, h1, h2, f23, f2, f7, f9, f21, f22, c1, f8, f8, f7, f9, c2, f7, f8, f9, f57, f58, f12, c3, e1]
          refine vguard_intro (by omega) ?_
          have q1 : Go.IntKind.i64.wrap (y + 1) = y + 1 := wrap_id (by omega)
          simp (maxDischargeDepth := 9) only [↓gB, gV, gT, reduceIte, reduceCtorEq, Nat.reduceEqDiff, Nat.reduceAdd, Nat.reduceSub, Nat.reduceLeDiff, Nat.reduceLT, Int.reduceEq, Nat.reduceMul, h1, h2, f23, f2, f7, f9, f21, f22, c1, f8, f8, f7, f9, c2, f7, f8, f9, f57, f58, f12, c3, e1, q1]
          refine Yrow1 ho rfl (by first | omega | (simp only [List.length_set]; omega)) (fun _ _ => ⟨rfl, (by first | assumption | (unfold i64 at *; omega))⟩) fun G3 w3 i3 k3 kn3 l3 => ?_
          replace hle := l3 hle
          replace hr := Row.keep hr i3 k3 (apart_ne (Ne.symm (by assumption)))
          simp (maxDischargeDepth := 9) only [↓gB, gV, gT, reduceIte, reduceCtorEq, Nat.reduceEqDiff, Nat.reduceAdd, Nat.reduceSub, Nat.reduceLeDiff, Nat.reduceLT, Int.reduceEq, Nat.reduceMul, h1, h2, f23, f2, f7, f9, f21, f22, c1, f8, f8, f7, f9, c2, f7, f8, f9, f57, f58, f12, c3, e1, q1, k3, kn3]
          refine vguard_intro (by omega) ?_
          refine Yrow1 hr rfl (by first | omega | (simp only [List.length_set]; omega)) (fun _ _ => ⟨rfl, (by first | assumption | (unfold i64 at *; omega))⟩) fun G4 w4 i4 k4 kn4 l4 => ?_
          replace w3 := Row.keep w3 i4 k4 (apart_ne (by assumption))
          replace hle := l4 hle
          simp (maxDischargeDepth := 9) only [↓gB, gV, gT, reduceIte, reduceCtorEq, Nat.reduceEqDiff, Nat.reduceAdd, Nat.reduceSub, Nat.reduceLeDiff, Nat.reduceLT, Int.reduceEq, Nat.reduceMul, h1, h2, f23, f2, f7, f9, f21, f22, c1, f8, f8, f7, f9, c2, f7, f8, f9, f57, f58, f12, c3, e1, q1, k3, kn3, k4, kn4]
          have q2 : Go.IntKind.i64.wrap (left - 1) = left - 1 := wrap_id (by omega)
          simp (maxDischargeDepth := 9) only [↓gB, gV, gT, reduceIte, reduceCtorEq, Nat.reduceEqDiff, Nat.reduceAdd, Nat.reduceSub, Nat.reduceLeDiff, Nat.reduceLT, Int.reduceEq, Nat.reduceMul, h1, h2, f23, f2, f7, f9, f21, f22, c1, f8, f8, f7, f9, c2, f7, f8, f9, f57, f58, f12, c3, e1, q1, k3, kn3, k4, kn4, q2]
          rw [N_lp]
          refine ⟨_, ?_, _, sub_refl _, left - 1, o.set (bestTo r r.length) (y + 1), r.set (bestTo r r.length) (-1), rfl, ?_, ?_, ?_, ?_, ?_, ?_, ?_, ?_, by simp (maxDischargeDepth := 9) only [↓gB, gV, gT, reduceIte, reduceCtorEq, Nat.reduceEqDiff, Nat.reduceAdd, Nat.reduceSub, Nat.reduceLeDiff, Nat.reduceLT, Int.reduceEq, Nat.reduceMul, h1, h2, f23, f2, f7, f9, f21, f22, c1, f8, f8, f7, f9, c2, f7, f8, f9, f57, f58, f12, c3, e1, q1, k3, kn3, k4, kn4, q2, nat_succ, and_self]⟩
          · omega
          · assumption
          · omega
          · (rw [List.length_set]; assumption; done)
          · (rw [List.length_set]; assumption; done)
          · (exact mem_set_b hob hyb; done)
          · assumption
          · assumption
          · assumption
    · have e0 : left.toNat = 0 := by omega
      rw [e0] at hT
      simp (maxDischargeDepth := 9) only [↓gB, gV, gT, reduceIte, reduceCtorEq, Nat.reduceEqDiff, Nat.reduceAdd, Nat.reduceSub, Nat.reduceLeDiff, Nat.reduceLT, Int.reduceEq, Nat.reduceMul, h1, h2, f23, f2, f7, f9, f21, f22, c1, f8, f8, f7, f9, c2]
      obtain ⟨G4, hs4, hl4, hr4⟩ := ho.fin hle
      exact Kup_gives hs4 hl4 (by rw [← hT]; exact hr4)
end Go.Proofs.YtdepecjjahodjaaDoor
namespace Go.Proofs.YtdepecjjahodjaaDoor
open Go Go.GL
attribute [local irreducible] Ycall GCalls
set_option maxRecDepth 10000
set_option maxHeartbeats 0
def factsF (n : Nat) : List Int := (List.range n).map factF
def numsI (m : List Int) (n i : Nat) : List Int := (List.range i).map fun k => sumN (termF m n k) (2 ^ n)
def fairF (l : List ByteArray) (m : List Int) : List SDue := List.zipWith SDue.mk l (handF (m.getD (2 ^ l.length - 1) 0) (factF l.length) (numsF m l.length))
end Go.Proofs.YtdepecjjahodjaaDoor
namespace Go.Proofs.YtdepecjjahodjaaDoor
open Go Go.GL
attribute [local irreducible] Ycall GCalls
set_option maxRecDepth 10000
set_option maxHeartbeats 0
def orderF (n : Nat) : List Int := (List.range n).map Int.ofNat
def cfA (rs : List Int) (x y : Int) : Int := cmp3 (rs.getD y.toNat 0) (rs.getD x.toNat 0)
def partsG (m : List Int) (n g i : Nat) : List Int := (List.range n).map fun t => sumN (termF m n t) (if t < i then g + 1 else g)
end Go.Proofs.YtdepecjjahodjaaDoor
namespace Go.Proofs.YtdepecjjahodjaaDoor
open Go Go.GL
attribute [local irreducible] Ycall GCalls
set_option maxRecDepth 10000
set_option maxHeartbeats 0
theorem incs_incP : ∀ (L : List SRest) (o : List Int), incs L o = incP (L.map fun x => x.i.toNat) o := by
  intro L o; unfold incs incP; rw [List.foldl_map]
theorem rsF_len (n s : Int) (l : List Int) : (rsF n s l).length = l.length := by unfold rsF; rw [List.length_mapIdx]
theorem rsF_at {n s : Int} {l : List Int} {k : Nat} {x : SRest} (h : (rsF n s l)[k]? = some x) : x.i = k ∧ ∃ p, l[k]? = some p ∧ x.left = n * p % s := by
  unfold rsF at h
  rw [List.getElem?_mapIdx] at h
  cases e : l[k]? with
  | none => rw [e] at h; cases h
  | some p => rw [e] at h; cases h; exact ⟨rfl, p, rfl, rfl⟩
theorem divide_hand {n : Int} {l : List Int} (hs : 0 < l.sum) : divideF n l = handF n l.sum (l.map (n * ·)) := by
  obtain ⟨hl1, hl2⟩ := left_range (n := n) hs
  have e1 : (l.map (n * ·)).map (· / l.sum) = qsF n l.sum l := by unfold qsF; rw [List.map_map]; rfl
  have e2 : (l.map (n * ·)).map (· % l.sum) = l.map fun p => n * p % l.sum := by rw [List.map_map]; rfl
  have hb := isort_bef (cf := cfR) (key := fun x => x.left) (idx := fun x => x.i) (fun x y => by unfold cfR; exact cmp3_lt' _ _) (rsF n l.sum l) (by
    rw [List.pairwise_iff_getElem]
    intro i j hi hj hij
    have a1 := (rsF_at (List.getElem?_eq_getElem hi)).1
    have a2 := (rsF_at (List.getElem?_eq_getElem hj)).1
    omega)
  have hp := isort_perm cfR (rsF n l.sum l)
  have hm : ∀ x ∈ isort cfR (rsF n l.sum l), ∃ k p, x.i = (k : Nat) ∧ l[k]? = some p ∧ x.left = n * p % l.sum := by
    intro x hx
    obtain ⟨k, hk, rfl⟩ := List.getElem_of_mem (hp.mem_iff.1 hx)
    obtain ⟨h1, p, h2, h3⟩ := rsF_at (List.getElem?_eq_getElem hk)
    exact ⟨k, p, h1, h2, h3⟩
  have hlen : (isort cfR (rsF n l.sum l)).length = l.length := by rw [hp.length_eq, rsF_len]
  have hg : ∀ k p, l[k]? = some p → (l.map fun p => n * p % l.sum).getD k 0 = n * p % l.sum := by
    intro k p h; rw [List.getD_eq_getElem?_getD, List.getElem?_map, h]; rfl
  unfold divideF handF
  rw [e1, e2, incs_incP, List.map_take]
  have : n - (qsF n l.sum l).sum = leftF n l.sum l := rfl
  rw [this]
  symm
  refine hand_eq (leftF n l.sum l).toNat ((isort cfR (rsF n l.sum l)).map fun x => x.i.toNat) (qsF n l.sum l) _ ?_ ?_ ?_ ?_ (by rw [List.length_map, hlen]; omega)
  · rw [List.Nodup, List.pairwise_map]
    refine hb.imp_of_mem ?_
    intro x y hx hy h e
    obtain ⟨i, p, h1, h2, h3⟩ := hm x hx
    obtain ⟨j, q, h4, h5, h6⟩ := hm y hy
    have : i = j := by omega
    subst this
    rw [h2] at h5; cases h5
    simp only [Bef] at h; omega
  · intro k hk
    obtain ⟨x, hx, rfl⟩ := List.mem_map.1 hk
    obtain ⟨i, p, h1, h2, h3⟩ := hm x hx
    have hi := (List.getElem?_eq_some_iff.1 h2).1
    have hk : x.i.toNat = i := by omega
    rw [hk, hg i p h2, List.length_map]
    exact ⟨hi, Int.emod_nonneg _ (by omega)⟩
  · intro k hk hn
    refine absurd ?_ hn
    rw [List.length_map] at hk
    obtain ⟨x, hx⟩ : ∃ x, (rsF n l.sum l)[k]? = some x := ⟨_, List.getElem?_eq_getElem (by rw [rsF_len]; exact hk)⟩
    have := (rsF_at hx).1
    exact List.mem_map.2 ⟨x, hp.mem_iff.2 (List.mem_of_getElem? hx), by omega⟩
  · rw [List.pairwise_map]
    refine hb.imp_of_mem ?_
    intro x y hx hy h
    obtain ⟨i, p, h1, h2, h3⟩ := hm x hx
    obtain ⟨j, q, h4, h5, h6⟩ := hm y hy
    have e3 : x.i.toNat = i := by omega
    have e4 : y.i.toNat = j := by omega
    simp only [Bef] at h ⊢
    rw [e3, e4, hg i p h2, hg j q h5, ← h3, ← h6]
    omega
theorem p23 {G0 : GH} {n : Int} {v : Value} {l : List Int} (hv : RSl Rp.int G0 v l) (hlen : l.length ≤ 1000000000) : Pure Tryd.prog G0 23 [V n, v] (V (divideE n l)) := by
  intro G hG; replace hv := hv.le hG
  clear hG G0
  refine enter Tryd.func23 31 #[.tmp 4] rfl Tryd.ntmps23 rfl (by decide +kernel) rfl ?_
  obtain ⟨a, c, rfl⟩ := hv.val
  cases hn : within n 0 1000000000
  · have e : divideE n l = 1 := by simp [divideE, hn]
    simp (maxDischargeDepth := 9) only [↓gB, gV, gT, reduceIte, reduceCtorEq, Nat.reduceEqDiff, Nat.reduceAdd, Nat.reduceSub, Nat.reduceLeDiff, Nat.reduceLT, Int.reduceEq, Nat.reduceMul, hn, e]
    refine Ycp (p39) ?_
    simp (maxDischargeDepth := 9) only [↓gB, gV, gT, reduceIte, reduceCtorEq, Nat.reduceEqDiff, Nat.reduceAdd, Nat.reduceSub, Nat.reduceLeDiff, Nat.reduceLT, Int.reduceEq, Nat.reduceMul, hn, e]
    exact Kup_val (le_refl _) rfl
  · have hnb := within_iff.1 hn
    simp (maxDischargeDepth := 9) only [↓gB, gV, gT, reduceIte, reduceCtorEq, Nat.reduceEqDiff, Nat.reduceAdd, Nat.reduceSub, Nat.reduceLeDiff, Nat.reduceLT, Int.reduceEq, Nat.reduceMul, hn]
    refine Ycp (p39) ?_
    simp (maxDischargeDepth := 9) only [↓gB, gV, gT, reduceIte, reduceCtorEq, Nat.reduceEqDiff, Nat.reduceAdd, Nat.reduceSub, Nat.reduceLeDiff, Nat.reduceLT, Int.reduceEq, Nat.reduceMul, hn]
    refine Xc_split _ _ _ _ _ (fun c0 => ?_) (fun c0 => ?_)
    · have e : divideE n l = 2 := by simp [divideE, hn, show 1000 < l.length by omega]
      simp (maxDischargeDepth := 9) only [↓gB, gV, gT, reduceIte, reduceCtorEq, Nat.reduceEqDiff, Nat.reduceAdd, Nat.reduceSub, Nat.reduceLeDiff, Nat.reduceLT, Int.reduceEq, Nat.reduceMul, hn, c0, e]
      exact Kup_val (le_refl _) rfl
    · simp (maxDischargeDepth := 9) only [↓gB, gV, gT, reduceIte, reduceCtorEq, Nat.reduceEqDiff, Nat.reduceAdd, Nat.reduceSub, Nat.reduceLeDiff, Nat.reduceLT, Int.reduceEq, Nat.reduceMul, hn, c0]
      focus
        refine Xloop_intro _ _ _ _ _ (fun k f G' => ∃ (i : Nat), k = l.length - i ∧ (i ≤ l.length) ∧ (partsOk (l.take i) = true) ∧ (G = G') ∧ f 18 = V i ∧ f 5 = V (l.take i).sum ∧ f 16 = Go.Value.slice a l.length c ∧ f 17 = Go.Value.int Go.IntKind.i64 ↑l.length) _ ⟨0, rfl, ?_, ?_, rfl, by simp (maxDischargeDepth := 9) only [↓gB, gV, gT, reduceIte, reduceCtorEq, Nat.reduceEqDiff, Nat.reduceAdd, Nat.reduceSub, Nat.reduceLeDiff, Nat.reduceLT, Int.reduceEq, Nat.reduceMul, hn, c0, List.sum_nil, and_self]⟩ ?_
        · omega
        · rfl
        rintro k f G' ⟨i, rfl, hi, hp, rfl, f18, f5, f16, f17⟩
      have hb := sum_b (parts_b hp)
      have hlt : (l.take i).length ≤ i := by rw [List.length_take]; omega
      simp (maxDischargeDepth := 9) only [↓gB, gV, gT, reduceIte, reduceCtorEq, Nat.reduceEqDiff, Nat.reduceAdd, Nat.reduceSub, Nat.reduceLeDiff, Nat.reduceLT, Int.reduceEq, Nat.reduceMul, hn, c0, hp, f18, f5, f16, f17]
      refine Xc_split _ _ _ _ _ (fun c1 => ?_) (fun c1 => ?_)
      · obtain ⟨x, hx⟩ : ∃ x, l[i]? = some x := ⟨_, List.getElem?_eq_getElem (by omega)⟩
        have hst := sum_take hx
        simp (maxDischargeDepth := 9) only [↓gB, gV, gT, reduceIte, reduceCtorEq, Nat.reduceEqDiff, Nat.reduceAdd, Nat.reduceSub, Nat.reduceLeDiff, Nat.reduceLT, Int.reduceEq, Nat.reduceMul, hn, c0, hp, f18, f5, f16, f17, c1]
        obtain ⟨x1, a1, s1, m1, rfl, ⟨rfl, w1⟩, e1⟩ := hv.at1 (i) (by omega) rfl
        simp (maxDischargeDepth := 9) only [↓gB, gV, gT, reduceIte, reduceCtorEq, Nat.reduceEqDiff, Nat.reduceAdd, Nat.reduceSub, Nat.reduceLeDiff, Nat.reduceLT, Int.reduceEq, Nat.reduceMul, hn, c0, hp, f18, f5, f17, c1, f16, e1]
        refine vguard_intro (by simp) ?_
        refine Ycp (p39) ?_
        simp (maxDischargeDepth := 9) only [↓gB, gV, gT, reduceIte, reduceCtorEq, Nat.reduceEqDiff, Nat.reduceAdd, Nat.reduceSub, Nat.reduceLeDiff, Nat.reduceLT, Int.reduceEq, Nat.reduceMul, hn, c0, hp, f18, f5, f17, c1, f16, e1]
        obtain rfl : x = x1 := by rw [hx] at m1; cases m1; rfl
        cases hxw : within x 0 1000000000
        · have e : divideE n l = 1 := by
            have : partsOk l = false := by
              unfold partsOk; rw [List.all_eq_false]; exact ⟨x, List.mem_of_getElem? hx, by simp [hxw]⟩
            have h0 : ¬ 1000 < l.length := by omega
            simp [divideE, hn, this, h0]
          simp (maxDischargeDepth := 9) only [↓gB, gV, gT, reduceIte, reduceCtorEq, Nat.reduceEqDiff, Nat.reduceAdd, Nat.reduceSub, Nat.reduceLeDiff, Nat.reduceLT, Int.reduceEq, Nat.reduceMul, hn, c0, hp, f18, f5, f17, c1, f16, e1, hxw, e]
          exact Kup_val (le_refl _) rfl
        · have hxb := within_iff.1 hxw
          have hp' : partsOk (l.take (i + 1)) = true := by unfold partsOk at *; rw [take_at hx, List.all_append, hp]; simp [hxw]
          focus
            simp (maxDischargeDepth := 9) only [↓gB, gV, gT, reduceIte, reduceCtorEq, Nat.reduceEqDiff, Nat.reduceAdd, Nat.reduceSub, Nat.reduceLeDiff, Nat.reduceLT, Int.reduceEq, Nat.reduceMul, hn, c0, hp, f18, f5, f17, c1, f16, e1, hxw, hp', hst]
            have q1 : Go.IntKind.i64.wrap ((List.take i l).sum + x) = (List.take i l).sum + x := wrap_id (by omega)
            simp (maxDischargeDepth := 9) only [↓gB, gV, gT, reduceIte, reduceCtorEq, Nat.reduceEqDiff, Nat.reduceAdd, Nat.reduceSub, Nat.reduceLeDiff, Nat.reduceLT, Int.reduceEq, Nat.reduceMul, hn, c0, hp, f18, f5, f17, c1, f16, e1, hxw, hp', q1, hst]
            have q2 : Go.IntKind.i64.wrap (↑i + 1) = ↑i + 1 := wrap_id (by omega)
            simp (maxDischargeDepth := 9) only [↓gB, gV, gT, reduceIte, reduceCtorEq, Nat.reduceEqDiff, Nat.reduceAdd, Nat.reduceSub, Nat.reduceLeDiff, Nat.reduceLT, Int.reduceEq, Nat.reduceMul, hn, c0, hp, f18, f5, f17, c1, f16, e1, hxw, hp', q1, q2, hst]
            rw [N_lp]
            refine ⟨_, ?_, _, ?_, i + 1, rfl, ?_, ?_, rfl, by simp (maxDischargeDepth := 9) only [↓gB, gV, gT, reduceIte, reduceCtorEq, Nat.reduceEqDiff, Nat.reduceAdd, Nat.reduceSub, Nat.reduceLeDiff, Nat.reduceLT, Int.reduceEq, Nat.reduceMul, hn, c0, hp, f18, f5, f17, c1, f16, e1, hxw, hp', q1, q2, hst, nat_succ, and_self]⟩
            · omega
            · exact sub_refl _
            · omega
            · assumption
      · have e2 : l.take i = l := List.take_of_length_le (by omega)
        rw [e2] at hp f5 hb
        have h0 : ¬ 1000 < l.length := by omega
        by_cases c2 : l.sum = 0
        · have e : divideE n l = 8 := by simp [divideE, hn, hp, c2, h0]
          simp (maxDischargeDepth := 9) only [↓gB, gV, gT, reduceIte, reduceCtorEq, Nat.reduceEqDiff, Nat.reduceAdd, Nat.reduceSub, Nat.reduceLeDiff, Nat.reduceLT, Int.reduceEq, Nat.reduceMul, hn, c0, hp, f18, f5, f16, f17, c1, c2, e]
          exact Kup_val (le_refl _) rfl
        · have e : divideE n l = 0 := by simp [divideE, hn, hp, c2, h0]
          simp (maxDischargeDepth := 9) only [↓gB, gV, gT, reduceIte, reduceCtorEq, Nat.reduceEqDiff, Nat.reduceAdd, Nat.reduceSub, Nat.reduceLeDiff, Nat.reduceLT, Int.reduceEq, Nat.reduceMul, hn, c0, hp, f18, f5, f16, f17, c1, c2, e]
          exact Kup_val (le_refl _) rfl
theorem divE_ok {n : Int} {l : List Int} (h : divideE n l = 0) : (0 ≤ n ∧ n ≤ 1000000000) ∧ l.length ≤ 1000 ∧ partsOk l = true ∧ l.sum ≠ 0 := by
  unfold divideE at h
  split at h
  · cases h
  split at h
  · cases h
  split at h
  · cases h
  split at h
  · cases h
  rename_i h1 h2 h3 h4
  exact ⟨within_iff.1 (by simpa using h1), by omega, by simpa using h3, h4⟩
theorem g25 {G0 : GH} {n : Int} {v : Value} {l : List Int} (hv : RSl Rp.int G0 v l) (he : divideE n l = 0) : Gives Tryd.prog G0 25 [V n, v] (fun u G' => RSl Rp.int G' u (divideF n l)) := by
  intro G hG; replace hv := hv.le hG
  clear hG G0
  refine enter Tryd.func25 33 #[.tmp 4] rfl Tryd.ntmps25 rfl (by decide +kernel) rfl ?_
  obtain ⟨a, c, rfl⟩ := hv.val
  obtain ⟨hnb, hl, hpo, hs0⟩ := divE_ok he
  have hpb := parts_b hpo
  have hsb := sum_b hpb
  have hs : 0 < l.sum := by omega
  have hdh := divide_hand (n := n) hs
  have hnq : ∀ x ∈ l.map (n * ·), 0 ≤ x ∧ x ≤ 1000000000000000000 := by
    intro x hx
    obtain ⟨p, hp, rfl⟩ := List.mem_map.1 hx
    have := hpb p hp
    have h1 : 0 ≤ n * p := Int.mul_nonneg hnb.1 this.1
    have h2 : n * p ≤ 1000000000 * 1000000000 := Int.mul_le_mul hnb.2 this.2 this.1 (by omega)
    omega
  have hqq : ∀ q ∈ (l.map (n * ·)).map (· / l.sum), -2000000000000 ≤ q ∧ q ≤ 2000000000000 := by
    intro q hq
    rw [List.map_map] at hq
    have hmx := sum_le_take hpb
    have := qs_b hnb.1 hnb.2 hs (l := l) (fun p hp => ⟨(hpb p hp).1, hmx p hp⟩) q hq
    omega
  simp (maxDischargeDepth := 9) only [↓gB, gV, gT, reduceIte, reduceCtorEq, Nat.reduceEqDiff, Nat.reduceAdd, Nat.reduceSub, Nat.reduceLeDiff, Nat.reduceLT, Int.reduceEq, Nat.reduceMul, hpo]
  refine Yms_row sl23 (ρ := Rp.int) (x0 := (0 : Int)) zv3 (fun _ => ⟨rfl, by unfold i64; omega⟩) (by omega) fun ad1 G1 h1 l1 wm1 => ?_
  replace hv := RSl.le hv l1
  simp (maxDischargeDepth := 9) only [↓gB, gV, gT, reduceIte, reduceCtorEq, Nat.reduceEqDiff, Nat.reduceAdd, Nat.reduceSub, Nat.reduceLeDiff, Nat.reduceLT, Int.reduceEq, Nat.reduceMul, hpo, h1]
  focus
    refine Xloop_intro _ _ _ _ _ (fun k f G' => ∃ (i : Nat), k = l.length - i ∧ (i ≤ l.length) ∧ (G.le G') ∧ (RSl Rp.int G' (.slice a l.length c) l) ∧ (Row Rp.int 3 G G' (.slice (some ad1) l.length l.length) (fillL ((l.take i).map (n * ·)) l.length 0)) ∧ f 14 = V i ∧ f 6 = V (l.take i).sum ∧ f 0 = Go.GL.V n ∧ f 5 = Go.Value.slice (Option.some ad1) l.length l.length ∧ f 12 = Go.Value.slice a l.length c ∧ f 13 = Go.Value.int Go.IntKind.i64 ↑l.length) _ ⟨0, rfl, ?_, ?_, ?_, ?_, by simp (maxDischargeDepth := 9) only [↓gB, gV, gT, reduceIte, reduceCtorEq, Nat.reduceEqDiff, Nat.reduceAdd, Nat.reduceSub, Nat.reduceLeDiff, Nat.reduceLT, Int.reduceEq, Nat.reduceMul, hpo, h1, List.sum_nil, and_self]⟩ ?_
    · omega
    · assumption
    · assumption
    · assumption
    rintro k f G' ⟨i, rfl, hi, hle, hv, ho, f14, f6, f0, f5, f12, f13⟩
  have hb := sum_b (fun p (hp : p ∈ l.take i) => hpb p (List.mem_of_mem_take hp))
  have hlt : (l.take i).length ≤ i := by rw [List.length_take]; omega
  simp (maxDischargeDepth := 9) only [↓gB, gV, gT, reduceIte, reduceCtorEq, Nat.reduceEqDiff, Nat.reduceAdd, Nat.reduceSub, Nat.reduceLeDiff, Nat.reduceLT, Int.reduceEq, Nat.reduceMul, hpo, h1, f14, f6, f0, f5, f12, f13]
  refine Xc_split _ _ _ _ _ (fun c1 => ?_) (fun c1 => ?_)
  · obtain ⟨p, help⟩ : ∃ p, l[i]? = some p := ⟨_, List.getElem?_eq_getElem (by omega)⟩
    have hpp := hpb p (List.mem_of_getElem? help)
    have hnp := hnq (n * p) (List.mem_map.2 ⟨p, List.mem_of_getElem? help, rfl⟩)
    have hst := sum_take help
    have hsl := map_take_len (l := l) (f := fun x : Int => n * x) hi
    have hol := fill_len (n := l.length) (z := (0 : Int)) (l := (l.take i).map (n * ·)) (by omega)
    have fs1 := fill_set (y := n * p) (z := (0 : Int)) hsl (show i < l.length by omega)
    rw [← map_s (f := fun x : Int => n * x) help] at fs1
    focus
      simp (maxDischargeDepth := 9) only [↓gB, gV, gT, reduceIte, reduceCtorEq, Nat.reduceEqDiff, Nat.reduceAdd, Nat.reduceSub, Nat.reduceLeDiff, Nat.reduceLT, Int.reduceEq, Nat.reduceMul, hpo, h1, f14, f6, f0, f5, f12, f13, c1, hst]
      obtain ⟨x1, a1, s1, m1, rfl, ⟨rfl, w1⟩, e1⟩ := hv.at1 (i) (by omega) rfl
      obtain rfl := el_eq help m1
      simp (maxDischargeDepth := 9) only [↓gB, gV, gT, reduceIte, reduceCtorEq, Nat.reduceEqDiff, Nat.reduceAdd, Nat.reduceSub, Nat.reduceLeDiff, Nat.reduceLT, Int.reduceEq, Nat.reduceMul, hpo, h1, f14, f6, f0, f5, f13, c1, f12, e1, hst]
      refine vguard_intro (by simp) ?_
      refine vguard_intro (by simp) ?_
      have q1 : Go.IntKind.i64.wrap (n * p) = n * p := wrap_id (by omega)
      simp (maxDischargeDepth := 9) only [↓gB, gV, gT, reduceIte, reduceCtorEq, Nat.reduceEqDiff, Nat.reduceAdd, Nat.reduceSub, Nat.reduceLeDiff, Nat.reduceLT, Int.reduceEq, Nat.reduceMul, hpo, h1, f14, f6, f0, f5, f13, c1, f12, e1, q1, hst]
      refine Yrow1 ho rfl (by first | omega | (simp only [List.length_set]; omega)) (fun _ _ => ⟨rfl, (by first | assumption | (unfold i64 at *; omega))⟩) fun G2 w2 i2 k2 kn2 l2 => ?_
      replace hle := l2 hle
      replace hv := RSl.ile hv i2
      simp (maxDischargeDepth := 9) only [↓gB, gV, gT, reduceIte, reduceCtorEq, Nat.reduceEqDiff, Nat.reduceAdd, Nat.reduceSub, Nat.reduceLeDiff, Nat.reduceLT, Int.reduceEq, Nat.reduceMul, hpo, h1, f14, f6, f0, f5, f13, c1, f12, e1, q1, k2, kn2, hst]
      have q2 : Go.IntKind.i64.wrap ((List.take i l).sum + p) = (List.take i l).sum + p := wrap_id (by omega)
      simp (maxDischargeDepth := 9) only [↓gB, gV, gT, reduceIte, reduceCtorEq, Nat.reduceEqDiff, Nat.reduceAdd, Nat.reduceSub, Nat.reduceLeDiff, Nat.reduceLT, Int.reduceEq, Nat.reduceMul, hpo, h1, f14, f6, f0, f5, f13, c1, f12, e1, q1, k2, kn2, q2, hst]
      have q3 : Go.IntKind.i64.wrap (↑i + 1) = ↑i + 1 := wrap_id (by omega)
      simp (maxDischargeDepth := 9) only [↓gB, gV, gT, reduceIte, reduceCtorEq, Nat.reduceEqDiff, Nat.reduceAdd, Nat.reduceSub, Nat.reduceLeDiff, Nat.reduceLT, Int.reduceEq, Nat.reduceMul, hpo, h1, f14, f6, f0, f5, f13, c1, f12, e1, q1, k2, kn2, q2, q3, hst]
      rw [N_lp]
      refine ⟨_, ?_, _, sub_refl _, i + 1, rfl, ?_, ?_, ?_, ?_, by simp (maxDischargeDepth := 9) only [↓gB, gV, gT, reduceIte, reduceCtorEq, Nat.reduceEqDiff, Nat.reduceAdd, Nat.reduceSub, Nat.reduceLeDiff, Nat.reduceLT, Int.reduceEq, Nat.reduceMul, hpo, h1, f14, f6, f0, f5, f13, c1, f12, e1, q1, k2, kn2, q2, q3, hst, nat_succ, and_self]⟩
      · omega
      · omega
      · assumption
      · assumption
      · ((rw [← fs1]; assumption); done)
  · have e2 : l.take i = l := List.take_of_length_le (by omega)
    rw [e2] at ho f6
    rw [fill_done (by simp)] at ho
    have hnl : (l.map (n * ·)).length = l.length := by simp
    obtain ⟨G2, hs2, hn2, hk2, hl2⟩ := ho.freeze
    simp (maxDischargeDepth := 9) only [↓gB, gV, gT, reduceIte, reduceCtorEq, Nat.reduceEqDiff, Nat.reduceAdd, Nat.reduceSub, Nat.reduceLeDiff, Nat.reduceLT, Int.reduceEq, Nat.reduceMul, hpo, h1, f14, f6, f0, f5, f12, f13, c1, hk2]
    refine Ycsub hs2 ?_
    replace hle := hl2 hle
    replace hv := RSl.ile hv (ho.ileOf hk2)
    have hne : l.map (n * ·) = [] → n ≤ 0 := by
      intro h0
      have : l = [] := by simpa using h0
      subst this; simp at hs0
    have hnx : ∀ x ∈ l.map (n * ·), -4000000000000000000 ≤ x ∧ x ≤ 4000000000000000000 := fun x hx => by have := hnq x hx; omega
    rw [hdh]
    refine Ycg (g40 (by assumption) (by assumption) (by omega) (by assumption) (by omega) (by assumption) (by assumption) (by assumption)) ?_ ?_
    · exact upRSl _ _
    intro u3 G3 l3 w3
    replace hn2 := RSl.le hn2 l3
    replace hle := GH.le.trans hle l3
    replace hv := RSl.le hv l3
    obtain ⟨aw3, cw3, rfl⟩ := RSl.val w3
    simp (maxDischargeDepth := 9) only [↓gB, gV, gT, reduceIte, reduceCtorEq, Nat.reduceEqDiff, Nat.reduceAdd, Nat.reduceSub, Nat.reduceLeDiff, Nat.reduceLT, Int.reduceEq, Nat.reduceMul, hpo, h1, f14, f6, f0, f5, f12, f13, c1, hk2]
    exact Kup_gives (sub_refl _) (by assumption) (by assumption)
end Go.Proofs.YtdepecjjahodjaaDoor
namespace Go.Proofs.YtdepecjjahodjaaDoor
open Go Go.GL
attribute [local irreducible] Ycall GCalls
set_option maxRecDepth 10000
set_option maxHeartbeats 0
structure SLeg where
  Rides : List ByteArray
  Cents : Int
deriving DecidableEq
def rLeg : Rp SLeg where
  sz := 2
  R G x cs := ∃ v0, cs = [v0, .int .i64 x.Cents] ∧ RSl Rp.str G v0 x.Rides
  len := by rintro G x cs ⟨v0, rfl, h0⟩; rfl
  ile := by rintro G G' x cs hl ⟨v0, rfl, h0⟩; exact ⟨v0, rfl, h0.ile hl⟩
  one := by rintro G x cs ⟨v0, rfl, h0⟩; obtain ⟨a0, c0, rfl⟩ := h0.val; rfl
def legBad (q : Option SLeg) (x : SLeg) : Int := if x.Rides = [] then 8 else if ¬ keysE 10 x.Rides = 0 then keysE 10 x.Rides else if within x.Cents 0 1000000000 = false then 1 else 0
def legsE (l : List SLeg) : Int := if 2000 < l.length then 2 else chk legBad none l
theorem lg8 {q : Option SLeg} {x : SLeg} (h : x.Rides.length = 0) : legBad q x = 8 := by unfold legBad; rw [if_pos (List.length_eq_zero_iff.1 h)]
theorem lgk {q : Option SLeg} {x : SLeg} (h : ¬ x.Rides.length = 0) (h2 : ¬ keysE 10 x.Rides = 0) : legBad q x = keysE 10 x.Rides := by
  unfold legBad; rw [if_neg (fun e => h (by rw [e]; rfl)), if_pos h2]
theorem lg1 {q : Option SLeg} {x : SLeg} (h : ¬ x.Rides.length = 0) (h2 : keysE 10 x.Rides = 0) (h3 : within x.Cents 0 1000000000 = false) : legBad q x = 1 := by
  unfold legBad; rw [if_neg (fun e => h (by rw [e]; rfl)), if_neg (by simpa using h2), if_pos h3]
theorem lg0 {q : Option SLeg} {x : SLeg} (h : ¬ x.Rides.length = 0) (h2 : keysE 10 x.Rides = 0) (h3 : within x.Cents 0 1000000000 = true) : legBad q x = 0 := by
  unfold legBad; rw [if_neg (fun e => h (by rw [e]; rfl)), if_neg (by simpa using h2), if_neg (by simp [h3])]
theorem p27 {G0 : GH} {v : Value} {l : List SLeg} (hv : RSl rLeg G0 v l) (hn : l.length ≤ 1000000000) (hr : ∀ x ∈ l, x.Rides.length ≤ 1000000000) : Pure Tryd.prog G0 27 [v] (V (legsE l)) := by
  intro G hG; replace hv := hv.le hG
  clear hG G0
  refine enter Tryd.func27 29 #[.tmp 2] rfl Tryd.ntmps27 rfl (by decide +kernel) rfl ?_
  obtain ⟨a, c, rfl⟩ := hv.val
  simp (maxDischargeDepth := 9) only [↓gB, gV, gT, reduceIte, reduceCtorEq, Nat.reduceEqDiff, Nat.reduceAdd, Nat.reduceSub, Nat.reduceLeDiff, Nat.reduceLT, Int.reduceEq, Nat.reduceMul]
  refine Xc_split _ _ _ _ _ (fun c0 => ?_) (fun c0 => ?_)
  · have e : legsE l = 2 := if_pos (by omega)
    simp (maxDischargeDepth := 9) only [↓gB, gV, gT, reduceIte, reduceCtorEq, Nat.reduceEqDiff, Nat.reduceAdd, Nat.reduceSub, Nat.reduceLeDiff, Nat.reduceLT, Int.reduceEq, Nat.reduceMul, c0, e]
    exact Kup_val (le_refl _) rfl
  · have e : legsE l = chk legBad none l := if_neg (by omega)
    rw [e]
    simp (maxDischargeDepth := 9) only [↓gB, gV, gT, reduceIte, reduceCtorEq, Nat.reduceEqDiff, Nat.reduceAdd, Nat.reduceSub, Nat.reduceLeDiff, Nat.reduceLT, Int.reduceEq, Nat.reduceMul, c0]
    focus
      refine Xloop_intro _ _ _ _ _ (fun k f G' => ∃ (i : Nat), k = l.length - i ∧ (i ≤ l.length) ∧ (chk legBad none l = chk legBad (prevOf l i) (l.drop i)) ∧ (RSl rLeg G' (.slice a l.length c) l) ∧ (G.le G') ∧ f 11 = V i ∧ f 9 = Go.Value.slice a l.length c ∧ f 10 = Go.Value.int Go.IntKind.i64 ↑l.length) _ ⟨0, rfl, ?_, ?_, ?_, ?_, by simp (maxDischargeDepth := 9) only [↓gB, gV, gT, reduceIte, reduceCtorEq, Nat.reduceEqDiff, Nat.reduceAdd, Nat.reduceSub, Nat.reduceLeDiff, Nat.reduceLT, Int.reduceEq, Nat.reduceMul, c0, and_self]⟩ ?_
      · omega
      · rfl
      · assumption
      · exact le_refl _
      rintro k f G' ⟨i, rfl, hi, h, hv, hle, f11, f9, f10⟩
    simp (maxDischargeDepth := 9) only [↓gB, gV, gT, reduceIte, reduceCtorEq, Nat.reduceEqDiff, Nat.reduceAdd, Nat.reduceSub, Nat.reduceLeDiff, Nat.reduceLT, Int.reduceEq, Nat.reduceMul, c0, f11, f9, f10]
    refine Xc_split _ _ _ _ _ (fun c1 => ?_) (fun c1 => ?_)
    · obtain ⟨x, helx⟩ : ∃ x, l[i]? = some x := ⟨_, List.getElem?_eq_getElem (by omega)⟩
      have hxr := hr x (List.mem_of_getElem? helx)
      by_cases h0 : x.Rides.length = 0
      · have ee := chk_bad h helx (lg8 h0) (by decide)
        simp (maxDischargeDepth := 9) only [↓gB, gV, gT, reduceIte, reduceCtorEq, Nat.reduceEqDiff, Nat.reduceAdd, Nat.reduceSub, Nat.reduceLeDiff, Nat.reduceLT, Int.reduceEq, Nat.reduceMul, c0, f11, f9, f10, c1, h0, ee]
        obtain ⟨x1, a1, s1, m1, rfl, ⟨v1, rfl, w1⟩, e1⟩ := hv.at (i) (by omega) 2 rfl
        obtain rfl := el_eq helx m1
        obtain ⟨aw1, cw1, rfl⟩ := RSl.val w1
        simp (maxDischargeDepth := 9) only [↓gB, gV, gT, reduceIte, reduceCtorEq, Nat.reduceEqDiff, Nat.reduceAdd, Nat.reduceSub, Nat.reduceLeDiff, Nat.reduceLT, Int.reduceEq, Nat.reduceMul, c0, f11, f10, c1, f9, e1, h0, ee]
        refine vguard_intro (by simp) ?_
        refine Yn2 fun r1 h1 => ?_
        simp (maxDischargeDepth := 9) only [↓gB, gV, gT, reduceIte, reduceCtorEq, Nat.reduceEqDiff, Nat.reduceAdd, Nat.reduceSub, Nat.reduceLeDiff, Nat.reduceLT, Int.reduceEq, Nat.reduceMul, c0, f11, f10, c1, f9, e1, h1, h0, ee]
        exact Kup_val (by simp (maxDischargeDepth := 9) only [le_self, le_puts, le_put0, hle, h1]) rfl
      · have h0' : ¬ (x.Rides.length : Int) = 0 := by omega
        by_cases hk : keysE 10 x.Rides = 0
        · cases hw : within x.Cents 0 1000000000
          · have ee := chk_bad h helx (lg1 h0 hk hw) (by decide)
            simp (maxDischargeDepth := 9) only [↓gB, gV, gT, reduceIte, reduceCtorEq, Nat.reduceEqDiff, Nat.reduceAdd, Nat.reduceSub, Nat.reduceLeDiff, Nat.reduceLT, Int.reduceEq, Nat.reduceMul, c0, f11, f9, f10, c1, hw, h0', hk, ee]
            obtain ⟨x1, a1, s1, m1, rfl, ⟨v1, rfl, w1⟩, e1⟩ := hv.at (i) (by omega) 2 rfl
            obtain rfl := el_eq helx m1
            obtain ⟨aw1, cw1, rfl⟩ := RSl.val w1
            simp (maxDischargeDepth := 9) only [↓gB, gV, gT, reduceIte, reduceCtorEq, Nat.reduceEqDiff, Nat.reduceAdd, Nat.reduceSub, Nat.reduceLeDiff, Nat.reduceLT, Int.reduceEq, Nat.reduceMul, c0, f11, f10, c1, hw, f9, e1, h0', hk, ee]
            refine vguard_intro (by simp) ?_
            refine Yn2 fun r1 h1 => ?_
            simp (maxDischargeDepth := 9) only [↓gB, gV, gT, reduceIte, reduceCtorEq, Nat.reduceEqDiff, Nat.reduceAdd, Nat.reduceSub, Nat.reduceLeDiff, Nat.reduceLT, Int.reduceEq, Nat.reduceMul, c0, f11, f10, c1, hw, f9, e1, h1, h0', hk, ee]
            refine Ycp (p49 (by exact RSl.put _ (by assumption) (by assumption)) (by omega)) ?_
            simp (maxDischargeDepth := 9) only [↓gB, gV, gT, reduceIte, reduceCtorEq, Nat.reduceEqDiff, Nat.reduceAdd, Nat.reduceSub, Nat.reduceLeDiff, Nat.reduceLT, Int.reduceEq, Nat.reduceMul, c0, f11, f10, c1, hw, f9, e1, h1, h0', hk, ee]
            refine Ycp (p45) ?_
            simp (maxDischargeDepth := 9) only [↓gB, gV, gT, reduceIte, reduceCtorEq, Nat.reduceEqDiff, Nat.reduceAdd, Nat.reduceSub, Nat.reduceLeDiff, Nat.reduceLT, Int.reduceEq, Nat.reduceMul, c0, f11, f10, c1, hw, f9, e1, h1, h0', hk, ee]
            exact Kup_val (by simp (maxDischargeDepth := 9) only [le_self, le_puts, le_put0, hle, h1]) rfl
          · have ee := chk_next h helx (lg0 h0 hk hw)
            focus
              simp (maxDischargeDepth := 9) only [↓gB, gV, gT, reduceIte, reduceCtorEq, Nat.reduceEqDiff, Nat.reduceAdd, Nat.reduceSub, Nat.reduceLeDiff, Nat.reduceLT, Int.reduceEq, Nat.reduceMul, c0, f11, f9, f10, c1, hw, h0', hk]
              obtain ⟨x1, a1, s1, m1, rfl, ⟨v1, rfl, w1⟩, e1⟩ := hv.at (i) (by omega) 2 rfl
              obtain rfl := el_eq helx m1
              obtain ⟨aw1, cw1, rfl⟩ := RSl.val w1
              simp (maxDischargeDepth := 9) only [↓gB, gV, gT, reduceIte, reduceCtorEq, Nat.reduceEqDiff, Nat.reduceAdd, Nat.reduceSub, Nat.reduceLeDiff, Nat.reduceLT, Int.reduceEq, Nat.reduceMul, c0, f11, f10, c1, hw, f9, e1, h0', hk]
              refine vguard_intro (by simp) ?_
              refine Yn2 fun r1 h1 => ?_
              simp (maxDischargeDepth := 9) only [↓gB, gV, gT, reduceIte, reduceCtorEq, Nat.reduceEqDiff, Nat.reduceAdd, Nat.reduceSub, Nat.reduceLeDiff, Nat.reduceLT, Int.reduceEq, Nat.reduceMul, c0, f11, f10, c1, hw, f9, e1, h1, h0', hk]
              refine Ycp (p49 (by exact RSl.put _ (by assumption) (by assumption)) (by omega)) ?_
              simp (maxDischargeDepth := 9) only [↓gB, gV, gT, reduceIte, reduceCtorEq, Nat.reduceEqDiff, Nat.reduceAdd, Nat.reduceSub, Nat.reduceLeDiff, Nat.reduceLT, Int.reduceEq, Nat.reduceMul, c0, f11, f10, c1, hw, f9, e1, h1, h0', hk]
              refine Ycp (p45) ?_
              simp (maxDischargeDepth := 9) only [↓gB, gV, gT, reduceIte, reduceCtorEq, Nat.reduceEqDiff, Nat.reduceAdd, Nat.reduceSub, Nat.reduceLeDiff, Nat.reduceLT, Int.reduceEq, Nat.reduceMul, c0, f11, f10, c1, hw, f9, e1, h1, h0', hk]
              have q1 : Go.IntKind.i64.wrap (↑i + 1) = ↑i + 1 := wrap_id (by omega)
              simp (maxDischargeDepth := 9) only [↓gB, gV, gT, reduceIte, reduceCtorEq, Nat.reduceEqDiff, Nat.reduceAdd, Nat.reduceSub, Nat.reduceLeDiff, Nat.reduceLT, Int.reduceEq, Nat.reduceMul, c0, f11, f10, c1, hw, f9, e1, h1, q1, h0', hk]
              rw [N_lp]
              refine ⟨_, ?_, _, sub_refl _, i + 1, rfl, ?_, ?_, ?_, ?_, by simp (maxDischargeDepth := 9) only [↓gB, gV, gT, reduceIte, reduceCtorEq, Nat.reduceEqDiff, Nat.reduceAdd, Nat.reduceSub, Nat.reduceLeDiff, Nat.reduceLT, Int.reduceEq, Nat.reduceMul, c0, f11, f10, c1, hw, f9, e1, h1, q1, h0', hk, nat_succ, and_self]⟩
              · omega
              · omega
              · assumption
              · exact RSl.put _ (by assumption) (by assumption)
              · (simp (maxDischargeDepth := 9) only [le_self, le_puts, le_put0, sub_self, sub_puts, sub_put0, hle, h1]; done)
        · have ee := chk_bad h helx (lgk h0 hk) hk
          simp (maxDischargeDepth := 9) only [↓gB, gV, gT, reduceIte, reduceCtorEq, Nat.reduceEqDiff, Nat.reduceAdd, Nat.reduceSub, Nat.reduceLeDiff, Nat.reduceLT, Int.reduceEq, Nat.reduceMul, c0, f11, f9, f10, c1, h0', hk, ee]
          obtain ⟨x1, a1, s1, m1, rfl, ⟨v1, rfl, w1⟩, e1⟩ := hv.at (i) (by omega) 2 rfl
          obtain rfl := el_eq helx m1
          obtain ⟨aw1, cw1, rfl⟩ := RSl.val w1
          simp (maxDischargeDepth := 9) only [↓gB, gV, gT, reduceIte, reduceCtorEq, Nat.reduceEqDiff, Nat.reduceAdd, Nat.reduceSub, Nat.reduceLeDiff, Nat.reduceLT, Int.reduceEq, Nat.reduceMul, c0, f11, f10, c1, f9, e1, h0', hk, ee]
          refine vguard_intro (by simp) ?_
          refine Yn2 fun r1 h1 => ?_
          simp (maxDischargeDepth := 9) only [↓gB, gV, gT, reduceIte, reduceCtorEq, Nat.reduceEqDiff, Nat.reduceAdd, Nat.reduceSub, Nat.reduceLeDiff, Nat.reduceLT, Int.reduceEq, Nat.reduceMul, c0, f11, f10, c1, f9, e1, h1, h0', hk, ee]
          refine Ycp (p49 (by exact RSl.put _ (by assumption) (by assumption)) (by omega)) ?_
          simp (maxDischargeDepth := 9) only [↓gB, gV, gT, reduceIte, reduceCtorEq, Nat.reduceEqDiff, Nat.reduceAdd, Nat.reduceSub, Nat.reduceLeDiff, Nat.reduceLT, Int.reduceEq, Nat.reduceMul, c0, f11, f10, c1, f9, e1, h1, h0', hk, ee]
          exact Kup_val (by simp (maxDischargeDepth := 9) only [le_self, le_puts, le_put0, hle, h1]) rfl
    · have e0 := chk_end h c1
      simp (maxDischargeDepth := 9) only [↓gB, gV, gT, reduceIte, reduceCtorEq, Nat.reduceEqDiff, Nat.reduceAdd, Nat.reduceSub, Nat.reduceLeDiff, Nat.reduceLT, Int.reduceEq, Nat.reduceMul, c0, f11, f9, f10, c1, e0]
      exact Kup_val (by simp (maxDischargeDepth := 9) only [le_self, le_puts, le_put0, hle]) rfl
end Go.Proofs.YtdepecjjahodjaaDoor
namespace Go.Proofs.YtdepecjjahodjaaDoor
open Go Go.GL
set_option maxRecDepth 10000
set_option maxHeartbeats 0
set_option maxRecDepth 10000
def encDue (x : SDue) : List Value := [.string x.Key, .int .i64 x.Cents]
def dcf (x y : SDue) : Int := sCmp x.Key y.Key
def sortedDue (m : List SDue) : Prop := m.Pairwise (fun x y => ¬ dcf y x < 0)
structure SpecDue (g : Nat) : Prop where
  nilc : ∀ p cap G, GCalls Tryd.prog 67 #[.slice p 0 cap, .func (.func g) #[] #[]] G (fun u G' => u = .tuple #[] ∧ G' = G)
  row : ∀ (l : List SDue), l.length < 4611686018427387904 → ∀ {G : GH} {b cap : Nat} {c : Array Value} {e : TypeId}, G b = some (.cells c e (0, 0), true) → l.length * 2 ≤ c.size → c.toList.take (l.length * 2) = (l.map encDue).flatten →
    GCalls Tryd.prog 67 #[.slice (some ⟨b, 0, none⟩) l.length cap, .func (.func g) #[] #[]] G (fun u G' => u = .tuple #[] ∧ ∃ l' : List SDue, l'.Perm l ∧ sortedDue l' ∧
      ∃ c', c'.size = c.size ∧ c'.toList.take (l.length * 2) = (l'.map encDue).flatten ∧ G' = G.put b (.cells c' e (0, 0), true))
theorem cellsofDue_eq {G : GH} {xs : List SDue} {cs : List Value} (h : Cellsof rDue G xs cs) : cs = (xs.map encDue).flatten := by
  obtain ⟨a, rfl, ha, hr⟩ := h
  congr 1
  apply List.ext_getElem (by simpa using ha)
  intro i h1 h2
  have := hr i xs[i] a[i] (List.getElem?_eq_getElem (by simpa using h2)) (List.getElem?_eq_getElem h1)
  simpa [encDue, rDue] using this
theorem cellsofDue_mk {G : GH} (xs : List SDue) : Cellsof rDue G xs (xs.map encDue).flatten := ⟨xs.map encDue, rfl, by simp, by
  intro i x c hx hc
  rw [List.getElem?_map, hx] at hc
  cases hc; rfl⟩
theorem SpecDue.at {g : Nat} (hS : SpecDue g) {e : TypeId} {G0 G : GH} {v : Value} {xs : List SDue} (hr : Row rDue e G0 G v xs) (hn : xs.length < 4611686018427387904) :
    GCalls Tryd.prog 67 #[v, .func (.func g) #[] #[]] G (fun u G' => u = .tuple #[] ∧ ∃ m : List SDue, m.Perm xs ∧ sortedDue m ∧ Row rDue e G0 G' v m ∧ (G0.le G → G0.le G')) := by
  obtain ⟨cs, hov, hcs⟩ := hr
  have hceq := cellsofDue_eq hcs
  have hov' := hov
  rcases hov.2 with ⟨rfl, h0⟩ | ⟨b, cap, c, rfl, h0, hb, hsz, hnc, htake⟩
  · have := List.eq_nil_of_length_eq_zero h0
    subst this
    refine (hS.nilc _ _ _).mono ?_
    rintro u G' ⟨rfl, rfl⟩
    exact ⟨rfl, [], List.Perm.refl _, List.Pairwise.nil, ⟨cs, hov', hcs⟩, id⟩
  · have hc1 : xs.length * 2 ≤ c.size := by rw [hsz]; exact Nat.mul_le_mul_right _ hnc
    refine (hS.row xs hn hb hc1 (by rw [← hceq]; exact htake)).mono ?_
    rintro u G' ⟨rfl, m, hm, hsrt, c', hsz', htk', rfl⟩
    have hml := hm.length_eq
    refine ⟨rfl, m, hm, hsrt, ⟨(m.map encDue).flatten, ⟨(cellsofDue_mk (G := G) m).len, .inr ⟨b, cap, c', by rw [hml], h0, put_self _ _ _, by rw [hsz', hsz], by omega, by rw [hml]; exact htk'⟩⟩, cellsofDue_mk m⟩, fun hl => le_put_new hl h0 _⟩
instance : Inhabited SDue := ⟨⟨ByteArray.empty, 0⟩⟩
theorem ltOf_dcf (x y : SDue) : ltOf dcf x y = sLt x.Key y.Key := by
  unfold ltOf
  rw [Bool.eq_iff_iff, decide_eq_true_iff]; exact sCmp_lt _ _
theorem swoDue : Go.Sort.SWO (ltOf dcf) where
  irrefl x := by rw [ltOf_dcf]; exact sLt_irrefl _
  trans x y z h1 h2 := by rw [ltOf_dcf] at *; exact sLt_trans h1 h2
  ntrans x y z h1 h2 := by
    rw [ltOf_dcf] at *
    cases h3 : sLt x.Key z.Key with
    | false => rfl
    | true =>
      cases h4 : sLt y.Key x.Key with
      | true => have := sLt_trans h4 h3; rw [this] at h2; cases h2
      | false =>
        have := sLt_tri h1 h4
        rw [← this, h3] at h2; cases h2
theorem specDue (g : Nat) (hg : GL.Enters Tryd.prog g) (hc : ∀ x y G, GCalls Tryd.prog g #[.agg (encDue x).toArray, .agg (encDue y).toArray] G (fun u G' => G.le G' ∧ u = .int .i64 (dcf x y))) : SpecDue g := by
  have eg : ∀ args w, (callFunc g args).run Tryd.prog w = .ok (.enter g args) w := by
    intro args w
    obtain ⟨fn, hf, h1, h2⟩ := hg
    cases hb : fn.body with
    | none => rw [hb] at h2; cases h2
    | some c => exact enters_of hf h1 hb args w
  constructor
  · intro p cap G w0 w hw
    have h := AnyF.slices_SortFunc_none Tryd.sortDue p cap (.func (.func g) #[] #[]) w
    change Calls Tryd.prog 67 _ _ _ at h
    refine h.mono ?_
    rintro e w' ⟨rfl, rfl⟩
    exact ⟨_, G, rfl, hw, rfl, rfl⟩
  · intro l hl G b cap c e hb hcap htake
    have := gsort (P := Tryd.prog) (n := 67) (g := g) (enc := encDue) (k := 2) (cf := dcf) (fun _ => rfl) (fun blk cap d w hcmp hH hblk hsz =>
      AnyQ.slices_SortFunc Tryd.sortDue 2 Tryd.isAgg34 Tryd.sizeOf34 encDue (fun _ => rfl) (fun x v hv => by simp [encDue] at hv; rcases hv with rfl | rfl <;> rfl) dcf swoDue g #[] blk 0 cap d w eg hcmp hH hblk hsz) hc l hl (cap := cap) hb hcap htake
    refine this.mono ?_
    rintro v G' ⟨rfl, l', hp, hs, c', h1, h2, h3⟩
    refine ⟨rfl, l', hp, ?_, c', h1, h2, h3⟩
    refine hs.imp ?_
    intro x y h
    simpa [ltOf] using h
theorem p68 {G0 : GH} {x y : SDue}  : Pure Tryd.prog G0 68 [.agg #[.string x.Key, V x.Cents], .agg #[.string y.Key, V y.Cents]] (V (dcf x y)) := by
  intro G hG
  clear hG G0
  refine enter Tryd.func68 10 #[.tmp 4] rfl Tryd.ntmps68 rfl (by decide +kernel) rfl ?_
  simp (maxDischargeDepth := 9) only [↓gB, gV, gT, reduceIte, reduceCtorEq, Nat.reduceEqDiff, Nat.reduceAdd, Nat.reduceSub, Nat.reduceLeDiff, Nat.reduceLT, Int.reduceEq, Nat.reduceMul, dcf]
  refine Yn2 fun r1 h1 => ?_
  simp (maxDischargeDepth := 9) only [↓gB, gV, gT, reduceIte, reduceCtorEq, Nat.reduceEqDiff, Nat.reduceAdd, Nat.reduceSub, Nat.reduceLeDiff, Nat.reduceLT, Int.reduceEq, Nat.reduceMul, h1, dcf]
  refine Yn2 fun r2 h2 => ?_
  have n2 := h2
  simp only [put_none_eq, ne_eq] at n2
  simp (maxDischargeDepth := 9) only [↓gB, gV, gT, reduceIte, reduceCtorEq, Nat.reduceEqDiff, Nat.reduceAdd, Nat.reduceSub, Nat.reduceLeDiff, Nat.reduceLT, Int.reduceEq, Nat.reduceMul, h1, h2, n2, dcf]
  refine Ycp (p69) ?_
  simp (maxDischargeDepth := 9) only [↓gB, gV, gT, reduceIte, reduceCtorEq, Nat.reduceEqDiff, Nat.reduceAdd, Nat.reduceSub, Nat.reduceLeDiff, Nat.reduceLT, Int.reduceEq, Nat.reduceMul, h1, h2, n2, dcf]
  exact Kup_val (by simp (maxDischargeDepth := 9) only [le_self, le_puts, le_put0, h1, h2, n2]) rfl
theorem p70 {G0 : GH} {x y : SDue}  : Pure Tryd.prog G0 70 [.agg #[.string x.Key, V x.Cents], .agg #[.string y.Key, V y.Cents]] (V (dcf x y)) := by
  intro G hG
  clear hG G0
  refine enter Tryd.func70 10 #[.tmp 4] rfl Tryd.ntmps70 rfl (by decide +kernel) rfl ?_
  simp (maxDischargeDepth := 9) only [↓gB, gV, gT, reduceIte, reduceCtorEq, Nat.reduceEqDiff, Nat.reduceAdd, Nat.reduceSub, Nat.reduceLeDiff, Nat.reduceLT, Int.reduceEq, Nat.reduceMul, dcf]
  refine Yn2 fun r1 h1 => ?_
  simp (maxDischargeDepth := 9) only [↓gB, gV, gT, reduceIte, reduceCtorEq, Nat.reduceEqDiff, Nat.reduceAdd, Nat.reduceSub, Nat.reduceLeDiff, Nat.reduceLT, Int.reduceEq, Nat.reduceMul, h1, dcf]
  refine Yn2 fun r2 h2 => ?_
  have n2 := h2
  simp only [put_none_eq, ne_eq] at n2
  simp (maxDischargeDepth := 9) only [↓gB, gV, gT, reduceIte, reduceCtorEq, Nat.reduceEqDiff, Nat.reduceAdd, Nat.reduceSub, Nat.reduceLeDiff, Nat.reduceLT, Int.reduceEq, Nat.reduceMul, h1, h2, n2, dcf]
  refine Ycp (p69) ?_
  simp (maxDischargeDepth := 9) only [↓gB, gV, gT, reduceIte, reduceCtorEq, Nat.reduceEqDiff, Nat.reduceAdd, Nat.reduceSub, Nat.reduceLeDiff, Nat.reduceLT, Int.reduceEq, Nat.reduceMul, h1, h2, n2, dcf]
  exact Kup_val (by simp (maxDischargeDepth := 9) only [le_self, le_puts, le_put0, h1, h2, n2]) rfl
theorem sortDueA : SpecDue 68 := specDue 68 (of_eq_true en68) (fun x y G => p68 (x := x) (y := y) (G0 := G) G (fun _ _ h => h))
theorem sortDueB : SpecDue 70 := specDue 70 (of_eq_true en70) (fun x y G => p70 (x := x) (y := y) (G0 := G) G (fun _ _ h => h))
end Go.Proofs.YtdepecjjahodjaaDoor
namespace Go.Proofs.YtdepecjjahodjaaDoor
open Go Go.GL
attribute [local irreducible] Ycall GCalls
set_option maxRecDepth 10000
set_option maxHeartbeats 0
theorem mt77 : MapTy Tryd.prog 77 Value.string V 0 := MapTy.str Tryd.underlying77 Tryd.underlying9 zv3
def mkDue (p : ByteArray × Int) : SDue := ⟨p.1, p.2⟩
def duesP (l : List (ByteArray × Int)) : List SDue := l.map mkDue
theorem dg_range_get {α : Type} (l : List α) : (List.range l.length).filterMap (l[·]?) = l := by
  induction l with
  | nil => rfl
  | cons p l ih =>
    rw [List.length_cons, List.range_succ_eq_map, List.filterMap_cons, List.filterMap_map]
    simp only [List.getElem?_cons_zero]
    congr 1
theorem dg_perm_push {seen : Array Nat} {rest : List Nat} {n i : Nat} (h : (seen.toList ++ rest).Perm (List.range n)) (hi : i < n) (hns : i ∉ seen.toList) : i ∈ rest ∧ ((seen.push i).toList ++ rest.erase i).Perm (List.range n) ∧ (rest.erase i).length < rest.length := by
  have hm : i ∈ seen.toList ++ rest := h.mem_iff.2 (List.mem_range.2 hi)
  have hr : i ∈ rest := by
    rcases List.mem_append.1 hm with h | h
    · exact absurd h hns
    · exact h
  refine ⟨hr, ?_, ?_⟩
  · rw [Array.toList_push, List.append_assoc, List.singleton_append]
    exact ((List.perm_cons_erase hr).symm.append_left _).trans h
  · have h1 := List.length_erase_of_mem hr
    have h2 := List.length_pos_of_mem hr
    omega
theorem dg_rest_nil {seen : Array Nat} {rest : List Nat} {n : Nat} (h : (seen.toList ++ rest).Perm (List.range n)) (hall : ∀ i, i < n → i ∈ seen.toList) : rest = [] := by
  cases rest with
  | nil => rfl
  | cons j rest =>
    have hnd : (seen.toList ++ j :: rest).Nodup := h.nodup_iff.2 List.nodup_range
    have hj : j ∈ List.range n := h.mem_iff.1 (by simp)
    have := (List.nodup_append.1 hnd).2.2 j (hall j (List.mem_range.1 hj)) j (by simp)
    exact absurd rfl this
theorem du_push (l : List (ByteArray × Int)) (seen : Array Nat) (i : Nat) (p : ByteArray × Int) (hp : l[i]? = some p) : duesP ((seen.push i).toList.filterMap (l[·]?)) = duesP (seen.toList.filterMap (l[·]?)) ++ [mkDue p] := by
  simp only [Array.toList_push, List.filterMap_append, List.filterMap_cons, hp, List.filterMap_nil, duesP, List.map_append, List.map_cons, List.map_nil]
theorem du_len (l : List (ByteArray × Int)) (seen : Array Nat) (rest : List Nat) (h : (seen.toList ++ rest).Perm (List.range l.length)) : (duesP (seen.toList.filterMap (l[·]?))).length ≤ l.length := by
  have h1 := h.length_eq
  rw [List.length_append, List.length_range] at h1
  have h2 : (duesP (seen.toList.filterMap (l[·]?))).length = (seen.toList.filterMap (l[·]?)).length := by unfold duesP; rw [List.length_map]
  have h3 : (seen.toList.filterMap (l[·]?)).length ≤ seen.toList.length := List.length_filterMap_le _ _
  omega
theorem g51 {G0 : GH} {r : Nat} {l : List (ByteArray × Int)} {t : Bool} (hM : G0 r = some (mapO Value.string V l, t)) (hn : l.length ≤ 1048576) (hi : ∀ p ∈ l, i64 p.2) : Gives Tryd.prog G0 51 [.map (some r)] (fun u G' => ∃ m : List SDue, m.Perm (duesP l) ∧ sortedDue m ∧ RSl rDue G' u m) := by
  intro G hG; replace hM := hG _ _ hM
  clear hG G0
  refine enter Tryd.func51 22 #[.tmp 2] rfl Tryd.ntmps51 rfl (by decide +kernel) rfl ?_
  simp (maxDischargeDepth := 9) only [↓gB, gV, gT, reduceIte, reduceCtorEq, Nat.reduceEqDiff, Nat.reduceAdd, Nat.reduceSub, Nat.reduceLeDiff, Nat.reduceLT, Int.reduceEq, Nat.reduceMul, hM]
  refine mrange Tryd.underlying77 hM ?_
  intro it hit
  simp (maxDischargeDepth := 9) only [↓gB, gV, gT, reduceIte, reduceCtorEq, Nat.reduceEqDiff, Nat.reduceAdd, Nat.reduceSub, Nat.reduceLeDiff, Nat.reduceLT, Int.reduceEq, Nat.reduceMul, hM, hit]
  focus
    refine Xloop_intro _ _ _ _ _ (fun k f G' => ∃ (seen : Array Nat) (rest : List Nat) (v : Value), k = rest.length ∧ ((seen.toList ++ rest).Perm (List.range l.length)) ∧ (G' it = some (.mapIter (some r) l.length seen l.length, true)) ∧ (Row rDue 34 G G' v (duesP (seen.toList.filterMap (l[·]?)))) ∧ (G.le G') ∧ f 3 = v ∧ f 7 = Go.Value.pointer (Option.some { block := it, off := 0 })) _ ⟨#[], List.range l.length, .slice none 0 0, rfl, ?_, ?_, ?_, ?_, by simp (maxDischargeDepth := 9) only [↓gB, gV, gT, reduceIte, reduceCtorEq, Nat.reduceEqDiff, Nat.reduceAdd, Nat.reduceSub, Nat.reduceLeDiff, Nat.reduceLT, Int.reduceEq, Nat.reduceMul, hM, hit, and_self]⟩ ?_
    · rfl
    · exact put_self _ _ _
    rotate_left 1
    · (simp (maxDischargeDepth := 9) only [le_self, le_puts, le_put0, sub_self, sub_puts, sub_put0, hit]; done)
    rotate_right 1
    rotate_left 1
    rintro k f G' ⟨seen, rest, v, rfl, hp, hI, hrow, hle, f3, f7⟩
    rotate_right 1
  · exact Row.nil
  simp (maxDischargeDepth := 9) only [↓gB, gV, gT, reduceIte, reduceCtorEq, Nat.reduceEqDiff, Nat.reduceAdd, Nat.reduceSub, Nat.reduceLeDiff, Nat.reduceLT, Int.reduceEq, Nat.reduceMul, hM, hit, hI, f3, f7]
  refine mnext (hle _ _ hM) hI _ ?_ ?_
  · intro i p hpi hns
    have hil : i < l.length := by
      by_cases h : i < l.length
      · exact h
      · rw [List.getElem?_eq_none (by omega)] at hpi; cases hpi
    obtain ⟨hir, hperm2, hlen2⟩ := dg_perm_push hp hil hns
    have htl := du_push l seen i p hpi
    have htn := du_len l seen rest hp
    have hI2 := put_self G' it (.mapIter (some r) l.length (seen.push i) l.length, true)
    have hrow2 := Row.turn (.mapIter (some r) l.length (seen.push i) l.length, true) hI iter_ne rfl hrow
    have hle2 := le_put_new hle hit (.mapIter (some r) l.length (seen.push i) l.length, true)
    generalize G'.put it (.mapIter (some r) l.length (seen.push i) l.length, true) = G2 at *
    simp (maxDischargeDepth := 9) only [↓gB, gV, gT, reduceIte, reduceCtorEq, Nat.reduceEqDiff, Nat.reduceAdd, Nat.reduceSub, Nat.reduceLeDiff, Nat.reduceLT, Int.reduceEq, Nat.reduceMul, hM, hit, hI, f3, f7, hI2]
    refine mentry (hle2 _ _ hM) hI2 hpi ?_
    simp (maxDischargeDepth := 9) only [↓gB, gV, gT, reduceIte, reduceCtorEq, Nat.reduceEqDiff, Nat.reduceAdd, Nat.reduceSub, Nat.reduceLeDiff, Nat.reduceLT, Int.reduceEq, Nat.reduceMul, hM, hit, hI, f3, f7, hI2]
    refine Yn2 fun r1 h1 => ?_
    simp (maxDischargeDepth := 9) only [↓gB, gV, gT, reduceIte, reduceCtorEq, Nat.reduceEqDiff, Nat.reduceAdd, Nat.reduceSub, Nat.reduceLeDiff, Nat.reduceLT, Int.reduceEq, Nat.reduceMul, hM, hit, hI, f3, f7, hI2, h1]
    refine Row.app1 sl24 (Row.put _ h1 hrow2) (by exact put_self _ _ _) (y := ⟨_, _⟩) rfl (by omega) (GH.le.trans hle2 (le_put h1 _)) fun v1 G1 w1 k1 l1 => ?_
    simp (maxDischargeDepth := 9) only [↓gB, gV, gT, reduceIte, reduceCtorEq, Nat.reduceEqDiff, Nat.reduceAdd, Nat.reduceSub, Nat.reduceLeDiff, Nat.reduceLT, Int.reduceEq, Nat.reduceMul, hM, hit, hI, f3, f7, hI2, h1, k1]
    focus
      rw [N_lp]
      refine ⟨_, ?_, G1, ?_, seen.push i, rest.erase i, v1, rfl, ?_, ?_, ?_, ?_, by simp (maxDischargeDepth := 9) only [↓gB, gV, gT, reduceIte, reduceCtorEq, Nat.reduceEqDiff, Nat.reduceAdd, Nat.reduceSub, Nat.reduceLeDiff, Nat.reduceLT, Int.reduceEq, Nat.reduceMul, hM, hit, hI, f3, f7, hI2, h1, k1, nat_succ, and_self]⟩
      · assumption
      · exact sub_refl _
      · assumption
      · (exact k1 it _ ((le_put h1 _) _ _ hI2) (Row.apart hrow2 hI2 iter_ne); done)
      · (rw [htl]; exact w1; done)
      · assumption
  · intro hall
    have hr := dg_rest_nil hp hall
    subst hr
    rw [List.append_nil] at hp
    have htp : (duesP (seen.toList.filterMap (l[·]?))).Perm (duesP l) := by
      have h1 := hp.filterMap (fun i => l[i]?)
      rw [dg_range_get] at h1
      exact h1.map _
    have htn := du_len l seen [] (by simpa using hp)
    generalize duesP (seen.toList.filterMap (l[·]?)) = acc at *
    simp (maxDischargeDepth := 9) only [↓gB, gV, gT, reduceIte, reduceCtorEq, Nat.reduceEqDiff, Nat.reduceAdd, Nat.reduceSub, Nat.reduceLeDiff, Nat.reduceLT, Int.reduceEq, Nat.reduceMul, hM, hit, hI, f3, f7]
    refine Ycall_intro (md := none) (sortDueA.at hrow (by omega)) ?_
    rintro _ G9 ⟨rfl, m, hm, hsrt, hr9, hle9⟩
    simp (maxDischargeDepth := 9) only [↓gB, gV, gT, reduceIte, reduceCtorEq, Nat.reduceEqDiff, Nat.reduceAdd, Nat.reduceSub, Nat.reduceLeDiff, Nat.reduceLT, Int.reduceEq, Nat.reduceMul, hM, hit, hI, f3, f7]
    obtain ⟨G10, hs, hl, hr⟩ := hr9.fin (hle9 hle)
    exact Kup_gives hs hl ⟨m, hm.trans htp, hsrt, hr⟩
end Go.Proofs.YtdepecjjahodjaaDoor
namespace Go.Proofs.YtdepecjjahodjaaDoor
open Go Go.GL
attribute [local irreducible] Ycall GCalls
set_option maxRecDepth 10000
set_option maxHeartbeats 0
theorem g52 {G0 : GH} {r : Nat} {l : List (ByteArray × Int)} {t : Bool} (hM : G0 r = some (mapO Value.string V l, t)) (hn : l.length ≤ 1048576) (hi : ∀ p ∈ l, i64 p.2) : Gives Tryd.prog G0 52 [.map (some r), .bool true] (fun u G' => ∃ m : List SDue, m.Perm (duesP l) ∧ sortedDue m ∧ RSl rDue G' u m) := by
  intro G hG; replace hM := hG _ _ hM
  clear hG G0
  refine enter Tryd.func52 29 #[.tmp 4] rfl Tryd.ntmps52 rfl (by decide +kernel) rfl ?_
  simp (maxDischargeDepth := 9) only [↓gB, gV, gT, reduceIte, reduceCtorEq, Nat.reduceEqDiff, Nat.reduceAdd, Nat.reduceSub, Nat.reduceLeDiff, Nat.reduceLT, Int.reduceEq, Nat.reduceMul, hM]
  refine mrange Tryd.underlying77 hM ?_
  intro it hit
  simp (maxDischargeDepth := 9) only [↓gB, gV, gT, reduceIte, reduceCtorEq, Nat.reduceEqDiff, Nat.reduceAdd, Nat.reduceSub, Nat.reduceLeDiff, Nat.reduceLT, Int.reduceEq, Nat.reduceMul, hM, hit]
  focus
    refine Xloop_intro _ _ _ _ _ (fun k f G' => ∃ (seen : Array Nat) (rest : List Nat) (v : Value), k = rest.length ∧ ((seen.toList ++ rest).Perm (List.range l.length)) ∧ (G' it = some (.mapIter (some r) l.length seen l.length, true)) ∧ (Row rDue 34 G G' v (duesP (seen.toList.filterMap (l[·]?)))) ∧ (G.le G') ∧ f 5 = v ∧ f 1 = Go.Value.bool Bool.true ∧ f 9 = Go.Value.pointer (Option.some { block := it, off := 0 })) _ ⟨#[], List.range l.length, .slice none 0 0, rfl, ?_, ?_, ?_, ?_, by simp (maxDischargeDepth := 9) only [↓gB, gV, gT, reduceIte, reduceCtorEq, Nat.reduceEqDiff, Nat.reduceAdd, Nat.reduceSub, Nat.reduceLeDiff, Nat.reduceLT, Int.reduceEq, Nat.reduceMul, hM, hit, and_self]⟩ ?_
    · rfl
    · exact put_self _ _ _
    rotate_left 1
    · (simp (maxDischargeDepth := 9) only [le_self, le_puts, le_put0, sub_self, sub_puts, sub_put0, hit]; done)
    rotate_right 1
    rotate_left 1
    rintro k f G' ⟨seen, rest, v, rfl, hp, hI, hrow, hle, f5, f1, f9⟩
    rotate_right 1
  · exact Row.nil
  simp (maxDischargeDepth := 9) only [↓gB, gV, gT, reduceIte, reduceCtorEq, Nat.reduceEqDiff, Nat.reduceAdd, Nat.reduceSub, Nat.reduceLeDiff, Nat.reduceLT, Int.reduceEq, Nat.reduceMul, hM, hit, hI, f5, f1, f9]
  refine mnext (hle _ _ hM) hI _ ?_ ?_
  · intro i p hpi hns
    have hil : i < l.length := by
      by_cases h : i < l.length
      · exact h
      · rw [List.getElem?_eq_none (by omega)] at hpi; cases hpi
    obtain ⟨hir, hperm2, hlen2⟩ := dg_perm_push hp hil hns
    have htl := du_push l seen i p hpi
    have htn := du_len l seen rest hp
    have hI2 := put_self G' it (.mapIter (some r) l.length (seen.push i) l.length, true)
    have hrow2 := Row.turn (.mapIter (some r) l.length (seen.push i) l.length, true) hI iter_ne rfl hrow
    have hle2 := le_put_new hle hit (.mapIter (some r) l.length (seen.push i) l.length, true)
    generalize G'.put it (.mapIter (some r) l.length (seen.push i) l.length, true) = G2 at *
    simp (maxDischargeDepth := 9) only [↓gB, gV, gT, reduceIte, reduceCtorEq, Nat.reduceEqDiff, Nat.reduceAdd, Nat.reduceSub, Nat.reduceLeDiff, Nat.reduceLT, Int.reduceEq, Nat.reduceMul, hM, hit, hI, f5, f1, f9, hI2]
    refine mentry (hle2 _ _ hM) hI2 hpi ?_
    by_cases h0 : p.2 = 0
    · simp (maxDischargeDepth := 9) only [↓gB, gV, gT, reduceIte, reduceCtorEq, Nat.reduceEqDiff, Nat.reduceAdd, Nat.reduceSub, Nat.reduceLeDiff, Nat.reduceLT, Int.reduceEq, Nat.reduceMul, hM, hit, hI, f5, f1, f9, hI2, h0]
      refine Yn2 fun r1 h1 => ?_
      simp (maxDischargeDepth := 9) only [↓gB, gV, gT, reduceIte, reduceCtorEq, Nat.reduceEqDiff, Nat.reduceAdd, Nat.reduceSub, Nat.reduceLeDiff, Nat.reduceLT, Int.reduceEq, Nat.reduceMul, hM, hit, hI, f5, f1, f9, hI2, h1, h0]
      refine Row.app1 sl24 (Row.put _ h1 hrow2) (by exact put_self _ _ _) (y := ⟨_, _⟩) rfl (by omega) (GH.le.trans hle2 (le_put h1 _)) fun v1 G1 w1 k1 l1 => ?_
      simp (maxDischargeDepth := 9) only [↓gB, gV, gT, reduceIte, reduceCtorEq, Nat.reduceEqDiff, Nat.reduceAdd, Nat.reduceSub, Nat.reduceLeDiff, Nat.reduceLT, Int.reduceEq, Nat.reduceMul, hM, hit, hI, f5, f1, f9, hI2, h1, k1, h0]
      focus
        rw [N_lp]
        refine ⟨_, ?_, G1, ?_, seen.push i, rest.erase i, v1, rfl, ?_, ?_, ?_, ?_, by simp (maxDischargeDepth := 9) only [↓gB, gV, gT, reduceIte, reduceCtorEq, Nat.reduceEqDiff, Nat.reduceAdd, Nat.reduceSub, Nat.reduceLeDiff, Nat.reduceLT, Int.reduceEq, Nat.reduceMul, hM, hit, hI, f5, f1, f9, hI2, h1, k1, nat_succ, and_self]⟩
        · assumption
        · exact sub_refl _
        · assumption
        · (exact k1 it _ ((le_put h1 _) _ _ hI2) (Row.apart hrow2 hI2 iter_ne); done)
        · (rw [htl, show mkDue p = ⟨p.1, 0⟩ by unfold mkDue; rw [h0]]; exact w1; done)
        · assumption
    · simp (maxDischargeDepth := 9) only [↓gB, gV, gT, reduceIte, reduceCtorEq, Nat.reduceEqDiff, Nat.reduceAdd, Nat.reduceSub, Nat.reduceLeDiff, Nat.reduceLT, Int.reduceEq, Nat.reduceMul, hM, hit, hI, f5, f1, f9, hI2, h0]
      refine Yn2 fun r1 h1 => ?_
      simp (maxDischargeDepth := 9) only [↓gB, gV, gT, reduceIte, reduceCtorEq, Nat.reduceEqDiff, Nat.reduceAdd, Nat.reduceSub, Nat.reduceLeDiff, Nat.reduceLT, Int.reduceEq, Nat.reduceMul, hM, hit, hI, f5, f1, f9, hI2, h1, h0]
      refine Row.app1 sl24 (Row.put _ h1 hrow2) (by exact put_self _ _ _) (y := ⟨_, _⟩) rfl (by omega) (GH.le.trans hle2 (le_put h1 _)) fun v1 G1 w1 k1 l1 => ?_
      simp (maxDischargeDepth := 9) only [↓gB, gV, gT, reduceIte, reduceCtorEq, Nat.reduceEqDiff, Nat.reduceAdd, Nat.reduceSub, Nat.reduceLeDiff, Nat.reduceLT, Int.reduceEq, Nat.reduceMul, hM, hit, hI, f5, f1, f9, hI2, h1, k1, h0]
      focus
        rw [N_lp]
        refine ⟨_, ?_, G1, ?_, seen.push i, rest.erase i, v1, rfl, ?_, ?_, ?_, ?_, by simp (maxDischargeDepth := 9) only [↓gB, gV, gT, reduceIte, reduceCtorEq, Nat.reduceEqDiff, Nat.reduceAdd, Nat.reduceSub, Nat.reduceLeDiff, Nat.reduceLT, Int.reduceEq, Nat.reduceMul, hM, hit, hI, f5, f1, f9, hI2, h1, k1, nat_succ, and_self]⟩
        · assumption
        · exact sub_refl _
        · assumption
        · (exact k1 it _ ((le_put h1 _) _ _ hI2) (Row.apart hrow2 hI2 iter_ne); done)
        · (rw [htl]; exact w1; done)
        · assumption
  · intro hall
    have hr := dg_rest_nil hp hall
    subst hr
    rw [List.append_nil] at hp
    have htp : (duesP (seen.toList.filterMap (l[·]?))).Perm (duesP l) := by
      have h1 := hp.filterMap (fun i => l[i]?)
      rw [dg_range_get] at h1
      exact h1.map _
    have htn := du_len l seen [] (by simpa using hp)
    generalize duesP (seen.toList.filterMap (l[·]?)) = acc at *
    simp (maxDischargeDepth := 9) only [↓gB, gV, gT, reduceIte, reduceCtorEq, Nat.reduceEqDiff, Nat.reduceAdd, Nat.reduceSub, Nat.reduceLeDiff, Nat.reduceLT, Int.reduceEq, Nat.reduceMul, hM, hit, hI, f5, f1, f9]
    refine Ycall_intro (md := none) (sortDueB.at hrow (by omega)) ?_
    rintro _ G9 ⟨rfl, m, hm, hsrt, hr9, hle9⟩
    simp (maxDischargeDepth := 9) only [↓gB, gV, gT, reduceIte, reduceCtorEq, Nat.reduceEqDiff, Nat.reduceAdd, Nat.reduceSub, Nat.reduceLeDiff, Nat.reduceLT, Int.reduceEq, Nat.reduceMul, hM, hit, hI, f5, f1, f9]
    obtain ⟨G10, hs, hl, hr⟩ := hr9.fin (hle9 hle)
    exact Kup_gives hs hl ⟨m, hm.trans htp, hsrt, hr⟩
end Go.Proofs.YtdepecjjahodjaaDoor
