/- The law CallsCounted (second form, up to the bulk): a part of its proof. No conditions. -/
import Derived.Test.YtgkdbjnmlecimaaC5
import Derived.Test.YtgkdbjnmlecimaaGlP
set_option linter.unusedSimpArgs false
set_option linter.unusedVariables false
namespace Go.Proofs.Ytgkdbjnmlecimaa
open Go Go.GL
set_option maxRecDepth 10000
abbrev Key := Int × Int × Int
def encK (k : Key) : Value := .agg #[.int .i64 k.1, .int .i64 k.2.1, .int .i64 k.2.2]
theorem encK_inj (a b : Key) (h : encK a = encK b) : a = b := by
  obtain ⟨a1, a2, a3⟩ := a; obtain ⟨b1, b2, b3⟩ := b
  simpa [encK] using h
theorem fit91 (k : Key) (l : List (Key × Int)) : KeyFit Try.prog 91 (encK k) (mkEs encK l) := kf91 _ _ _ (by
  intro e he
  simp only [mkEs, List.mem_mapIdx] at he
  obtain ⟨i, hi, rfl⟩ := he
  exact ⟨_, _, _, rfl⟩)
theorem fit96 (k : Key) (l : List (Key × Int)) : KeyFit Try.prog 96 (encK k) (mkEs encK l) := kf96 _ _ _ (by
  intro e he
  simp only [mkEs, List.mem_mapIdx] at he
  obtain ⟨i, hi, rfl⟩ := he
  exact ⟨_, _, _, rfl⟩)
def mkT (p : Key × Int) : Tly := ⟨p.1.1, p.1.2.1, p.1.2.2, p.2⟩
def talliesOf (l : List (Key × Int)) : List Tly := (l.filter (fun p => decide (0 < p.2))).map mkT
def encT (x : Tly) : List Value := [.int .i64 x.a, .int .i64 x.b, .int .i64 x.h, .int .i64 x.k]
def tcmp (x y : Tly) : Int := tallyCmp x.a x.b x.h y.a y.b y.h
def sortedT (m : List Tly) : Prop := m.Pairwise (fun x y => ¬ tcmp y x < 0)
structure SortSpec (g : Nat) : Prop where
  nilc : ∀ p cap G, GCalls Try.prog 82 #[.slice p 0 cap, .func (.func g) #[] #[]] G (fun u G' => u = .tuple #[] ∧ G' = G)
  row : ∀ (l : List Tly), l.length < 4611686018427387904 → ∀ {G : GH} {b cap : Nat} {c : Array Value} {e : TypeId}, G b = some (.cells c e (0, 0), true) → l.length * 4 ≤ c.size → c.toList.take (l.length * 4) = (l.map encT).flatten →
    GCalls Try.prog 82 #[.slice (some ⟨b, 0, none⟩) l.length cap, .func (.func g) #[] #[]] G (fun u G' => u = .tuple #[] ∧ ∃ l' : List Tly, l'.Perm l ∧ sortedT l' ∧
      ∃ c', c'.size = c.size ∧ c'.toList.take (l.length * 4) = (l'.map encT).flatten ∧ G' = G.put b (.cells c' e (0, 0), true))
theorem cellsofT {G G' : GH} {xs : List Tly} {cs : List Value} (h : Cellsof rTly G xs cs) : Cellsof rTly G' xs cs := h
theorem cellsofT_eq {G : GH} {xs : List Tly} {cs : List Value} (h : Cellsof rTly G xs cs) : cs = (xs.map encT).flatten := by
  obtain ⟨a, rfl, ha, hr⟩ := h
  congr 1
  apply List.ext_getElem (by simpa using ha)
  intro i h1 h2
  have := hr i xs[i] a[i] (List.getElem?_eq_getElem (by simpa using h2)) (List.getElem?_eq_getElem h1)
  simpa [encT, rTly] using this
theorem cellsofT_mk {G : GH} (xs : List Tly) : Cellsof rTly G xs (xs.map encT).flatten := ⟨xs.map encT, rfl, by simp, by
  intro i x c hx hc
  rw [List.getElem?_map, hx] at hc
  cases hc; rfl⟩
theorem tl_push (l : List (Key × Int)) (seen : Array Nat) (i : Nat) (p : Key × Int) (hp : l[i]? = some p) : talliesOf ((seen.push i).toList.filterMap (l[·]?)) = talliesOf (seen.toList.filterMap (l[·]?)) ++ (if 0 < p.2 then [mkT p] else []) := by
  simp only [Array.toList_push, List.filterMap_append, List.filterMap_cons, hp, List.filterMap_nil, talliesOf, List.filter_append, List.map_append]
  congr 1
  by_cases h : 0 < p.2 <;> simp [h]
theorem range_get (l : List (Key × Int)) : (List.range l.length).filterMap (l[·]?) = l := by
  induction l with
  | nil => rfl
  | cons p l ih =>
    rw [List.length_cons, List.range_succ_eq_map, List.filterMap_cons, List.filterMap_map]
    simp only [List.getElem?_cons_zero]
    congr 1
theorem tl_len (l : List (Key × Int)) (seen : Array Nat) (rest : List Nat) (h : (seen.toList ++ rest).Perm (List.range l.length)) : (talliesOf (seen.toList.filterMap (l[·]?))).length ≤ l.length := by
  have h1 := h.length_eq
  rw [List.length_append, List.length_range] at h1
  have h2 : (talliesOf (seen.toList.filterMap (l[·]?))).length ≤ (seen.toList.filterMap (l[·]?)).length := by
    unfold talliesOf; rw [List.length_map]; exact List.length_filter_le _ _
  have h3 : (seen.toList.filterMap (l[·]?)).length ≤ seen.toList.length := List.length_filterMap_le _ _
  omega
theorem perm_push {seen : Array Nat} {rest : List Nat} {n i : Nat} (h : (seen.toList ++ rest).Perm (List.range n)) (hi : i < n) (hns : i ∉ seen.toList) : i ∈ rest ∧ ((seen.push i).toList ++ rest.erase i).Perm (List.range n) := by
  have hm : i ∈ seen.toList ++ rest := h.mem_iff.2 (List.mem_range.2 hi)
  have hr : i ∈ rest := by
    rcases List.mem_append.1 hm with h | h
    · exact absurd h hns
    · exact h
  refine ⟨hr, ?_⟩
  rw [Array.toList_push, List.append_assoc, List.singleton_append]
  exact ((List.perm_cons_erase hr).symm.append_left _).trans h
theorem rest_nil {seen : Array Nat} {rest : List Nat} {n : Nat} (h : (seen.toList ++ rest).Perm (List.range n)) (hall : ∀ i, i < n → i ∈ seen.toList) : rest = [] := by
  cases rest with
  | nil => rfl
  | cons j rest =>
    have hnd : (seen.toList ++ j :: rest).Nodup := h.nodup_iff.2 List.nodup_range
    have hj : j ∈ List.range n := h.mem_iff.1 (by simp)
    have := (List.nodup_append.1 hnd).2.2 j (hall j (List.mem_range.1 hj)) j (by simp)
    exact absurd rfl this
theorem OV.putI {e : TypeId} {sz : Nat} {G0 G : GH} {v : Value} {n : Nat} {cs : List Value} (h : OV e sz G0 G v n cs) {it : Nat} {o o' : Obj} {t t' : Bool} (hit : G it = some (o, t)) (hne : ∀ c e fr, o ≠ .cells c e fr) : OV e sz G0 (G.put it (o', t')) v n cs := by
  obtain ⟨h1, h2⟩ := h
  refine ⟨h1, h2.imp id ?_⟩
  rintro ⟨b, cap, c, a1, a2, a3, a4⟩
  refine ⟨b, cap, c, a1, a2, ?_, a4⟩
  rw [put_ne]
  · exact a3
  · rintro rfl; rw [hit] at a3; simp only [Option.some.injEq, Prod.mk.injEq] at a3; exact hne _ _ _ a3.1
theorem OV.notAtI {e : TypeId} {sz : Nat} {G0 G : GH} {v : Value} {n : Nat} {cs : List Value} (h : OV e sz G0 G v n cs) {it : Nat} {o : Obj} {t : Bool} (hit : G it = some (o, t)) (hne : ∀ c e fr, o ≠ .cells c e fr) : notAt v it := by
  rintro n' c' rfl
  rcases h.2 with ⟨h, _⟩ | ⟨b, cap, c, h, _, hb, _⟩
  · cases h
  · cases h; rw [hit] at hb; simp only [Option.some.injEq, Prod.mk.injEq] at hb; exact hne _ _ _ hb.1
theorem listed_spec (hS : SortSpec 71) (r : Nat) (l : List (Key × Int)) (t : Bool) (hl : l.length ≤ 1048576) (G : GH) (hG : G r = some (mapObj encK l, t)) :
    GCalls Try.prog 55 #[.map (some r)] G (fun u G' => G.le G' ∧ ∃ m, m.Perm (talliesOf l) ∧ sortedT m ∧ RSl rTly G' u m) := by
  refine GCalls.frzOut ?_
  refine enter Try.func55 27 #[.tmp 2] rfl Try.ntmps55 rfl (by decide +kernel) rfl ?_
  simp only [↓Za,↓Zb,↓Zc,↓Zd,↓Ze,↓Zf,↓Zg,↓Zh,↓Zi,↓Zj,↓Zk,↓Zl,↓Zm,↓Zn,↓Zo,↓Zp,↓Zq,↓Zr,↓Zs,↓Zt,↓Zu,↓Zv,↓Zw,↓Zx,↓Zy,↓Zz,↓ZA,↓ZB,↓ZC,↓ZD,↓ZE,↓ZF,↓ZG,↓ZH,↓ZI,↓ZJ,↓ZK,↓ZL,↓ZM,↓ZN,↓ZO,↓ZP,↓ZQ,↓ZR,↓ZS,↓ZT,↓ZU,↓ZV,↓ZW,↓ZX,↓ZY,↓ZZ,↓Qa,↓Qb,↓Qc,↓Qd,↓Qe,↓Qf,↓Qg,↓Qh,↓Qi,↓Qj,↓Qk,↓Ql,↓Qm,↓Qn,↓Qo,↓Qp,Qq,Qr,Qs,Qt,Qu,Qv,Qw,Qx,Qy,Qz,QA,QB,QC,QD,QE,QF,QG,QH,QI,QJ,QK,QL,QM,QN,QO,QP,QR,QS,QT,QU,QV,QW,QX,QY,QZ,Ja,Jb,Jc,Jd,Je,Jf,Jg,Jh,Ji,Jj,Jk,Jl,Jm,Jn,Jo,Jp,Jq,Jr,Js,Jt,reduceIte,Nat.reduceEqDiff,Nat.reduceAdd,Nat.reduceSub,List.map_cons,List.map_nil,List.nil_append,List.cons_append,List.append_nil,List.getElem?_cons_zero,List.getElem?_cons_succ,Option.map_some,reduceCtorEq,ne_eq,not_false_eq_true,Int.reduceEq,Nat.succ_ne_self,Bool.false_eq_true,Option.map_none,Int.toNat_natCast,List.filterMap_cons,List.filterMap_nil,List.drop_zero,List.take_succ_cons,List.take_zero,List.drop_succ_cons,Nat.zero_add,Ju,Jv,Jw,Jx,Jy,Jz,List.all_cons,List.all_nil,Bool.and_self,Bool.and_true,Bool.true_and,Bool.not_true,Bool.not_false,decide_true,decide_false,not_true_eq_false,List.length_cons,List.length_nil,Nat.reduceLeDiff,Nat.mul_one,ld3,ld24,ln39,st91,al91,fa91_0,fa91_1,en71,en82,bd44_0_1,bd44_0_1_2,bs39_0,bs39_1,V]
  refine gwp_range Try.underlying89 hG ?_
  intro it hit
  simp only [↓Za,↓Zb,↓Zc,↓Zd,↓Ze,↓Zf,↓Zg,↓Zh,↓Zi,↓Zj,↓Zk,↓Zl,↓Zm,↓Zn,↓Zo,↓Zp,↓Zq,↓Zr,↓Zs,↓Zt,↓Zu,↓Zv,↓Zw,↓Zx,↓Zy,↓Zz,↓ZA,↓ZB,↓ZC,↓ZD,↓ZE,↓ZF,↓ZG,↓ZH,↓ZI,↓ZJ,↓ZK,↓ZL,↓ZM,↓ZN,↓ZO,↓ZP,↓ZQ,↓ZR,↓ZS,↓ZT,↓ZU,↓ZV,↓ZW,↓ZX,↓ZY,↓ZZ,↓Qa,↓Qb,↓Qc,↓Qd,↓Qe,↓Qf,↓Qg,↓Qh,↓Qi,↓Qj,↓Qk,↓Ql,↓Qm,↓Qn,↓Qo,↓Qp,Qq,Qr,Qs,Qt,Qu,Qv,Qw,Qx,Qy,Qz,QA,QB,QC,QD,QE,QF,QG,QH,QI,QJ,QK,QL,QM,QN,QO,QP,QR,QS,QT,QU,QV,QW,QX,QY,QZ,Ja,Jb,Jc,Jd,Je,Jf,Jg,Jh,Ji,Jj,Jk,Jl,Jm,Jn,Jo,Jp,Jq,Jr,Js,Jt,reduceIte,Nat.reduceEqDiff,Nat.reduceAdd,Nat.reduceSub,List.map_cons,List.map_nil,List.nil_append,List.cons_append,List.append_nil,List.getElem?_cons_zero,List.getElem?_cons_succ,Option.map_some,reduceCtorEq,ne_eq,not_false_eq_true,Int.reduceEq,Nat.succ_ne_self,Bool.false_eq_true,Option.map_none,Int.toNat_natCast,List.filterMap_cons,List.filterMap_nil,List.drop_zero,List.take_succ_cons,List.take_zero,List.drop_succ_cons,Nat.zero_add,Ju,Jv,Jw,Jx,Jy,Jz,List.all_cons,List.all_nil,Bool.and_self,Bool.and_true,Bool.true_and,Bool.not_true,Bool.not_false,decide_true,decide_false,not_true_eq_false,List.length_cons,List.length_nil,Nat.reduceLeDiff,Nat.mul_one,ld3,ld24,ln39,st91,al91,fa91_0,fa91_1,en71,en82,bd44_0_1,bd44_0_1_2,bs39_0,bs39_1,V]
  refine Xloop_intro _ _ _ _ _ (fun k f G' => ∃ (seen : Array Nat) (rest : List Nat) (v : Value) (cs : List Value), k = rest.length ∧ (seen.toList ++ rest).Perm (List.range l.length) ∧ f 3 = v ∧ f 7 = .pointer (some ⟨it, 0, none⟩) ∧ G' it = some (.mapIter (some r) l.length seen l.length, true) ∧ OV 44 4 G G' v (talliesOf (seen.toList.filterMap (l[·]?))).length cs ∧ Cellsof rTly G' (talliesOf (seen.toList.filterMap (l[·]?))) cs ∧ G.le G') _ ⟨#[], List.range l.length, .slice none 0 0, [], rfl, by simp, by simp only [↓Za,↓Zb,↓Zc,↓Zd,↓Ze,↓Zf,↓Zg,↓Zh,↓Zi,↓Zj,↓Zk,↓Zl,↓Zm,↓Zn,↓Zo,↓Zp,↓Zq,↓Zr,↓Zs,↓Zt,↓Zu,↓Zv,↓Zw,↓Zx,↓Zy,↓Zz,↓ZA,↓ZB,↓ZC,↓ZD,↓ZE,↓ZF,↓ZG,↓ZH,↓ZI,↓ZJ,↓ZK,↓ZL,↓ZM,↓ZN,↓ZO,↓ZP,↓ZQ,↓ZR,↓ZS,↓ZT,↓ZU,↓ZV,↓ZW,↓ZX,↓ZY,↓ZZ,↓Qa,↓Qb,↓Qc,↓Qd,↓Qe,↓Qf,↓Qg,↓Qh,↓Qi,↓Qj,↓Qk,↓Ql,↓Qm,↓Qn,↓Qo,↓Qp,Qq,Qr,Qs,Qt,Qu,Qv,Qw,Qx,Qy,Qz,QA,QB,QC,QD,QE,QF,QG,QH,QI,QJ,QK,QL,QM,QN,QO,QP,QR,QS,QT,QU,QV,QW,QX,QY,QZ,Ja,Jb,Jc,Jd,Je,Jf,Jg,Jh,Ji,Jj,Jk,Jl,Jm,Jn,Jo,Jp,Jq,Jr,Js,Jt,reduceIte,Nat.reduceEqDiff,Nat.reduceAdd,Nat.reduceSub,List.map_cons,List.map_nil,List.nil_append,List.cons_append,List.append_nil,List.getElem?_cons_zero,List.getElem?_cons_succ,Option.map_some,reduceCtorEq,ne_eq,not_false_eq_true,Int.reduceEq,Nat.succ_ne_self,Bool.false_eq_true,Option.map_none,Int.toNat_natCast,List.filterMap_cons,List.filterMap_nil,List.drop_zero,List.take_succ_cons,List.take_zero,List.drop_succ_cons,Nat.zero_add,Ju,Jv,Jw,Jx,Jy,Jz,List.all_cons,List.all_nil,Bool.and_self,Bool.and_true,Bool.true_and,Bool.not_true,Bool.not_false,decide_true,decide_false,not_true_eq_false,List.length_cons,List.length_nil,Nat.reduceLeDiff,Nat.mul_one,ld3,ld24,ln39,st91,al91,fa91_0,fa91_1,en71,en82,bd44_0_1,bd44_0_1_2,bs39_0,bs39_1,V], by simp only [↓Za,↓Zb,↓Zc,↓Zd,↓Ze,↓Zf,↓Zg,↓Zh,↓Zi,↓Zj,↓Zk,↓Zl,↓Zm,↓Zn,↓Zo,↓Zp,↓Zq,↓Zr,↓Zs,↓Zt,↓Zu,↓Zv,↓Zw,↓Zx,↓Zy,↓Zz,↓ZA,↓ZB,↓ZC,↓ZD,↓ZE,↓ZF,↓ZG,↓ZH,↓ZI,↓ZJ,↓ZK,↓ZL,↓ZM,↓ZN,↓ZO,↓ZP,↓ZQ,↓ZR,↓ZS,↓ZT,↓ZU,↓ZV,↓ZW,↓ZX,↓ZY,↓ZZ,↓Qa,↓Qb,↓Qc,↓Qd,↓Qe,↓Qf,↓Qg,↓Qh,↓Qi,↓Qj,↓Qk,↓Ql,↓Qm,↓Qn,↓Qo,↓Qp,Qq,Qr,Qs,Qt,Qu,Qv,Qw,Qx,Qy,Qz,QA,QB,QC,QD,QE,QF,QG,QH,QI,QJ,QK,QL,QM,QN,QO,QP,QR,QS,QT,QU,QV,QW,QX,QY,QZ,Ja,Jb,Jc,Jd,Je,Jf,Jg,Jh,Ji,Jj,Jk,Jl,Jm,Jn,Jo,Jp,Jq,Jr,Js,Jt,reduceIte,Nat.reduceEqDiff,Nat.reduceAdd,Nat.reduceSub,List.map_cons,List.map_nil,List.nil_append,List.cons_append,List.append_nil,List.getElem?_cons_zero,List.getElem?_cons_succ,Option.map_some,reduceCtorEq,ne_eq,not_false_eq_true,Int.reduceEq,Nat.succ_ne_self,Bool.false_eq_true,Option.map_none,Int.toNat_natCast,List.filterMap_cons,List.filterMap_nil,List.drop_zero,List.take_succ_cons,List.take_zero,List.drop_succ_cons,Nat.zero_add,Ju,Jv,Jw,Jx,Jy,Jz,List.all_cons,List.all_nil,Bool.and_self,Bool.and_true,Bool.true_and,Bool.not_true,Bool.not_false,decide_true,decide_false,not_true_eq_false,List.length_cons,List.length_nil,Nat.reduceLeDiff,Nat.mul_one,ld3,ld24,ln39,st91,al91,fa91_0,fa91_1,en71,en82,bd44_0_1,bd44_0_1_2,bs39_0,bs39_1,V], by rw [put_self], OV.nil _ _ _ _, Cellsof.nil _ _, le_put hit _⟩ ?_
  rintro k f G' ⟨seen, rest, v, cs, rfl, hperm, f3, f7, hI, hov, hcs, hle⟩
  simp only [↓Za,↓Zb,↓Zc,↓Zd,↓Ze,↓Zf,↓Zg,↓Zh,↓Zi,↓Zj,↓Zk,↓Zl,↓Zm,↓Zn,↓Zo,↓Zp,↓Zq,↓Zr,↓Zs,↓Zt,↓Zu,↓Zv,↓Zw,↓Zx,↓Zy,↓Zz,↓ZA,↓ZB,↓ZC,↓ZD,↓ZE,↓ZF,↓ZG,↓ZH,↓ZI,↓ZJ,↓ZK,↓ZL,↓ZM,↓ZN,↓ZO,↓ZP,↓ZQ,↓ZR,↓ZS,↓ZT,↓ZU,↓ZV,↓ZW,↓ZX,↓ZY,↓ZZ,↓Qa,↓Qb,↓Qc,↓Qd,↓Qe,↓Qf,↓Qg,↓Qh,↓Qi,↓Qj,↓Qk,↓Ql,↓Qm,↓Qn,↓Qo,↓Qp,Qq,Qr,Qs,Qt,Qu,Qv,Qw,Qx,Qy,Qz,QA,QB,QC,QD,QE,QF,QG,QH,QI,QJ,QK,QL,QM,QN,QO,QP,QR,QS,QT,QU,QV,QW,QX,QY,QZ,Ja,Jb,Jc,Jd,Je,Jf,Jg,Jh,Ji,Jj,Jk,Jl,Jm,Jn,Jo,Jp,Jq,Jr,Js,Jt,reduceIte,Nat.reduceEqDiff,Nat.reduceAdd,Nat.reduceSub,List.map_cons,List.map_nil,List.nil_append,List.cons_append,List.append_nil,List.getElem?_cons_zero,List.getElem?_cons_succ,Option.map_some,reduceCtorEq,ne_eq,not_false_eq_true,Int.reduceEq,Nat.succ_ne_self,Bool.false_eq_true,Option.map_none,Int.toNat_natCast,List.filterMap_cons,List.filterMap_nil,List.drop_zero,List.take_succ_cons,List.take_zero,List.drop_succ_cons,Nat.zero_add,Ju,Jv,Jw,Jx,Jy,Jz,List.all_cons,List.all_nil,Bool.and_self,Bool.and_true,Bool.true_and,Bool.not_true,Bool.not_false,decide_true,decide_false,not_true_eq_false,List.length_cons,List.length_nil,Nat.reduceLeDiff,Nat.mul_one,ld3,ld24,ln39,st91,al91,fa91_0,fa91_1,en71,en82,bd44_0_1,bd44_0_1_2,bs39_0,bs39_1,V,f3,f7]
  refine gwp_next (hle _ _ hG) hI _ ?_ ?_
  · intro i p hp hns
    have hil : i < l.length := by
      by_cases h : i < l.length
      · exact h
      · rw [List.getElem?_eq_none (by omega)] at hp; cases hp
    obtain ⟨hir, hperm2⟩ := perm_push hperm hil hns
    have hlen2 : (rest.erase i).length < rest.length := by
      have h1 := List.length_erase_of_mem hir
      have h2 := List.length_pos_of_mem hir
      omega
    have htl := tl_push l seen i p hp
    have htn := tl_len l seen rest hperm
    have hI2 := put_self G' it (.mapIter (some r) l.length (seen.push i) l.length, true)
    have hov2 := OV.putI (o' := .mapIter (some r) l.length (seen.push i) l.length) (t' := true) hov hI (by simp)
    have hle2 := le_put_new hle hit (.mapIter (some r) l.length (seen.push i) l.length, true)
    generalize G'.put it (.mapIter (some r) l.length (seen.push i) l.length, true) = G2 at *
    simp only [↓Za,↓Zb,↓Zc,↓Zd,↓Ze,↓Zf,↓Zg,↓Zh,↓Zi,↓Zj,↓Zk,↓Zl,↓Zm,↓Zn,↓Zo,↓Zp,↓Zq,↓Zr,↓Zs,↓Zt,↓Zu,↓Zv,↓Zw,↓Zx,↓Zy,↓Zz,↓ZA,↓ZB,↓ZC,↓ZD,↓ZE,↓ZF,↓ZG,↓ZH,↓ZI,↓ZJ,↓ZK,↓ZL,↓ZM,↓ZN,↓ZO,↓ZP,↓ZQ,↓ZR,↓ZS,↓ZT,↓ZU,↓ZV,↓ZW,↓ZX,↓ZY,↓ZZ,↓Qa,↓Qb,↓Qc,↓Qd,↓Qe,↓Qf,↓Qg,↓Qh,↓Qi,↓Qj,↓Qk,↓Ql,↓Qm,↓Qn,↓Qo,↓Qp,Qq,Qr,Qs,Qt,Qu,Qv,Qw,Qx,Qy,Qz,QA,QB,QC,QD,QE,QF,QG,QH,QI,QJ,QK,QL,QM,QN,QO,QP,QR,QS,QT,QU,QV,QW,QX,QY,QZ,Ja,Jb,Jc,Jd,Je,Jf,Jg,Jh,Ji,Jj,Jk,Jl,Jm,Jn,Jo,Jp,Jq,Jr,Js,Jt,reduceIte,Nat.reduceEqDiff,Nat.reduceAdd,Nat.reduceSub,List.map_cons,List.map_nil,List.nil_append,List.cons_append,List.append_nil,List.getElem?_cons_zero,List.getElem?_cons_succ,Option.map_some,reduceCtorEq,ne_eq,not_false_eq_true,Int.reduceEq,Nat.succ_ne_self,Bool.false_eq_true,Option.map_none,Int.toNat_natCast,List.filterMap_cons,List.filterMap_nil,List.drop_zero,List.take_succ_cons,List.take_zero,List.drop_succ_cons,Nat.zero_add,Ju,Jv,Jw,Jx,Jy,Jz,List.all_cons,List.all_nil,Bool.and_self,Bool.and_true,Bool.true_and,Bool.not_true,Bool.not_false,decide_true,decide_false,not_true_eq_false,List.length_cons,List.length_nil,Nat.reduceLeDiff,Nat.mul_one,ld3,ld24,ln39,st91,al91,fa91_0,fa91_1,en71,en82,bd44_0_1,bd44_0_1_2,bs39_0,bs39_1,V,f3,f7]
    refine gwp_entry (hle2 _ _ hG) hI2 hp ?_
    simp only [↓Za,↓Zb,↓Zc,↓Zd,↓Ze,↓Zf,↓Zg,↓Zh,↓Zi,↓Zj,↓Zk,↓Zl,↓Zm,↓Zn,↓Zo,↓Zp,↓Zq,↓Zr,↓Zs,↓Zt,↓Zu,↓Zv,↓Zw,↓Zx,↓Zy,↓Zz,↓ZA,↓ZB,↓ZC,↓ZD,↓ZE,↓ZF,↓ZG,↓ZH,↓ZI,↓ZJ,↓ZK,↓ZL,↓ZM,↓ZN,↓ZO,↓ZP,↓ZQ,↓ZR,↓ZS,↓ZT,↓ZU,↓ZV,↓ZW,↓ZX,↓ZY,↓ZZ,↓Qa,↓Qb,↓Qc,↓Qd,↓Qe,↓Qf,↓Qg,↓Qh,↓Qi,↓Qj,↓Qk,↓Ql,↓Qm,↓Qn,↓Qo,↓Qp,Qq,Qr,Qs,Qt,Qu,Qv,Qw,Qx,Qy,Qz,QA,QB,QC,QD,QE,QF,QG,QH,QI,QJ,QK,QL,QM,QN,QO,QP,QR,QS,QT,QU,QV,QW,QX,QY,QZ,Ja,Jb,Jc,Jd,Je,Jf,Jg,Jh,Ji,Jj,Jk,Jl,Jm,Jn,Jo,Jp,Jq,Jr,Js,Jt,reduceIte,Nat.reduceEqDiff,Nat.reduceAdd,Nat.reduceSub,List.map_cons,List.map_nil,List.nil_append,List.cons_append,List.append_nil,List.getElem?_cons_zero,List.getElem?_cons_succ,Option.map_some,reduceCtorEq,ne_eq,not_false_eq_true,Int.reduceEq,Nat.succ_ne_self,Bool.false_eq_true,Option.map_none,Int.toNat_natCast,List.filterMap_cons,List.filterMap_nil,List.drop_zero,List.take_succ_cons,List.take_zero,List.drop_succ_cons,Nat.zero_add,Ju,Jv,Jw,Jx,Jy,Jz,List.all_cons,List.all_nil,Bool.and_self,Bool.and_true,Bool.true_and,Bool.not_true,Bool.not_false,decide_true,decide_false,not_true_eq_false,List.length_cons,List.length_nil,Nat.reduceLeDiff,Nat.mul_one,ld3,ld24,ln39,st91,al91,fa91_0,fa91_1,en71,en82,bd44_0_1,bd44_0_1_2,bs39_0,bs39_1,V,f3,f7,encK]
    refine Ynew'_intro ?_; intro q G3 qf h3 qh
    simp only [↓Za,↓Zb,↓Zc,↓Zd,↓Ze,↓Zf,↓Zg,↓Zh,↓Zi,↓Zj,↓Zk,↓Zl,↓Zm,↓Zn,↓Zo,↓Zp,↓Zq,↓Zr,↓Zs,↓Zt,↓Zu,↓Zv,↓Zw,↓Zx,↓Zy,↓Zz,↓ZA,↓ZB,↓ZC,↓ZD,↓ZE,↓ZF,↓ZG,↓ZH,↓ZI,↓ZJ,↓ZK,↓ZL,↓ZM,↓ZN,↓ZO,↓ZP,↓ZQ,↓ZR,↓ZS,↓ZT,↓ZU,↓ZV,↓ZW,↓ZX,↓ZY,↓ZZ,↓Qa,↓Qb,↓Qc,↓Qd,↓Qe,↓Qf,↓Qg,↓Qh,↓Qi,↓Qj,↓Qk,↓Ql,↓Qm,↓Qn,↓Qo,↓Qp,Qq,Qr,Qs,Qt,Qu,Qv,Qw,Qx,Qy,Qz,QA,QB,QC,QD,QE,QF,QG,QH,QI,QJ,QK,QL,QM,QN,QO,QP,QR,QS,QT,QU,QV,QW,QX,QY,QZ,Ja,Jb,Jc,Jd,Je,Jf,Jg,Jh,Ji,Jj,Jk,Jl,Jm,Jn,Jo,Jp,Jq,Jr,Js,Jt,reduceIte,Nat.reduceEqDiff,Nat.reduceAdd,Nat.reduceSub,List.map_cons,List.map_nil,List.nil_append,List.cons_append,List.append_nil,List.getElem?_cons_zero,List.getElem?_cons_succ,Option.map_some,reduceCtorEq,ne_eq,not_false_eq_true,Int.reduceEq,Nat.succ_ne_self,Bool.false_eq_true,Option.map_none,Int.toNat_natCast,List.filterMap_cons,List.filterMap_nil,List.drop_zero,List.take_succ_cons,List.take_zero,List.drop_succ_cons,Nat.zero_add,Ju,Jv,Jw,Jx,Jy,Jz,List.all_cons,List.all_nil,Bool.and_self,Bool.and_true,Bool.true_and,Bool.not_true,Bool.not_false,decide_true,decide_false,not_true_eq_false,List.length_cons,List.length_nil,Nat.reduceLeDiff,Nat.mul_one,ld3,ld24,ln39,st91,al91,fa91_0,fa91_1,en71,en82,bd44_0_1,bd44_0_1_2,bs39_0,bs39_1,V,f3,f7,encK]
    refine Yset_intro (a := ⟨q, 0, none⟩) G2 rfl qh (by simp) qf h3 ?_
    clear qh h3; intro G8 h3 qh qo; clear qo
    simp only [setCells, List.setIfInBounds_toArray, List.set_cons_zero, List.set_cons_succ] at qh
    simp only [↓Za,↓Zb,↓Zc,↓Zd,↓Ze,↓Zf,↓Zg,↓Zh,↓Zi,↓Zj,↓Zk,↓Zl,↓Zm,↓Zn,↓Zo,↓Zp,↓Zq,↓Zr,↓Zs,↓Zt,↓Zu,↓Zv,↓Zw,↓Zx,↓Zy,↓Zz,↓ZA,↓ZB,↓ZC,↓ZD,↓ZE,↓ZF,↓ZG,↓ZH,↓ZI,↓ZJ,↓ZK,↓ZL,↓ZM,↓ZN,↓ZO,↓ZP,↓ZQ,↓ZR,↓ZS,↓ZT,↓ZU,↓ZV,↓ZW,↓ZX,↓ZY,↓ZZ,↓Qa,↓Qb,↓Qc,↓Qd,↓Qe,↓Qf,↓Qg,↓Qh,↓Qi,↓Qj,↓Qk,↓Ql,↓Qm,↓Qn,↓Qo,↓Qp,Qq,Qr,Qs,Qt,Qu,Qv,Qw,Qx,Qy,Qz,QA,QB,QC,QD,QE,QF,QG,QH,QI,QJ,QK,QL,QM,QN,QO,QP,QR,QS,QT,QU,QV,QW,QX,QY,QZ,Ja,Jb,Jc,Jd,Je,Jf,Jg,Jh,Ji,Jj,Jk,Jl,Jm,Jn,Jo,Jp,Jq,Jr,Js,Jt,reduceIte,Nat.reduceEqDiff,Nat.reduceAdd,Nat.reduceSub,List.map_cons,List.map_nil,List.nil_append,List.cons_append,List.append_nil,List.getElem?_cons_zero,List.getElem?_cons_succ,Option.map_some,reduceCtorEq,ne_eq,not_false_eq_true,Int.reduceEq,Nat.succ_ne_self,Bool.false_eq_true,Option.map_none,Int.toNat_natCast,List.filterMap_cons,List.filterMap_nil,List.drop_zero,List.take_succ_cons,List.take_zero,List.drop_succ_cons,Nat.zero_add,Ju,Jv,Jw,Jx,Jy,Jz,List.all_cons,List.all_nil,Bool.and_self,Bool.and_true,Bool.true_and,Bool.not_true,Bool.not_false,decide_true,decide_false,not_true_eq_false,List.length_cons,List.length_nil,Nat.reduceLeDiff,Nat.mul_one,ld3,ld24,ln39,st91,al91,fa91_0,fa91_1,en71,en82,bd44_0_1,bd44_0_1_2,bs39_0,bs39_1,V,f3,f7,encK]
    replace hI2 := h3 _ _ hI2
    replace hov2 := hov2.le h3
    replace hle2 := hle2.trans h3
    refine Xc_split _ _ _ _ _ (fun hpos => ?_) (fun hpos => ?_)
    · simp only [↓Za,↓Zb,↓Zc,↓Zd,↓Ze,↓Zf,↓Zg,↓Zh,↓Zi,↓Zj,↓Zk,↓Zl,↓Zm,↓Zn,↓Zo,↓Zp,↓Zq,↓Zr,↓Zs,↓Zt,↓Zu,↓Zv,↓Zw,↓Zx,↓Zy,↓Zz,↓ZA,↓ZB,↓ZC,↓ZD,↓ZE,↓ZF,↓ZG,↓ZH,↓ZI,↓ZJ,↓ZK,↓ZL,↓ZM,↓ZN,↓ZO,↓ZP,↓ZQ,↓ZR,↓ZS,↓ZT,↓ZU,↓ZV,↓ZW,↓ZX,↓ZY,↓ZZ,↓Qa,↓Qb,↓Qc,↓Qd,↓Qe,↓Qf,↓Qg,↓Qh,↓Qi,↓Qj,↓Qk,↓Ql,↓Qm,↓Qn,↓Qo,↓Qp,Qq,Qr,Qs,Qt,Qu,Qv,Qw,Qx,Qy,Qz,QA,QB,QC,QD,QE,QF,QG,QH,QI,QJ,QK,QL,QM,QN,QO,QP,QR,QS,QT,QU,QV,QW,QX,QY,QZ,Ja,Jb,Jc,Jd,Je,Jf,Jg,Jh,Ji,Jj,Jk,Jl,Jm,Jn,Jo,Jp,Jq,Jr,Js,Jt,reduceIte,Nat.reduceEqDiff,Nat.reduceAdd,Nat.reduceSub,List.map_cons,List.map_nil,List.nil_append,List.cons_append,List.append_nil,List.getElem?_cons_zero,List.getElem?_cons_succ,Option.map_some,reduceCtorEq,ne_eq,not_false_eq_true,Int.reduceEq,Nat.succ_ne_self,Bool.false_eq_true,Option.map_none,Int.toNat_natCast,List.filterMap_cons,List.filterMap_nil,List.drop_zero,List.take_succ_cons,List.take_zero,List.drop_succ_cons,Nat.zero_add,Ju,Jv,Jw,Jx,Jy,Jz,List.all_cons,List.all_nil,Bool.and_self,Bool.and_true,Bool.true_and,Bool.not_true,Bool.not_false,decide_true,decide_false,not_true_eq_false,List.length_cons,List.length_nil,Nat.reduceLeDiff,Nat.mul_one,ld3,ld24,ln39,st91,al91,fa91_0,fa91_1,en71,en82,bd44_0_1,bd44_0_1_2,bs39_0,bs39_1,V,f3,f7,encK,gcell_at qh,gcells_if qh]
      refine Ynew_intro ?_; intro w G5 wf h5 wh
      replace hI2 := h5 _ _ hI2
      replace hov2 := hov2.le h5
      replace hle2 := hle2.trans h5
      simp only [↓Za,↓Zb,↓Zc,↓Zd,↓Ze,↓Zf,↓Zg,↓Zh,↓Zi,↓Zj,↓Zk,↓Zl,↓Zm,↓Zn,↓Zo,↓Zp,↓Zq,↓Zr,↓Zs,↓Zt,↓Zu,↓Zv,↓Zw,↓Zx,↓Zy,↓Zz,↓ZA,↓ZB,↓ZC,↓ZD,↓ZE,↓ZF,↓ZG,↓ZH,↓ZI,↓ZJ,↓ZK,↓ZL,↓ZM,↓ZN,↓ZO,↓ZP,↓ZQ,↓ZR,↓ZS,↓ZT,↓ZU,↓ZV,↓ZW,↓ZX,↓ZY,↓ZZ,↓Qa,↓Qb,↓Qc,↓Qd,↓Qe,↓Qf,↓Qg,↓Qh,↓Qi,↓Qj,↓Qk,↓Ql,↓Qm,↓Qn,↓Qo,↓Qp,Qq,Qr,Qs,Qt,Qu,Qv,Qw,Qx,Qy,Qz,QA,QB,QC,QD,QE,QF,QG,QH,QI,QJ,QK,QL,QM,QN,QO,QP,QR,QS,QT,QU,QV,QW,QX,QY,QZ,Ja,Jb,Jc,Jd,Je,Jf,Jg,Jh,Ji,Jj,Jk,Jl,Jm,Jn,Jo,Jp,Jq,Jr,Js,Jt,reduceIte,Nat.reduceEqDiff,Nat.reduceAdd,Nat.reduceSub,List.map_cons,List.map_nil,List.nil_append,List.cons_append,List.append_nil,List.getElem?_cons_zero,List.getElem?_cons_succ,Option.map_some,reduceCtorEq,ne_eq,not_false_eq_true,Int.reduceEq,Nat.succ_ne_self,Bool.false_eq_true,Option.map_none,Int.toNat_natCast,List.filterMap_cons,List.filterMap_nil,List.drop_zero,List.take_succ_cons,List.take_zero,List.drop_succ_cons,Nat.zero_add,Ju,Jv,Jw,Jx,Jy,Jz,List.all_cons,List.all_nil,Bool.and_self,Bool.and_true,Bool.true_and,Bool.not_true,Bool.not_false,decide_true,decide_false,not_true_eq_false,List.length_cons,List.length_nil,Nat.reduceLeDiff,Nat.mul_one,ld3,ld24,ln39,st91,al91,fa91_0,fa91_1,en71,en82,bd44_0_1,bd44_0_1_2,bs39_0,bs39_1,V,f3,f7,encK]
      refine gwp_append (e := 44) (sz := 4) (G0 := G) (m := 1) (cs := cs) (ds := encT (mkT p)) (z := .agg #[.int .i64 0, .int .i64 0, .int .i64 0, .int .i64 0]) Try.underlying39 Try.underlying39 sz44 (by decide) zv44 rfl (by rw [show tyBytes Try.prog 44 = 32 from by kernel_rfl]; decide) ?_ hov2 ?_ rfl hle2 ?_
      · rw [show tyBytes Try.prog 44 = 32 from by kernel_rfl]; omega
      · exact ⟨rfl, _, _, rfl, .inl ⟨_, rfl, by rw [gcells_if wh]; rfl⟩⟩
      · intro v' G6 hov6 hkeep hle6
        simp only [↓Za,↓Zb,↓Zc,↓Zd,↓Ze,↓Zf,↓Zg,↓Zh,↓Zi,↓Zj,↓Zk,↓Zl,↓Zm,↓Zn,↓Zo,↓Zp,↓Zq,↓Zr,↓Zs,↓Zt,↓Zu,↓Zv,↓Zw,↓Zx,↓Zy,↓Zz,↓ZA,↓ZB,↓ZC,↓ZD,↓ZE,↓ZF,↓ZG,↓ZH,↓ZI,↓ZJ,↓ZK,↓ZL,↓ZM,↓ZN,↓ZO,↓ZP,↓ZQ,↓ZR,↓ZS,↓ZT,↓ZU,↓ZV,↓ZW,↓ZX,↓ZY,↓ZZ,↓Qa,↓Qb,↓Qc,↓Qd,↓Qe,↓Qf,↓Qg,↓Qh,↓Qi,↓Qj,↓Qk,↓Ql,↓Qm,↓Qn,↓Qo,↓Qp,Qq,Qr,Qs,Qt,Qu,Qv,Qw,Qx,Qy,Qz,QA,QB,QC,QD,QE,QF,QG,QH,QI,QJ,QK,QL,QM,QN,QO,QP,QR,QS,QT,QU,QV,QW,QX,QY,QZ,Ja,Jb,Jc,Jd,Je,Jf,Jg,Jh,Ji,Jj,Jk,Jl,Jm,Jn,Jo,Jp,Jq,Jr,Js,Jt,reduceIte,Nat.reduceEqDiff,Nat.reduceAdd,Nat.reduceSub,List.map_cons,List.map_nil,List.nil_append,List.cons_append,List.append_nil,List.getElem?_cons_zero,List.getElem?_cons_succ,Option.map_some,reduceCtorEq,ne_eq,not_false_eq_true,Int.reduceEq,Nat.succ_ne_self,Bool.false_eq_true,Option.map_none,Int.toNat_natCast,List.filterMap_cons,List.filterMap_nil,List.drop_zero,List.take_succ_cons,List.take_zero,List.drop_succ_cons,Nat.zero_add,Ju,Jv,Jw,Jx,Jy,Jz,List.all_cons,List.all_nil,Bool.and_self,Bool.and_true,Bool.true_and,Bool.not_true,Bool.not_false,decide_true,decide_false,not_true_eq_false,List.length_cons,List.length_nil,Nat.reduceLeDiff,Nat.mul_one,ld3,ld24,ln39,st91,al91,fa91_0,fa91_1,en71,en82,bd44_0_1,bd44_0_1_2,bs39_0,bs39_1,V,f3,f7]
        rw [N_lp]
        rw [if_pos hpos] at htl
        refine ⟨_, hlen2, seen.push i, rest.erase i, v', cs ++ encT (mkT p), rfl, hperm2, by simp only [↓Za,↓Zb,↓Zc,↓Zd,↓Ze,↓Zf,↓Zg,↓Zh,↓Zi,↓Zj,↓Zk,↓Zl,↓Zm,↓Zn,↓Zo,↓Zp,↓Zq,↓Zr,↓Zs,↓Zt,↓Zu,↓Zv,↓Zw,↓Zx,↓Zy,↓Zz,↓ZA,↓ZB,↓ZC,↓ZD,↓ZE,↓ZF,↓ZG,↓ZH,↓ZI,↓ZJ,↓ZK,↓ZL,↓ZM,↓ZN,↓ZO,↓ZP,↓ZQ,↓ZR,↓ZS,↓ZT,↓ZU,↓ZV,↓ZW,↓ZX,↓ZY,↓ZZ,↓Qa,↓Qb,↓Qc,↓Qd,↓Qe,↓Qf,↓Qg,↓Qh,↓Qi,↓Qj,↓Qk,↓Ql,↓Qm,↓Qn,↓Qo,↓Qp,Qq,Qr,Qs,Qt,Qu,Qv,Qw,Qx,Qy,Qz,QA,QB,QC,QD,QE,QF,QG,QH,QI,QJ,QK,QL,QM,QN,QO,QP,QR,QS,QT,QU,QV,QW,QX,QY,QZ,Ja,Jb,Jc,Jd,Je,Jf,Jg,Jh,Ji,Jj,Jk,Jl,Jm,Jn,Jo,Jp,Jq,Jr,Js,Jt,reduceIte,Nat.reduceEqDiff,Nat.reduceAdd,Nat.reduceSub,List.map_cons,List.map_nil,List.nil_append,List.cons_append,List.append_nil,List.getElem?_cons_zero,List.getElem?_cons_succ,Option.map_some,reduceCtorEq,ne_eq,not_false_eq_true,Int.reduceEq,Nat.succ_ne_self,Bool.false_eq_true,Option.map_none,Int.toNat_natCast,List.filterMap_cons,List.filterMap_nil,List.drop_zero,List.take_succ_cons,List.take_zero,List.drop_succ_cons,Nat.zero_add,Ju,Jv,Jw,Jx,Jy,Jz,List.all_cons,List.all_nil,Bool.and_self,Bool.and_true,Bool.true_and,Bool.not_true,Bool.not_false,decide_true,decide_false,not_true_eq_false,List.length_cons,List.length_nil,Nat.reduceLeDiff,Nat.mul_one,ld3,ld24,ln39,st91,al91,fa91_0,fa91_1,en71,en82,bd44_0_1,bd44_0_1_2,bs39_0,bs39_1,V], by simp only [↓Za,↓Zb,↓Zc,↓Zd,↓Ze,↓Zf,↓Zg,↓Zh,↓Zi,↓Zj,↓Zk,↓Zl,↓Zm,↓Zn,↓Zo,↓Zp,↓Zq,↓Zr,↓Zs,↓Zt,↓Zu,↓Zv,↓Zw,↓Zx,↓Zy,↓Zz,↓ZA,↓ZB,↓ZC,↓ZD,↓ZE,↓ZF,↓ZG,↓ZH,↓ZI,↓ZJ,↓ZK,↓ZL,↓ZM,↓ZN,↓ZO,↓ZP,↓ZQ,↓ZR,↓ZS,↓ZT,↓ZU,↓ZV,↓ZW,↓ZX,↓ZY,↓ZZ,↓Qa,↓Qb,↓Qc,↓Qd,↓Qe,↓Qf,↓Qg,↓Qh,↓Qi,↓Qj,↓Qk,↓Ql,↓Qm,↓Qn,↓Qo,↓Qp,Qq,Qr,Qs,Qt,Qu,Qv,Qw,Qx,Qy,Qz,QA,QB,QC,QD,QE,QF,QG,QH,QI,QJ,QK,QL,QM,QN,QO,QP,QR,QS,QT,QU,QV,QW,QX,QY,QZ,Ja,Jb,Jc,Jd,Je,Jf,Jg,Jh,Ji,Jj,Jk,Jl,Jm,Jn,Jo,Jp,Jq,Jr,Js,Jt,reduceIte,Nat.reduceEqDiff,Nat.reduceAdd,Nat.reduceSub,List.map_cons,List.map_nil,List.nil_append,List.cons_append,List.append_nil,List.getElem?_cons_zero,List.getElem?_cons_succ,Option.map_some,reduceCtorEq,ne_eq,not_false_eq_true,Int.reduceEq,Nat.succ_ne_self,Bool.false_eq_true,Option.map_none,Int.toNat_natCast,List.filterMap_cons,List.filterMap_nil,List.drop_zero,List.take_succ_cons,List.take_zero,List.drop_succ_cons,Nat.zero_add,Ju,Jv,Jw,Jx,Jy,Jz,List.all_cons,List.all_nil,Bool.and_self,Bool.and_true,Bool.true_and,Bool.not_true,Bool.not_false,decide_true,decide_false,not_true_eq_false,List.length_cons,List.length_nil,Nat.reduceLeDiff,Nat.mul_one,ld3,ld24,ln39,st91,al91,fa91_0,fa91_1,en71,en82,bd44_0_1,bd44_0_1_2,bs39_0,bs39_1,V,f7], hkeep it _ hI2 (OV.notAtI hov2 hI2 (by simp)), ?_, ?_, hle6⟩
        · rw [htl, List.length_append]; exact hov6
        · rw [htl]; exact Cellsof.append (cellsofT hcs) (Cellsof.one rfl)
    · simp only [↓Za,↓Zb,↓Zc,↓Zd,↓Ze,↓Zf,↓Zg,↓Zh,↓Zi,↓Zj,↓Zk,↓Zl,↓Zm,↓Zn,↓Zo,↓Zp,↓Zq,↓Zr,↓Zs,↓Zt,↓Zu,↓Zv,↓Zw,↓Zx,↓Zy,↓Zz,↓ZA,↓ZB,↓ZC,↓ZD,↓ZE,↓ZF,↓ZG,↓ZH,↓ZI,↓ZJ,↓ZK,↓ZL,↓ZM,↓ZN,↓ZO,↓ZP,↓ZQ,↓ZR,↓ZS,↓ZT,↓ZU,↓ZV,↓ZW,↓ZX,↓ZY,↓ZZ,↓Qa,↓Qb,↓Qc,↓Qd,↓Qe,↓Qf,↓Qg,↓Qh,↓Qi,↓Qj,↓Qk,↓Ql,↓Qm,↓Qn,↓Qo,↓Qp,Qq,Qr,Qs,Qt,Qu,Qv,Qw,Qx,Qy,Qz,QA,QB,QC,QD,QE,QF,QG,QH,QI,QJ,QK,QL,QM,QN,QO,QP,QR,QS,QT,QU,QV,QW,QX,QY,QZ,Ja,Jb,Jc,Jd,Je,Jf,Jg,Jh,Ji,Jj,Jk,Jl,Jm,Jn,Jo,Jp,Jq,Jr,Js,Jt,reduceIte,Nat.reduceEqDiff,Nat.reduceAdd,Nat.reduceSub,List.map_cons,List.map_nil,List.nil_append,List.cons_append,List.append_nil,List.getElem?_cons_zero,List.getElem?_cons_succ,Option.map_some,reduceCtorEq,ne_eq,not_false_eq_true,Int.reduceEq,Nat.succ_ne_self,Bool.false_eq_true,Option.map_none,Int.toNat_natCast,List.filterMap_cons,List.filterMap_nil,List.drop_zero,List.take_succ_cons,List.take_zero,List.drop_succ_cons,Nat.zero_add,Ju,Jv,Jw,Jx,Jy,Jz,List.all_cons,List.all_nil,Bool.and_self,Bool.and_true,Bool.true_and,Bool.not_true,Bool.not_false,decide_true,decide_false,not_true_eq_false,List.length_cons,List.length_nil,Nat.reduceLeDiff,Nat.mul_one,ld3,ld24,ln39,st91,al91,fa91_0,fa91_1,en71,en82,bd44_0_1,bd44_0_1_2,bs39_0,bs39_1,V,f3,f7]
      rw [N_lp]
      rw [if_neg hpos, List.append_nil] at htl
      refine ⟨_, hlen2, seen.push i, rest.erase i, v, cs, rfl, hperm2, by simp only [↓Za,↓Zb,↓Zc,↓Zd,↓Ze,↓Zf,↓Zg,↓Zh,↓Zi,↓Zj,↓Zk,↓Zl,↓Zm,↓Zn,↓Zo,↓Zp,↓Zq,↓Zr,↓Zs,↓Zt,↓Zu,↓Zv,↓Zw,↓Zx,↓Zy,↓Zz,↓ZA,↓ZB,↓ZC,↓ZD,↓ZE,↓ZF,↓ZG,↓ZH,↓ZI,↓ZJ,↓ZK,↓ZL,↓ZM,↓ZN,↓ZO,↓ZP,↓ZQ,↓ZR,↓ZS,↓ZT,↓ZU,↓ZV,↓ZW,↓ZX,↓ZY,↓ZZ,↓Qa,↓Qb,↓Qc,↓Qd,↓Qe,↓Qf,↓Qg,↓Qh,↓Qi,↓Qj,↓Qk,↓Ql,↓Qm,↓Qn,↓Qo,↓Qp,Qq,Qr,Qs,Qt,Qu,Qv,Qw,Qx,Qy,Qz,QA,QB,QC,QD,QE,QF,QG,QH,QI,QJ,QK,QL,QM,QN,QO,QP,QR,QS,QT,QU,QV,QW,QX,QY,QZ,Ja,Jb,Jc,Jd,Je,Jf,Jg,Jh,Ji,Jj,Jk,Jl,Jm,Jn,Jo,Jp,Jq,Jr,Js,Jt,reduceIte,Nat.reduceEqDiff,Nat.reduceAdd,Nat.reduceSub,List.map_cons,List.map_nil,List.nil_append,List.cons_append,List.append_nil,List.getElem?_cons_zero,List.getElem?_cons_succ,Option.map_some,reduceCtorEq,ne_eq,not_false_eq_true,Int.reduceEq,Nat.succ_ne_self,Bool.false_eq_true,Option.map_none,Int.toNat_natCast,List.filterMap_cons,List.filterMap_nil,List.drop_zero,List.take_succ_cons,List.take_zero,List.drop_succ_cons,Nat.zero_add,Ju,Jv,Jw,Jx,Jy,Jz,List.all_cons,List.all_nil,Bool.and_self,Bool.and_true,Bool.true_and,Bool.not_true,Bool.not_false,decide_true,decide_false,not_true_eq_false,List.length_cons,List.length_nil,Nat.reduceLeDiff,Nat.mul_one,ld3,ld24,ln39,st91,al91,fa91_0,fa91_1,en71,en82,bd44_0_1,bd44_0_1_2,bs39_0,bs39_1,V,f3], by simp only [↓Za,↓Zb,↓Zc,↓Zd,↓Ze,↓Zf,↓Zg,↓Zh,↓Zi,↓Zj,↓Zk,↓Zl,↓Zm,↓Zn,↓Zo,↓Zp,↓Zq,↓Zr,↓Zs,↓Zt,↓Zu,↓Zv,↓Zw,↓Zx,↓Zy,↓Zz,↓ZA,↓ZB,↓ZC,↓ZD,↓ZE,↓ZF,↓ZG,↓ZH,↓ZI,↓ZJ,↓ZK,↓ZL,↓ZM,↓ZN,↓ZO,↓ZP,↓ZQ,↓ZR,↓ZS,↓ZT,↓ZU,↓ZV,↓ZW,↓ZX,↓ZY,↓ZZ,↓Qa,↓Qb,↓Qc,↓Qd,↓Qe,↓Qf,↓Qg,↓Qh,↓Qi,↓Qj,↓Qk,↓Ql,↓Qm,↓Qn,↓Qo,↓Qp,Qq,Qr,Qs,Qt,Qu,Qv,Qw,Qx,Qy,Qz,QA,QB,QC,QD,QE,QF,QG,QH,QI,QJ,QK,QL,QM,QN,QO,QP,QR,QS,QT,QU,QV,QW,QX,QY,QZ,Ja,Jb,Jc,Jd,Je,Jf,Jg,Jh,Ji,Jj,Jk,Jl,Jm,Jn,Jo,Jp,Jq,Jr,Js,Jt,reduceIte,Nat.reduceEqDiff,Nat.reduceAdd,Nat.reduceSub,List.map_cons,List.map_nil,List.nil_append,List.cons_append,List.append_nil,List.getElem?_cons_zero,List.getElem?_cons_succ,Option.map_some,reduceCtorEq,ne_eq,not_false_eq_true,Int.reduceEq,Nat.succ_ne_self,Bool.false_eq_true,Option.map_none,Int.toNat_natCast,List.filterMap_cons,List.filterMap_nil,List.drop_zero,List.take_succ_cons,List.take_zero,List.drop_succ_cons,Nat.zero_add,Ju,Jv,Jw,Jx,Jy,Jz,List.all_cons,List.all_nil,Bool.and_self,Bool.and_true,Bool.true_and,Bool.not_true,Bool.not_false,decide_true,decide_false,not_true_eq_false,List.length_cons,List.length_nil,Nat.reduceLeDiff,Nat.mul_one,ld3,ld24,ln39,st91,al91,fa91_0,fa91_1,en71,en82,bd44_0_1,bd44_0_1_2,bs39_0,bs39_1,V,f7], hI2, ?_, ?_, hle2⟩
      · rw [htl]; exact hov2
      · rw [htl]; exact cellsofT hcs
  · intro hall
    have hr := rest_nil hperm hall
    subst hr
    rw [List.append_nil] at hperm
    have htp : (talliesOf (seen.toList.filterMap (l[·]?))).Perm (talliesOf l) := by
      have h1 := hperm.filterMap (fun i => l[i]?)
      rw [range_get] at h1
      exact (h1.filter _).map _
    have htn := tl_len l seen [] (by simpa using hperm)
    generalize talliesOf (seen.toList.filterMap (l[·]?)) = acc at *
    have hceq := cellsofT_eq hcs
    simp only [↓Za,↓Zb,↓Zc,↓Zd,↓Ze,↓Zf,↓Zg,↓Zh,↓Zi,↓Zj,↓Zk,↓Zl,↓Zm,↓Zn,↓Zo,↓Zp,↓Zq,↓Zr,↓Zs,↓Zt,↓Zu,↓Zv,↓Zw,↓Zx,↓Zy,↓Zz,↓ZA,↓ZB,↓ZC,↓ZD,↓ZE,↓ZF,↓ZG,↓ZH,↓ZI,↓ZJ,↓ZK,↓ZL,↓ZM,↓ZN,↓ZO,↓ZP,↓ZQ,↓ZR,↓ZS,↓ZT,↓ZU,↓ZV,↓ZW,↓ZX,↓ZY,↓ZZ,↓Qa,↓Qb,↓Qc,↓Qd,↓Qe,↓Qf,↓Qg,↓Qh,↓Qi,↓Qj,↓Qk,↓Ql,↓Qm,↓Qn,↓Qo,↓Qp,Qq,Qr,Qs,Qt,Qu,Qv,Qw,Qx,Qy,Qz,QA,QB,QC,QD,QE,QF,QG,QH,QI,QJ,QK,QL,QM,QN,QO,QP,QR,QS,QT,QU,QV,QW,QX,QY,QZ,Ja,Jb,Jc,Jd,Je,Jf,Jg,Jh,Ji,Jj,Jk,Jl,Jm,Jn,Jo,Jp,Jq,Jr,Js,Jt,reduceIte,Nat.reduceEqDiff,Nat.reduceAdd,Nat.reduceSub,List.map_cons,List.map_nil,List.nil_append,List.cons_append,List.append_nil,List.getElem?_cons_zero,List.getElem?_cons_succ,Option.map_some,reduceCtorEq,ne_eq,not_false_eq_true,Int.reduceEq,Nat.succ_ne_self,Bool.false_eq_true,Option.map_none,Int.toNat_natCast,List.filterMap_cons,List.filterMap_nil,List.drop_zero,List.take_succ_cons,List.take_zero,List.drop_succ_cons,Nat.zero_add,Ju,Jv,Jw,Jx,Jy,Jz,List.all_cons,List.all_nil,Bool.and_self,Bool.and_true,Bool.true_and,Bool.not_true,Bool.not_false,decide_true,decide_false,not_true_eq_false,List.length_cons,List.length_nil,Nat.reduceLeDiff,Nat.mul_one,ld3,ld24,ln39,st91,al91,fa91_0,fa91_1,en71,en82,bd44_0_1,bd44_0_1_2,bs39_0,bs39_1,V,f3,f7]
    rcases hov.2 with ⟨rfl, h0⟩ | ⟨b, cap, c, rfl, h0, hb, hsz, hn, htake⟩
    · have := List.eq_nil_of_length_eq_zero h0
      subst this
      refine Ycall_intro (md := none) (hS.nilc _ _ _) ?_
      rintro _ G9 ⟨rfl, rfl⟩
      simp only [↓Za,↓Zb,↓Zc,↓Zd,↓Ze,↓Zf,↓Zg,↓Zh,↓Zi,↓Zj,↓Zk,↓Zl,↓Zm,↓Zn,↓Zo,↓Zp,↓Zq,↓Zr,↓Zs,↓Zt,↓Zu,↓Zv,↓Zw,↓Zx,↓Zy,↓Zz,↓ZA,↓ZB,↓ZC,↓ZD,↓ZE,↓ZF,↓ZG,↓ZH,↓ZI,↓ZJ,↓ZK,↓ZL,↓ZM,↓ZN,↓ZO,↓ZP,↓ZQ,↓ZR,↓ZS,↓ZT,↓ZU,↓ZV,↓ZW,↓ZX,↓ZY,↓ZZ,↓Qa,↓Qb,↓Qc,↓Qd,↓Qe,↓Qf,↓Qg,↓Qh,↓Qi,↓Qj,↓Qk,↓Ql,↓Qm,↓Qn,↓Qo,↓Qp,Qq,Qr,Qs,Qt,Qu,Qv,Qw,Qx,Qy,Qz,QA,QB,QC,QD,QE,QF,QG,QH,QI,QJ,QK,QL,QM,QN,QO,QP,QR,QS,QT,QU,QV,QW,QX,QY,QZ,Ja,Jb,Jc,Jd,Je,Jf,Jg,Jh,Ji,Jj,Jk,Jl,Jm,Jn,Jo,Jp,Jq,Jr,Js,Jt,reduceIte,Nat.reduceEqDiff,Nat.reduceAdd,Nat.reduceSub,List.map_cons,List.map_nil,List.nil_append,List.cons_append,List.append_nil,List.getElem?_cons_zero,List.getElem?_cons_succ,Option.map_some,reduceCtorEq,ne_eq,not_false_eq_true,Int.reduceEq,Nat.succ_ne_self,Bool.false_eq_true,Option.map_none,Int.toNat_natCast,List.filterMap_cons,List.filterMap_nil,List.drop_zero,List.take_succ_cons,List.take_zero,List.drop_succ_cons,Nat.zero_add,Ju,Jv,Jw,Jx,Jy,Jz,List.all_cons,List.all_nil,Bool.and_self,Bool.and_true,Bool.true_and,Bool.not_true,Bool.not_false,decide_true,decide_false,not_true_eq_false,List.length_cons,List.length_nil,Nat.reduceLeDiff,Nat.mul_one,ld3,ld24,ln39,st91,al91,fa91_0,fa91_1,en71,en82,bd44_0_1,bd44_0_1_2,bs39_0,bs39_1,V,f3,f7]
      exact ⟨G9, Frz.refl _, hle, [], htp, List.Pairwise.nil, RSl.nil _ _⟩
    · have hc1 : acc.length * 4 ≤ c.size := by rw [hsz]; exact Nat.mul_le_mul_right _ hn
      refine Ycall_intro (md := none) (hS.row acc (by omega) hb hc1 (by rw [htake, hceq])) ?_
      rintro _ G9 ⟨rfl, m, hm, hsrt, c', hsz', htk', rfl⟩
      simp only [↓Za,↓Zb,↓Zc,↓Zd,↓Ze,↓Zf,↓Zg,↓Zh,↓Zi,↓Zj,↓Zk,↓Zl,↓Zm,↓Zn,↓Zo,↓Zp,↓Zq,↓Zr,↓Zs,↓Zt,↓Zu,↓Zv,↓Zw,↓Zx,↓Zy,↓Zz,↓ZA,↓ZB,↓ZC,↓ZD,↓ZE,↓ZF,↓ZG,↓ZH,↓ZI,↓ZJ,↓ZK,↓ZL,↓ZM,↓ZN,↓ZO,↓ZP,↓ZQ,↓ZR,↓ZS,↓ZT,↓ZU,↓ZV,↓ZW,↓ZX,↓ZY,↓ZZ,↓Qa,↓Qb,↓Qc,↓Qd,↓Qe,↓Qf,↓Qg,↓Qh,↓Qi,↓Qj,↓Qk,↓Ql,↓Qm,↓Qn,↓Qo,↓Qp,Qq,Qr,Qs,Qt,Qu,Qv,Qw,Qx,Qy,Qz,QA,QB,QC,QD,QE,QF,QG,QH,QI,QJ,QK,QL,QM,QN,QO,QP,QR,QS,QT,QU,QV,QW,QX,QY,QZ,Ja,Jb,Jc,Jd,Je,Jf,Jg,Jh,Ji,Jj,Jk,Jl,Jm,Jn,Jo,Jp,Jq,Jr,Js,Jt,reduceIte,Nat.reduceEqDiff,Nat.reduceAdd,Nat.reduceSub,List.map_cons,List.map_nil,List.nil_append,List.cons_append,List.append_nil,List.getElem?_cons_zero,List.getElem?_cons_succ,Option.map_some,reduceCtorEq,ne_eq,not_false_eq_true,Int.reduceEq,Nat.succ_ne_self,Bool.false_eq_true,Option.map_none,Int.toNat_natCast,List.filterMap_cons,List.filterMap_nil,List.drop_zero,List.take_succ_cons,List.take_zero,List.drop_succ_cons,Nat.zero_add,Ju,Jv,Jw,Jx,Jy,Jz,List.all_cons,List.all_nil,Bool.and_self,Bool.and_true,Bool.true_and,Bool.not_true,Bool.not_false,decide_true,decide_false,not_true_eq_false,List.length_cons,List.length_nil,Nat.reduceLeDiff,Nat.mul_one,ld3,ld24,ln39,st91,al91,fa91_0,fa91_1,en71,en82,bd44_0_1,bd44_0_1_2,bs39_0,bs39_1,V,f3,f7]
      have hml := hm.length_eq
      have hov9 : OV 44 4 G (G'.put b (.cells c' 44 (0, 0), true)) (.slice (some ⟨b, 0, none⟩) m.length cap) m.length (m.map encT).flatten := by
        refine ⟨(cellsofT_mk (G := G') m).len, .inr ⟨b, cap, c', rfl, h0, put_self _ _ _, by rw [hsz', hsz], by omega, by rw [hml]; exact htk'⟩⟩
      obtain ⟨G2, hf, hle9, hr9⟩ := OV.freeze (ρ := rTly) hov9 (cellsofT_mk m) (le_put_new hle h0 _)
      exact ⟨G2, hf, hle9, m, hm.trans htp, hsrt, by rw [← hml]; exact hr9⟩
end Go.Proofs.Ytgkdbjnmlecimaa
