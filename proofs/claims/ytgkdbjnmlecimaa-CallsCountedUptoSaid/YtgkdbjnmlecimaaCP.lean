/- The law CallsCounted (second form, up to the bulk): a part of its proof. No conditions. -/
import Derived.Test.YtgkdbjnmlecimaaCS
import Derived.Test.YtgkdbjnmlecimaaC8
set_option linter.unusedSimpArgs false
set_option linter.unusedVariables false
namespace Go.Proofs.Ytgkdbjnmlecimaa
open Go Go.GL
set_option maxRecDepth 10000
theorem fdiv_eq (x s : Int) (hs : 0 < s) (h1 : -4611686018427387904 ≤ x) (h2 : x ≤ 4611686018427387904) : fdiv x s = x / s := by
  have hb1 : x.tdiv s ≤ 4611686018427387904 ∧ -4611686018427387904 ≤ x.tdiv s := by
    have := Int.natAbs_tdiv_le_natAbs x s
    omega
  have hw : IntKind.i64.wrap (x.tdiv s) = x.tdiv s := wrap_id (by omega)
  have hw2 : IntKind.i64.wrap (x.tdiv s - 1) = x.tdiv s - 1 := wrap_id (by omega)
  unfold fdiv
  rw [hw, hw2]
  have hm := Int.tmod_add_mul_tdiv x s
  by_cases hx : 0 ≤ x
  · have h3 : x.tdiv s = x / s := Int.tdiv_eq_ediv_of_nonneg hx
    have h4 : 0 ≤ x.tmod s := Int.tmod_nonneg s hx
    rw [if_neg (by omega), h3]
  · have h5 : -s < x.tmod s := Int.lt_tmod_of_pos x hs
    have h6 : x.tmod s ≤ 0 := by
      have := Int.tmod_nonneg s (show 0 ≤ -x by omega)
      rw [Int.neg_tmod] at this; omega
    by_cases h7 : x.tmod s < 0
    · rw [if_pos h7]
      symm
      rw [Int.ediv_eq_iff_of_pos hs]
      rw [Int.sub_mul, Int.mul_comm (x.tdiv s) s]
      omega
    · have h8 : x.tmod s = 0 := by omega
      rw [if_neg h7]
      symm
      rw [Int.ediv_eq_iff_of_pos hs, Int.mul_comm (x.tdiv s) s]
      omega
theorem within_iff {a lo hi : Int} : within a lo hi = true ↔ lo ≤ a ∧ a ≤ hi := by simp [within]
theorem hour_eq (t z : Int) (ht : moment t = true) (hz : zoned z = true) : hour1 t z = hour2 t z := by
  rw [moment, within_iff] at ht
  rw [zoned, within_iff] at hz
  have e1 : w64 (z * 60000) = z * 60000 := wrap_id (by omega)
  have e2 : w64 (t + z * 60000) = t + z * 60000 := wrap_id (by omega)
  unfold hour1 hour2 inWeek
  rw [e1, e2]
  generalize hx : t + z * 60000 = x
  have hx1 : -86400000 ≤ x ∧ x ≤ 345772799999 := by omega
  rw [fdiv_eq x 604800000 (by decide) (by omega) (by omega), fdiv_eq x 3600000 (by decide) (by omega) (by omega), fdiv_eq (x / 3600000) 168 (by decide) (by omega) (by omega)]
  have e3 : w64 (x / 604800000 * 604800000) = x / 604800000 * 604800000 := wrap_id (by omega)
  have e4 : w64 (x - x / 604800000 * 604800000) = x - x / 604800000 * 604800000 := wrap_id (by omega)
  have e5 : w64 (x / 3600000 / 168 * 168) = x / 3600000 / 168 * 168 := wrap_id (by omega)
  have e6 : w64 (x / 3600000 - x / 3600000 / 168 * 168) = x / 3600000 - x / 3600000 / 168 * 168 := wrap_id (by omega)
  rw [e3, e4, e5, e6]
  rw [Int.tdiv_eq_ediv_of_nonneg (by omega)]
  have e7 : w64 ((x - x / 604800000 * 604800000) / 3600000) = (x - x / 604800000 * 604800000) / 3600000 := wrap_id (by omega)
  rw [e7]
  omega
/-! the counts -/
theorem kget_pos_bump (k : Key) (m : List (Key × Int)) (n : Nat) (hn : (n : Int) ≤ 1048576) (h : ∀ p ∈ m, 0 < p.2 ∧ p.2 ≤ n) : ∀ p ∈ bump k m, 0 < p.2 ∧ p.2 ≤ (n + 1 : Nat) := by
  have hk : 0 ≤ kget k m ∧ kget k m ≤ n := by
    clear hn
    induction m with
    | nil => simp [kget]
    | cons q m ih =>
      unfold kget
      split
      · have := h q (by simp); omega
      · exact ih fun p hp => h p (by simp [hp])
  have hw : w64 (kget k m + 1) = kget k m + 1 := wrap_id (by omega)
  intro p hp
  unfold bump at hp
  rw [hw] at hp
  obtain ⟨i, hi, e⟩ := List.mem_iff_getElem.1 hp
  rw [List.getElem_modify] at e
  split at e
  · subst e; simp; omega
  · rename_i hne
    have hmem : p ∈ kadd k m := by rw [← e]; simp
    unfold kadd at hmem
    split at hmem
    · have := h p hmem; omega
    · rename_i hl
      rcases List.mem_append.1 hmem with hmem | hmem
      · have := h p hmem; omega
      · exfalso
        have hkl := kpos_le k m
        have hi2 : i < (kadd k m).length := by simpa using hi
        have e2 : (kadd k m)[i] = p := e
        have hka : kadd k m = m ++ [(k, 0)] := by unfold kadd; rw [if_neg hl]
        have hil : i < m.length := by
          rw [hka] at hi2; simp at hi2; omega
        have : p = m[i] := by
          rw [← e2]
          simp only [hka]
          rw [List.getElem_append_left hil]
        have h3 := h p (by rw [this]; simp)
        simp at hmem; subst hmem; simp at h3
theorem kvs_pos (key : SCall → Key) (l : List SCall) (hn : l.length ≤ 1048576) : ∀ p ∈ kvsOf key l, 0 < p.2 := by
  have : ∀ i, i ≤ l.length → ∀ p ∈ kvsOf key (l.take i), 0 < p.2 ∧ p.2 ≤ (i : Nat) := by
    intro i
    induction i with
    | zero => intro _ p hp; simp [kvsOf] at hp
    | succ i ih =>
      intro hi
      rw [kvsOf_snoc key l i (by omega)]
      exact kget_pos_bump _ _ i (by omega) (ih (by omega))
  intro p hp
  have h := this l.length (Nat.le_refl _) p (by rw [List.take_length]; exact hp)
  exact h.1
theorem tal_eq (key : SCall → Key) (l : List SCall) (hn : l.length ≤ 1048576) : talliesOf (kvsOf key l) = talliesNe (kvsOf key l) := by
  unfold talliesOf talliesNe
  congr 1
  apply List.filter_congr
  intro p hp
  have := kvs_pos key l hn p hp
  rw [decide_eq_decide]; omega
/-! keys apart -/
theorem bump_keys (k : Key) (m : List (Key × Int)) (h : (m.map (·.1)).Nodup) : ((bump k m).map (·.1)).Nodup := by
  have e : (bump k m).map (·.1) = (kadd k m).map (·.1) := by
    unfold bump
    apply List.ext_getElem (by simp)
    intro i h1 h2
    simp only [List.getElem_map, List.getElem_modify]
    split
    · rename_i hi; rfl
    · rfl
  rw [e]
  unfold kadd
  split
  · exact h
  · rename_i hl
    rw [List.map_append, List.nodup_append]
    refine ⟨h, by simp, ?_⟩
    intro a ha b hb
    simp at hb
    rintro rfl
    subst hb
    exact hl (khas_pos.1 ha)
theorem kvs_keys (key : SCall → Key) (l : List SCall) : ((kvsOf key l).map (·.1)).Nodup := by
  have : ∀ (l : List SCall) (m : List (Key × Int)), (m.map (·.1)).Nodup → ((l.foldl (fun m c => bump (key c) m) m).map (·.1)).Nodup := by
    intro l
    induction l with
    | nil => intro m h; exact h
    | cons c l ih => intro m h; exact ih _ (bump_keys _ _ h)
  exact this l [] (by simp)
theorem tal_apart (kv : List (Key × Int)) (h : (kv.map (·.1)).Nodup) {x y : Tly} (hx : x ∈ talliesOf kv) (hy : y ∈ talliesOf kv) (e : x.a = y.a ∧ x.b = y.b ∧ x.h = y.h) : x = y := by
  unfold talliesOf at hx hy
  obtain ⟨p, hp, rfl⟩ := List.mem_map.1 hx
  obtain ⟨q, hq, rfl⟩ := List.mem_map.1 hy
  have hp := (List.mem_filter.1 hp).1
  have hq := (List.mem_filter.1 hq).1
  have hk : p.1 = q.1 := by
    obtain ⟨⟨p1, p2, p3⟩, pv⟩ := p; obtain ⟨⟨q1, q2, q3⟩, qv⟩ := q
    simp [mkT] at e; simp [e]
  have : p = q := by
    obtain ⟨i, hi, rfl⟩ := List.mem_iff_getElem.1 hp
    obtain ⟨j, hj, rfl⟩ := List.mem_iff_getElem.1 hq
    have hnd := List.pairwise_iff_getElem.1 h
    have hij : i = j := by
      rcases Nat.lt_trichotomy i j with hlt | he | hgt
      · exact absurd (by rw [List.getElem_map, List.getElem_map]; exact hk) (hnd i j (by simpa using hi) (by simpa using hj) hlt)
      · exact he
      · exact absurd (by rw [List.getElem_map, List.getElem_map]; exact hk.symm) (hnd j i (by simpa using hj) (by simpa using hi) hgt)
    subst hij; rfl
  rw [this]
theorem sorted_same (kv : List (Key × Int)) (h : (kv.map (·.1)).Nodup) {m n : List Tly} (hm : m.Perm (talliesOf kv)) (hn : n.Perm (talliesOf kv)) (sm : sortedT m) (sn : sortedT n) : m = n := by
  refine List.Perm.eq_of_pairwise (le := fun x y => ¬ tcmp y x < 0) ?_ sm sn (hm.trans hn.symm)
  intro x y hx hy h1 h2
  rw [tcmp_lt] at h1 h2
  exact tal_apart kv h (hm.mem_iff.1 hx) (hn.mem_iff.1 hy) (by omega)
/-! cells of a sorted list -/
theorem chg_cset : ∀ (l : List Tly) (y : Tly) (S : List (Int × Int)), (y :: l).Pairwise (fun x y => ¬ tcmp y x < 0) → (y.a, y.b) ∈ S → (∀ c ∈ S, c.1 < y.a ∨ c.1 = y.a ∧ c.2 ≤ y.b) →
    ((l.foldl (fun m x => sadd (x.a, x.b) m) S).length : Int) = S.length + chg (some y) l
  | [], y, S, _, _, _ => by simp [chg]
  | x :: l, y, S, hp, hy, hS => by
    have hyx := (List.pairwise_cons.1 hp).1 x (by simp)
    rw [tcmp_lt] at hyx
    rw [List.foldl_cons]
    by_cases e : x.a = y.a ∧ x.b = y.b
    · have hs : sadd (x.a, x.b) S = S := by unfold sadd; rw [e.1, e.2, if_pos hy]
      rw [hs, chg_cset l x S (List.pairwise_cons.1 hp).2 (by rw [e.1, e.2]; exact hy) (by rw [e.1, e.2]; exact hS)]
      unfold chg
      simp [e.1, e.2]
      cases l <;> simp [chg]
    · have hnm : (x.a, x.b) ∉ S := by
        intro hm
        have := hS _ hm
        simp only at this
        omega
      have hs : sadd (x.a, x.b) S = S ++ [(x.a, x.b)] := by unfold sadd; rw [if_neg hnm]
      rw [hs, chg_cset l x _ (List.pairwise_cons.1 hp).2 (by simp) ?_]
      · have hd : (decide (x.a = y.a) && decide (x.b = y.b)) = false := by
          rw [← Bool.not_eq_true]; simp only [Bool.and_eq_true, decide_eq_true_eq]; exact e
        rw [List.length_append]
        conv => rhs; unfold chg
        simp only [Option.any_some, hd]
        simp; omega
      · intro c hc
        rcases List.mem_append.1 hc with hc | hc
        · have := hS c hc; omega
        · simp at hc; subst hc; simp
theorem chg_cells (m : List Tly) (h : sortedT m) : chg none m = (cset m).length := by
  cases m with
  | nil => rfl
  | cons x l =>
    unfold cset
    rw [List.foldl_cons]
    have hs : sadd (x.a, x.b) [] = [(x.a, x.b)] := rfl
    rw [hs, chg_cset l x [(x.a, x.b)] h (by simp) (by simp)]
    rfl
end Go.Proofs.Ytgkdbjnmlecimaa
