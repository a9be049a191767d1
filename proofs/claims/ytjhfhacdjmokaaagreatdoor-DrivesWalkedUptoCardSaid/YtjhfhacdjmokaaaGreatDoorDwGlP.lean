/- A part of a proof: Walk and Length are as specified for all roads and arcs (statement DrivesWalkedUptoCardSaid) -/
import Derived.Test.YtjhfhacdjmokaaaGreatDoorDwGlN
set_option linter.unusedSimpArgs false
set_option linter.unusedVariables false
set_option linter.unusedSectionVars false
namespace Go.GL
open Go Go.RowKit
variable {P : Program} {κ : Type} [DecidableEq κ]
def mkEs (enc : κ → Value) (kvs : List (κ × Int)) : List MapEntry := kvs.mapIdx fun i p => ⟨enc p.1, .int .i64 p.2, i⟩
def mapObj (enc : κ → Value) (kvs : List (κ × Int)) : Obj := .map (mkEs enc kvs).toArray kvs.length
def kpos (k : κ) : List (κ × Int) → Nat
  | [] => 0
  | p :: l => if k = p.1 then 0 else kpos k l + 1
def kget (k : κ) : List (κ × Int) → Int
  | [] => 0
  | p :: l => if k = p.1 then p.2 else kget k l
def khas (k : κ) (l : List (κ × Int)) : Prop := ∃ v, (k, v) ∈ l
theorem khas_pos {k : κ} {l : List (κ × Int)} : k ∈ l.map (·.1) ↔ kpos k l < l.length := by
  induction l with
  | nil => simp [kpos]
  | cons p l ih =>
    unfold kpos
    by_cases h : k = p.1
    · simp [h]
    · simp only [List.map_cons, List.mem_cons, h, false_or, if_false, ih, List.length_cons]; omega
theorem kpos_le (k : κ) (l : List (κ × Int)) : kpos k l ≤ l.length := by
  induction l with
  | nil => simp [kpos]
  | cons p l ih => unfold kpos; split <;> simp <;> omega
theorem kpos_get {k : κ} {l : List (κ × Int)} (h : kpos k l < l.length) : l[kpos k l]? = some (k, kget k l) := by
  induction l with
  | nil => simp at h
  | cons p l ih =>
    unfold kpos at h ⊢
    unfold kget
    by_cases e : k = p.1
    · simp [e]
    · rw [if_neg e] at h ⊢
      rw [if_neg e]
      simp only [List.length_cons, Nat.add_lt_add_iff_right] at h
      simpa using ih h
open Classical in
theorem mfind_mk {enc : κ → Value} (hinj : ∀ a b, enc a = enc b → a = b) (k : κ) : ∀ (l : List (κ × Int)) (f : Nat → κ × Int → MapEntry) (i : Nat), (∀ j p, (f j p).key = enc p.1 ∧ (f j p).val = .int .i64 p.2) →
    mfind (enc k) (l.mapIdx f) i = if kpos k l < l.length then some (i + kpos k l, .int .i64 (kget k l)) else none
  | [], f, i, hf => by simp [mfind, kpos]
  | p :: l, f, i, hf => by
    rw [List.mapIdx_cons]
    unfold mfind kpos kget
    by_cases e : k = p.1
    · rw [if_pos (by rw [(hf 0 p).1, e]), if_pos e, if_pos e, if_pos (by simp), (hf 0 p).2]; rfl
    · rw [if_neg (by rw [(hf 0 p).1]; exact fun h => e (hinj _ _ h)), if_neg e, if_neg e]
      rw [mfind_mk hinj k l (fun j q => f (j + 1) q) (i + 1) (fun j q => hf (j + 1) q)]
      by_cases hl : kpos k l < l.length
      · rw [if_pos hl, if_pos (by simpa using hl)]; congr 2; omega
      · rw [if_neg hl, if_neg (by simpa using hl)]
section
variable {enc : κ → Value} (hinj : ∀ a b, enc a = enc b → a = b) {T kt e : TypeId} {dk : TypeDesc} (hT : P.underlying T = some (.map kt e)) (hk : P.underlying kt = some dk) (hz : tyZ P e = some (.int .i64 0)) (hfit : ∀ k l, KeyFit P kt (enc k) (mkEs enc l))
include hinj hT hk hz hfit
theorem look_mk {G : GH} {r : Nat} {l : List (κ × Int)} {t : Bool} (hG : G r = some (mapObj enc l, t)) (k : κ) : pvLook P T (.map (some r)) (enc k) false G = some (.int .i64 (kget k l)) := by
  unfold pvLook
  simp only [show tyD P T = some (.map kt e) from hT, hG, mapObj, show tyD P kt = some dk from hk, hz, hfit k l, if_true, Bool.false_eq_true, if_false]
  rw [mkEs, mfind_mk hinj k l _ 0 (fun _ _ => ⟨rfl, rfl⟩)]
  by_cases h : kpos k l < l.length
  · rw [if_pos h]
  · rw [if_neg h]
    have : kget k l = 0 := by
      clear hG
      induction l with
      | nil => rfl
      | cons p l ih =>
        unfold kpos at h
        unfold kget
        by_cases e : k = p.1
        · rw [if_pos e] at h; simp at h
        · rw [if_neg e] at h ⊢; exact ih (by simpa using h)
    rw [this]
def kadd (k : κ) (l : List (κ × Int)) : List (κ × Int) := if kpos k l < l.length then l else l ++ [(k, 0)]
omit hinj hT hk hz hfit in
theorem mkEs_push (k : κ) (l : List (κ × Int)) : mkEs enc l ++ [⟨enc k, .int .i64 0, l.length⟩] = mkEs enc (l ++ [(k, 0)]) := by
  unfold mkEs; rw [List.mapIdx_append]; simp
theorem ment_mk {G : GH} {r : Nat} {l : List (κ × Int)} (hG : G r = some (mapObj enc l, true)) (k : κ) {K : Value → GH → Prop}
    (h : K (.tuple #[.int .i64 (kget k l), .int .i64 (kpos k l)]) (G.put r (mapObj enc (kadd k l), true))) : vment P T (.map (some r)) (enc k) G K := by
  unfold vment
  simp only [show tyD P T = some (.map kt e) from hT, hG, mapObj, show tyD P kt = some dk from hk, hz]
  refine ⟨hfit k l, ?_⟩
  unfold kadd at h
  rw [mkEs, mfind_mk hinj k l _ 0 (fun _ _ => ⟨rfl, rfl⟩)]
  by_cases hl : kpos k l < l.length
  · simp only [if_pos hl, Nat.zero_add] at h ⊢
    have e1 : (((mkEs enc l).toArray[kpos k l]?).map (fun x => (x.born : Int))).getD 0 = kpos k l := by
      rw [List.getElem?_toArray, mkEs, List.getElem?_mapIdx, kpos_get hl]; rfl
    rw [mkEs] at e1
    rw [e1]
    exact h
  · simp only [if_neg hl] at h ⊢
    have e0 : kget k l = 0 := by
      clear hG h
      induction l with
      | nil => rfl
      | cons p l ih =>
        unfold kpos at hl
        unfold kget
        by_cases e : k = p.1
        · rw [if_pos e] at hl; simp at hl
        · rw [if_neg e] at hl ⊢; exact ih (by simpa using hl)
    have e1 : kpos k l = l.length := by have := kpos_le k l; omega
    rw [e0, e1] at h
    unfold mapObj at h
    rw [← mkEs_push (enc := enc) k l] at h
    have e2 : ((mkEs enc l).toArray.push (MapEntry.mk (enc k) (.int .i64 0) l.length)) = (mkEs enc l ++ [MapEntry.mk (enc k) (.int .i64 0) l.length]).toArray := by simp
    have e3 : (l ++ [(k, (0:Int))]).length = l.length + 1 := by simp
    rw [e3] at h
    rw [mkEs] at e2 h
    rw [e2]
    exact h
omit hinj hT hk hz hfit [DecidableEq κ] in
theorem ent_mk {G : GH} {r : Nat} {l : List (κ × Int)} (hG : G r = some (mapObj enc l, true)) {i : Nat} (hi : i < l.length) (x : Int) {K : GH → Prop}
    (h : K (G.put r (mapObj enc (l.modify i fun p => (p.1, x)), true))) : ventry (.map (some r)) (.int .i64 i) (.int .i64 x) G K := by
  unfold ventry
  simp only [hG, mapObj]
  have hf : (mkEs enc l).toArray.findIdx? (fun e => (e.born : Int) == (i : Int)) = some i := by
    rw [Array.findIdx?_eq_some_iff_getElem]
    refine ⟨by simp [mkEs, hi], by simp [mkEs], fun j hj => ?_⟩
    simp [mkEs]; omega
  rw [hf]
  dsimp only
  have e1 : (mkEs enc l).toArray.modify i (fun e => { e with val := .int .i64 x }) = (mkEs enc (l.modify i fun p => (p.1, x))).toArray := by
    apply Array.ext_getElem?
    intro j
    rw [Array.getElem?_modify, List.getElem?_toArray, List.getElem?_toArray, mkEs, mkEs, List.getElem?_mapIdx, List.getElem?_mapIdx, List.getElem?_modify]
    by_cases hj : i = j
    · subst hj
      simp only [if_true]
      cases l[i]? <;> rfl
    · simp only [if_neg hj]
      cases l[j]? <;> simp
  rw [e1]
  have e2 : (l.modify i fun p => (p.1, x)).length = l.length := by simp
  unfold mapObj at h
  rw [e2] at h
  exact h
end
theorem gwp_range {T kt e : TypeId} (hT : P.underlying T = some (.map kt e)) {enc : κ → Value} {l : List (κ × Int)} {r : Nat} {G : GH} {t : Bool} (hG : G r = some (mapObj enc l, t)) {K : Value → GH → Prop}
    (h : ∀ it, G it = none → K (.pointer (some ⟨it, 0, none⟩)) (G.put it (.mapIter (some r) l.length #[] l.length, true))) : gwp P (Instr.range T (.map (some r))) G K := by
  unfold Instr.range
  simp only [gwp_bind, gwp_underlying _ _ _ (show tyD P T = _ from hT)]
  refine ⟨_, _, hG, by simp [mapObj], ?_⟩
  intro it hit
  exact h it hit
theorem mem_filter_mk {enc : κ → Value} {l : List (κ × Int)} {q : MapEntry → Bool} {x : MapEntry} (h : x ∈ ((mkEs enc l).toArray.filter q).toList) : q x = true ∧ ∃ p, l[x.born]? = some p ∧ x.key = enc p.1 ∧ x.val = .int .i64 p.2 := by
  rw [Array.mem_toList_iff, Array.mem_filter] at h
  obtain ⟨h1, h2⟩ := h
  refine ⟨h2, ?_⟩
  simp only [List.mem_toArray, mkEs, List.mem_mapIdx] at h1
  obtain ⟨i, hi, rfl⟩ := h1
  exact ⟨l[i], by simp [hi], rfl, rfl⟩
theorem next_tail (cand : Array (Option MapEntry)) {G : GH} {K : Value → GH → Prop} {cont : MapEntry → Sem Value} {over : Sem Value} (hne : 0 < cand.size) (h1 : ∀ e, some e ∈ cand.toList → gwp P (cont e) G K) (h2 : none ∈ cand.toList → gwp P over G K) :
    gwp P (choose (.mapNext cand.size) >>= fun j => match cand[j]? with | some (some e) => cont e | some none => over | none => stuck "Next: no such candidate") G K := by
  rw [gwp_bind]
  intro t
  have key : ∀ j, j < cand.size → gwp P (match cand[j]? with | some (some e) => cont e | some none => over | none => stuck "Next: no such candidate") G K := by
    intro j hj
    have hm : cand[j] ∈ cand.toList := by simp
    rw [Array.getElem?_eq_getElem hj]
    cases hx : cand[j] with
    | none => rw [hx] at hm; exact h2 hm
    | some e => rw [hx] at hm; exact h1 e hm
  refine key _ ?_
  show (if (Question.mapNext cand.size).forced = true then 0 else t % cand.size) < cand.size
  split
  · exact hne
  · exact Nat.mod_lt _ hne
theorem gwp_next {enc : κ → Value} {l : List (κ × Int)} {r it : Nat} {G : GH} {t : Bool} (hG : G r = some (mapObj enc l, t)) {seen : Array Nat} (hit : G it = some (.mapIter (some r) l.length seen l.length, true)) (T0 : TypeId) {K : Value → GH → Prop}
    (hstep : ∀ (i : Nat) (p : κ × Int), l[i]? = some p → i ∉ seen.toList → K (.tuple #[.bool true, enc p.1, .int .i64 p.2]) (G.put it (.mapIter (some r) l.length (seen.push i) l.length, true)))
    (hover : (∀ i, i < l.length → i ∈ seen.toList) → K (.tuple #[.bool false]) G) : gwp P (Instr.next (.pointer (some ⟨it, 0, none⟩)) false T0) G K := by
  unfold Instr.next
  show gwp P (getObj it >>= _) G K
  rw [gwp_bind]
  refine ⟨_, _, hit, by simp, ?_⟩
  show gwp P (getObj r >>= _) G K
  rw [gwp_bind]
  refine ⟨_, _, hG, by simp [mapObj], ?_⟩
  have hall : (!seen.isEmpty && !(mkEs enc l).toArray.isEmpty && (mkEs enc l).toArray.all (fun x => decide (x.born ≥ l.length))) = false := by
    cases l with
    | nil => simp [mkEs]
    | cons p l => simp [mkEs]
  show gwp P (if (!seen.isEmpty && !(mkEs enc l).toArray.isEmpty && (mkEs enc l).toArray.all (fun x => decide (x.born ≥ l.length))) = true then _ else _) G K
  rw [if_neg (by rw [hall]; simp)]
  refine next_tail _ ?_ ?_ ?_
  · by_cases h : (((mkEs enc l).toArray.filter fun e => !seen.contains e.born).filter (fun x => decide (x.born < l.length))).isEmpty = true
    · rw [if_pos h]; simp
    · rw [if_neg h]
      simp only [Array.isEmpty_iff_size_eq_zero] at h
      simp only [Array.size_append, Array.size_map]
      omega
  · intro e he
    simp only [Array.toList_append, List.mem_append, Array.toList_map, List.mem_map, Option.some.injEq, exists_eq_right] at he
    have he' : e ∈ ((mkEs enc l).toArray.filter fun e => !seen.contains e.born).toList := by
      rcases he with he | he
      · split at he <;> simp at he
      · rcases he with he | he
        · rw [Array.mem_toList_iff] at he ⊢; exact (Array.mem_filter.1 he).1
        · rw [Array.mem_toList_iff] at he ⊢; exact (Array.mem_filter.1 he).1
    obtain ⟨h1, p, hp, hk, hv⟩ := mem_filter_mk he'
    rw [hk, hv]
    rw [gwp_bind]
    refine ⟨_, hit, by simp, ?_⟩
    exact hstep e.born p hp (by simpa using h1)
  · intro he
    refine hover fun i hi => ?_
    simp only [Array.toList_append, List.mem_append, Array.toList_map, List.mem_map, reduceCtorEq, and_false, exists_const, or_false] at he
    split at he
    · rename_i hem
      simp only [Array.isEmpty_iff_size_eq_zero] at hem
      by_cases hc : seen.contains i = true
      · simpa using hc
      · exfalso
        have hmem : (MapEntry.mk (enc (l[i]).1) (.int .i64 (l[i]).2) i) ∈ (((mkEs enc l).toArray.filter fun e => !seen.contains e.born).filter (fun x => decide (x.born < l.length))) := by
          rw [Array.mem_filter, Array.mem_filter]
          refine ⟨⟨?_, by simpa using hc⟩, by simpa using hi⟩
          simp only [List.mem_toArray, mkEs, List.mem_mapIdx]
          exact ⟨i, hi, rfl⟩
        have := Array.size_pos_of_mem hmem
        omega
    · simp at he
theorem gwp_entry {enc : κ → Value} {l : List (κ × Int)} {r it i : Nat} {G : GH} {t : Bool} (hG : G r = some (mapObj enc l, t)) {seen : Array Nat} (hit : G it = some (.mapIter (some r) l.length (seen.push i) l.length, true)) {p : κ × Int} (hp : l[i]? = some p) {K : Value → GH → Prop}
    (h : K (.tuple #[enc p.1, .int .i64 p.2]) G) : gwp P (Instr.entry (.pointer (some ⟨it, 0, none⟩))) G K := by
  unfold Instr.entry
  show gwp P (getObj it >>= _) G K
  rw [gwp_bind]
  refine ⟨_, _, hit, by simp, ?_⟩
  show gwp P (match (seen.push i).back? with | some stamp => _ | _ => _) G K
  rw [Array.back?_push]
  show gwp P (getObj r >>= _) G K
  rw [gwp_bind]
  refine ⟨_, _, hG, by simp [mapObj], ?_⟩
  have hil : i < l.length := by
    by_cases hl : i < l.length
    · exact hl
    · rw [List.getElem?_eq_none (by omega)] at hp; cases hp
  have hf : (mkEs enc l).toArray.find? (fun e => e.born == i) = some ⟨enc p.1, .int .i64 p.2, i⟩ := by
    rw [Array.find?_eq_some_iff_getElem]
    refine ⟨by simp, i, by simp [mkEs, hil], ?_, fun j hj => ?_⟩
    · have : l[i] = p := by rw [List.getElem?_eq_getElem hil] at hp; exact Option.some.inj hp
      simp [mkEs, this]
    · simp [mkEs]; omega
  show gwp P (if (l.length != l.length) = true then _ else _) G K
  rw [if_neg (by simp)]
  show gwp P (match (mkEs enc l).toArray.find? (fun e => e.born == i) with | some e => _ | none => _) G K
  rw [hf]
  exact h
end Go.GL
