/- A part of a proof: Walk and Length are as specified for all roads and arcs (statement DrivesWalkedUptoCardSaid) -/
import Derived.Test.YtjhfhacdjmokaaaGreatDoorDwGlQ
import Derived.Test.YtjhfhacdjmokaaaGreatDoorDwGlU
set_option linter.unusedSimpArgs false
set_option linter.unusedVariables false
set_option linter.unusedSectionVars false
namespace Go.GL
open Go Go.RowKit
variable {P : Program} {κ β : Type} [DecidableEq κ]
def mkE (enc : κ → Value) (ev : β → Value) (kvs : List (κ × β)) : List MapEntry := kvs.mapIdx fun i p => ⟨enc p.1, ev p.2, i⟩
def mapO (enc : κ → Value) (ev : β → Value) (kvs : List (κ × β)) : Obj := .map (mkE enc ev kvs).toArray kvs.length
def mpos (k : κ) : List (κ × β) → Nat
  | [] => 0
  | p :: l => if k = p.1 then 0 else mpos k l + 1
def mget (d : β) (k : κ) : List (κ × β) → β
  | [] => d
  | p :: l => if k = p.1 then p.2 else mget d k l
def mset (k : κ) (v : β) : List (κ × β) → List (κ × β)
  | [] => [(k, v)]
  | p :: l => if k = p.1 then (k, v) :: l else p :: mset k v l
def mhas (k : κ) : List (κ × β) → Bool
  | [] => false
  | p :: l => decide (k = p.1) || mhas k l
theorem mpos_le (k : κ) (l : List (κ × β)) : mpos k l ≤ l.length := by
  induction l with
  | nil => simp [mpos]
  | cons p l ih => unfold mpos; split <;> simp <;> omega
theorem mhas_pos (k : κ) (l : List (κ × β)) : mhas k l = decide (mpos k l < l.length) := by
  induction l with
  | nil => simp [mhas, mpos]
  | cons p l ih =>
    unfold mhas mpos
    by_cases h : k = p.1
    · simp [h]
    · simp [h, ih]
theorem mpos_get (d : β) {k : κ} {l : List (κ × β)} (h : mpos k l < l.length) : l[mpos k l]? = some (k, mget d k l) := by
  induction l with
  | nil => simp at h
  | cons p l ih =>
    unfold mpos at h ⊢
    unfold mget
    by_cases e : k = p.1
    · simp [e]
    · rw [if_neg e] at h ⊢
      rw [if_neg e]
      simp only [List.length_cons, Nat.add_lt_add_iff_right] at h
      simpa using ih h
theorem mget_none (d : β) {k : κ} {l : List (κ × β)} (h : ¬ mpos k l < l.length) : mget d k l = d := by
  induction l with
  | nil => rfl
  | cons p l ih =>
    unfold mpos at h
    unfold mget
    by_cases e : k = p.1
    · rw [if_pos e] at h; simp at h
    · rw [if_neg e] at h ⊢; exact ih (by simpa using h)
def madd (d : β) (k : κ) (l : List (κ × β)) : List (κ × β) := if mpos k l < l.length then l else l ++ [(k, d)]
theorem mset_old {k : κ} {v : β} {l : List (κ × β)} (h : mpos k l < l.length) : mset k v l = l.modify (mpos k l) (fun p => (p.1, v)) := by
  induction l with
  | nil => simp at h
  | cons p l ih =>
    unfold mpos at h ⊢
    unfold mset
    by_cases e : k = p.1
    · rw [if_pos e, if_pos e]; simp [e]
    · rw [if_neg e] at h ⊢
      rw [if_neg e, ih (by simpa using h)]; simp
theorem mset_new {k : κ} {v : β} {l : List (κ × β)} (h : ¬ mpos k l < l.length) : mset k v l = l ++ [(k, v)] := by
  induction l with
  | nil => rfl
  | cons p l ih =>
    unfold mpos at h
    unfold mset
    by_cases e : k = p.1
    · rw [if_pos e] at h; simp at h
    · rw [if_neg e] at h ⊢
      rw [ih (by simpa using h)]; rfl
theorem madd_set (d : β) (k : κ) (v : β) (l : List (κ × β)) : (madd d k l).modify (mpos k l) (fun p => (p.1, v)) = mset k v l ∧ mpos k l < (madd d k l).length := by
  unfold madd
  by_cases h : mpos k l < l.length
  · rw [if_pos h, mset_old h]; exact ⟨rfl, h⟩
  · rw [if_neg h, mset_new h]
    have e : mpos k l = l.length := by have := mpos_le k l; omega
    rw [e]
    refine ⟨?_, by simp⟩
    apply List.ext_getElem?
    intro j
    rw [List.getElem?_modify]
    by_cases hj : l.length = j
    · subst hj; simp
    · simp only [if_neg hj, id_map']
      by_cases hl : j < l.length
      · rw [List.getElem?_append_left hl, List.getElem?_append_left hl]
      · rw [List.getElem?_append_right (by omega), List.getElem?_append_right (by omega)]
        have : j - l.length ≠ 0 := by omega
        rw [List.getElem?_eq_none (by simp; omega), List.getElem?_eq_none (by simp; omega)]
theorem mget_mset (d : β) (k j : κ) (v : β) (l : List (κ × β)) : mget d j (mset k v l) = if j = k then v else mget d j l := by
  induction l with
  | nil => simp only [mset, mget]
  | cons p l ih =>
    unfold mset
    by_cases e : k = p.1
    · rw [if_pos e]
      unfold mget
      by_cases h : j = k
      · simp [h]
      · rw [if_neg h, if_neg h, if_neg (by rw [← e]; exact h)]
    · rw [if_neg e]
      unfold mget
      by_cases h : j = p.1
      · rw [if_pos h, if_pos h, if_neg (by rw [h]; exact fun h => e h.symm)]
      · rw [if_neg h, if_neg h, ih]
theorem mhas_mset (k j : κ) (v : β) (l : List (κ × β)) : mhas j (mset k v l) = (decide (j = k) || mhas j l) := by
  induction l with
  | nil => simp [mset, mhas]
  | cons p l ih =>
    unfold mset
    by_cases e : k = p.1
    · rw [if_pos e]
      unfold mhas
      by_cases h : j = k
      · simp [h]
      · simp [h, ← e]
    · rw [if_neg e]
      unfold mhas
      rw [ih]
      cases decide (j = p.1) <;> cases decide (j = k) <;> rfl
theorem mset_keys (k : κ) (v : β) (l : List (κ × β)) : (mset k v l).map (·.1) = if mhas k l then l.map (·.1) else l.map (·.1) ++ [k] := by
  induction l with
  | nil => simp [mset, mhas]
  | cons p l ih =>
    unfold mset mhas
    by_cases e : k = p.1
    · simp [e]
    · rw [if_neg e, List.map_cons, ih]
      by_cases h : mhas k l = true <;> simp [h, e]
theorem mhas_mem {k : κ} {l : List (κ × β)} : mhas k l = true ↔ k ∈ l.map (·.1) := by
  induction l with
  | nil => simp [mhas]
  | cons p l ih => simp only [mhas, Bool.or_eq_true, decide_eq_true_eq, ih, List.map_cons, List.mem_cons]
theorem mset_nodup (k : κ) (v : β) {l : List (κ × β)} (h : (l.map (·.1)).Nodup) : ((mset k v l).map (·.1)).Nodup := by
  rw [mset_keys]
  split
  · exact h
  · rename_i hk
    rw [List.nodup_append]
    refine ⟨h, by simp, ?_⟩
    intro a ha b hb
    simp at hb; subst hb
    rintro rfl
    exact hk (mhas_mem.2 ha)
theorem mset_len (k : κ) (v : β) (l : List (κ × β)) : l.length ≤ (mset k v l).length ∧ (mset k v l).length ≤ l.length + 1 := by
  have h := congrArg List.length (mset_keys k v l)
  rw [List.length_map] at h
  rw [h]; split <;> simp
open Classical in
theorem mfind_mkE {enc : κ → Value} {ev : β → Value} (d : β) (hinj : ∀ a b, enc a = enc b → a = b) (k : κ) : ∀ (l : List (κ × β)) (f : Nat → κ × β → MapEntry) (i : Nat), (∀ j p, (f j p).key = enc p.1 ∧ (f j p).val = ev p.2) →
    mfind (enc k) (l.mapIdx f) i = if mpos k l < l.length then some (i + mpos k l, ev (mget d k l)) else none
  | [], f, i, hf => by simp [mfind, mpos]
  | p :: l, f, i, hf => by
    rw [List.mapIdx_cons]
    unfold mfind mpos mget
    by_cases e : k = p.1
    · rw [if_pos (by rw [(hf 0 p).1, e]), if_pos e, if_pos e, if_pos (by simp), (hf 0 p).2]; rfl
    · rw [if_neg (by rw [(hf 0 p).1]; exact fun h => e (hinj _ _ h)), if_neg e, if_neg e]
      rw [mfind_mkE d hinj k l (fun j q => f (j + 1) q) (i + 1) (fun j q => hf (j + 1) q)]
      by_cases hl : mpos k l < l.length
      · rw [if_pos hl, if_pos (by simpa using hl)]; congr 2; omega
      · rw [if_neg hl, if_neg (by simpa using hl)]
theorem mapO_nil (enc : κ → Value) (ev : β → Value) : Obj.map #[] 0 = mapO enc ev ([] : List (κ × β)) := by simp [mapO, mkE]
structure MapTy (P : Program) (T : TypeId) (enc : κ → Value) (ev : β → Value) (d : β) : Prop where
  inj : ∀ a b, enc a = enc b → a = b
  ty : ∃ kt e dk, P.underlying T = some (.map kt e) ∧ P.underlying kt = some dk ∧ tyZ P e = some (ev d) ∧ ∀ k (l : List (κ × β)), KeyFit P kt (enc k) (mkE enc ev l)
section
variable {T : TypeId} {enc : κ → Value} {ev : β → Value} {d : β}
theorem MapTy.look (M : MapTy P T enc ev d) {G : GH} {r : Nat} {l : List (κ × β)} {t : Bool} (hG : G r = some (mapO enc ev l, t)) {kv : Value} (k : κ) (hkv : kv = enc k) : pvLook P T (.map (some r)) kv false G = some (ev (mget d k l)) := by
  obtain ⟨hinj, kt, e, dk, hT, hk, hz, hfit⟩ := M
  subst hkv
  unfold pvLook
  simp only [show tyD P T = some (.map kt e) from hT, hG, mapO, show tyD P kt = some dk from hk, hz, hfit k l, if_true, Bool.false_eq_true, if_false]
  rw [mkE, mfind_mkE d hinj k l _ 0 (fun _ _ => ⟨rfl, rfl⟩)]
  by_cases h : mpos k l < l.length
  · rw [if_pos h]
  · rw [if_neg h, mget_none d h]
theorem MapTy.lookOk (M : MapTy P T enc ev d) {G : GH} {r : Nat} {l : List (κ × β)} {t : Bool} (hG : G r = some (mapO enc ev l, t)) {kv : Value} (k : κ) (hkv : kv = enc k) : pvLook P T (.map (some r)) kv true G = some (.tuple #[ev (mget d k l), .bool (mhas k l)]) := by
  obtain ⟨hinj, kt, e, dk, hT, hk, hz, hfit⟩ := M
  subst hkv
  unfold pvLook
  simp only [show tyD P T = some (.map kt e) from hT, hG, mapO, show tyD P kt = some dk from hk, hz, hfit k l, if_true]
  rw [mkE, mfind_mkE d hinj k l _ 0 (fun _ _ => ⟨rfl, rfl⟩), mhas_pos]
  by_cases h : mpos k l < l.length
  · rw [if_pos h]; simp [h]
  · rw [if_neg h, mget_none d h]; simp [h]
omit [DecidableEq κ] in
theorem mkE_push (k : κ) (v : β) (l : List (κ × β)) : mkE enc ev l ++ [⟨enc k, ev v, l.length⟩] = mkE enc ev (l ++ [(k, v)]) := by
  unfold mkE; rw [List.mapIdx_append]; simp
theorem MapTy.ment (M : MapTy P T enc ev d) {G : GH} {r : Nat} {l : List (κ × β)} (hG : G r = some (mapO enc ev l, true)) {kv : Value} (k : κ) (hkv : kv = enc k) {K : Value → GH → Prop}
    (h : K (.tuple #[ev (mget d k l), .int .i64 (mpos k l)]) (G.put r (mapO enc ev (madd d k l), true))) : vment P T (.map (some r)) kv G K := by
  obtain ⟨hinj, kt, e, dk, hT, hk, hz, hfit⟩ := M
  subst hkv
  unfold vment
  simp only [show tyD P T = some (.map kt e) from hT, hG, mapO, show tyD P kt = some dk from hk, hz]
  refine ⟨hfit k l, ?_⟩
  unfold madd at h
  rw [mkE, mfind_mkE d hinj k l _ 0 (fun _ _ => ⟨rfl, rfl⟩)]
  by_cases hl : mpos k l < l.length
  · simp only [if_pos hl, Nat.zero_add] at h ⊢
    have e1 : (((mkE enc ev l).toArray[mpos k l]?).map (fun x => (x.born : Int))).getD 0 = mpos k l := by
      rw [List.getElem?_toArray, mkE, List.getElem?_mapIdx, mpos_get d hl]; rfl
    rw [mkE] at e1
    rw [e1]
    exact h
  · simp only [if_neg hl] at h ⊢
    have e1 : mpos k l = l.length := by have := mpos_le k l; omega
    rw [mget_none d hl, e1] at h
    unfold mapO at h
    rw [← mkE_push (enc := enc) (ev := ev) k d l] at h
    have e2 : ((mkE enc ev l).toArray.push (MapEntry.mk (enc k) (ev d) l.length)) = (mkE enc ev l ++ [MapEntry.mk (enc k) (ev d) l.length]).toArray := by simp
    have e3 : (l ++ [(k, d)]).length = l.length + 1 := by simp
    rw [e3] at h
    rw [mkE] at e2 h
    rw [e2]
    exact h
theorem MapTy.ent (_ : MapTy P T enc ev d) {G : GH} {r : Nat} {l : List (κ × β)} {k : κ} (hG : G r = some (mapO enc ev (madd d k l), true)) {xv : Value} (x : β) (hx : xv = ev x) {K : GH → Prop}
    (h : K (G.put r (mapO enc ev (mset k x l), true))) : ventry (.map (some r)) (.int .i64 (mpos k l)) xv G K := by
  subst hx
  obtain ⟨hs, hi⟩ := madd_set d k x l
  generalize hl' : madd d k l = l' at *
  generalize hi' : mpos k l = i at *
  unfold ventry
  simp only [hG, mapO]
  have hf : (mkE enc ev l').toArray.findIdx? (fun e => (e.born : Int) == (i : Int)) = some i := by
    rw [Array.findIdx?_eq_some_iff_getElem]
    refine ⟨by simp [mkE, hi], by simp [mkE], fun j hj => ?_⟩
    simp [mkE]; omega
  rw [hf]
  dsimp only
  have e1 : (mkE enc ev l').toArray.modify i (fun e => { e with val := ev x }) = (mkE enc ev (l'.modify i fun p => (p.1, x))).toArray := by
    apply Array.ext_getElem?
    intro j
    rw [Array.getElem?_modify, List.getElem?_toArray, List.getElem?_toArray, mkE, mkE, List.getElem?_mapIdx, List.getElem?_mapIdx, List.getElem?_modify]
    by_cases hj : i = j
    · subst hj
      simp only [if_true]
      cases l'[i]? <;> rfl
    · simp only [if_neg hj]
      cases l'[j]? <;> simp
  rw [e1, hs]
  have e2 : l'.length = (mset k x l).length := by rw [← hs]; simp
  rw [e2]
  exact h
theorem MapTy.upd (M : MapTy P T enc ev d) {G : GH} {r : Nat} {l : List (κ × β)} (hG : G r = some (mapO enc ev l, true)) {kv xv : Value} (k : κ) (hkv : kv = enc k) (x : β) (hx : xv = ev x) {K : GH → Prop}
    (h : K (G.put r (mapO enc ev (mset k x l), true))) : vmupd P T (.map (some r)) kv xv G K := by
  obtain ⟨hinj, kt, e, dk, hT, hk, hz, hfit⟩ := M
  subst hkv hx
  unfold vmupd
  simp only [show tyD P T = some (.map kt e) from hT, hG, mapO, show tyD P kt = some dk from hk]
  refine ⟨hfit k l, ?_⟩
  have hm : mfind (enc k) (mkE enc ev l) 0 = _ := mfind_mkE d hinj k l _ 0 (fun _ _ => ⟨rfl, rfl⟩)
  rw [hm]
  by_cases hl : mpos k l < l.length
  · simp only [if_pos hl, Nat.zero_add]
    have hg := mpos_get d hl
    have e1 : (mkE enc ev l).toArray.modify (mpos k l) (fun e => { e with key := enc k, val := ev x }) = (mkE enc ev (l.modify (mpos k l) fun p => (p.1, x))).toArray := by
      apply Array.ext_getElem?
      intro j
      rw [Array.getElem?_modify, List.getElem?_toArray, List.getElem?_toArray, mkE, mkE, List.getElem?_mapIdx, List.getElem?_mapIdx, List.getElem?_modify]
      by_cases hj : mpos k l = j
      · subst hj
        simp only [if_true, hg, Option.map_some]; rfl
      · simp only [if_neg hj]
        cases l[j]? <;> simp
    rw [e1, ← mset_old hl]
    have e2 : l.length = (mset k x l).length := by rw [mset_old hl]; simp
    rw [e2]
    exact h
  · simp only [if_neg hl]
    have e1 : (mkE enc ev l).toArray.push ⟨enc k, ev x, l.length⟩ = (mkE enc ev (l ++ [(k, x)])).toArray := by
      rw [← mkE_push]; simp
    rw [e1, ← mset_new hl]
    have e2 : l.length + 1 = (mset k x l).length := by rw [mset_new hl]; simp
    rw [e2]
    exact h
theorem MapTy.len (M : MapTy P T enc ev d) {G : GH} {r : Nat} {l : List (κ × β)} {t : Bool} (hG : G r = some (mapO enc ev l, t)) : pvLen P [T] [.map (some r)] G = some (.int .i64 l.length) := by
  obtain ⟨hinj, kt, e, dk, hT, hk, hz, hfit⟩ := M
  rw [pvLen_map (show tyD P T = _ from hT) hG]; simp [mkE]
end
theorem mrange {T kt e : TypeId} (hT : P.underlying T = some (.map kt e)) {enc : κ → Value} {ev : β → Value} {l : List (κ × β)} {r : Nat} {G : GH} {t : Bool} (hG : G r = some (mapO enc ev l, t)) {K : Value → GH → Prop}
    (h : ∀ it, G it = none → K (.pointer (some ⟨it, 0, none⟩)) (G.put it (.mapIter (some r) l.length #[] l.length, true))) : gwp P (Instr.range T (.map (some r))) G K := by
  unfold Instr.range
  simp only [gwp_bind, gwp_underlying _ _ _ (show tyD P T = _ from hT)]
  refine ⟨_, _, hG, by simp [mapO], ?_⟩
  intro it hit
  exact h it hit
theorem mem_filter_mkE {enc : κ → Value} {ev : β → Value} {l : List (κ × β)} {q : MapEntry → Bool} {x : MapEntry} (h : x ∈ ((mkE enc ev l).toArray.filter q).toList) : q x = true ∧ ∃ p, l[x.born]? = some p ∧ x.key = enc p.1 ∧ x.val = ev p.2 := by
  rw [Array.mem_toList_iff, Array.mem_filter] at h
  obtain ⟨h1, h2⟩ := h
  refine ⟨h2, ?_⟩
  simp only [List.mem_toArray, mkE, List.mem_mapIdx] at h1
  obtain ⟨i, hi, rfl⟩ := h1
  exact ⟨l[i], by simp [hi], rfl, rfl⟩
theorem next_tailE (cand : Array (Option MapEntry)) {G : GH} {K : Value → GH → Prop} {cont : MapEntry → Sem Value} {over : Sem Value} (hne : 0 < cand.size) (h1 : ∀ e, some e ∈ cand.toList → gwp P (cont e) G K) (h2 : none ∈ cand.toList → gwp P over G K) :
    gwp P (choose (.mapNext cand.size) >>= fun j => match cand[j]? with | some (some e) => cont e | some none => over | none => stuck "Next: no such candidate") G K := by
  rw [gwp_bind]
  intro t
  have key : ∀ j, j < cand.size → gwp P (match cand[j]? with | some (some e) => cont e | some none => over | none => stuck "Next: no such candidate") G K := by
    intro j hj
    have hm : cand[j] ∈ cand.toList := by simp
    rw [Array.getElem?_eq_getElem hj]
    cases hx : cand[j] with
    | none => rw [hx] at hm; exact h2 hm
    | some e => rw [hx] at hm; exact h1 e hm
  refine key _ ?_
  show (if (Question.mapNext cand.size).forced = true then 0 else t % cand.size) < cand.size
  split
  · exact hne
  · exact Nat.mod_lt _ hne
theorem mnext {enc : κ → Value} {ev : β → Value} {l : List (κ × β)} {r it : Nat} {G : GH} {t : Bool} (hG : G r = some (mapO enc ev l, t)) {seen : Array Nat} (hit : G it = some (.mapIter (some r) l.length seen l.length, true)) (T0 : TypeId) {K : Value → GH → Prop}
    (hstep : ∀ (i : Nat) (p : κ × β), l[i]? = some p → i ∉ seen.toList → K (.tuple #[.bool true, enc p.1, ev p.2]) (G.put it (.mapIter (some r) l.length (seen.push i) l.length, true)))
    (hover : (∀ i, i < l.length → i ∈ seen.toList) → K (.tuple #[.bool false]) G) : gwp P (Instr.next (.pointer (some ⟨it, 0, none⟩)) false T0) G K := by
  unfold Instr.next
  show gwp P (getObj it >>= _) G K
  rw [gwp_bind]
  refine ⟨_, _, hit, by simp, ?_⟩
  show gwp P (getObj r >>= _) G K
  rw [gwp_bind]
  refine ⟨_, _, hG, by simp [mapO], ?_⟩
  have hall : (!seen.isEmpty && !(mkE enc ev l).toArray.isEmpty && (mkE enc ev l).toArray.all (fun x => decide (x.born ≥ l.length))) = false := by
    cases l with
    | nil => simp [mkE]
    | cons p l => simp [mkE]
  show gwp P (if (!seen.isEmpty && !(mkE enc ev l).toArray.isEmpty && (mkE enc ev l).toArray.all (fun x => decide (x.born ≥ l.length))) = true then _ else _) G K
  rw [if_neg (by rw [hall]; simp)]
  refine next_tailE _ ?_ ?_ ?_
  · by_cases h : (((mkE enc ev l).toArray.filter fun e => !seen.contains e.born).filter (fun x => decide (x.born < l.length))).isEmpty = true
    · rw [if_pos h]; simp
    · rw [if_neg h]
      simp only [Array.isEmpty_iff_size_eq_zero] at h
      simp only [Array.size_append, Array.size_map]
      omega
  · intro e he
    simp only [Array.toList_append, List.mem_append, Array.toList_map, List.mem_map, Option.some.injEq, exists_eq_right] at he
    have he' : e ∈ ((mkE enc ev l).toArray.filter fun e => !seen.contains e.born).toList := by
      rcases he with he | he
      · split at he <;> simp at he
      · rcases he with he | he
        · rw [Array.mem_toList_iff] at he ⊢; exact (Array.mem_filter.1 he).1
        · rw [Array.mem_toList_iff] at he ⊢; exact (Array.mem_filter.1 he).1
    obtain ⟨h1, p, hp, hk, hv⟩ := mem_filter_mkE he'
    rw [hk, hv]
    rw [gwp_bind]
    refine ⟨_, hit, by simp, ?_⟩
    exact hstep e.born p hp (by simpa using h1)
  · intro he
    refine hover fun i hi => ?_
    simp only [Array.toList_append, List.mem_append, Array.toList_map, List.mem_map, reduceCtorEq, and_false, exists_const, or_false] at he
    split at he
    · rename_i hem
      simp only [Array.isEmpty_iff_size_eq_zero] at hem
      by_cases hc : seen.contains i = true
      · simpa using hc
      · exfalso
        have hmem : (MapEntry.mk (enc (l[i]).1) (ev (l[i]).2) i) ∈ (((mkE enc ev l).toArray.filter fun e => !seen.contains e.born).filter (fun x => decide (x.born < l.length))) := by
          rw [Array.mem_filter, Array.mem_filter]
          refine ⟨⟨?_, by simpa using hc⟩, by simpa using hi⟩
          simp only [List.mem_toArray, mkE, List.mem_mapIdx]
          exact ⟨i, hi, rfl⟩
        have := Array.size_pos_of_mem hmem
        omega
    · simp at he
theorem mentry {enc : κ → Value} {ev : β → Value} {l : List (κ × β)} {r it i : Nat} {G : GH} {t : Bool} (hG : G r = some (mapO enc ev l, t)) {seen : Array Nat} (hit : G it = some (.mapIter (some r) l.length (seen.push i) l.length, true)) {p : κ × β} (hp : l[i]? = some p) {K : Value → GH → Prop}
    (h : K (.tuple #[enc p.1, ev p.2]) G) : gwp P (Instr.entry (.pointer (some ⟨it, 0, none⟩))) G K := by
  unfold Instr.entry
  show gwp P (getObj it >>= _) G K
  rw [gwp_bind]
  refine ⟨_, _, hit, by simp, ?_⟩
  show gwp P (match (seen.push i).back? with | some stamp => _ | _ => _) G K
  rw [Array.back?_push]
  show gwp P (getObj r >>= _) G K
  rw [gwp_bind]
  refine ⟨_, _, hG, by simp [mapO], ?_⟩
  have hil : i < l.length := by
    by_cases hl : i < l.length
    · exact hl
    · rw [List.getElem?_eq_none (by omega)] at hp; cases hp
  have hf : (mkE enc ev l).toArray.find? (fun e => e.born == i) = some ⟨enc p.1, ev p.2, i⟩ := by
    rw [Array.find?_eq_some_iff_getElem]
    refine ⟨by simp, i, by simp [mkE, hil], ?_, fun j hj => ?_⟩
    · have : l[i] = p := by rw [List.getElem?_eq_getElem hil] at hp; exact Option.some.inj hp
      simp [mkE, this]
    · simp [mkE]; omega
  show gwp P (if (l.length != l.length) = true then _ else _) G K
  rw [if_neg (by simp)]
  show gwp P (match (mkE enc ev l).toArray.find? (fun e => e.born == i) with | some e => _ | none => _) G K
  rw [hf]
  exact h
theorem kfStr {kt : TypeId} (h : P.underlying kt = some .string) (s : ByteArray) {es : List MapEntry} (hes : ∀ e ∈ es, ∃ s, e.key = .string s) : KeyFit P kt (.string s) es :=
  ⟨fun em => calm_check_plain h rfl em 9999 _, by simp only [Instr.sameBits, bytes_beq], by rw [show Op.equal kt (.string s) (.string s) = Op.equalIn (9999 + 1) kt (.string s) (.string s) from rfl, calm_eq_string h]; simp, fun e he => by
    obtain ⟨s', hs⟩ := hes e he
    rw [hs, show Op.equal kt (.string s) (.string s') = Op.equalIn (9999 + 1) kt (.string s) (.string s') from rfl, calm_eq_string h]
    simp⟩
theorem kfInt {kt : TypeId} {q : IntKind} (h : P.underlying kt = some (.int q)) (n : Int) {es : List MapEntry} (hes : ∀ e ∈ es, ∃ n, e.key = .int .i64 n) : KeyFit P kt (.int .i64 n) es :=
  ⟨fun em => calm_check_plain h rfl em 9999 _, by simp [Instr.sameBits], by rw [show Op.equal kt (.int .i64 n) (.int .i64 n) = Op.equalIn (9999 + 1) kt (.int .i64 n) (.int .i64 n) from rfl, calm_eq_int h]; simp, fun e he => by
    obtain ⟨s', hs⟩ := hes e he
    rw [hs, show Op.equal kt (.int .i64 n) (.int .i64 s') = Op.equalIn (9999 + 1) kt (.int .i64 n) (.int .i64 s') from rfl, calm_eq_int h]
    simp⟩
theorem mkE_key {enc : κ → Value} {ev : β → Value} {l : List (κ × β)} {e : MapEntry} (h : e ∈ mkE enc ev l) : ∃ k, e.key = enc k := by
  simp only [mkE, List.mem_mapIdx] at h
  obtain ⟨i, hi, rfl⟩ := h
  exact ⟨_, rfl⟩
theorem MapTy.str {T kt e : TypeId} (hT : P.underlying T = some (.map kt e)) (hk : P.underlying kt = some .string) {ev : β → Value} {d : β} (hz : tyZ P e = some (ev d)) : MapTy P T Value.string ev d :=
  ⟨fun a b h => by cases h; rfl, kt, e, _, hT, hk, hz, fun k l => kfStr hk k fun e he => let ⟨k, h⟩ := mkE_key he; ⟨k, h⟩⟩
theorem MapTy.int {T kt e : TypeId} {q : IntKind} (hT : P.underlying T = some (.map kt e)) (hk : P.underlying kt = some (.int q)) {ev : β → Value} {d : β} (hz : tyZ P e = some (ev d)) : MapTy P T V ev d :=
  ⟨fun a b h => by cases h; rfl, kt, e, _, hT, hk, hz, fun k l => kfInt hk k fun e he => let ⟨k, h⟩ := mkE_key he; ⟨k, h⟩⟩
end Go.GL
