/- A part of a proof: Walk and Length are as specified for all roads and arcs (statement DrivesWalkedUptoCardSaid) -/
import Derived.Test.YtjhfhacdjmokaaaGreatDoorDwGlP
set_option linter.unusedSimpArgs false
set_option linter.unusedVariables false
set_option linter.unusedSectionVars false
namespace Go.GL
open Go Go.RowKit
variable {P : Program} {κ : Type} [DecidableEq κ]
def skEs (enc : κ → Value) (ks : List κ) : List MapEntry := ks.mapIdx fun i k => ⟨enc k, .bool true, i⟩
def setObj (enc : κ → Value) (ks : List κ) : Obj := .map (skEs enc ks).toArray ks.length
def sadd (k : κ) (ks : List κ) : List κ := if k ∈ ks then ks else ks ++ [k]
open Classical in
theorem mfind_none {k : Value} : ∀ (es : List MapEntry) (i : Nat), mfind k es i = none → ∀ e ∈ es, e.key ≠ k
  | [], _, _, e, he => by simp at he
  | e :: es, i, h, x, hx => by
    unfold mfind at h
    split at h
    · cases h
    · rename_i hk
      rcases List.mem_cons.1 hx with rfl | hx
      · exact fun h => hk h.symm
      · exact mfind_none es (i + 1) h x hx
theorem upd_set {enc : κ → Value} (hinj : ∀ a b, enc a = enc b → a = b) {T kt e : TypeId} {dk : TypeDesc} (hT : P.underlying T = some (.map kt e)) (hk : P.underlying kt = some dk) {ks : List κ} {k : κ} (hfit : KeyFit P kt (enc k) (skEs enc ks))
    {G : GH} {r : Nat} (hG : G r = some (setObj enc ks, true)) {K : GH → Prop} (h : K (G.put r (setObj enc (sadd k ks), true))) : vmupd P T (.map (some r)) (enc k) (.bool true) G K := by
  unfold vmupd
  simp only [show tyD P T = some (.map kt e) from hT, hG, setObj, show tyD P kt = some dk from hk]
  refine ⟨hfit, ?_⟩
  cases hm : mfind (enc k) (skEs enc ks) 0 with
  | some p =>
    obtain ⟨i, v⟩ := p
    obtain ⟨_, e', he, hkey, hval⟩ := mfind_at _ 0 i hm
    rw [Nat.sub_zero] at he
    have hi : i < ks.length := by
      have := (List.getElem?_eq_some_iff.1 he).1
      simpa [skEs] using this
    have he2 : (skEs enc ks)[i]? = some ⟨enc ks[i], .bool true, i⟩ := by simp [skEs, hi]
    rw [he2] at he
    cases he
    have hki : k = ks[i] := hinj _ _ hkey.symm
    have hmem : k ∈ ks := by rw [hki]; simp
    unfold sadd at h
    rw [if_pos hmem] at h
    dsimp only
    have e1 : (skEs enc ks).toArray.modify i (fun e => { e with key := enc k, val := .bool true }) = (skEs enc ks).toArray := by
      apply Array.ext_getElem?
      intro j
      rw [Array.getElem?_modify]
      split
      · rename_i hj; subst hj
        rw [List.getElem?_toArray, he2, hki]; rfl
      · rfl
    rw [e1]; exact h
  | none =>
    have hn := mfind_none _ 0 hm
    have hmem : k ∉ ks := by
      intro hin
      obtain ⟨i, hi, e⟩ := List.mem_iff_getElem.1 hin
      refine hn ⟨enc ks[i], .bool true, i⟩ ?_ (by rw [e])
      simp only [skEs, List.mem_mapIdx]
      exact ⟨i, hi, rfl⟩
    unfold sadd at h
    rw [if_neg hmem] at h
    dsimp only
    have e1 : (skEs enc ks).toArray.push ⟨enc k, .bool true, ks.length⟩ = (skEs enc (ks ++ [k])).toArray := by
      unfold skEs; rw [List.mapIdx_append]; simp
    rw [e1]
    unfold setObj at h
    rw [List.length_append] at h
    exact h
end Go.GL
