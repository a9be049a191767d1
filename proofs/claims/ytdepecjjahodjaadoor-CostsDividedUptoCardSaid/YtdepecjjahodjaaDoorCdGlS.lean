/- A part of a proof: CostsDivided: a card of costs, parts and legs: what Divide, CheckLegs and ByLegs give is what their simple ones give -/
import Derived.Shelf.SlSortCmp.WholeK
import Derived.Test.YtdepecjjahodjaaDoorCdGlK
set_option linter.unusedSimpArgs false
set_option linter.unusedVariables false
set_option linter.unusedSectionVars false
namespace Go.GL
open Go Go.RowKit
variable {P : Program} {α : Type} [Inhabited α]
theorem flatten_at {enc : α → List Value} {k : Nat} (hk : ∀ x, (enc x).length = k) (l : List α) (t : Nat) (h : t < l.length * k) : (l.map enc).flatten[t]? = some (enc l.toArray[t / k]!)[t % k]! := by
  have hk0 : 0 < k := by
    rcases Nat.eq_zero_or_pos k with h0 | h0
    · subst h0; simp at h
    · exact h0
  have hi : t / k < l.length := (Nat.div_lt_iff_lt_mul hk0).2 h
  have hj : t % k < k := Nat.mod_lt _ hk0
  have hs := flatten_seg (sz := k) (l.map enc) (by intro c hc; obtain ⟨x, _, rfl⟩ := List.mem_map.1 hc; exact hk x) (t / k) (enc l[t / k]) (by simp [hi])
  have e : (((l.map enc).flatten.drop (t / k * k)).take k)[t % k]? = (enc l[t / k])[t % k]? := by rw [hs]
  rw [List.getElem?_take, if_pos hj, List.getElem?_drop, Nat.mul_comm, Nat.div_add_mod] at e
  rw [e]
  have h1 : l.toArray[t / k]! = l[t / k] := by simp [hi]
  have hjl : t % k < (enc l[t / k]).length := by rw [hk]; exact hj
  rw [h1, List.getElem?_eq_getElem hjl, getElem!_pos (enc l[t / k]) (t % k) hjl]
theorem flatK_list {enc : α → List Value} {k : Nat} (hk : ∀ x, (enc x).length = k) (l : List α) : (Sort.flatK enc k l.toArray).toList = (l.map enc).flatten := by
  have hlen : (l.map enc).flatten.length = l.length * k := by
    induction l with
    | nil => simp
    | cons x l ih =>
      rw [List.map_cons, List.flatten_cons, List.length_append, ih, hk, List.length_cons, Nat.succ_mul]; omega
  apply List.ext_getElem?
  intro t
  by_cases h : t < l.length * k
  · rw [flatten_at hk l t h]
    rw [Array.getElem?_toList, Array.getElem?_eq_getElem (by simpa using h)]
    rw [← Sort.get_flatK enc k l.toArray t (by simpa using h), getElem!_pos]
  · rw [List.getElem?_eq_none (by simp; omega), List.getElem?_eq_none (by omega)]
theorem grown_of {w w' : World} (h : Below w.heap.size w w') (hd : w.drawn ≤ w'.drawn) : ∃ q os, w' = Sort.grow (w.drewN q) os := by
  refine ⟨w'.drawn - w.drawn, w'.heap.extract w.heap.size w'.heap.size, ?_⟩
  obtain ⟨heap, tape, drawn, os, output⟩ := w
  obtain ⟨heap', tape', drawn', os', output'⟩ := w'
  have h1 := h.os; have h2 := h.tape; have h3 := h.output; have h4 := h.size; have h5 := h.block
  simp only at h1 h2 h3 h4 h5 hd
  subst h1 h2 h3
  unfold Sort.grow World.drewN
  simp only [World.mk.injEq, true_and, and_true]
  refine ⟨?_, by omega⟩
  apply Array.ext_getElem?
  intro i
  rw [Array.getElem?_append]
  split
  · rename_i hi; exact h5 i hi
  · rename_i hi
    rw [Array.getElem?_extract]
    split
    · congr 1; omega
    · rw [Array.getElem?_eq_none (by omega)]
theorem gsort {n g : Nat} {enc : α → List Value} {k : Nat} {cf : α → α → Int} (hk : ∀ x, (enc x).length = k)
    (hS : ∀ (blk cap : Nat) (d : Array α) (w : World), Proofs.CmpLays P g #[] enc k cf blk 0 d.size w → Sort.HoldsK enc k w blk 0 d → blk < w.heap.size → d.size < 4611686018427387904 →
      Calls P n #[.slice (some ⟨blk, 0, none⟩) d.size cap, .func (.func g) #[] #[]] w fun e w' => e = .returned (.tuple #[]) ∧ ∃ d' m os, Sort.PermIn 0 d.size d d' ∧ Sort.SortedIn (Proofs.ltOf cf) 0 d.size d' ∧ w' = Proofs.sortWorldK enc k w blk 0 m d' os)
    (hc : ∀ x y G, GCalls P g #[.agg (enc x).toArray, .agg (enc y).toArray] G (fun u G' => G.le G' ∧ u = .int .i64 (cf x y)))
    (l : List α) (hl : l.length < 4611686018427387904) {G : GH} {b cap : Nat} {c : Array Value} {e : TypeId} (hb : G b = some (.cells c e (0, 0), true)) (hcap : l.length * k ≤ c.size) (htake : c.toList.take (l.length * k) = (l.map enc).flatten) :
    GCalls P n #[.slice (some ⟨b, 0, none⟩) l.length cap, .func (.func g) #[] #[]] G (fun u G' => u = .tuple #[] ∧ ∃ l' : List α, l'.Perm l ∧ l'.Pairwise (fun x y => Proofs.ltOf cf y x = false) ∧
      ∃ c', c'.size = c.size ∧ c'.toList.take (l.length * k) = (l'.map enc).flatten ∧ G' = G.put b (.cells c' e (0, 0), true)) := by
  intro w0 w hw
  have hbw := hw.obj _ _ _ hb
  have hlt : b < w.heap.size := (Array.getElem?_eq_some_iff.1 hbw).1
  have hcmp : Proofs.CmpLays P g #[] enc k cf b 0 l.toArray.size w := by
    intro m os dk _ x y
    generalize Proofs.sortWorldK enc k w b 0 m dk os = W
    have hW : Holds W (fun _ => none) W := ⟨Below.refl _ _, fun _ _ _ h => (by cases h), fun _ _ h => (by cases h), Nat.le_refl _⟩
    have := hc x y (fun _ => none) W W hW
    rw [Array.append_empty]
    refine this.mono ?_
    rintro e' w' ⟨v, G', rfl, hh, _, rfl⟩
    exact ⟨rfl, grown_of hh.below hh.drawn⟩
  have hH : Sort.HoldsK enc k w b 0 l.toArray := by
    intro j hj
    have hj' : j < l.length * k := by simpa using hj
    rw [Sort.get_flatK _ _ _ _ (by simpa using hj')]
    have h1 := flatten_at hk l j hj'
    rw [← htake, List.getElem?_take, if_pos hj', Array.getElem?_toList] at h1
    constructor
    · simp only [World.cell?, hbw, Nat.zero_add, Option.isSome_none, Bool.false_eq_true, if_false, id]; exact h1
    · simp [World.frozen?, hbw]
  have := hS b cap l.toArray w hcmp hH hlt (by simpa using hl)
  rw [List.size_toArray] at this
  refine this.mono ?_
  rintro e' w' ⟨rfl, d', m, os, hp, hs, rfl⟩
  have hdsz : d'.size = l.length := by have := hp.1; simpa using this
  have hperm : d'.toList.Perm l := by
    have := hp.2.2
    rw [Array.extract_eq_self_of_le (by omega), Array.extract_eq_self_of_le (by simp)] at this
    simpa using this
  have hsorted : d'.toList.Pairwise (fun x y => Proofs.ltOf cf y x = false) := by
    rw [List.pairwise_iff_getElem]
    intro i j hi hj hij
    have := hs i j (Nat.zero_le _) hij (by simp at hj; omega)
    simp at hi hj
    rw [getElem!_pos d' i hi, getElem!_pos d' j hj] at this
    simpa using this
  have hput : (Proofs.sortWorldK enc k w b 0 m d' os).heap[b]? = some (.cells (Sort.putCells id 0 (Sort.flatK enc k d') c) e (0, 0)) := by
    unfold Proofs.sortWorldK Sort.putRowK Sort.putRow Sort.mapBlock Sort.grow
    simp only []
    rw [Array.getElem?_append_left (by simpa [Sort.ahead] using hlt)]
    simp only [Array.getElem?_modify, Sort.ahead, hbw, if_true, Option.map_some]
    rfl
  have hoth : ∀ r o, r ≠ b → w.heap[r]? = some o → (Proofs.sortWorldK enc k w b 0 m d' os).heap[r]? = some o := by
    intro r o hr ho
    have hlt' : r < w.heap.size := (Array.getElem?_eq_some_iff.1 ho).1
    unfold Proofs.sortWorldK Sort.putRowK Sort.putRow Sort.mapBlock Sort.grow
    simp only []
    rw [Array.getElem?_append_left (by simpa [Sort.ahead] using hlt')]
    simp only [Array.getElem?_modify, Sort.ahead, if_neg (Ne.symm hr)]
    exact ho
  have hown := hw.own _ _ hb
  refine ⟨_, _, rfl, ⟨⟨hw.below.os, hw.below.tape, hw.below.output, ?_, ?_⟩, ?_, ?_, ?_⟩, rfl, d'.toList, hperm, hsorted, Sort.putCells id 0 (Sort.flatK enc k d') c, by simp [Sort.putCells], ?_, rfl⟩
  · have := hw.below.size
    have h2 : w.heap.size ≤ (Proofs.sortWorldK enc k w b 0 m d' os).heap.size := by
      unfold Proofs.sortWorldK Sort.putRowK Sort.putRow Sort.mapBlock Sort.grow
      simp [Sort.ahead]
    omega
  · intro r hr
    have h1 := hw.below.block r hr
    have h3 := hw.below.size
    have hr' : r < w.heap.size := by omega
    rw [← h1, hoth r w.heap[r] (by omega) (Array.getElem?_eq_getElem hr'), Array.getElem?_eq_getElem hr']
  · intro r o t hr
    unfold GH.put at hr
    split at hr
    · rename_i e1; subst e1; cases hr; exact hput
    · rename_i e1; exact hoth r o e1 (hw.obj _ _ _ hr)
  · intro r o hr
    unfold GH.put at hr
    split at hr
    · rename_i e1; subst e1; exact hown
    · exact hw.own _ _ hr
  · show w0.drawn ≤ w.drawn + m
    have := hw.drawn; omega
  · have hf := flatK_list hk d'.toList
    have e1 : (d'.toList).toArray = d' := by simp
    rw [e1] at hf
    rw [← hf]
    apply List.ext_getElem?
    intro t
    rw [List.getElem?_take]
    split
    · rename_i ht
      have hfs : t < (Sort.flatK enc k d').size := by simp [hdsz]; exact ht
      rw [Array.getElem?_toList, Array.getElem?_toList]
      unfold Sort.putCells
      rw [Array.getElem?_mapIdx, Array.getElem?_eq_getElem (show t < c.size by omega)]
      simp only [Option.map_some]
      rw [if_pos ⟨Nat.zero_le _, by simp [hdsz]; exact ht⟩, Nat.sub_zero, getElem!_pos _ t hfs, Array.getElem?_eq_getElem hfs]
      rfl
    · rename_i ht
      rw [List.getElem?_eq_none (by simp [hdsz]; omega)]
end Go.GL
