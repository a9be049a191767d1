/- A part of a proof: Walk and Length are as specified for all roads and arcs (statement DrivesWalkedUptoCardSaid) -/
import Derived.Sort.Row
import Derived.Sort.Grow
import Derived.Sort.EncStr
import Derived.Lib.SlicesCompact
import Derived.Test.YtjhfhacdjmokaaaGreatDoorDwGlY
set_option linter.unusedSimpArgs false
set_option linter.unusedVariables false
set_option linter.unusedSectionVars false
namespace Go.GL
open Go Go.RowKit
variable {P : Program}
theorem Holds.rewrite {w0 w w' : World} {G : GH} {b : Nat} {c c' : Array Value} {e : TypeId} (hw : Holds w0 G w) (hb : G b = some (.cells c e (0, 0), true)) (h1 : w'.os = w.os) (h2 : w'.tape = w.tape) (h3 : w'.output = w.output) (hs : w.heap.size ≤ w'.heap.size)
    (hput : w'.heap[b]? = some (.cells c' e (0, 0))) (hoth : ∀ r o, r ≠ b → w.heap[r]? = some o → w'.heap[r]? = some o) (hd : w.drawn ≤ w'.drawn) : Holds w0 (G.put b (.cells c' e (0, 0), true)) w' := by
  have hown := hw.own _ _ hb
  refine ⟨⟨h1.trans hw.below.os, h2.trans hw.below.tape, h3.trans hw.below.output, Nat.le_trans hw.below.size hs, ?_⟩, ?_, ?_, Nat.le_trans hw.drawn hd⟩
  · intro r hr
    have h1 := hw.below.block r hr
    have h3 := hw.below.size
    have hr' : r < w.heap.size := by omega
    rw [← h1, hoth r w.heap[r] (by omega) (Array.getElem?_eq_getElem hr'), Array.getElem?_eq_getElem hr']
  · intro r o t hr
    unfold GH.put at hr
    split at hr
    · rename_i e1; subst e1; cases hr; exact hput
    · rename_i e1; exact hoth r o e1 (hw.obj _ _ _ hr)
  · intro r o hr
    unfold GH.put at hr
    split at hr
    · rename_i e1; subst e1; exact hown
    · exact hw.own _ _ hr
section
variable {α : Type} [Inhabited α]
theorem Holds.putRow {w0 w : World} {G : GH} {b : Nat} {c : Array Value} {e : TypeId} (hw : Holds w0 G w) (hb : G b = some (.cells c e (0, 0), true)) (enc : α → Value) (d : Array α) (q : Nat) (os : Array Obj) :
    Holds w0 (G.put b (.cells (Sort.putCells enc 0 d c) e (0, 0), true)) (Sort.grow (Sort.putRow enc (Sort.ahead w q) b 0 d) os) := by
  have hbw := hw.obj _ _ _ hb
  have hlt : b < w.heap.size := (Array.getElem?_eq_some_iff.1 hbw).1
  refine hw.rewrite hb rfl rfl rfl ?_ ?_ ?_ ?_
  · unfold Sort.putRow Sort.mapBlock Sort.grow; simp [Sort.ahead]
  · unfold Sort.putRow Sort.mapBlock Sort.grow
    simp only []
    rw [Array.getElem?_append_left (by simpa [Sort.ahead] using hlt)]
    simp only [Array.getElem?_modify, Sort.ahead, hbw, if_true, Option.map_some]
    rfl
  · intro r o hr ho
    have hlt' : r < w.heap.size := (Array.getElem?_eq_some_iff.1 ho).1
    unfold Sort.putRow Sort.mapBlock Sort.grow
    simp only []
    rw [Array.getElem?_append_left (by simpa [Sort.ahead] using hlt')]
    simp only [Array.getElem?_modify, Sort.ahead, if_neg (Ne.symm hr)]
    exact ho
  · show w.drawn ≤ w.drawn + q
    omega
theorem putCells_take (enc : α → Value) (d : Array α) (c : Array Value) (h : d.size ≤ c.size) : (Sort.putCells enc 0 d c).toList.take d.size = d.toList.map enc := by
  apply List.ext_getElem?
  intro t
  rw [List.getElem?_take]
  split
  · rename_i ht
    unfold Sort.putCells
    rw [Array.getElem?_toList, Array.getElem?_mapIdx, Array.getElem?_eq_getElem (show t < c.size by omega), List.getElem?_map, Array.getElem?_toList, Array.getElem?_eq_getElem ht]
    simp only [Option.map_some]
    rw [if_pos ⟨Nat.zero_le _, by omega⟩, Nat.sub_zero, getElem!_pos d t ht]
  · rename_i ht
    rw [List.getElem?_eq_none (by simp; omega)]
theorem putCells_size (enc : α → Value) (d : Array α) (c : Array Value) : (Sort.putCells enc 0 d c).size = c.size := by simp [Sort.putCells]
end
def compF {α : Type} [DecidableEq α] : Option α → List α → List α
  | _, [] => []
  | p, x :: l => if p = some x then compF (some x) l else x :: compF (some x) l
def lastOr {α : Type} : Option α → List α → Option α
  | p, [] => p
  | _, x :: l => lastOr (some x) l
theorem compF_snoc {α : Type} [DecidableEq α] (x : α) : ∀ (l : List α) (p : Option α), compF p (l ++ [x]) = compF p l ++ (if lastOr p l = some x then [] else [x])
  | [], p => by by_cases h : p = some x <;> simp [compF, lastOr, h]
  | y :: l, p => by
    simp only [List.cons_append, compF, lastOr]
    split
    · exact compF_snoc x l _
    · rw [compF_snoc x l]; rfl
theorem lastOr_snoc {α : Type} (x : α) : ∀ (l : List α) (p : Option α), lastOr p (l ++ [x]) = some x
  | [], _ => rfl
  | _ :: l, _ => lastOr_snoc x l _
theorem compF_last {α : Type} [DecidableEq α] : ∀ (l : List α) (p : Option α), lastOr p (compF p l) = lastOr p l
  | [], p => rfl
  | x :: l, p => by
    simp only [compF, lastOr]
    split
    · rename_i h; rw [h]; exact compF_last l _
    · simp only [lastOr]; exact compF_last l _
theorem compF_map {α β : Type} [DecidableEq α] [DecidableEq β] (f : α → β) (hf : ∀ x y, f x = f y → x = y) : ∀ (l : List α) (p : Option α), compF (p.map f) (l.map f) = (compF p l).map f
  | [], _ => rfl
  | x :: l, p => by
    simp only [List.map_cons, compF]
    have ih := compF_map f hf l (some x)
    simp only [Option.map_some] at ih
    by_cases h : p = some x
    · subst h; simp only [Option.map_some, if_true]; exact ih
    · have h' : ¬ p.map f = some (f x) := by
        intro q
        cases p with
        | none => cases q
        | some y => simp only [Option.map_some, Option.some.injEq] at q; exact h (by rw [hf _ _ q])
      rw [if_neg h, if_neg h', List.map_cons, ih]
theorem compF_len {α : Type} [DecidableEq α] : ∀ (l : List α) (p : Option α), (compF p l).length ≤ l.length
  | [], _ => Nat.le_refl _
  | x :: l, p => by
    simp only [compF]
    have := compF_len l (some x)
    split <;> simp only [List.length_cons] <;> omega
theorem lastOr_take {α : Type} [Inhabited α] (zs : List α) (m : Nat) (hm : m < zs.length) : lastOr none (zs.take (m + 1)) = some (zs.toArray[m]!) := by
  rw [List.take_succ_eq_append_getElem hm, lastOr_snoc]; simp [hm]
theorem compact_comp {α : Type} [Inhabited α] [DecidableEq α] (zs : List α) : Lib.compact zs = compF none zs := by
  have key : ∀ m, m ≤ zs.length → Lib.compactUpTo zs.toArray m = compF none (zs.take m) := by
    intro m
    induction m with
    | zero => intro _; simp [Lib.compactUpTo, compF]
    | succ m ih =>
      intro hm
      rw [Lib.compactUpTo_succ, ih (by omega), List.take_succ_eq_append_getElem (by omega), compF_snoc]
      congr 1
      have e : zs.toArray[m]! = zs[m] := by simp [show m < zs.length by omega]
      cases m with
      | zero => simp [Lib.keeps, lastOr, e]
      | succ k =>
        have e2 := lastOr_take zs k (by omega)
        rw [e2, e]
        unfold Lib.keeps
        simp only [Nat.add_sub_cancel, e]
        generalize zs.toArray[k]! = a
        generalize zs[k + 1] = b
        by_cases q : b = a
        · simp [q]
        · have q' : ¬ a = b := fun h => q h.symm
          simp [q, q']
  have := key zs.length (Nat.le_refl _)
  rw [List.take_length] at this
  exact this
theorem flat1 {α : Type} (f : α → Value) : ∀ xs : List α, (xs.map fun x => [f x]).flatten = xs.map f
  | [] => rfl
  | x :: xs => by rw [List.map_cons, List.flatten_cons, flat1 f xs]; rfl
theorem cellsof_str {G : GH} {xs : List ByteArray} {cs : List Value} (h : Cellsof Rp.str G xs cs) : cs = xs.map Value.string := by
  obtain ⟨a, rfl, ha, hr⟩ := h
  have : a = xs.map fun x => [Value.string x] := by
    apply List.ext_getElem (by simpa using ha)
    intro i h1 h2
    have := hr i xs[i]! a[i] (by rw [getElem!_pos xs i (by omega)]; exact List.getElem?_eq_getElem _) (List.getElem?_eq_getElem h1)
    rw [getElem!_pos xs i (by omega)] at this
    simpa [Rp.str] using this
  rw [this, flat1]
theorem cellsof_str_mk {G : GH} (xs : List ByteArray) : Cellsof Rp.str G xs (xs.map Value.string) := ⟨xs.map fun x => [Value.string x], (flat1 Value.string xs).symm, by simp, by
  intro i x c hx hc
  rw [List.getElem?_map, hx] at hc
  cases hc; rfl⟩
def bytesOf (s : ByteArray) : List UInt8 := s.data.toList
theorem enc_bytes (s : ByteArray) : Proofs.encStr (bytesOf s) = Value.string s := by simp [Proofs.encStr, bytesOf]
theorem bytesOf_inj (a b : ByteArray) (h : bytesOf a = bytesOf b) : a = b := ba_inj h
theorem Row.turnStr {e : TypeId} {G0 G : GH} {v : Value} {xs : List ByteArray} (hr : Row Rp.str e G0 G v xs) : (v = .slice none 0 0 ∧ xs = []) ∨ ∃ b cap, v = .slice (some ⟨b, 0, none⟩) xs.length cap ∧ xs.length ≤ cap ∧ G0 b = none ∧ (∀ w0 w, Holds w0 G w → b < w.heap.size ∧ Sort.Holds Proofs.encStr w b 0 (xs.map bytesOf).toArray) ∧
    ∀ (ys : List ByteArray) (zs : List (List UInt8)) (q : Nat) (os : Array Obj) w0 w, Holds w0 G w → zs.length = xs.length → zs.take ys.length = ys.map bytesOf → ys.length ≤ xs.length → ∃ G', Holds w0 G' (Sort.grow (Sort.putRow Proofs.encStr (Sort.ahead w q) b 0 zs.toArray) os) ∧ Row Rp.str e G0 G' (.slice (some ⟨b, 0, none⟩) ys.length cap) ys ∧ (G0.le G → G0.le G') := by
  obtain ⟨cs, hov, hcs⟩ := hr
  have hceq := cellsof_str hcs
  rcases hov.2 with ⟨rfl, h0⟩ | ⟨b, cap, c, rfl, h0, hb, hsz, hnc, htake⟩
  · exact .inl ⟨rfl, List.eq_nil_of_length_eq_zero h0⟩
  · right
    have e1 : Rp.str.sz = 1 := rfl
    rw [e1, Nat.mul_one] at hsz htake
    refine ⟨b, cap, rfl, hnc, h0, ?_, ?_⟩
    · intro w0 w hw
      have hbw := hw.obj _ _ _ hb
      refine ⟨(Array.getElem?_eq_some_iff.1 hbw).1, ?_⟩
      intro j hj
      have hj' : j < xs.length := by simpa using hj
      constructor
      · have h1 : (xs.map Value.string)[j]? = some (.string xs[j]) := by rw [List.getElem?_map, List.getElem?_eq_getElem hj']; rfl
        rw [← hceq, ← htake, List.getElem?_take, if_pos hj', Array.getElem?_toList] at h1
        simp only [World.cell?, hbw, Nat.zero_add, Option.isSome_none, Bool.false_eq_true, if_false]
        rw [h1, getElem!_pos _ j hj]
        simp [enc_bytes]
      · simp [World.frozen?, hbw]
    · intro ys zs q os w0 w hw hzl hzt hyl
      refine ⟨_, hw.putRow hb Proofs.encStr zs.toArray q os, ⟨ys.map Value.string, ⟨by simp [e1], .inr ⟨b, cap, Sort.putCells Proofs.encStr 0 zs.toArray c, rfl, h0, put_self _ _ _, by rw [putCells_size, hsz, e1, Nat.mul_one], by omega, ?_⟩⟩, cellsof_str_mk ys⟩, fun hl => le_put_new hl h0 _⟩
      have ht := putCells_take Proofs.encStr zs.toArray c (by simp; omega)
      rw [e1, Nat.mul_one]
      have h2 : ∀ (L : List Value), L.take ys.length = (L.take zs.length).take ys.length := by
        intro L; rw [List.take_take]; congr 1; omega
      rw [h2]
      simp only [List.size_toArray] at ht
      rw [ht, ← List.map_take, hzt, List.map_map]
      apply List.map_congr_left
      intro x _
      exact enc_bytes x
theorem gcompact {n : Nat} {e : TypeId} {G0 G : GH} {v : Value} {xs : List ByteArray}
    (hS : ∀ (blk cap : Nat) (zs : List (List UInt8)) (w : World), Sort.Holds Proofs.encStr w blk 0 zs.toArray → zs.length ≤ 9223372036854775807 → zs.length ≤ cap → Calls P n #[.slice (some ⟨blk, 0, none⟩) zs.length cap] w fun e w' => e = .returned (.slice (some ⟨blk, 0, none⟩) (Lib.compact zs).length cap) ∧ ∃ q, w' = Sort.putRow Proofs.encStr (Sort.ahead w q) blk 0 (Lib.compact zs ++ List.replicate (zs.length - (Lib.compact zs).length) []).toArray)
    (hE : ∀ (a : Option Addr) (cap : Nat) (w : World), Calls P n #[.slice a 0 cap] w fun e w' => e = .returned (.slice a 0 cap) ∧ w' = w)
    (hr : Row Rp.str e G0 G v xs) (hn : xs.length ≤ 1000000000) (hl : G0.le G) : GCalls P n #[v] G (fun u G' => Row Rp.str e G0 G' u (compF none xs) ∧ G0.le G') := by
  intro w0 w hw
  have hr' := hr
  rcases hr.turnStr with ⟨rfl, rfl⟩ | ⟨b, cap, rfl, hcap, h0, hH, hT⟩
  · refine (hE none 0 w).mono ?_
    rintro e' w' ⟨rfl, rfl⟩
    exact ⟨_, G, rfl, hw, Row.nil, hl⟩
  · have h := hS b cap (xs.map bytesOf) w (hH w0 w hw).2 (by simp; omega) (by simpa using hcap)
    rw [List.length_map] at h
    refine h.mono ?_
    rintro e' w' ⟨rfl, q, rfl⟩
    have hc : Lib.compact (xs.map bytesOf) = (compF none xs).map bytesOf := by rw [compact_comp]; exact compF_map bytesOf bytesOf_inj xs none
    have hlen := compF_len xs none
    obtain ⟨G', h1, h2, h3⟩ := hT (compF none xs) (Lib.compact (xs.map bytesOf) ++ List.replicate (xs.length - (Lib.compact (xs.map bytesOf)).length) []) q #[] w0 w hw (by rw [hc]; simp; omega) (by rw [hc, List.take_left' (by simp)]) hlen
    rw [Sort.grow_empty] at h1
    refine ⟨_, G', rfl, h1, ?_, h3 hl⟩
    rw [hc, List.length_map]; exact h2
end Go.GL
