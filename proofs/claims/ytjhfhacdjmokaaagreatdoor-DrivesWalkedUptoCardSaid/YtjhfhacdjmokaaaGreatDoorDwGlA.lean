/- A part of a proof: Walk and Length are as specified for all roads and arcs (statement DrivesWalkedUptoCardSaid) -/
import Derived.Calls
import Derived.Below
import Derived.Tactics
import Derived.KernelRfl
set_option linter.unusedSimpArgs false
set_option linter.unusedVariables false
set_option linter.unusedSectionVars false
namespace Go.GL
open Go Go.RowKit
abbrev GH := Nat → Option (Obj × Bool)
structure Holds (w0 : World) (G : GH) (w : World) : Prop where
  below : Below w0.heap.size w0 w
  obj : ∀ b o t, G b = some (o, t) → w.heap[b]? = some o
  own : ∀ b o, G b = some (o, true) → w0.heap.size ≤ b
  drawn : w0.drawn ≤ w.drawn
def GH.put (G : GH) (b : Nat) (o : Obj × Bool) : GH := fun c => if c = b then some o else G c
def GH.le (G G' : GH) : Prop := ∀ b o, G b = some o → G' b = some o
def gcell (G : GH) (a : Addr) : Option Value :=
  match G a.block with
  | some (.cells c _ _, _) => if a.spot.isSome then none else c[a.off]?
  | _ => none
def cellsOf : Obj → Array Value
  | .cells c _ _ => c
  | _ => #[]
def Obj.setCell (o : Obj) (a : Addr) (v : Value) : Obj :=
  match o with
  | .cells c elem frozen => .cells (if a.spot.isSome then c else c.setIfInBounds a.off v) elem frozen
  | o => o
def gwp {α : Type} (P : Program) : Sem α → GH → (α → GH → Prop) → Prop
  | .pure a, G, K => K a G
  | .load _ a k, G, K => ∃ v, gcell G a = some v ∧ gwp P (k v) G K
  | .store _ a v k, G, K => (∀ c, v ≠ .agg c) ∧ (∀ c, v ≠ .tuple c) ∧ ∃ c e, G a.block = some (.cells c e (0, 0), true) ∧ a.spot = none ∧ a.off < c.size ∧
      gwp P k (G.put a.block (.cells (c.setIfInBounds a.off v) e (0, 0), true)) K
  | .new o k, G, K => ∀ r, G r = none → gwp P (k r) (G.put r (o, true)) K
  | .shape r k, G, K => ∃ c e fr t, G r = some (.cells c e fr, t) ∧ gwp P (k (some (e, c.size))) G K
  | .freeze _ _ _, _, _ => False
  | .frozen a k, G, K => ∃ c e fr t, G a.block = some (.cells c e fr, t) ∧ gwp P (k (decide (fr.1 ≤ a.off) && decide (a.off < fr.2))) G K
  | .getObj r k, G, K => ∃ o t, G r = some (o, t) ∧ (∀ c e fr, o ≠ .cells c e fr) ∧ gwp P (k o) G K
  | .setObj r o k, G, K => ∃ o', G r = some (o', true) ∧ (∀ c e fr, o' ≠ .cells c e fr) ∧ gwp P k (G.put r (o, true)) K
  | .choose q k, G, K => ∀ t, gwp P (k (if q.forced then 0 else q.cut t)) G K
  | .sys _ _, _, _ => False
  | .program k, G, K => gwp P (k P) G K
  | .mark _ k, G, K => gwp P k G K
  | .halt _, _, _ => False
theorem Holds.cell {w0 : World} {G : GH} {w : World} (h : Holds w0 G w) {a : Addr} {v : Value} (hc : gcell G a = some v) : w.cell? a = some v := by
  unfold gcell at hc
  split at hc
  · rename_i c e fr t hG
    have := h.obj _ _ _ hG
    simp only [World.cell?, this]
    exact hc
  · cases hc
theorem Holds.put {w0 : World} {G : GH} {w w' : World} (h : Holds w0 G w) {b : Nat} {o : Obj} (hb : w0.heap.size ≤ b) (hn : w'.heap[b]? = some o)
    (hbl : Below w0.heap.size w0 w') (hother : ∀ c o', c ≠ b → w.heap[c]? = some o' → w'.heap[c]? = some o') (hd : w'.drawn = w.drawn) : Holds w0 (G.put b (o, true)) w' := by
  refine ⟨hbl, ?_, ?_, by rw [hd]; exact h.drawn⟩
  · intro c o' t hc
    unfold GH.put at hc
    split at hc
    · rename_i e; subst e; cases hc; exact hn
    · rename_i e; exact hother c o' e (h.obj _ _ _ hc)
  · intro c o' hc
    unfold GH.put at hc
    split at hc
    · rename_i e; subst e; exact hb
    · exact h.own _ _ hc
theorem gwp_sound {α : Type} (P : Program) (w0 : World) : ∀ (s : Sem α) (G : GH) (K : α → GH → Prop) (w : World), gwp P s G K → Holds w0 G w →
    ∃ a w' G', s.run P w = .ok a w' ∧ Holds w0 G' w' ∧ K a G' := by
  intro s
  induction s with
  | pure a => intro G K w h hw; exact ⟨a, w, G, rfl, hw, h⟩
  | load m a k ih =>
    intro G K w h hw
    obtain ⟨v, hv, h⟩ := h
    obtain ⟨x, w', G', hr, hh, hk⟩ := ih v G K w h hw
    exact ⟨x, w', G', by simp only [Sem.run, hw.cell hv]; exact hr, hh, hk⟩
  | store m a v k ih =>
    intro G K w h hw
    obtain ⟨h1, h2, c, e, hG, hs, ho, h⟩ := h
    have hb := hw.obj _ _ _ hG
    have hown := hw.own _ _ hG
    have hlt : a.block < w.heap.size := (Array.getElem?_eq_some_iff.1 hb).1
    have hset : (w.setCell a v).heap[a.block]? = some (.cells (c.setIfInBounds a.off v) e (0, 0)) := by
      simp [World.setCell, Array.getElem?_modify, hb, hs]
    have hoth : ∀ d, d ≠ a.block → (w.setCell a v).heap[d]? = w.heap[d]? := by
      intro d hd
      simp [World.setCell, Array.getElem?_modify, Ne.symm hd]
    have hh : Holds w0 (G.put a.block (.cells (c.setIfInBounds a.off v) e (0, 0), true)) (w.setCell a v) := by
      refine hw.put hown hset ⟨hw.below.os, hw.below.tape, hw.below.output, ?_, ?_⟩ (fun d o' hd h => by rw [hoth d hd]; exact h) rfl
      · simpa [World.setCell] using hw.below.size
      · intro d hd
        rw [hoth d (by omega)]
        exact hw.below.block d hd
    obtain ⟨x, w', G', hr, hh, hk⟩ := ih _ K _ h hh
    refine ⟨x, w', G', ?_, hh, hk⟩
    have hcell : w.cell? a = some (c[a.off]) := by simp [World.cell?, hb, hs, ho]
    have hfr : w.frozen? a = false := by simp [World.frozen?, hb]
    cases v with
    | agg cs => exact absurd rfl (h1 cs)
    | tuple cs => exact absurd rfl (h2 cs)
    | _ => simp only [Sem.run, hcell, hfr]; exact hr
  | new o k ih =>
    intro G K w h hw
    have hfresh : G w.heap.size = none := by
      cases hg : G w.heap.size with
      | none => rfl
      | some x =>
        have := hw.obj _ _ x.2 (by rw [hg])
        simp at this
    have hh : Holds w0 (G.put w.heap.size (o, true)) { w with heap := w.heap.push o } := by
      refine hw.put hw.below.size (by simp) ⟨hw.below.os, hw.below.tape, hw.below.output, ?_, ?_⟩ ?_ rfl
      · have := hw.below.size; simp; omega
      · intro d hd
        have := hw.below.size
        have := hw.below.block d hd
        simp [Array.getElem?_push, show d ≠ w.heap.size by omega, this]
      · intro d o' hd h
        simp [Array.getElem?_push, hd, h]
    obtain ⟨x, w', G', hr, hh, hk⟩ := ih w.heap.size _ K _ (h _ hfresh) hh
    exact ⟨x, w', G', by simp only [Sem.run]; exact hr, hh, hk⟩
  | shape r k ih =>
    intro G K w h hw
    obtain ⟨c, e, fr, t, hG, h⟩ := h
    obtain ⟨x, w', G', hr, hh, hk⟩ := ih _ G K w h hw
    exact ⟨x, w', G', by simp only [Sem.run, World.shape?, hw.obj _ _ _ hG]; exact hr, hh, hk⟩
  | freeze a n k ih => intro G K w h hw; exact h.elim
  | frozen a k ih =>
    intro G K w h hw
    obtain ⟨c, e, fr, t, hG, h⟩ := h
    obtain ⟨x, w', G', hr, hh, hk⟩ := ih _ G K w h hw
    exact ⟨x, w', G', by simp only [Sem.run, World.frozen?, hw.obj _ _ _ hG]; exact hr, hh, hk⟩
  | getObj r k ih =>
    intro G K w h hw
    obtain ⟨o, t, hG, hne, h⟩ := h
    obtain ⟨x, w', G', hr, hh, hk⟩ := ih _ G K w h hw
    refine ⟨x, w', G', ?_, hh, hk⟩
    have := hw.obj _ _ _ hG
    cases o with
    | cells c e fr => exact absurd rfl (hne c e fr)
    | _ => simp only [Sem.run, this]; exact hr
  | setObj r o k ih =>
    intro G K w h hw
    obtain ⟨o', hG, hne, h⟩ := h
    have hb := hw.obj _ _ _ hG
    have hown := hw.own _ _ hG
    have hlt : r < w.heap.size := (Array.getElem?_eq_some_iff.1 hb).1
    have hh : Holds w0 (G.put r (o, true)) { w with heap := w.heap.setIfInBounds r o } := by
      refine hw.put hown (by simp [hlt]) ⟨hw.below.os, hw.below.tape, hw.below.output, ?_, ?_⟩ ?_ rfl
      · simpa using hw.below.size
      · intro d hd
        have := hw.below.block d hd
        simp [Array.getElem?_setIfInBounds, show r ≠ d by omega, this]
      · intro d o' hd h
        simp [Array.getElem?_setIfInBounds, Ne.symm hd, h]
    obtain ⟨x, w', G', hr, hh, hk⟩ := ih _ K _ h hh
    refine ⟨x, w', G', ?_, hh, hk⟩
    cases o' with
    | cells c e fr => exact absurd rfl (hne c e fr)
    | _ => simp only [Sem.run, hb]; exact hr
  | choose q k ih =>
    intro G K w h hw
    have h' := h (w.tape w.drawn q)
    cases hq : q.forced with
    | true =>
      rw [hq] at h'
      obtain ⟨x, w', G', hr, hh, hk⟩ := ih 0 G K w h' hw
      exact ⟨x, w', G', by simp only [Sem.run, hq]; exact hr, hh, hk⟩
    | false =>
      rw [hq] at h'
      obtain ⟨x, w', G', hr, hh, hk⟩ := ih _ G K { w with drawn := w.drawn + 1 } h' ⟨⟨hw.below.os, hw.below.tape, hw.below.output, hw.below.size, hw.below.block⟩, hw.obj, hw.own, Nat.le_succ_of_le hw.drawn⟩
      exact ⟨x, w', G', by simp only [Sem.run, hq]; exact hr, hh, hk⟩
  | sys c k ih => intro G K w h hw; exact h.elim
  | program k ih =>
    intro G K w h hw
    obtain ⟨x, w', G', hr, hh, hk⟩ := ih P G K w h hw
    exact ⟨x, w', G', by simp only [Sem.run]; exact hr, hh, hk⟩
  | mark m k ih =>
    intro G K w h hw
    obtain ⟨x, w', G', hr, hh, hk⟩ := ih G K w h hw
    exact ⟨x, w', G', by simp only [Sem.run]; exact hr, hh, hk⟩
  | halt h0 => intro G K w h hw; exact h.elim
end Go.GL
