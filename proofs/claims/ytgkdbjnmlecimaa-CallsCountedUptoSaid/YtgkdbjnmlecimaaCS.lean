/- The law CallsCounted (second form, up to the bulk): a part of its proof. No conditions. -/
import Derived.Test.YtgkdbjnmlecimaaC6
import Derived.Test.YtgkdbjnmlecimaaGlS
import Derived.Shelf.SlSortCmp.NoneTotal
import Derived.Test.YtgkdbjnmlecimaaSh
set_option linter.unusedSimpArgs false
set_option linter.unusedVariables false
namespace Go.Proofs.Ytgkdbjnmlecimaa
open Go Go.GL
set_option maxRecDepth 10000
theorem orOf2 (x y : Int) : orOf [x, y] = if x ≠ 0 then x else y := by
  unfold orOf
  split
  · rfl
  · unfold orOf
    split
    · rfl
    · unfold orOf; omega
theorem tcmp_lt (x y : Tly) : tcmp x y < 0 ↔ (x.a < y.a ∨ x.a = y.a ∧ (x.b < y.b ∨ x.b = y.b ∧ x.h < y.h)) := by
  unfold tcmp tallyCmp cellCmp
  simp only [orOf2]
  unfold cmp3
  repeat' split
  all_goals omega
theorem ltOf_tcmp (x y : Tly) : ltOf tcmp x y = decide (x.a < y.a ∨ x.a = y.a ∧ (x.b < y.b ∨ x.b = y.b ∧ x.h < y.h)) := by
  unfold ltOf
  rw [Bool.eq_iff_iff, decide_eq_true_iff, decide_eq_true_iff]; exact tcmp_lt x y
theorem swoT : Go.Sort.SWO (ltOf tcmp) where
  irrefl x := by rw [ltOf_tcmp]; simp
  trans x y z h1 h2 := by rw [ltOf_tcmp] at *; simp only [decide_eq_true_eq] at *; omega
  ntrans x y z h1 h2 := by rw [ltOf_tcmp] at *; simp only [decide_eq_false_iff_not] at *; omega
instance : Inhabited Tly := ⟨⟨0, 0, 0, 0⟩⟩
theorem sortSpec (g : Nat) (hg : GL.Enters Try.prog g) (hc : ∀ x y G, GCalls Try.prog g #[.agg (encT x).toArray, .agg (encT y).toArray] G (fun u G' => G.le G' ∧ u = .int .i64 (tcmp x y))) : SortSpec g := by
  have eg : ∀ args w, (callFunc g args).run Try.prog w = .ok (.enter g args) w := by
    intro args w
    obtain ⟨fn, hf, h1, h2⟩ := hg
    cases hb : fn.body with
    | none => rw [hb] at h2; cases h2
    | some c => exact enters_of hf h1 hb args w
  constructor
  · intro p cap G w0 w hw
    have h := AnyF.slices_SortFunc_none Try.sortT p cap (.func (.func g) #[] #[]) w
    change Calls Try.prog 82 _ _ _ at h
    refine h.mono ?_
    rintro e w' ⟨rfl, rfl⟩
    exact ⟨_, G, rfl, hw, rfl, rfl⟩
  · intro l hl G b cap c e hb hcap htake
    have := gsort (P := Try.prog) (n := 82) (g := g) (enc := encT) (k := 4) (cf := tcmp) (fun _ => rfl) (fun blk cap d w hcmp hH hblk hsz =>
      AnyQ.slices_SortFunc Try.sortT 4 Try.isAgg44 Try.sizeOf44 encT (fun _ => rfl) (fun x v hv => by simp [encT] at hv; rcases hv with rfl | rfl | rfl | rfl <;> rfl) tcmp swoT g #[] blk 0 cap d w eg hcmp hH hblk hsz) hc l hl (cap := cap) hb hcap htake
    refine this.mono ?_
    rintro v G' ⟨rfl, l', hp, hs, c', h1, h2, h3⟩
    refine ⟨rfl, l', hp, ?_, c', h1, h2, h3⟩
    refine hs.imp ?_
    intro x y h
    simpa [ltOf] using h
theorem sort71 : SortSpec 71 := sortSpec 71 (of_eq_true en71) (fun x y G => byTally_spec _ _ _ _ _ _ _ _ G)
theorem sort83 : SortSpec 83 := sortSpec 83 (of_eq_true en83) (fun x y G => listed1_spec _ _ _ _ _ _ _ _ G)
end Go.Proofs.Ytgkdbjnmlecimaa
