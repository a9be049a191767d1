/- A part of a proof: Walk and Length are as specified for all roads and arcs (statement DrivesWalkedUptoCardSaid) -/
import Derived.Laws.Strings
import Derived.Test.YtjhfhacdjmokaaaGreatDoorDwGlT
set_option linter.unusedSimpArgs false
set_option linter.unusedVariables false
set_option linter.unusedSectionVars false
namespace Go.GL
open Go Go.RowKit
variable {P : Program}
def sLt (s t : ByteArray) : Bool := decide (s.data.toList < t.data.toList)
theorem bl_eq : ∀ (x y : List UInt8), Op.bytesLess x y = decide (x < y)
  | [], [] => by simp [Op.bytesLess]
  | _ :: _, [] => by simp [Op.bytesLess]
  | [], _ :: _ => by simp [Op.bytesLess]
  | a :: x, b :: y => by
    rw [Op.bytesLess, bl_eq x y]
    simp only [List.cons_lt_cons_iff]
    by_cases h1 : a < b <;> by_cases h2 : a = b <;> by_cases h3 : x < y <;> simp [h1, h2, h3]
theorem ba_inj {a b : ByteArray} (h : a.data.toList = b.data.toList) : a = b := by
  cases a; cases b; simpa [Array.toList_inj] using h
theorem tl_eq (s t : ByteArray) : (s.toList == t.toList) = decide (s = t) := by
  rw [ByteArray.toList_eq, ByteArray.toList_eq, Bool.eq_iff_iff]
  simp only [beq_iff_eq, decide_eq_true_eq]
  exact ⟨ba_inj, fun h => by rw [h]⟩
theorem sLt_irrefl (s : ByteArray) : sLt s s = false := by simp [sLt, List.lt_irrefl]
theorem sLt_trans {s t u : ByteArray} (h1 : sLt s t = true) (h2 : sLt t u = true) : sLt s u = true := by
  simp only [sLt, decide_eq_true_eq] at *; exact List.lt_trans h1 h2
theorem sLt_asymm {s t : ByteArray} (h1 : sLt s t = true) : sLt t s = false := by
  cases h : sLt t s with
  | false => rfl
  | true => have := sLt_trans h1 h; rw [sLt_irrefl] at this; cases this
theorem sLt_tri {s t : ByteArray} (h1 : sLt s t = false) (h2 : sLt t s = false) : s = t := by
  simp only [sLt, decide_eq_false_iff_not] at *
  exact ba_inj (List.le_antisymm (List.not_lt.1 h2) (List.not_lt.1 h1))
theorem sLt_ne {s t : ByteArray} (h : sLt s t = true) : s ≠ t := by rintro rfl; rw [sLt_irrefl] at h; cases h
section
variable (T : TypeId) (x y : Operand) (s t : ByteArray)
theorem pvB_seqD : pvB P .eql T x y (.string s) (.string t) = some (.bool (decide (s = t))) := by rw [pvB_seq, tl_eq]
theorem pvB_sneD : pvB P .neq T x y (.string s) (.string t) = some (.bool (!decide (s = t))) := by rw [pvB_sne, tl_eq]
theorem pvB_sltD : pvB P .lss T x y (.string s) (.string t) = some (.bool (sLt s t)) := by
  rw [pvB_slt, slt, bl_eq, ByteArray.toList_eq, ByteArray.toList_eq]; rfl
theorem le_lt (s t : ByteArray) : (slt s.toList t.toList || s.toList == t.toList) = !sLt t s := by
  rw [tl_eq, slt, bl_eq, ByteArray.toList_eq, ByteArray.toList_eq]
  show (sLt s t || decide (s = t)) = !sLt t s
  cases h : sLt s t with
  | true => rw [sLt_asymm h]; rfl
  | false =>
    cases h2 : sLt t s with
    | true => simp only [Bool.false_or, Bool.not_true, decide_eq_false_iff_not]; exact (sLt_ne h2).symm
    | false => simp [sLt_tri h h2]
theorem pvB_sleD : pvB P .leq T x y (.string s) (.string t) = some (.bool (!sLt t s)) := by rw [pvB_sle, le_lt]
theorem pvB_sgtD : pvB P .gtr T x y (.string s) (.string t) = some (.bool (sLt t s)) := by rw [pvB_sgt, le_lt, Bool.not_not]
theorem pvB_sgeD : pvB P .geq T x y (.string s) (.string t) = some (.bool (!sLt s t)) := by
  rw [pvB_sge, slt, bl_eq, ByteArray.toList_eq, ByteArray.toList_eq]; rfl
end
theorem bytes_cons (s : ByteArray) (h : 0 < s.size) : ∃ b l, s.data.toList = b :: l := by
  cases h' : s.data.toList with
  | nil =>
    have : s.size = 0 := by
      have : s.data.size = 0 := by rw [← Array.length_toList, h']; rfl
      exact this
    omega
  | cons b l => exact ⟨b, l, rfl⟩
theorem size_len (s : ByteArray) : s.size = s.data.toList.length := (Array.length_toList).symm
theorem empty_iff (s : ByteArray) : s = ByteArray.empty ↔ s.size = 0 := by
  constructor
  · rintro rfl; rfl
  · intro h
    apply ba_inj
    rw [size_len] at h
    rw [List.eq_nil_of_length_eq_zero h]; rfl
end Go.GL
