/- A part of a proof: Walk and Length are as specified for all roads and arcs (statement DrivesWalkedUptoCardSaid) -/
import Derived.Laws.StructEq
import Derived.Test.YtjhfhacdjmokaaaGreatDoorDwGlL
set_option linter.unusedSimpArgs false
set_option linter.unusedVariables false
set_option linter.unusedSectionVars false
namespace Go.GL
open Go Go.RowKit
variable {P : Program}
theorem calm_equal_struct (d : Nat) (t : TypeId) (xs ys : Array Value) {fs : List Field} (ht : P.underlying t = some (.struct fs.toArray)) (hp : P.stoodInHeld t = false) :
    calm P (Op.equalIn (d + 1) t (.agg xs) (.agg ys)) = calm P (Op.eqFields d xs ys fs) := by
  simp only [Op.equalIn, calm_bind, calm_underlying (show tyD P t = _ from ht), Option.bind_some, calm_program, hp, Bool.false_eq_true, if_false]
  rw [← Array.forIn_toList]
  dsimp only
  clear ht
  induction fs with
  | nil => simp [Op.eqFields, calm_pure]
  | cons f fs ih =>
    simp only [List.forIn_cons, Op.eqFields, calm_bind]
    split
    · simp only [calm_bind]
      cases calm P (part f.type xs f.offset) with
      | none => rfl
      | some a =>
        simp only [Option.bind_some]
        cases calm P (part f.type ys f.offset) with
        | none => rfl
        | some b =>
          simp only [Option.bind_some]
          cases calm P (Op.equalIn d f.type a b) with
          | none => rfl
          | some r =>
            simp only [Option.bind_some]
            cases r
            · simp [calm_pure]
            · simp only [Bool.not_true, Bool.false_eq_true, if_false, calm_pure, Option.bind_some]
              exact ih
    · simp only [calm_pure, Option.bind_some]
      exact ih
theorem calm_isAgg {t : TypeId} {b : Bool} (h : (tyD P t).map isAggD = some b) : calm P (isAgg t) = some b := by
  cases hd : tyD P t with
  | none => rw [hd] at h; cases h
  | some d =>
    rw [hd] at h; cases h
    unfold isAgg
    rw [calm_bind, calm_underlying hd]
    cases d <;> rfl
theorem calm_part_one {t : TypeId} (h : (tyD P t).map isAggD = some false) (cs : Array Value) (off : Nat) : calm P (part t cs off) = cs[off]? := by
  unfold part
  rw [calm_bind, calm_isAgg h]
  simp only [Option.bind_some, Bool.false_eq_true, if_false]
  cases cs[off]? <;> rfl
theorem calm_part_agg {t : TypeId} {n : Nat} (h : (tyD P t).map isAggD = some true) (hn : tySz P t = n) (hp : 0 < n) (cs : Array Value) (off : Nat) : calm P (part t cs off) = some (.agg (cs.extract off (off + n))) := by
  unfold part
  rw [calm_bind, calm_isAgg h]
  simp only [Option.bind_some, if_true]
  rw [calm_bind, calm_sizeOf (by omega), hn]; rfl
theorem calm_eq_int {t : TypeId} {q : IntKind} (h : P.underlying t = some (.int q)) (d : Nat) (k : IntKind) (a b : Int) : calm P (Op.equalIn (d + 1) t (.int k a) (.int k b)) = some (decide (a = b)) := by
  simp only [Op.equalIn, calm_bind, calm_underlying (show tyD P t = _ from h), Option.bind_some, if_true, calm_pure]
  have e : (a == b) = decide (a = b) := by rw [Bool.eq_iff_iff]; simp
  rw [e]
theorem calm_eq_bool {t : TypeId} (h : P.underlying t = some .bool) (d : Nat) (a b : Bool) : calm P (Op.equalIn (d + 1) t (.bool a) (.bool b)) = some (decide (a = b)) := by
  simp only [Op.equalIn, calm_bind, calm_underlying (show tyD P t = _ from h), Option.bind_some, calm_pure]
  have e : (a == b) = decide (a = b) := by rw [Bool.eq_iff_iff]; simp
  rw [e]
theorem calm_eq_string {t : TypeId} (h : P.underlying t = some .string) (d : Nat) (a b : ByteArray) : calm P (Op.equalIn (d + 1) t (.string a) (.string b)) = some (decide (a = b)) := by
  simp only [Op.equalIn, calm_bind, calm_underlying (show tyD P t = _ from h), Option.bind_some, calm_pure]
  have e : (a == b) = decide (a = b) := by rw [Bool.eq_iff_iff, bytes_beq]; simp
  rw [e]
theorem eqFields_cons {d : Nat} {xs ys : Array Value} {f : Field} {fs : List Field} (h : f.name ≠ "_") : calm P (Op.eqFields d xs ys (f :: fs)) =
    (calm P (part f.type xs f.offset)).bind fun a => (calm P (part f.type ys f.offset)).bind fun b => (calm P (Op.equalIn d f.type a b)).bind fun r => if r then calm P (Op.eqFields d xs ys fs) else some false := by
  rw [Op.eqFields, if_pos h]
  simp only [calm_bind]
  congr 1; funext a; congr 1; funext b; congr 1; funext r
  cases r <;> rfl
theorem eqFields_nil {d : Nat} {xs ys : Array Value} : calm P (Op.eqFields d xs ys []) = some true := rfl
def chkFields (P : Program) (em : Bool) (d : Nat) (xs : Array Value) : List Field → Option Unit
  | [] => some ()
  | f :: fs => if f.name ≠ "_" then (calm P (part f.type xs f.offset)).bind fun a => (calm P (Instr.checkKey em d f.type a)).bind fun _ => chkFields P em d xs fs else chkFields P em d xs fs
theorem calm_check_struct (em : Bool) (d : Nat) (t : TypeId) (xs : Array Value) {fs : List Field} (ht : P.underlying t = some (.struct fs.toArray)) :
    calm P (Instr.checkKey em (d + 1) t (.agg xs)) = chkFields P em d xs fs := by
  simp only [Instr.checkKey, calm_bind, calm_underlying (show tyD P t = _ from ht), Option.bind_some]
  rw [← Array.forIn_toList]
  dsimp only
  clear ht
  induction fs with
  | nil => simp [chkFields, calm_pure]
  | cons f fs ih =>
    simp only [List.forIn_cons, chkFields, calm_bind]
    split
    · simp only [calm_bind]
      cases calm P (part f.type xs f.offset) with
      | none => rfl
      | some a =>
        simp only [Option.bind_some]
        cases calm P (Instr.checkKey em d f.type a) with
        | none => rfl
        | some r => simp only [Option.bind_some, calm_pure]; exact ih
    · simp only [calm_pure, Option.bind_some]
      exact ih
theorem calm_check_plain {t : TypeId} {d : TypeDesc} (h : P.underlying t = some d) (hd : (match d with | .interface _ | .array _ _ | .struct _ => false | _ => true) = true) (em : Bool) (n : Nat) (v : Value) : calm P (Instr.checkKey em (n + 1) t v) = some () := by
  unfold Instr.checkKey
  rw [calm_bind, calm_underlying (show tyD P t = _ from h)]
  simp only [Option.bind_some]
  cases d <;> first | (simp at hd; done) | rfl
theorem gwp_aggEq {T : TypeId} {x y : Operand} {xs ys : Array Value} {r : Bool} (hg : P.eqGuardType P.depth T = false) (h : calm P (Op.equal T (.agg xs) (.agg ys)) = some r) : pvB P .eql T x y (.agg xs) (.agg ys) = some (.bool r) := det_some fun G K => by
  rw [gwp_bind]
  have e : gwp P (eqGuard .eql T x y (.agg xs) (.agg ys)) G (fun _ G' => gwp P (binOp .eql T (.agg xs) (.agg ys)) G' K) = gwp P (binOp .eql T (.agg xs) (.agg ys)) G K := by
    simp [eqGuard, gwp_bind, gwp_program, hg, gwp_pure]
  rw [e]
  simp only [binOp]
  rw [gwp_bind, gwp_calm _ h]; rfl
theorem gwp_aggNe {T : TypeId} {x y : Operand} {xs ys : Array Value} {r : Bool} (hg : P.eqGuardType P.depth T = false) (h : calm P (Op.equal T (.agg xs) (.agg ys)) = some r) : pvB P .neq T x y (.agg xs) (.agg ys) = some (.bool (!r)) := det_some fun G K => by
  rw [gwp_bind]
  have e : gwp P (eqGuard .neq T x y (.agg xs) (.agg ys)) G (fun _ G' => gwp P (binOp .neq T (.agg xs) (.agg ys)) G' K) = gwp P (binOp .neq T (.agg xs) (.agg ys)) G K := by
    simp [eqGuard, gwp_bind, gwp_program, hg, gwp_pure]
  rw [e]
  simp only [binOp]
  rw [gwp_bind, gwp_calm _ h]; rfl
end Go.GL
