/- The law CallsCounted (second form, up to the bulk): a part of its proof. No conditions. -/
import Derived.Test.YtgkdbjnmlecimaaTryCo
import Derived.Test.YtgkdbjnmlecimaaGlN
set_option linter.unusedSimpArgs false
set_option linter.unusedVariables false
namespace Go.Proofs.Ytgkdbjnmlecimaa
open Go Go.GL
theorem pt3 (cs : Array Value) (off : Nat) : calm Try.prog (part 3 cs off) = cs[off]? := calm_part_one ag3 cs off
theorem eq3 (d : Nat) (k : IntKind) (a b : Int) : calm Try.prog (Op.equalIn (d + 1) 3 (.int k a) (.int k b)) = some (decide (a = b)) := calm_eq_int Try.underlying3 d k a b
theorem ck3 (em : Bool) (n : Nat) (v : Value) : calm Try.prog (Instr.checkKey em (n + 1) 3 v) = some () := calm_check_plain Try.underlying3 rfl em n v
theorem eq24 (d : Nat) (x0 y0 : Int) (x1 y1 : Int) : calm Try.prog (Op.equalIn (d + 2) 24 (.agg #[.int .i64 x0, .int .i64 x1]) (.agg #[.int .i64 y0, .int .i64 y1])) = some (decide (x0 = y0) && decide (x1 = y1)) := by
  rw [calm_equal_struct (d + 1) 24 _ _ (show Try.prog.underlying 24 = _ from Try.underlying24) (by kernel_rfl)]
  simp [eqFields_cons, eqFields_nil, eq3, pt3]
  (try by_cases h0 : x0 = y0) <;> (try by_cases h1 : x1 = y1) <;> (try simp [*])
theorem aeq24 (a b : Operand) (x0 y0 : Int) (x1 y1 : Int) : pvB Try.prog .eql 24 a b (.agg #[.int .i64 x0, .int .i64 x1]) (.agg #[.int .i64 y0, .int .i64 y1]) = some (.bool (decide (x0 = y0) && decide (x1 = y1))) := gwp_aggEq (by kernel_rfl) (eq24 9998 x0 y0 x1 y1)
theorem ane24 (a b : Operand) (x0 y0 : Int) (x1 y1 : Int) : pvB Try.prog .neq 24 a b (.agg #[.int .i64 x0, .int .i64 x1]) (.agg #[.int .i64 y0, .int .i64 y1]) = some (.bool (!(decide (x0 = y0) && decide (x1 = y1)))) := gwp_aggNe (by kernel_rfl) (eq24 9998 x0 y0 x1 y1)
theorem ck24 (em : Bool) (n : Nat) (x0 : Int) (x1 : Int) : calm Try.prog (Instr.checkKey em (n + 2) 24 (.agg #[.int .i64 x0, .int .i64 x1])) = some () := by
  rw [calm_check_struct em (n + 1) 24 _ (show Try.prog.underlying 24 = _ from Try.underlying24)]
  simp [chkFields, ck3, pt3]
theorem kf24 (x0 : Int) (x1 : Int) {es : List MapEntry} (h : ∀ e ∈ es, ∃ y0 y1, e.key = .agg #[.int .i64 y0, .int .i64 y1]) : KeyFit Try.prog 24 (.agg #[.int .i64 x0, .int .i64 x1]) es := ⟨fun em => ck24 em 9998 x0 x1, by simp [Instr.sameBits], by rw [show Op.equal 24 (.agg #[.int .i64 x0, .int .i64 x1]) (.agg #[.int .i64 x0, .int .i64 x1]) = Op.equalIn (9998 + 2) 24 (.agg #[.int .i64 x0, .int .i64 x1]) (.agg #[.int .i64 x0, .int .i64 x1]) from rfl, eq24]; simp, fun e he => by
  obtain ⟨y0, y1, hy⟩ := h e he
  rw [hy, show Op.equal 24 (.agg #[.int .i64 x0, .int .i64 x1]) (.agg #[.int .i64 y0, .int .i64 y1]) = Op.equalIn (9998 + 2) 24 (.agg #[.int .i64 x0, .int .i64 x1]) (.agg #[.int .i64 y0, .int .i64 y1]) from rfl, eq24]
  rw [Option.some.injEq, Bool.eq_iff_iff]
  simp [and_assoc]⟩
theorem pt24 (cs : Array Value) (off : Nat) : calm Try.prog (part 24 cs off) = some (.agg (cs.extract off (off + 2))) := calm_part_agg ag24 sz24 (by decide) cs off
theorem eq44 (d : Nat) (x0 y0 : Int) (x1 y1 : Int) (x2 y2 : Int) (x3 y3 : Int) : calm Try.prog (Op.equalIn (d + 3) 44 (.agg #[.int .i64 x0, .int .i64 x1, .int .i64 x2, .int .i64 x3]) (.agg #[.int .i64 y0, .int .i64 y1, .int .i64 y2, .int .i64 y3])) = some (decide (x0 = y0) && decide (x1 = y1) && decide (x2 = y2) && decide (x3 = y3)) := by
  rw [calm_equal_struct (d + 2) 44 _ _ (show Try.prog.underlying 44 = _ from Try.underlying44) (by kernel_rfl)]
  simp [eqFields_cons, eqFields_nil, eq24, eq3, pt24, pt3]
  (try by_cases h0 : x0 = y0) <;> (try by_cases h1 : x1 = y1) <;> (try by_cases h2 : x2 = y2) <;> (try by_cases h3 : x3 = y3) <;> (try simp [*])
theorem aeq44 (a b : Operand) (x0 y0 : Int) (x1 y1 : Int) (x2 y2 : Int) (x3 y3 : Int) : pvB Try.prog .eql 44 a b (.agg #[.int .i64 x0, .int .i64 x1, .int .i64 x2, .int .i64 x3]) (.agg #[.int .i64 y0, .int .i64 y1, .int .i64 y2, .int .i64 y3]) = some (.bool (decide (x0 = y0) && decide (x1 = y1) && decide (x2 = y2) && decide (x3 = y3))) := gwp_aggEq (by kernel_rfl) (eq44 9997 x0 y0 x1 y1 x2 y2 x3 y3)
theorem ane44 (a b : Operand) (x0 y0 : Int) (x1 y1 : Int) (x2 y2 : Int) (x3 y3 : Int) : pvB Try.prog .neq 44 a b (.agg #[.int .i64 x0, .int .i64 x1, .int .i64 x2, .int .i64 x3]) (.agg #[.int .i64 y0, .int .i64 y1, .int .i64 y2, .int .i64 y3]) = some (.bool (!(decide (x0 = y0) && decide (x1 = y1) && decide (x2 = y2) && decide (x3 = y3)))) := gwp_aggNe (by kernel_rfl) (eq44 9997 x0 y0 x1 y1 x2 y2 x3 y3)
theorem eq91 (d : Nat) (x0 y0 : Int) (x1 y1 : Int) (x2 y2 : Int) : calm Try.prog (Op.equalIn (d + 3) 91 (.agg #[.int .i64 x0, .int .i64 x1, .int .i64 x2]) (.agg #[.int .i64 y0, .int .i64 y1, .int .i64 y2])) = some (decide (x0 = y0) && decide (x1 = y1) && decide (x2 = y2)) := by
  rw [calm_equal_struct (d + 2) 91 _ _ (show Try.prog.underlying 91 = _ from Try.underlying91) (by kernel_rfl)]
  simp [eqFields_cons, eqFields_nil, eq24, eq3, pt24, pt3]
  (try by_cases h0 : x0 = y0) <;> (try by_cases h1 : x1 = y1) <;> (try by_cases h2 : x2 = y2) <;> (try simp [*])
theorem ck91 (em : Bool) (n : Nat) (x0 : Int) (x1 : Int) (x2 : Int) : calm Try.prog (Instr.checkKey em (n + 3) 91 (.agg #[.int .i64 x0, .int .i64 x1, .int .i64 x2])) = some () := by
  rw [calm_check_struct em (n + 2) 91 _ (show Try.prog.underlying 91 = _ from Try.underlying91)]
  simp [chkFields, ck24, ck3, pt24, pt3]
theorem kf91 (x0 : Int) (x1 : Int) (x2 : Int) {es : List MapEntry} (h : ∀ e ∈ es, ∃ y0 y1 y2, e.key = .agg #[.int .i64 y0, .int .i64 y1, .int .i64 y2]) : KeyFit Try.prog 91 (.agg #[.int .i64 x0, .int .i64 x1, .int .i64 x2]) es := ⟨fun em => ck91 em 9997 x0 x1 x2, by simp [Instr.sameBits], by rw [show Op.equal 91 (.agg #[.int .i64 x0, .int .i64 x1, .int .i64 x2]) (.agg #[.int .i64 x0, .int .i64 x1, .int .i64 x2]) = Op.equalIn (9997 + 3) 91 (.agg #[.int .i64 x0, .int .i64 x1, .int .i64 x2]) (.agg #[.int .i64 x0, .int .i64 x1, .int .i64 x2]) from rfl, eq91]; simp, fun e he => by
  obtain ⟨y0, y1, y2, hy⟩ := h e he
  rw [hy, show Op.equal 91 (.agg #[.int .i64 x0, .int .i64 x1, .int .i64 x2]) (.agg #[.int .i64 y0, .int .i64 y1, .int .i64 y2]) = Op.equalIn (9997 + 3) 91 (.agg #[.int .i64 x0, .int .i64 x1, .int .i64 x2]) (.agg #[.int .i64 y0, .int .i64 y1, .int .i64 y2]) from rfl, eq91]
  rw [Option.some.injEq, Bool.eq_iff_iff]
  simp [and_assoc]⟩
theorem eq96 (d : Nat) (x0 y0 : Int) (x1 y1 : Int) (x2 y2 : Int) : calm Try.prog (Op.equalIn (d + 3) 96 (.agg #[.int .i64 x0, .int .i64 x1, .int .i64 x2]) (.agg #[.int .i64 y0, .int .i64 y1, .int .i64 y2])) = some (decide (x0 = y0) && decide (x1 = y1) && decide (x2 = y2)) := by
  rw [calm_equal_struct (d + 2) 96 _ _ (show Try.prog.underlying 96 = _ from Try.underlying96) (by kernel_rfl)]
  simp [eqFields_cons, eqFields_nil, eq24, eq3, pt24, pt3]
  (try by_cases h0 : x0 = y0) <;> (try by_cases h1 : x1 = y1) <;> (try by_cases h2 : x2 = y2) <;> (try simp [*])
theorem ck96 (em : Bool) (n : Nat) (x0 : Int) (x1 : Int) (x2 : Int) : calm Try.prog (Instr.checkKey em (n + 3) 96 (.agg #[.int .i64 x0, .int .i64 x1, .int .i64 x2])) = some () := by
  rw [calm_check_struct em (n + 2) 96 _ (show Try.prog.underlying 96 = _ from Try.underlying96)]
  simp [chkFields, ck24, ck3, pt24, pt3]
theorem kf96 (x0 : Int) (x1 : Int) (x2 : Int) {es : List MapEntry} (h : ∀ e ∈ es, ∃ y0 y1 y2, e.key = .agg #[.int .i64 y0, .int .i64 y1, .int .i64 y2]) : KeyFit Try.prog 96 (.agg #[.int .i64 x0, .int .i64 x1, .int .i64 x2]) es := ⟨fun em => ck96 em 9997 x0 x1 x2, by simp [Instr.sameBits], by rw [show Op.equal 96 (.agg #[.int .i64 x0, .int .i64 x1, .int .i64 x2]) (.agg #[.int .i64 x0, .int .i64 x1, .int .i64 x2]) = Op.equalIn (9997 + 3) 96 (.agg #[.int .i64 x0, .int .i64 x1, .int .i64 x2]) (.agg #[.int .i64 x0, .int .i64 x1, .int .i64 x2]) from rfl, eq96]; simp, fun e he => by
  obtain ⟨y0, y1, y2, hy⟩ := h e he
  rw [hy, show Op.equal 96 (.agg #[.int .i64 x0, .int .i64 x1, .int .i64 x2]) (.agg #[.int .i64 y0, .int .i64 y1, .int .i64 y2]) = Op.equalIn (9997 + 3) 96 (.agg #[.int .i64 x0, .int .i64 x1, .int .i64 x2]) (.agg #[.int .i64 y0, .int .i64 y1, .int .i64 y2]) from rfl, eq96]
  rw [Option.some.injEq, Bool.eq_iff_iff]
  simp [and_assoc]⟩
end Go.Proofs.Ytgkdbjnmlecimaa
