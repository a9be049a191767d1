/- A part of a proof: the law TalliesSum answers true at every input of bulk at most 1048576, and the input reads as it did. No conditions. -/
import Derived.Test.YtgkdbjnmlecimaaTsGlN
import Derived.Test.YtgkdbjnmlecimaaTsGlRw
import Derived.Test.YtgkdbjnmlecimaaTsGlU
import Derived.Test.YtgkdbjnmlecimaaTsSh
import Derived.Test.YtgkdbjnmlecimaaTsW25
set_option linter.unusedSimpArgs false
set_option linter.unusedVariables false
set_option linter.unusedSectionVars false
namespace Go.Proofs.Ytgkdbjnmlecimaa
open Go Go.GL
theorem pt3 (cs : Array Value) (off : Nat) : calm Try.prog (part 3 cs off) = cs[off]? := calm_part_one ag3 cs off
theorem eq3 (d : Nat) (k : IntKind) (a b : Int) : calm Try.prog (Op.equalIn (d + 1) 3 (.int k a) (.int k b)) = some (decide (a = b)) := calm_eq_int Try.underlying3 d k a b
theorem ck3 (em : Bool) (n : Nat) (v : Value) : calm Try.prog (Instr.checkKey em (n + 1) 3 v) = some () := calm_check_plain Try.underlying3 rfl em n v
theorem eq24 (d : Nat) (x0 y0 : Int) (x1 y1 : Int) : calm Try.prog (Op.equalIn (d + 2) 24 (.agg #[.int .i64 x0, .int .i64 x1]) (.agg #[.int .i64 y0, .int .i64 y1])) = some (decide (x0 = y0) && decide (x1 = y1)) := by
  rw [calm_equal_struct (d + 1) 24 _ _ (show Try.prog.underlying 24 = _ from Try.underlying24) (by kernel_rfl)]
  simp [eqFields_cons, eqFields_nil, eq3, pt3]
  (try by_cases h0 : x0 = y0) <;> (try by_cases h1 : x1 = y1) <;> (try simp [*])
theorem aeq24 (a b : Operand) (x0 y0 : Int) (x1 y1 : Int) : pvB Try.prog .eql 24 a b (.agg #[.int .i64 x0, .int .i64 x1]) (.agg #[.int .i64 y0, .int .i64 y1]) = some (.bool (decide (x0 = y0) && decide (x1 = y1))) := gwp_aggEq (by kernel_rfl) (eq24 9998 x0 y0 x1 y1)
theorem ane24 (a b : Operand) (x0 y0 : Int) (x1 y1 : Int) : pvB Try.prog .neq 24 a b (.agg #[.int .i64 x0, .int .i64 x1]) (.agg #[.int .i64 y0, .int .i64 y1]) = some (.bool (!(decide (x0 = y0) && decide (x1 = y1)))) := gwp_aggNe (by kernel_rfl) (eq24 9998 x0 y0 x1 y1)
theorem ck24 (em : Bool) (n : Nat) (x0 : Int) (x1 : Int) : calm Try.prog (Instr.checkKey em (n + 2) 24 (.agg #[.int .i64 x0, .int .i64 x1])) = some () := by
  rw [calm_check_struct em (n + 1) 24 _ (show Try.prog.underlying 24 = _ from Try.underlying24)]
  simp [chkFields, ck3, pt3]
theorem kf24 (x0 : Int) (x1 : Int) {es : List MapEntry} (h : ∀ e ∈ es, ∃ y0 y1, e.key = .agg #[.int .i64 y0, .int .i64 y1]) : KeyFit Try.prog 24 (.agg #[.int .i64 x0, .int .i64 x1]) es := ⟨fun em => ck24 em 9998 x0 x1, by simp [Instr.sameBits], by rw [show Op.equal 24 (.agg #[.int .i64 x0, .int .i64 x1]) (.agg #[.int .i64 x0, .int .i64 x1]) = Op.equalIn (9998 + 2) 24 (.agg #[.int .i64 x0, .int .i64 x1]) (.agg #[.int .i64 x0, .int .i64 x1]) from rfl, eq24]; simp, fun e he => by
  obtain ⟨y0, y1, hy⟩ := h e he
  rw [hy, show Op.equal 24 (.agg #[.int .i64 x0, .int .i64 x1]) (.agg #[.int .i64 y0, .int .i64 y1]) = Op.equalIn (9998 + 2) 24 (.agg #[.int .i64 x0, .int .i64 x1]) (.agg #[.int .i64 y0, .int .i64 y1]) from rfl, eq24]
  rw [Option.some.injEq, Bool.eq_iff_iff]
  simp [and_assoc]⟩
theorem pt24 (cs : Array Value) (off : Nat) : calm Try.prog (part 24 cs off) = some (.agg (cs.extract off (off + 2))) := calm_part_agg ag24 sz24 (by decide) cs off
theorem eq44 (d : Nat) (x0 y0 : Int) (x1 y1 : Int) (x2 y2 : Int) (x3 y3 : Int) : calm Try.prog (Op.equalIn (d + 3) 44 (.agg #[.int .i64 x0, .int .i64 x1, .int .i64 x2, .int .i64 x3]) (.agg #[.int .i64 y0, .int .i64 y1, .int .i64 y2, .int .i64 y3])) = some (decide (x0 = y0) && decide (x1 = y1) && decide (x2 = y2) && decide (x3 = y3)) := by
  rw [calm_equal_struct (d + 2) 44 _ _ (show Try.prog.underlying 44 = _ from Try.underlying44) (by kernel_rfl)]
  simp [eqFields_cons, eqFields_nil, eq24, eq3, pt24, pt3]
  (try by_cases h0 : x0 = y0) <;> (try by_cases h1 : x1 = y1) <;> (try by_cases h2 : x2 = y2) <;> (try by_cases h3 : x3 = y3) <;> (try simp [*])
theorem aeq44 (a b : Operand) (x0 y0 : Int) (x1 y1 : Int) (x2 y2 : Int) (x3 y3 : Int) : pvB Try.prog .eql 44 a b (.agg #[.int .i64 x0, .int .i64 x1, .int .i64 x2, .int .i64 x3]) (.agg #[.int .i64 y0, .int .i64 y1, .int .i64 y2, .int .i64 y3]) = some (.bool (decide (x0 = y0) && decide (x1 = y1) && decide (x2 = y2) && decide (x3 = y3))) := gwp_aggEq (by kernel_rfl) (eq44 9997 x0 y0 x1 y1 x2 y2 x3 y3)
theorem ane44 (a b : Operand) (x0 y0 : Int) (x1 y1 : Int) (x2 y2 : Int) (x3 y3 : Int) : pvB Try.prog .neq 44 a b (.agg #[.int .i64 x0, .int .i64 x1, .int .i64 x2, .int .i64 x3]) (.agg #[.int .i64 y0, .int .i64 y1, .int .i64 y2, .int .i64 y3]) = some (.bool (!(decide (x0 = y0) && decide (x1 = y1) && decide (x2 = y2) && decide (x3 = y3)))) := gwp_aggNe (by kernel_rfl) (eq44 9997 x0 y0 x1 y1 x2 y2 x3 y3)
theorem ck44 (em : Bool) (n : Nat) (x0 : Int) (x1 : Int) (x2 : Int) (x3 : Int) : calm Try.prog (Instr.checkKey em (n + 3) 44 (.agg #[.int .i64 x0, .int .i64 x1, .int .i64 x2, .int .i64 x3])) = some () := by
  rw [calm_check_struct em (n + 2) 44 _ (show Try.prog.underlying 44 = _ from Try.underlying44)]
  simp [chkFields, ck24, ck3, pt24, pt3]
theorem kf44 (x0 : Int) (x1 : Int) (x2 : Int) (x3 : Int) {es : List MapEntry} (h : ∀ e ∈ es, ∃ y0 y1 y2 y3, e.key = .agg #[.int .i64 y0, .int .i64 y1, .int .i64 y2, .int .i64 y3]) : KeyFit Try.prog 44 (.agg #[.int .i64 x0, .int .i64 x1, .int .i64 x2, .int .i64 x3]) es := ⟨fun em => ck44 em 9997 x0 x1 x2 x3, by simp [Instr.sameBits], by rw [show Op.equal 44 (.agg #[.int .i64 x0, .int .i64 x1, .int .i64 x2, .int .i64 x3]) (.agg #[.int .i64 x0, .int .i64 x1, .int .i64 x2, .int .i64 x3]) = Op.equalIn (9997 + 3) 44 (.agg #[.int .i64 x0, .int .i64 x1, .int .i64 x2, .int .i64 x3]) (.agg #[.int .i64 x0, .int .i64 x1, .int .i64 x2, .int .i64 x3]) from rfl, eq44]; simp, fun e he => by
  obtain ⟨y0, y1, y2, y3, hy⟩ := h e he
  rw [hy, show Op.equal 44 (.agg #[.int .i64 x0, .int .i64 x1, .int .i64 x2, .int .i64 x3]) (.agg #[.int .i64 y0, .int .i64 y1, .int .i64 y2, .int .i64 y3]) = Op.equalIn (9997 + 3) 44 (.agg #[.int .i64 x0, .int .i64 x1, .int .i64 x2, .int .i64 x3]) (.agg #[.int .i64 y0, .int .i64 y1, .int .i64 y2, .int .i64 y3]) from rfl, eq44]
  rw [Option.some.injEq, Bool.eq_iff_iff]
  simp [and_assoc]⟩
theorem eq52 (d : Nat) (x0 y0 : Int) (x1 y1 : Int) (x2 y2 : Int) : calm Try.prog (Op.equalIn (d + 3) 52 (.agg #[.int .i64 x0, .int .i64 x1, .int .i64 x2]) (.agg #[.int .i64 y0, .int .i64 y1, .int .i64 y2])) = some (decide (x0 = y0) && decide (x1 = y1) && decide (x2 = y2)) := by
  rw [calm_equal_struct (d + 2) 52 _ _ (show Try.prog.underlying 52 = _ from Try.underlying52) (by kernel_rfl)]
  simp [eqFields_cons, eqFields_nil, eq24, eq3, pt24, pt3]
  (try by_cases h0 : x0 = y0) <;> (try by_cases h1 : x1 = y1) <;> (try by_cases h2 : x2 = y2) <;> (try simp [*])
theorem aeq52 (a b : Operand) (x0 y0 : Int) (x1 y1 : Int) (x2 y2 : Int) : pvB Try.prog .eql 52 a b (.agg #[.int .i64 x0, .int .i64 x1, .int .i64 x2]) (.agg #[.int .i64 y0, .int .i64 y1, .int .i64 y2]) = some (.bool (decide (x0 = y0) && decide (x1 = y1) && decide (x2 = y2))) := gwp_aggEq (by kernel_rfl) (eq52 9997 x0 y0 x1 y1 x2 y2)
theorem ane52 (a b : Operand) (x0 y0 : Int) (x1 y1 : Int) (x2 y2 : Int) : pvB Try.prog .neq 52 a b (.agg #[.int .i64 x0, .int .i64 x1, .int .i64 x2]) (.agg #[.int .i64 y0, .int .i64 y1, .int .i64 y2]) = some (.bool (!(decide (x0 = y0) && decide (x1 = y1) && decide (x2 = y2)))) := gwp_aggNe (by kernel_rfl) (eq52 9997 x0 y0 x1 y1 x2 y2)
theorem ck52 (em : Bool) (n : Nat) (x0 : Int) (x1 : Int) (x2 : Int) : calm Try.prog (Instr.checkKey em (n + 3) 52 (.agg #[.int .i64 x0, .int .i64 x1, .int .i64 x2])) = some () := by
  rw [calm_check_struct em (n + 2) 52 _ (show Try.prog.underlying 52 = _ from Try.underlying52)]
  simp [chkFields, ck24, ck3, pt24, pt3]
theorem kf52 (x0 : Int) (x1 : Int) (x2 : Int) {es : List MapEntry} (h : ∀ e ∈ es, ∃ y0 y1 y2, e.key = .agg #[.int .i64 y0, .int .i64 y1, .int .i64 y2]) : KeyFit Try.prog 52 (.agg #[.int .i64 x0, .int .i64 x1, .int .i64 x2]) es := ⟨fun em => ck52 em 9997 x0 x1 x2, by simp [Instr.sameBits], by rw [show Op.equal 52 (.agg #[.int .i64 x0, .int .i64 x1, .int .i64 x2]) (.agg #[.int .i64 x0, .int .i64 x1, .int .i64 x2]) = Op.equalIn (9997 + 3) 52 (.agg #[.int .i64 x0, .int .i64 x1, .int .i64 x2]) (.agg #[.int .i64 x0, .int .i64 x1, .int .i64 x2]) from rfl, eq52]; simp, fun e he => by
  obtain ⟨y0, y1, y2, hy⟩ := h e he
  rw [hy, show Op.equal 52 (.agg #[.int .i64 x0, .int .i64 x1, .int .i64 x2]) (.agg #[.int .i64 y0, .int .i64 y1, .int .i64 y2]) = Op.equalIn (9997 + 3) 52 (.agg #[.int .i64 x0, .int .i64 x1, .int .i64 x2]) (.agg #[.int .i64 y0, .int .i64 y1, .int .i64 y2]) from rfl, eq52]
  rw [Option.some.injEq, Bool.eq_iff_iff]
  simp [and_assoc]⟩
theorem eq67 (d : Nat) (x0 y0 : Int) (x1 y1 : Int) (x2 y2 : Int) (x3 y3 : Int) (x4 y4 : Int) : calm Try.prog (Op.equalIn (d + 3) 67 (.agg #[.int .i64 x0, .int .i64 x1, .int .i64 x2, .int .i64 x3, .int .i64 x4]) (.agg #[.int .i64 y0, .int .i64 y1, .int .i64 y2, .int .i64 y3, .int .i64 y4])) = some (decide (x0 = y0) && decide (x1 = y1) && decide (x2 = y2) && decide (x3 = y3) && decide (x4 = y4)) := by
  rw [calm_equal_struct (d + 2) 67 _ _ (show Try.prog.underlying 67 = _ from Try.underlying67) (by kernel_rfl)]
  simp [eqFields_cons, eqFields_nil, eq24, eq3, pt24, pt3]
  (try by_cases h0 : x0 = y0) <;> (try by_cases h1 : x1 = y1) <;> (try by_cases h2 : x2 = y2) <;> (try by_cases h3 : x3 = y3) <;> (try by_cases h4 : x4 = y4) <;> (try simp [*])
theorem aeq67 (a b : Operand) (x0 y0 : Int) (x1 y1 : Int) (x2 y2 : Int) (x3 y3 : Int) (x4 y4 : Int) : pvB Try.prog .eql 67 a b (.agg #[.int .i64 x0, .int .i64 x1, .int .i64 x2, .int .i64 x3, .int .i64 x4]) (.agg #[.int .i64 y0, .int .i64 y1, .int .i64 y2, .int .i64 y3, .int .i64 y4]) = some (.bool (decide (x0 = y0) && decide (x1 = y1) && decide (x2 = y2) && decide (x3 = y3) && decide (x4 = y4))) := gwp_aggEq (by kernel_rfl) (eq67 9997 x0 y0 x1 y1 x2 y2 x3 y3 x4 y4)
theorem ane67 (a b : Operand) (x0 y0 : Int) (x1 y1 : Int) (x2 y2 : Int) (x3 y3 : Int) (x4 y4 : Int) : pvB Try.prog .neq 67 a b (.agg #[.int .i64 x0, .int .i64 x1, .int .i64 x2, .int .i64 x3, .int .i64 x4]) (.agg #[.int .i64 y0, .int .i64 y1, .int .i64 y2, .int .i64 y3, .int .i64 y4]) = some (.bool (!(decide (x0 = y0) && decide (x1 = y1) && decide (x2 = y2) && decide (x3 = y3) && decide (x4 = y4)))) := gwp_aggNe (by kernel_rfl) (eq67 9997 x0 y0 x1 y1 x2 y2 x3 y3 x4 y4)
theorem ck67 (em : Bool) (n : Nat) (x0 : Int) (x1 : Int) (x2 : Int) (x3 : Int) (x4 : Int) : calm Try.prog (Instr.checkKey em (n + 3) 67 (.agg #[.int .i64 x0, .int .i64 x1, .int .i64 x2, .int .i64 x3, .int .i64 x4])) = some () := by
  rw [calm_check_struct em (n + 2) 67 _ (show Try.prog.underlying 67 = _ from Try.underlying67)]
  simp [chkFields, ck24, ck3, pt24, pt3]
theorem kf67 (x0 : Int) (x1 : Int) (x2 : Int) (x3 : Int) (x4 : Int) {es : List MapEntry} (h : ∀ e ∈ es, ∃ y0 y1 y2 y3 y4, e.key = .agg #[.int .i64 y0, .int .i64 y1, .int .i64 y2, .int .i64 y3, .int .i64 y4]) : KeyFit Try.prog 67 (.agg #[.int .i64 x0, .int .i64 x1, .int .i64 x2, .int .i64 x3, .int .i64 x4]) es := ⟨fun em => ck67 em 9997 x0 x1 x2 x3 x4, by simp [Instr.sameBits], by rw [show Op.equal 67 (.agg #[.int .i64 x0, .int .i64 x1, .int .i64 x2, .int .i64 x3, .int .i64 x4]) (.agg #[.int .i64 x0, .int .i64 x1, .int .i64 x2, .int .i64 x3, .int .i64 x4]) = Op.equalIn (9997 + 3) 67 (.agg #[.int .i64 x0, .int .i64 x1, .int .i64 x2, .int .i64 x3, .int .i64 x4]) (.agg #[.int .i64 x0, .int .i64 x1, .int .i64 x2, .int .i64 x3, .int .i64 x4]) from rfl, eq67]; simp, fun e he => by
  obtain ⟨y0, y1, y2, y3, y4, hy⟩ := h e he
  rw [hy, show Op.equal 67 (.agg #[.int .i64 x0, .int .i64 x1, .int .i64 x2, .int .i64 x3, .int .i64 x4]) (.agg #[.int .i64 y0, .int .i64 y1, .int .i64 y2, .int .i64 y3, .int .i64 y4]) = Op.equalIn (9997 + 3) 67 (.agg #[.int .i64 x0, .int .i64 x1, .int .i64 x2, .int .i64 x3, .int .i64 x4]) (.agg #[.int .i64 y0, .int .i64 y1, .int .i64 y2, .int .i64 y3, .int .i64 y4]) from rfl, eq67]
  rw [Option.some.injEq, Bool.eq_iff_iff]
  simp [and_assoc]⟩
theorem eq79 (d : Nat) (x0 y0 : Int) (x1 y1 : Int) : calm Try.prog (Op.equalIn (d + 2) 79 (.agg #[.int .i64 x0, .int .i64 x1]) (.agg #[.int .i64 y0, .int .i64 y1])) = some (decide (x0 = y0) && decide (x1 = y1)) := by
  rw [calm_equal_struct (d + 1) 79 _ _ (show Try.prog.underlying 79 = _ from Try.underlying79) (by kernel_rfl)]
  simp [eqFields_cons, eqFields_nil, eq3, pt3]
  (try by_cases h0 : x0 = y0) <;> (try by_cases h1 : x1 = y1) <;> (try simp [*])
theorem aeq79 (a b : Operand) (x0 y0 : Int) (x1 y1 : Int) : pvB Try.prog .eql 79 a b (.agg #[.int .i64 x0, .int .i64 x1]) (.agg #[.int .i64 y0, .int .i64 y1]) = some (.bool (decide (x0 = y0) && decide (x1 = y1))) := gwp_aggEq (by kernel_rfl) (eq79 9998 x0 y0 x1 y1)
theorem ane79 (a b : Operand) (x0 y0 : Int) (x1 y1 : Int) : pvB Try.prog .neq 79 a b (.agg #[.int .i64 x0, .int .i64 x1]) (.agg #[.int .i64 y0, .int .i64 y1]) = some (.bool (!(decide (x0 = y0) && decide (x1 = y1)))) := gwp_aggNe (by kernel_rfl) (eq79 9998 x0 y0 x1 y1)
theorem ck79 (em : Bool) (n : Nat) (x0 : Int) (x1 : Int) : calm Try.prog (Instr.checkKey em (n + 2) 79 (.agg #[.int .i64 x0, .int .i64 x1])) = some () := by
  rw [calm_check_struct em (n + 1) 79 _ (show Try.prog.underlying 79 = _ from Try.underlying79)]
  simp [chkFields, ck3, pt3]
theorem kf79 (x0 : Int) (x1 : Int) {es : List MapEntry} (h : ∀ e ∈ es, ∃ y0 y1, e.key = .agg #[.int .i64 y0, .int .i64 y1]) : KeyFit Try.prog 79 (.agg #[.int .i64 x0, .int .i64 x1]) es := ⟨fun em => ck79 em 9998 x0 x1, by simp [Instr.sameBits], by rw [show Op.equal 79 (.agg #[.int .i64 x0, .int .i64 x1]) (.agg #[.int .i64 x0, .int .i64 x1]) = Op.equalIn (9998 + 2) 79 (.agg #[.int .i64 x0, .int .i64 x1]) (.agg #[.int .i64 x0, .int .i64 x1]) from rfl, eq79]; simp, fun e he => by
  obtain ⟨y0, y1, hy⟩ := h e he
  rw [hy, show Op.equal 79 (.agg #[.int .i64 x0, .int .i64 x1]) (.agg #[.int .i64 y0, .int .i64 y1]) = Op.equalIn (9998 + 2) 79 (.agg #[.int .i64 x0, .int .i64 x1]) (.agg #[.int .i64 y0, .int .i64 y1]) from rfl, eq79]
  rw [Option.some.injEq, Bool.eq_iff_iff]
  simp [and_assoc]⟩
theorem eq91 (d : Nat) (x0 y0 : Int) (x1 y1 : Int) (x2 y2 : Int) : calm Try.prog (Op.equalIn (d + 3) 91 (.agg #[.int .i64 x0, .int .i64 x1, .int .i64 x2]) (.agg #[.int .i64 y0, .int .i64 y1, .int .i64 y2])) = some (decide (x0 = y0) && decide (x1 = y1) && decide (x2 = y2)) := by
  rw [calm_equal_struct (d + 2) 91 _ _ (show Try.prog.underlying 91 = _ from Try.underlying91) (by kernel_rfl)]
  simp [eqFields_cons, eqFields_nil, eq24, eq3, pt24, pt3]
  (try by_cases h0 : x0 = y0) <;> (try by_cases h1 : x1 = y1) <;> (try by_cases h2 : x2 = y2) <;> (try simp [*])
theorem aeq91 (a b : Operand) (x0 y0 : Int) (x1 y1 : Int) (x2 y2 : Int) : pvB Try.prog .eql 91 a b (.agg #[.int .i64 x0, .int .i64 x1, .int .i64 x2]) (.agg #[.int .i64 y0, .int .i64 y1, .int .i64 y2]) = some (.bool (decide (x0 = y0) && decide (x1 = y1) && decide (x2 = y2))) := gwp_aggEq (by kernel_rfl) (eq91 9997 x0 y0 x1 y1 x2 y2)
theorem ane91 (a b : Operand) (x0 y0 : Int) (x1 y1 : Int) (x2 y2 : Int) : pvB Try.prog .neq 91 a b (.agg #[.int .i64 x0, .int .i64 x1, .int .i64 x2]) (.agg #[.int .i64 y0, .int .i64 y1, .int .i64 y2]) = some (.bool (!(decide (x0 = y0) && decide (x1 = y1) && decide (x2 = y2)))) := gwp_aggNe (by kernel_rfl) (eq91 9997 x0 y0 x1 y1 x2 y2)
theorem ck91 (em : Bool) (n : Nat) (x0 : Int) (x1 : Int) (x2 : Int) : calm Try.prog (Instr.checkKey em (n + 3) 91 (.agg #[.int .i64 x0, .int .i64 x1, .int .i64 x2])) = some () := by
  rw [calm_check_struct em (n + 2) 91 _ (show Try.prog.underlying 91 = _ from Try.underlying91)]
  simp [chkFields, ck24, ck3, pt24, pt3]
theorem kf91 (x0 : Int) (x1 : Int) (x2 : Int) {es : List MapEntry} (h : ∀ e ∈ es, ∃ y0 y1 y2, e.key = .agg #[.int .i64 y0, .int .i64 y1, .int .i64 y2]) : KeyFit Try.prog 91 (.agg #[.int .i64 x0, .int .i64 x1, .int .i64 x2]) es := ⟨fun em => ck91 em 9997 x0 x1 x2, by simp [Instr.sameBits], by rw [show Op.equal 91 (.agg #[.int .i64 x0, .int .i64 x1, .int .i64 x2]) (.agg #[.int .i64 x0, .int .i64 x1, .int .i64 x2]) = Op.equalIn (9997 + 3) 91 (.agg #[.int .i64 x0, .int .i64 x1, .int .i64 x2]) (.agg #[.int .i64 x0, .int .i64 x1, .int .i64 x2]) from rfl, eq91]; simp, fun e he => by
  obtain ⟨y0, y1, y2, hy⟩ := h e he
  rw [hy, show Op.equal 91 (.agg #[.int .i64 x0, .int .i64 x1, .int .i64 x2]) (.agg #[.int .i64 y0, .int .i64 y1, .int .i64 y2]) = Op.equalIn (9997 + 3) 91 (.agg #[.int .i64 x0, .int .i64 x1, .int .i64 x2]) (.agg #[.int .i64 y0, .int .i64 y1, .int .i64 y2]) from rfl, eq91]
  rw [Option.some.injEq, Bool.eq_iff_iff]
  simp [and_assoc]⟩
theorem eq96 (d : Nat) (x0 y0 : Int) (x1 y1 : Int) (x2 y2 : Int) : calm Try.prog (Op.equalIn (d + 3) 96 (.agg #[.int .i64 x0, .int .i64 x1, .int .i64 x2]) (.agg #[.int .i64 y0, .int .i64 y1, .int .i64 y2])) = some (decide (x0 = y0) && decide (x1 = y1) && decide (x2 = y2)) := by
  rw [calm_equal_struct (d + 2) 96 _ _ (show Try.prog.underlying 96 = _ from Try.underlying96) (by kernel_rfl)]
  simp [eqFields_cons, eqFields_nil, eq24, eq3, pt24, pt3]
  (try by_cases h0 : x0 = y0) <;> (try by_cases h1 : x1 = y1) <;> (try by_cases h2 : x2 = y2) <;> (try simp [*])
theorem aeq96 (a b : Operand) (x0 y0 : Int) (x1 y1 : Int) (x2 y2 : Int) : pvB Try.prog .eql 96 a b (.agg #[.int .i64 x0, .int .i64 x1, .int .i64 x2]) (.agg #[.int .i64 y0, .int .i64 y1, .int .i64 y2]) = some (.bool (decide (x0 = y0) && decide (x1 = y1) && decide (x2 = y2))) := gwp_aggEq (by kernel_rfl) (eq96 9997 x0 y0 x1 y1 x2 y2)
theorem ane96 (a b : Operand) (x0 y0 : Int) (x1 y1 : Int) (x2 y2 : Int) : pvB Try.prog .neq 96 a b (.agg #[.int .i64 x0, .int .i64 x1, .int .i64 x2]) (.agg #[.int .i64 y0, .int .i64 y1, .int .i64 y2]) = some (.bool (!(decide (x0 = y0) && decide (x1 = y1) && decide (x2 = y2)))) := gwp_aggNe (by kernel_rfl) (eq96 9997 x0 y0 x1 y1 x2 y2)
theorem ck96 (em : Bool) (n : Nat) (x0 : Int) (x1 : Int) (x2 : Int) : calm Try.prog (Instr.checkKey em (n + 3) 96 (.agg #[.int .i64 x0, .int .i64 x1, .int .i64 x2])) = some () := by
  rw [calm_check_struct em (n + 2) 96 _ (show Try.prog.underlying 96 = _ from Try.underlying96)]
  simp [chkFields, ck24, ck3, pt24, pt3]
theorem kf96 (x0 : Int) (x1 : Int) (x2 : Int) {es : List MapEntry} (h : ∀ e ∈ es, ∃ y0 y1 y2, e.key = .agg #[.int .i64 y0, .int .i64 y1, .int .i64 y2]) : KeyFit Try.prog 96 (.agg #[.int .i64 x0, .int .i64 x1, .int .i64 x2]) es := ⟨fun em => ck96 em 9997 x0 x1 x2, by simp [Instr.sameBits], by rw [show Op.equal 96 (.agg #[.int .i64 x0, .int .i64 x1, .int .i64 x2]) (.agg #[.int .i64 x0, .int .i64 x1, .int .i64 x2]) = Op.equalIn (9997 + 3) 96 (.agg #[.int .i64 x0, .int .i64 x1, .int .i64 x2]) (.agg #[.int .i64 x0, .int .i64 x1, .int .i64 x2]) from rfl, eq96]; simp, fun e he => by
  obtain ⟨y0, y1, y2, hy⟩ := h e he
  rw [hy, show Op.equal 96 (.agg #[.int .i64 x0, .int .i64 x1, .int .i64 x2]) (.agg #[.int .i64 y0, .int .i64 y1, .int .i64 y2]) = Op.equalIn (9997 + 3) 96 (.agg #[.int .i64 x0, .int .i64 x1, .int .i64 x2]) (.agg #[.int .i64 y0, .int .i64 y1, .int .i64 y2]) from rfl, eq96]
  rw [Option.some.injEq, Bool.eq_iff_iff]
  simp [and_assoc]⟩
end Go.Proofs.Ytgkdbjnmlecimaa
namespace Go.Proofs.Ytgkdbjnmlecimaa
open Go Go.GL
set_option linter.defProp false in
def gT := (And.intro (And.intro (And.intro (And.intro (And.intro (And.intro (And.intro (And.intro (And.intro @ld2 @st2) (And.intro @al2 (And.intro @ld3 @st3))) (And.intro (And.intro @al3 (And.intro @ld4 @st4)) (And.intro @al4 (And.intro @be4 @bn4)))) (And.intro (And.intro (And.intro @ld5 (And.intro @st5 @al5)) (And.intro @ld6 (And.intro @st6 @al6))) (And.intro (And.intro @ld7 (And.intro @st7 @al7)) (And.intro @fa7_0 (And.intro @fl7_0 @fa7_1))))) (And.intro (And.intro (And.intro (And.intro @fl7_1 (And.intro @fa7_2 @fl7_2)) (And.intro @fa7_3 (And.intro @fl7_3 @ld8))) (And.intro (And.intro @st8 (And.intro @al8 @fa8_0)) (And.intro @fl8_0 (And.intro @fa8_1 @fl8_1)))) (And.intro (And.intro (And.intro @fa8_2 (And.intro @fl8_2 @fa8_3)) (And.intro @fl8_3 (And.intro @ld9 @st9))) (And.intro (And.intro @al9 (And.intro @ln9 @ix9)) (And.intro @ld10 (And.intro @st10 @al10)))))) (And.intro (And.intro (And.intro (And.intro (And.intro @ln10 @ix10) (And.intro @ld11 (And.intro @st11 @al11))) (And.intro (And.intro @ln11 (And.intro @ix11 @ld12)) (And.intro @st12 (And.intro @al12 @ld13)))) (And.intro (And.intro (And.intro @st13 (And.intro @al13 @fa13_0)) (And.intro @fl13_0 (And.intro @fa13_1 @fl13_1))) (And.intro (And.intro @ld14 (And.intro @st14 @al14)) (And.intro @fa14_0 (And.intro @fl14_0 @fa14_1))))) (And.intro (And.intro (And.intro (And.intro @fl14_1 (And.intro @ld15 @st15)) (And.intro @al15 (And.intro @ld16 @st16))) (And.intro (And.intro @al16 (And.intro @ld17 @st17)) (And.intro @al17 (And.intro @ld18 @st18)))) (And.intro (And.intro (And.intro @al18 (And.intro @fa18_0 @fl18_0)) (And.intro @ld19 (And.intro @st19 @al19))) (And.intro (And.intro @fa19_0 (And.intro @fl19_0 @ld21)) (And.intro @st21 (And.intro @al21 @ld22))))))) (And.intro (And.intro (And.intro (And.intro (And.intro (And.intro @st22 @al22) (And.intro @ia22 (And.intro @ln22 @cp22))) (And.intro (And.intro @sxh22 (And.intro @sxl22 @sxb22)) (And.intro @sxm22 (And.intro @sn22 @snn22)))) (And.intro (And.intro (And.intro @ld23 (And.intro @st23 @al23)) (And.intro @fa23_0 (And.intro @fl23_0 @fa23_1))) (And.intro (And.intro @fl23_1 (And.intro @ld24 @st24)) (And.intro @al24 (And.intro @fa24_0 @fl24_0))))) (And.intro (And.intro (And.intro (And.intro @fa24_1 (And.intro @fl24_1 @ld25)) (And.intro @st25 (And.intro @al25 @ld37))) (And.intro (And.intro @st37 (And.intro @al37 @fa37_0)) (And.intro @fl37_0 (And.intro @fa37_1 @fl37_1)))) (And.intro (And.intro (And.intro @fa37_2 (And.intro @fl37_2 @ld38)) (And.intro @st38 (And.intro @al38 @fa38_0))) (And.intro (And.intro @fl38_0 (And.intro @fa38_1 @fl38_1)) (And.intro @fa38_2 (And.intro @fl38_2 @ld39)))))) (And.intro (And.intro (And.intro (And.intro (And.intro @st39 @al39) (And.intro @ia39 (And.intro @ln39 @cp39))) (And.intro (And.intro @sxh39 (And.intro @sxl39 @sxb39)) (And.intro @sxm39 (And.intro @sn39 @snn39)))) (And.intro (And.intro (And.intro @ld43 (And.intro @st43 @al43)) (And.intro @fa43_0 (And.intro @fl43_0 @fa43_1))) (And.intro (And.intro @fl43_1 (And.intro @fa43_2 @fl43_2)) (And.intro @ld44 (And.intro @st44 @al44))))) (And.intro (And.intro (And.intro (And.intro @fa44_0 (And.intro @fl44_0 @fa44_1)) (And.intro @fl44_1 (And.intro @fa44_2 @fl44_2))) (And.intro (And.intro @ld47 (And.intro @st47 @al47)) (And.intro @ia47 (And.intro @ln47 @cp47)))) (And.intro (And.intro (And.intro @sxh47 (And.intro @sxl47 @sxb47)) (And.intro @sxm47 (And.intro @sn47 @snn47))) (And.intro (And.intro @ld48 (And.intro @st48 @al48)) (And.intro @ia48 (And.intro @ln48 @cp48)))))))) (And.intro (And.intro (And.intro (And.intro (And.intro (And.intro (And.intro @sxh48 @sxl48) (And.intro @sxb48 (And.intro @sxm48 @sn48))) (And.intro (And.intro @snn48 (And.intro @ld51 @st51)) (And.intro @al51 (And.intro @fa51_0 @fl51_0)))) (And.intro (And.intro (And.intro @fa51_1 (And.intro @fl51_1 @ld52)) (And.intro @st52 (And.intro @al52 @fa52_0))) (And.intro (And.intro @fl52_0 (And.intro @fa52_1 @fl52_1)) (And.intro @ld66 (And.intro @st66 @al66))))) (And.intro (And.intro (And.intro (And.intro @fa66_0 (And.intro @fl66_0 @fa66_1)) (And.intro @fl66_1 (And.intro @fa66_2 @fl66_2))) (And.intro (And.intro @ld67 (And.intro @st67 @al67)) (And.intro @fa67_0 (And.intro @fl67_0 @fa67_1)))) (And.intro (And.intro (And.intro @fl67_1 (And.intro @fa67_2 @fl67_2)) (And.intro @ld69 (And.intro @st69 @al69))) (And.intro (And.intro @fa69_0 (And.intro @fl69_0 @fa69_1)) (And.intro @fl69_1 (And.intro @ld70 @st70)))))) (And.intro (And.intro (And.intro (And.intro (And.intro @al70 @fa70_0) (And.intro @fl70_0 (And.intro @fa70_1 @fl70_1))) (And.intro (And.intro @ld78 (And.intro @st78 @al78)) (And.intro @fa78_0 (And.intro @fl78_0 @fa78_1)))) (And.intro (And.intro (And.intro @fl78_1 (And.intro @ld79 @st79)) (And.intro @al79 (And.intro @fa79_0 @fl79_0))) (And.intro (And.intro @fa79_1 (And.intro @fl79_1 @ld87)) (And.intro @st87 (And.intro @al87 @ia87))))) (And.intro (And.intro (And.intro (And.intro @ln87 (And.intro @cp87 @sxh87)) (And.intro @sxl87 (And.intro @sxb87 @sxm87))) (And.intro (And.intro @sn87 (And.intro @snn87 @ld89)) (And.intro @st89 (And.intro @al89 @ld90)))) (And.intro (And.intro (And.intro @st90 (And.intro @al90 @fa90_0)) (And.intro @fl90_0 (And.intro @fa90_1 @fl90_1))) (And.intro (And.intro @ld91 (And.intro @st91 @al91)) (And.intro @fa91_0 (And.intro @fl91_0 @fa91_1))))))) (And.intro (And.intro (And.intro (And.intro (And.intro (And.intro @fl91_1 @ld94) (And.intro @st94 (And.intro @al94 @ld95))) (And.intro (And.intro @st95 (And.intro @al95 @fa95_0)) (And.intro @fl95_0 (And.intro @fa95_1 @fl95_1)))) (And.intro (And.intro (And.intro @ld96 (And.intro @st96 @al96)) (And.intro @fa96_0 (And.intro @fl96_0 @fa96_1))) (And.intro (And.intro @fl96_1 (And.intro @ld100 @st100)) (And.intro @al100 (And.intro @ia100 @ln100))))) (And.intro (And.intro (And.intro (And.intro @cp100 (And.intro @sxh100 @sxl100)) (And.intro @sxb100 (And.intro @sxm100 @sn100))) (And.intro (And.intro @snn100 (And.intro @ld103 @st103)) (And.intro @al103 (And.intro @ld104 @st104)))) (And.intro (And.intro (And.intro @al104 (And.intro @ia104 @ln104)) (And.intro @cp104 (And.intro @sxh104 @sxl104))) (And.intro (And.intro @sxb104 (And.intro @sxm104 @sn104)) (And.intro @snn104 (And.intro @ld105 @st105)))))) (And.intro (And.intro (And.intro (And.intro (And.intro @al105 @fa105_0) (And.intro @fl105_0 (And.intro @fa105_1 @fl105_1))) (And.intro (And.intro @fa105_2 (And.intro @fl105_2 @fa105_3)) (And.intro @fl105_3 (And.intro @fa105_4 @fl105_4)))) (And.intro (And.intro (And.intro @ld106 (And.intro @st106 @al106)) (And.intro @fa106_0 (And.intro @fl106_0 @fa106_1))) (And.intro (And.intro @fl106_1 (And.intro @fa106_2 @fl106_2)) (And.intro @fa106_3 (And.intro @fl106_3 @fa106_4))))) (And.intro (And.intro (And.intro (And.intro @fl106_4 (And.intro @ld107 @st107)) (And.intro @al107 (And.intro @ld109 @st109))) (And.intro (And.intro @al109 (And.intro @ia109 @ln109)) (And.intro @cp109 (And.intro @sxh109 @sxl109)))) (And.intro (And.intro (And.intro @sxb109 (And.intro @sxm109 @sn109)) (And.intro @snn109 (And.intro @ld111 @st111))) (And.intro (And.intro @al111 (And.intro @ld119 @st119)) (And.intro @al119 (And.intro @fa119_0 @fl119_0))))))))) (And.intro (And.intro (And.intro (And.intro (And.intro (And.intro (And.intro (And.intro @fa119_1 @fl119_1) (And.intro @fa119_2 (And.intro @fl119_2 @ld120))) (And.intro (And.intro @st120 (And.intro @al120 @ia120)) (And.intro @ln120 (And.intro @cp120 @sxh120)))) (And.intro (And.intro (And.intro @sxl120 (And.intro @sxb120 @sxm120)) (And.intro @sn120 (And.intro @snn120 @ld125))) (And.intro (And.intro @st125 (And.intro @al125 @ld126)) (And.intro @st126 (And.intro @al126 @ia126))))) (And.intro (And.intro (And.intro (And.intro @ln126 (And.intro @cp126 @sxh126)) (And.intro @sxl126 (And.intro @sxb126 @sxm126))) (And.intro (And.intro @sn126 (And.intro @snn126 @ld127)) (And.intro @st127 (And.intro @al127 @ld131)))) (And.intro (And.intro (And.intro @st131 (And.intro @al131 @fa131_0)) (And.intro @fl131_0 (And.intro @fa131_1 @fl131_1))) (And.intro (And.intro @ld132 (And.intro @st132 @al132)) (And.intro @fa132_0 (And.intro @fl132_0 @fa132_1)))))) (And.intro (And.intro (And.intro (And.intro (And.intro @fl132_1 @ld138) (And.intro @st138 (And.intro @al138 @ia138))) (And.intro (And.intro @ln138 (And.intro @cp138 @sxh138)) (And.intro @sxl138 (And.intro @sxb138 @sxm138)))) (And.intro (And.intro (And.intro @sn138 (And.intro @snn138 @ld143)) (And.intro @st143 (And.intro @al143 @ld147))) (And.intro (And.intro @st147 (And.intro @al147 @ld152)) (And.intro @st152 (And.intro @al152 @ia152))))) (And.intro (And.intro (And.intro (And.intro @ln152 (And.intro @cp152 @sxh152)) (And.intro @sxl152 (And.intro @sxb152 @sxm152))) (And.intro (And.intro @sn152 (And.intro @snn152 @ld155)) (And.intro @st155 (And.intro @al155 @ld162)))) (And.intro (And.intro (And.intro @st162 (And.intro @al162 @ld167)) (And.intro @st167 (And.intro @al167 @ld171))) (And.intro (And.intro @st171 (And.intro @al171 @ld175)) (And.intro @st175 (And.intro @al175 @ld177))))))) (And.intro (And.intro (And.intro (And.intro (And.intro (And.intro @st177 @al177) (And.intro @ld179 (And.intro @st179 @al179))) (And.intro (And.intro @fa179_0 (And.intro @fl179_0 @fa179_1)) (And.intro @fl179_1 (And.intro @fa179_2 @fl179_2)))) (And.intro (And.intro (And.intro @fa179_3 (And.intro @fl179_3 @ld180)) (And.intro @st180 (And.intro @al180 @fa180_0))) (And.intro (And.intro @fl180_0 (And.intro @fa180_1 @fl180_1)) (And.intro @fa180_2 (And.intro @fl180_2 @fa180_3))))) (And.intro (And.intro (And.intro (And.intro @fl180_3 (And.intro @al181 @al182)) (And.intro @al183 (And.intro @ld185 @st185))) (And.intro (And.intro @al185 (And.intro @ld186 @st186)) (And.intro @al186 (And.intro @ld188 @st188)))) (And.intro (And.intro (And.intro @al188 (And.intro @ld189 @st189)) (And.intro @al189 (And.intro @ld190 @st190))) (And.intro (And.intro @al190 (And.intro @ld191 @st191)) (And.intro @al191 (And.intro @fa191_0 @fl191_0)))))) (And.intro (And.intro (And.intro (And.intro (And.intro @fa191_1 @fl191_1) (And.intro @fa191_2 (And.intro @fl191_2 @fa191_3))) (And.intro (And.intro @fl191_3 (And.intro @fa191_4 @fl191_4)) (And.intro @fa191_5 (And.intro @fl191_5 @fa191_6)))) (And.intro (And.intro (And.intro @fl191_6 (And.intro @fa191_7 @fl191_7)) (And.intro @fa191_8 (And.intro @fl191_8 @fa191_9))) (And.intro (And.intro @fl191_9 (And.intro @fa191_10 @fl191_10)) (And.intro @ld192 (And.intro @st192 @al192))))) (And.intro (And.intro (And.intro (And.intro @fa192_0 (And.intro @fl192_0 @fa192_1)) (And.intro @fl192_1 (And.intro @fa192_2 @fl192_2))) (And.intro (And.intro @fa192_3 (And.intro @fl192_3 @fa192_4)) (And.intro @fl192_4 (And.intro @fa192_5 @fl192_5)))) (And.intro (And.intro (And.intro @fa192_6 (And.intro @fl192_6 @fa192_7)) (And.intro @fl192_7 (And.intro @fa192_8 @fl192_8))) (And.intro (And.intro @fa192_9 (And.intro @fl192_9 @fa192_10)) (And.intro @fl192_10 (And.intro @ld193 @st193)))))))) (And.intro (And.intro (And.intro (And.intro (And.intro (And.intro (And.intro @al193 @fa193_0) (And.intro @fl193_0 (And.intro @ld194 @st194))) (And.intro (And.intro @al194 (And.intro @fa194_0 @fl194_0)) (And.intro @ld195 (And.intro @st195 @al195)))) (And.intro (And.intro (And.intro @en3 (And.intro @en4 @en5)) (And.intro @en6 (And.intro @en7 @en8))) (And.intro (And.intro @en9 (And.intro @en10 @en11)) (And.intro @en12 (And.intro @en13 @en14))))) (And.intro (And.intro (And.intro (And.intro @en15 (And.intro @en16 @en17)) (And.intro @en18 (And.intro @en19 @en20))) (And.intro (And.intro @en21 (And.intro @en22 @en23)) (And.intro @en24 (And.intro @en25 @en26)))) (And.intro (And.intro (And.intro @en27 (And.intro @en28 @en29)) (And.intro @en30 (And.intro @en31 @en32))) (And.intro (And.intro @en33 (And.intro @en34 @en35)) (And.intro @en36 (And.intro @en37 @en38)))))) (And.intro (And.intro (And.intro (And.intro (And.intro @en39 @en40) (And.intro @en41 (And.intro @en42 @en43))) (And.intro (And.intro @en44 (And.intro @en45 @en46)) (And.intro @en47 (And.intro @en48 @en49)))) (And.intro (And.intro (And.intro @en50 (And.intro @en51 @en52)) (And.intro @en53 (And.intro @en54 @en55))) (And.intro (And.intro @en56 (And.intro @en57 @en58)) (And.intro @en59 (And.intro @en60 @en61))))) (And.intro (And.intro (And.intro (And.intro @en62 (And.intro @en63 @en64)) (And.intro @en65 (And.intro @en66 @en67))) (And.intro (And.intro @en68 (And.intro @en69 @en70)) (And.intro @en71 (And.intro @en72 @en73)))) (And.intro (And.intro (And.intro @en74 (And.intro @en75 @en76)) (And.intro @en77 (And.intro @en78 @en79))) (And.intro (And.intro @en80 (And.intro @en81 @en82)) (And.intro @en83 (And.intro @en84 @en85))))))) (And.intro (And.intro (And.intro (And.intro (And.intro (And.intro @en86 @en87) (And.intro @en88 (And.intro @en89 @en90))) (And.intro (And.intro @en91 (And.intro @en92 @en93)) (And.intro @en94 (And.intro @en95 @en96)))) (And.intro (And.intro (And.intro @en97 (And.intro @en98 @en99)) (And.intro @en100 (And.intro @en101 @en102))) (And.intro (And.intro @en103 (And.intro @en104 @en105)) (And.intro @en106 (And.intro @en107 @en108))))) (And.intro (And.intro (And.intro (And.intro @en109 (And.intro @en110 @en111)) (And.intro @en112 (And.intro @en113 @en114))) (And.intro (And.intro @en115 (And.intro @en116 @en117)) (And.intro @en118 (And.intro @en119 @en120)))) (And.intro (And.intro (And.intro @en121 (And.intro @en122 @en123)) (And.intro @en124 (And.intro @en125 @bd24_))) (And.intro (And.intro @bd24_0_1 (And.intro @bd44_0_1 @bd44_0_1_2)) (And.intro @bd52_0_1 (And.intro @bd67_0_1_2 @bd79_)))))) (And.intro (And.intro (And.intro (And.intro (And.intro @bd79_0_1 @bd91_0_1) (And.intro @bd96_0_1 (And.intro @bd106_4 @bd119_0_1_2))) (And.intro (And.intro @bd132_0_1 (And.intro @bs22_0 @bs39_0)) (And.intro @bs39_1 (And.intro @bs47_0 @bs47_1)))) (And.intro (And.intro (And.intro @bs48_1 (And.intro @bs87_2 @bs87_3)) (And.intro @bs87_5 (And.intro @bs100_1 @bs100_2))) (And.intro (And.intro @bs104_1 (And.intro @bs109_1 @bs126_1)) (And.intro @bs138_2 (And.intro @cv3_127 @cv3_143))))) (And.intro (And.intro (And.intro (And.intro @cv3_167 (And.intro @cv5_3 @cv127_3)) (And.intro @cv127_5 (And.intro @cv127_162 @cv143_3))) (And.intro (And.intro @cv143_162 (And.intro @cv162_5 @cv162_127)) (And.intro @cv162_143 (And.intro @aeq24 @ane24)))) (And.intro (And.intro (And.intro @aeq44 (And.intro @ane44 @aeq52)) (And.intro @ane52 (And.intro @aeq67 @ane67))) (And.intro (And.intro @aeq79 (And.intro @ane79 @aeq91)) (And.intro @ane91 (And.intro @aeq96 @ane96))))))))))
end Go.Proofs.Ytgkdbjnmlecimaa
namespace Go.Proofs.Ytgkdbjnmlecimaa
open Go Go.GL
set_option maxRecDepth 10000
set_option maxHeartbeats 0
def within (a lo hi : Int) : Bool := decide (lo ≤ a) && decide (a ≤ hi)
theorem out_within (a lo hi : Int) : (decide (a < lo) || decide (hi < a)) = !within a lo hi := by
  unfold within
  by_cases h1 : a < lo <;> by_cases h2 : hi < a <;> simp [h1, h2] <;> omega
theorem within_iff {a lo hi : Int} : within a lo hi = true ↔ lo ≤ a ∧ a ≤ hi := by simp [within]
def moment (a : Int) : Bool := within a 0 345686399999
def coord (a : Int) : Bool := within a (-10000) 10000
def sized (a : Int) : Bool := within a 1 10000
def zoned (a : Int) : Bool := within a (-1440) 1440
def point (a b : Int) : Bool := coord a && coord b
def bi (b : Bool) : Int := if b then 0 else 1
theorem p49 {G0 : GH} {a lo hi : Int}  : Pure Try.prog G0 49 [V a, V lo, V hi] (.bool (!within a lo hi)) := by
  intro G hG
  clear hG G0
  refine enter Try.func49 15 #[.tmp 6] rfl Try.ntmps49 rfl (by decide +kernel) rfl ?_
  rw [← out_within]
  focus
    simp (maxDischargeDepth := 9) only [↓gB, gV, gT, reduceIte, reduceCtorEq, Nat.reduceEqDiff, Nat.reduceAdd, Nat.reduceSub, Nat.reduceLeDiff, Nat.reduceLT, Int.reduceEq, Nat.reduceMul]
    by_cases c1 : (a : Int) < lo
    rotate_left 1
    focus
      simp (maxDischargeDepth := 9) only [↓gB, gV, gT, reduceIte, reduceCtorEq, Nat.reduceEqDiff, Nat.reduceAdd, Nat.reduceSub, Nat.reduceLeDiff, Nat.reduceLT, Int.reduceEq, Nat.reduceMul, c1]
      exact Kup_val (le_refl _) rfl
    rotate_right 1
    simp (maxDischargeDepth := 9) only [↓gB, gV, gT, reduceIte, reduceCtorEq, Nat.reduceEqDiff, Nat.reduceAdd, Nat.reduceSub, Nat.reduceLeDiff, Nat.reduceLT, Int.reduceEq, Nat.reduceMul, c1]
    exact Kup_val (le_refl _) rfl
theorem p51 {G0 : GH} {a lo hi : Int}  : Pure Try.prog G0 51 [V a, V lo, V hi] (.bool (within a lo hi)) := by
  intro G hG
  clear hG G0
  refine enter Try.func51 15 #[.tmp 6] rfl Try.ntmps51 rfl (by decide +kernel) rfl ?_
  focus
    simp (maxDischargeDepth := 9) only [↓gB, gV, gT, reduceIte, reduceCtorEq, Nat.reduceEqDiff, Nat.reduceAdd, Nat.reduceSub, Nat.reduceLeDiff, Nat.reduceLT, Int.reduceEq, Nat.reduceMul, within]
    by_cases c1 : (lo : Int) ≤ a
    rotate_left 1
    focus
      simp (maxDischargeDepth := 9) only [↓gB, gV, gT, reduceIte, reduceCtorEq, Nat.reduceEqDiff, Nat.reduceAdd, Nat.reduceSub, Nat.reduceLeDiff, Nat.reduceLT, Int.reduceEq, Nat.reduceMul, c1, within]
      exact Kup_val (le_refl _) rfl
    rotate_right 1
    simp (maxDischargeDepth := 9) only [↓gB, gV, gT, reduceIte, reduceCtorEq, Nat.reduceEqDiff, Nat.reduceAdd, Nat.reduceSub, Nat.reduceLeDiff, Nat.reduceLT, Int.reduceEq, Nat.reduceMul, c1, within]
    exact Kup_val (le_refl _) rfl
theorem p53 {G0 : GH} {a : Int}  : Pure Try.prog G0 53 [V a] (.bool (moment a)) := by
  intro G hG
  clear hG G0
  refine enter Try.func53 6 #[.tmp 2] rfl Try.ntmps53 rfl (by decide +kernel) rfl ?_
  simp (maxDischargeDepth := 9) only [↓gB, gV, gT, reduceIte, reduceCtorEq, Nat.reduceEqDiff, Nat.reduceAdd, Nat.reduceSub, Nat.reduceLeDiff, Nat.reduceLT, Int.reduceEq, Nat.reduceMul, moment]
  refine Ycp (p49) ?_
  simp (maxDischargeDepth := 9) only [↓gB, gV, gT, reduceIte, reduceCtorEq, Nat.reduceEqDiff, Nat.reduceAdd, Nat.reduceSub, Nat.reduceLeDiff, Nat.reduceLT, Int.reduceEq, Nat.reduceMul, moment]
  exact Kup_val (le_refl _) rfl
theorem p48 {G0 : GH} {a b : Int}  : Pure Try.prog G0 48 [V a, V b] (.bool (point a b)) := by
  intro G hG
  clear hG G0
  refine enter Try.func48 13 #[.tmp 4] rfl Try.ntmps48 rfl (by decide +kernel) rfl ?_
  focus
    simp (maxDischargeDepth := 9) only [↓gB, gV, gT, reduceIte, reduceCtorEq, Nat.reduceEqDiff, Nat.reduceAdd, Nat.reduceSub, Nat.reduceLeDiff, Nat.reduceLT, Int.reduceEq, Nat.reduceMul, point, coord]
    refine Ycp (p49) ?_
    simp (maxDischargeDepth := 9) only [↓gB, gV, gT, reduceIte, reduceCtorEq, Nat.reduceEqDiff, Nat.reduceAdd, Nat.reduceSub, Nat.reduceLeDiff, Nat.reduceLT, Int.reduceEq, Nat.reduceMul, point, coord]
    rcases bool_tf (Go.Proofs.Ytgkdbjnmlecimaa.within a (-10000) 10000) with c1 | c1
    rotate_left 1
    focus
      simp (maxDischargeDepth := 9) only [↓gB, gV, gT, reduceIte, reduceCtorEq, Nat.reduceEqDiff, Nat.reduceAdd, Nat.reduceSub, Nat.reduceLeDiff, Nat.reduceLT, Int.reduceEq, Nat.reduceMul, c1, point, coord]
      exact Kup_val (le_refl _) rfl
    rotate_right 1
    simp (maxDischargeDepth := 9) only [↓gB, gV, gT, reduceIte, reduceCtorEq, Nat.reduceEqDiff, Nat.reduceAdd, Nat.reduceSub, Nat.reduceLeDiff, Nat.reduceLT, Int.reduceEq, Nat.reduceMul, c1, point, coord]
    refine Ycp (p49) ?_
    simp (maxDischargeDepth := 9) only [↓gB, gV, gT, reduceIte, reduceCtorEq, Nat.reduceEqDiff, Nat.reduceAdd, Nat.reduceSub, Nat.reduceLeDiff, Nat.reduceLT, Int.reduceEq, Nat.reduceMul, c1, point, coord]
    exact Kup_val (le_refl _) rfl
def fdiv (a s : Int) : Int := if a.tmod s < 0 then IntKind.i64.wrap (IntKind.i64.wrap (a.tdiv s) - 1) else IntKind.i64.wrap (a.tdiv s)
theorem p50 {G0 : GH} {a s : Int} (hs : s ≠ 0) : Pure Try.prog G0 50 [V a, V s] (V (fdiv a s)) := by
  intro G hG
  clear hG G0
  refine enter Try.func50 16 #[.tmp 4] rfl Try.ntmps50 rfl (by decide +kernel) rfl ?_
  focus
    simp (maxDischargeDepth := 9) only [↓gB, gV, gT, reduceIte, reduceCtorEq, Nat.reduceEqDiff, Nat.reduceAdd, Nat.reduceSub, Nat.reduceLeDiff, Nat.reduceLT, Int.reduceEq, Nat.reduceMul, fdiv]
    refine vguard_intro (by omega) ?_
    refine vguard_intro (by omega) ?_
    refine Xc_split _ _ _ _ _ (fun c1 => ?_) (fun c1 => ?_)
    rotate_left 1
    focus
      simp (maxDischargeDepth := 9) only [↓gB, gV, gT, reduceIte, reduceCtorEq, Nat.reduceEqDiff, Nat.reduceAdd, Nat.reduceSub, Nat.reduceLeDiff, Nat.reduceLT, Int.reduceEq, Nat.reduceMul, c1, fdiv]
      exact Kup_val (le_refl _) rfl
    rotate_right 1
    simp (maxDischargeDepth := 9) only [↓gB, gV, gT, reduceIte, reduceCtorEq, Nat.reduceEqDiff, Nat.reduceAdd, Nat.reduceSub, Nat.reduceLeDiff, Nat.reduceLT, Int.reduceEq, Nat.reduceMul, c1, fdiv]
    exact Kup_val (le_refl _) rfl
theorem p52 {G0 : GH} {a s : Int} (hs : s ≠ 0) : Pure Try.prog G0 52 [V a, V s] (V (fdiv a s)) := by
  intro G hG
  clear hG G0
  refine enter Try.func52 16 #[.tmp 4] rfl Try.ntmps52 rfl (by decide +kernel) rfl ?_
  focus
    simp (maxDischargeDepth := 9) only [↓gB, gV, gT, reduceIte, reduceCtorEq, Nat.reduceEqDiff, Nat.reduceAdd, Nat.reduceSub, Nat.reduceLeDiff, Nat.reduceLT, Int.reduceEq, Nat.reduceMul, fdiv]
    refine vguard_intro (by omega) ?_
    refine vguard_intro (by omega) ?_
    refine Xc_split _ _ _ _ _ (fun c1 => ?_) (fun c1 => ?_)
    rotate_left 1
    focus
      simp (maxDischargeDepth := 9) only [↓gB, gV, gT, reduceIte, reduceCtorEq, Nat.reduceEqDiff, Nat.reduceAdd, Nat.reduceSub, Nat.reduceLeDiff, Nat.reduceLT, Int.reduceEq, Nat.reduceMul, c1, fdiv]
      exact Kup_val (le_refl _) rfl
    rotate_right 1
    simp (maxDischargeDepth := 9) only [↓gB, gV, gT, reduceIte, reduceCtorEq, Nat.reduceEqDiff, Nat.reduceAdd, Nat.reduceSub, Nat.reduceLeDiff, Nat.reduceLT, Int.reduceEq, Nat.reduceMul, c1, fdiv]
    exact Kup_val (le_refl _) rfl
def w64 (x : Int) : Int := IntKind.i64.wrap x
def inWeek (t : Int) : Int := w64 (t - w64 (fdiv t 604800000 * 604800000))
theorem p81 {G0 : GH} {t : Int}  : Pure Try.prog G0 81 [V t] (V (inWeek t)) := by
  intro G hG
  clear hG G0
  refine enter Try.func81 8 #[.tmp 2] rfl Try.ntmps81 rfl (by decide +kernel) rfl ?_
  simp (maxDischargeDepth := 9) only [↓gB, gV, gT, reduceIte, reduceCtorEq, Nat.reduceEqDiff, Nat.reduceAdd, Nat.reduceSub, Nat.reduceLeDiff, Nat.reduceLT, Int.reduceEq, Nat.reduceMul, inWeek, w64]
  refine Ycp (p50 (by omega)) ?_
  simp (maxDischargeDepth := 9) only [↓gB, gV, gT, reduceIte, reduceCtorEq, Nat.reduceEqDiff, Nat.reduceAdd, Nat.reduceSub, Nat.reduceLeDiff, Nat.reduceLT, Int.reduceEq, Nat.reduceMul, inWeek, w64]
  exact Kup_val (le_refl _) rfl
def hour1 (at_ zone : Int) : Int := w64 ((inWeek (w64 (at_ + w64 (zone * 60000)))).tdiv 3600000)
theorem p54 {G0 : GH} {a z : Int}  : Pure Try.prog G0 54 [V a, V z] (V (hour1 a z)) := by
  intro G hG
  clear hG G0
  refine enter Try.func54 11 #[.tmp 4] rfl Try.ntmps54 rfl (by decide +kernel) rfl ?_
  simp (maxDischargeDepth := 9) only [↓gB, gV, gT, reduceIte, reduceCtorEq, Nat.reduceEqDiff, Nat.reduceAdd, Nat.reduceSub, Nat.reduceLeDiff, Nat.reduceLT, Int.reduceEq, Nat.reduceMul, hour1, w64]
  refine Ycp (p81) ?_
  simp (maxDischargeDepth := 9) only [↓gB, gV, gT, reduceIte, reduceCtorEq, Nat.reduceEqDiff, Nat.reduceAdd, Nat.reduceSub, Nat.reduceLeDiff, Nat.reduceLT, Int.reduceEq, Nat.reduceMul, hour1, w64]
  exact Kup_val (le_refl _) rfl
def hour2 (at_ zone : Int) : Int := w64 (fdiv (w64 (at_ + w64 (zone * 60000))) 3600000 - w64 (fdiv (fdiv (w64 (at_ + w64 (zone * 60000))) 3600000) 168 * 168))
theorem p14 {G0 : GH} {a z : Int}  : Pure Try.prog G0 14 [V a, V z] (V (hour2 a z)) := by
  intro G hG
  clear hG G0
  refine enter Try.func14 16 #[.tmp 4] rfl Try.ntmps14 rfl (by decide +kernel) rfl ?_
  simp (maxDischargeDepth := 9) only [↓gB, gV, gT, reduceIte, reduceCtorEq, Nat.reduceEqDiff, Nat.reduceAdd, Nat.reduceSub, Nat.reduceLeDiff, Nat.reduceLT, Int.reduceEq, Nat.reduceMul, hour2, w64]
  refine Ycp (p52 (by omega)) ?_
  simp (maxDischargeDepth := 9) only [↓gB, gV, gT, reduceIte, reduceCtorEq, Nat.reduceEqDiff, Nat.reduceAdd, Nat.reduceSub, Nat.reduceLeDiff, Nat.reduceLT, Int.reduceEq, Nat.reduceMul, hour2, w64]
  refine Ycp (p52 (by omega)) ?_
  simp (maxDischargeDepth := 9) only [↓gB, gV, gT, reduceIte, reduceCtorEq, Nat.reduceEqDiff, Nat.reduceAdd, Nat.reduceSub, Nat.reduceLeDiff, Nat.reduceLT, Int.reduceEq, Nat.reduceMul, hour2, w64]
  exact Kup_val (le_refl _) rfl
theorem p8 {G0 : GH} {a b : Int}  : Pure Try.prog G0 8 [V a, V b] (V (bi (point a b))) := by
  intro G hG
  clear hG G0
  refine enter Try.func8 13 #[.tmp 4] rfl Try.ntmps8 rfl (by decide +kernel) rfl ?_
  focus
    simp (maxDischargeDepth := 9) only [↓gB, gV, gT, reduceIte, reduceCtorEq, Nat.reduceEqDiff, Nat.reduceAdd, Nat.reduceSub, Nat.reduceLeDiff, Nat.reduceLT, Int.reduceEq, Nat.reduceMul, bi, point, coord]
    refine Ycp (p51) ?_
    simp (maxDischargeDepth := 9) only [↓gB, gV, gT, reduceIte, reduceCtorEq, Nat.reduceEqDiff, Nat.reduceAdd, Nat.reduceSub, Nat.reduceLeDiff, Nat.reduceLT, Int.reduceEq, Nat.reduceMul, bi, point, coord]
    rcases bool_tf (Go.Proofs.Ytgkdbjnmlecimaa.within a (-10000) 10000) with c1 | c1
    rotate_left 1
    focus
      simp (maxDischargeDepth := 9) only [↓gB, gV, gT, reduceIte, reduceCtorEq, Nat.reduceEqDiff, Nat.reduceAdd, Nat.reduceSub, Nat.reduceLeDiff, Nat.reduceLT, Int.reduceEq, Nat.reduceMul, c1, bi, point, coord]
      exact Kup_val (le_refl _) rfl
    rotate_right 1
    simp (maxDischargeDepth := 9) only [↓gB, gV, gT, reduceIte, reduceCtorEq, Nat.reduceEqDiff, Nat.reduceAdd, Nat.reduceSub, Nat.reduceLeDiff, Nat.reduceLT, Int.reduceEq, Nat.reduceMul, c1, bi, point, coord]
    refine Ycp (p51) ?_
    simp (maxDischargeDepth := 9) only [↓gB, gV, gT, reduceIte, reduceCtorEq, Nat.reduceEqDiff, Nat.reduceAdd, Nat.reduceSub, Nat.reduceLeDiff, Nat.reduceLT, Int.reduceEq, Nat.reduceMul, c1, bi, point, coord]
    rcases bool_tf (Go.Proofs.Ytgkdbjnmlecimaa.within b (-10000) 10000) with c2 | c2
    rotate_left 1
    focus
      simp (maxDischargeDepth := 9) only [↓gB, gV, gT, reduceIte, reduceCtorEq, Nat.reduceEqDiff, Nat.reduceAdd, Nat.reduceSub, Nat.reduceLeDiff, Nat.reduceLT, Int.reduceEq, Nat.reduceMul, c1, c2, bi, point, coord]
      exact Kup_val (le_refl _) rfl
    rotate_right 1
    simp (maxDischargeDepth := 9) only [↓gB, gV, gT, reduceIte, reduceCtorEq, Nat.reduceEqDiff, Nat.reduceAdd, Nat.reduceSub, Nat.reduceLeDiff, Nat.reduceLT, Int.reduceEq, Nat.reduceMul, c1, c2, bi, point, coord]
    exact Kup_val (le_refl _) rfl
theorem p9 {G0 : GH} {a : Int}  : Pure Try.prog G0 9 [V a] (V (bi (sized a))) := by
  intro G hG
  clear hG G0
  refine enter Try.func9 6 #[.tmp 2] rfl Try.ntmps9 rfl (by decide +kernel) rfl ?_
  focus
    simp (maxDischargeDepth := 9) only [↓gB, gV, gT, reduceIte, reduceCtorEq, Nat.reduceEqDiff, Nat.reduceAdd, Nat.reduceSub, Nat.reduceLeDiff, Nat.reduceLT, Int.reduceEq, Nat.reduceMul, bi, sized]
    refine Ycp (p51) ?_
    simp (maxDischargeDepth := 9) only [↓gB, gV, gT, reduceIte, reduceCtorEq, Nat.reduceEqDiff, Nat.reduceAdd, Nat.reduceSub, Nat.reduceLeDiff, Nat.reduceLT, Int.reduceEq, Nat.reduceMul, bi, sized]
    rcases bool_tf (Go.Proofs.Ytgkdbjnmlecimaa.within a 1 10000) with c1 | c1
    rotate_left 1
    focus
      simp (maxDischargeDepth := 9) only [↓gB, gV, gT, reduceIte, reduceCtorEq, Nat.reduceEqDiff, Nat.reduceAdd, Nat.reduceSub, Nat.reduceLeDiff, Nat.reduceLT, Int.reduceEq, Nat.reduceMul, c1, bi, sized]
      exact Kup_val (le_refl _) rfl
    rotate_right 1
    simp (maxDischargeDepth := 9) only [↓gB, gV, gT, reduceIte, reduceCtorEq, Nat.reduceEqDiff, Nat.reduceAdd, Nat.reduceSub, Nat.reduceLeDiff, Nat.reduceLT, Int.reduceEq, Nat.reduceMul, c1, bi, sized]
    exact Kup_val (le_refl _) rfl
theorem p12 {G0 : GH} {a : Int}  : Pure Try.prog G0 12 [V a] (V (bi (moment a))) := by
  intro G hG
  clear hG G0
  refine enter Try.func12 6 #[.tmp 2] rfl Try.ntmps12 rfl (by decide +kernel) rfl ?_
  focus
    simp (maxDischargeDepth := 9) only [↓gB, gV, gT, reduceIte, reduceCtorEq, Nat.reduceEqDiff, Nat.reduceAdd, Nat.reduceSub, Nat.reduceLeDiff, Nat.reduceLT, Int.reduceEq, Nat.reduceMul, bi, moment]
    refine Ycp (p51) ?_
    simp (maxDischargeDepth := 9) only [↓gB, gV, gT, reduceIte, reduceCtorEq, Nat.reduceEqDiff, Nat.reduceAdd, Nat.reduceSub, Nat.reduceLeDiff, Nat.reduceLT, Int.reduceEq, Nat.reduceMul, bi, moment]
    rcases bool_tf (Go.Proofs.Ytgkdbjnmlecimaa.within a 0 345686399999) with c1 | c1
    rotate_left 1
    focus
      simp (maxDischargeDepth := 9) only [↓gB, gV, gT, reduceIte, reduceCtorEq, Nat.reduceEqDiff, Nat.reduceAdd, Nat.reduceSub, Nat.reduceLeDiff, Nat.reduceLT, Int.reduceEq, Nat.reduceMul, c1, bi, moment]
      exact Kup_val (le_refl _) rfl
    rotate_right 1
    simp (maxDischargeDepth := 9) only [↓gB, gV, gT, reduceIte, reduceCtorEq, Nat.reduceEqDiff, Nat.reduceAdd, Nat.reduceSub, Nat.reduceLeDiff, Nat.reduceLT, Int.reduceEq, Nat.reduceMul, c1, bi, moment]
    exact Kup_val (le_refl _) rfl
theorem p13 {G0 : GH} {a : Int}  : Pure Try.prog G0 13 [V a] (V (bi (zoned a))) := by
  intro G hG
  clear hG G0
  refine enter Try.func13 6 #[.tmp 2] rfl Try.ntmps13 rfl (by decide +kernel) rfl ?_
  focus
    simp (maxDischargeDepth := 9) only [↓gB, gV, gT, reduceIte, reduceCtorEq, Nat.reduceEqDiff, Nat.reduceAdd, Nat.reduceSub, Nat.reduceLeDiff, Nat.reduceLT, Int.reduceEq, Nat.reduceMul, bi, zoned]
    refine Ycp (p51) ?_
    simp (maxDischargeDepth := 9) only [↓gB, gV, gT, reduceIte, reduceCtorEq, Nat.reduceEqDiff, Nat.reduceAdd, Nat.reduceSub, Nat.reduceLeDiff, Nat.reduceLT, Int.reduceEq, Nat.reduceMul, bi, zoned]
    rcases bool_tf (Go.Proofs.Ytgkdbjnmlecimaa.within a (-1440) 1440) with c1 | c1
    rotate_left 1
    focus
      simp (maxDischargeDepth := 9) only [↓gB, gV, gT, reduceIte, reduceCtorEq, Nat.reduceEqDiff, Nat.reduceAdd, Nat.reduceSub, Nat.reduceLeDiff, Nat.reduceLT, Int.reduceEq, Nat.reduceMul, c1, bi, zoned]
      exact Kup_val (le_refl _) rfl
    rotate_right 1
    simp (maxDischargeDepth := 9) only [↓gB, gV, gT, reduceIte, reduceCtorEq, Nat.reduceEqDiff, Nat.reduceAdd, Nat.reduceSub, Nat.reduceLeDiff, Nat.reduceLT, Int.reduceEq, Nat.reduceMul, c1, bi, zoned]
    exact Kup_val (le_refl _) rfl
def houred (a : Int) : Bool := within a 0 167
theorem p43 {G0 : GH} {a : Int}  : Pure Try.prog G0 43 [V a] (V (bi (houred a))) := by
  intro G hG
  clear hG G0
  refine enter Try.func43 6 #[.tmp 2] rfl Try.ntmps43 rfl (by decide +kernel) rfl ?_
  focus
    simp (maxDischargeDepth := 9) only [↓gB, gV, gT, reduceIte, reduceCtorEq, Nat.reduceEqDiff, Nat.reduceAdd, Nat.reduceSub, Nat.reduceLeDiff, Nat.reduceLT, Int.reduceEq, Nat.reduceMul, bi, houred]
    refine Ycp (p51) ?_
    simp (maxDischargeDepth := 9) only [↓gB, gV, gT, reduceIte, reduceCtorEq, Nat.reduceEqDiff, Nat.reduceAdd, Nat.reduceSub, Nat.reduceLeDiff, Nat.reduceLT, Int.reduceEq, Nat.reduceMul, bi, houred]
    rcases bool_tf (Go.Proofs.Ytgkdbjnmlecimaa.within a 0 167) with c1 | c1
    rotate_left 1
    focus
      simp (maxDischargeDepth := 9) only [↓gB, gV, gT, reduceIte, reduceCtorEq, Nat.reduceEqDiff, Nat.reduceAdd, Nat.reduceSub, Nat.reduceLeDiff, Nat.reduceLT, Int.reduceEq, Nat.reduceMul, c1, bi, houred]
      exact Kup_val (le_refl _) rfl
    rotate_right 1
    simp (maxDischargeDepth := 9) only [↓gB, gV, gT, reduceIte, reduceCtorEq, Nat.reduceEqDiff, Nat.reduceAdd, Nat.reduceSub, Nat.reduceLeDiff, Nat.reduceLT, Int.reduceEq, Nat.reduceMul, c1, bi, houred]
    exact Kup_val (le_refl _) rfl
theorem p11 {G0 : GH} {a z : Int}  : Pure Try.prog G0 11 [V a, V z] (if (moment a && zoned z) then .tuple #[V (hour1 a z), V 0] else .tuple #[V 0, V 1]) := by
  intro G hG
  clear hG G0
  refine enter Try.func11 16 #[.tmp 4, .tmp 5] rfl Try.ntmps11 rfl (by decide +kernel) rfl ?_
  focus
    simp (maxDischargeDepth := 9) only [↓gB, gV, gT, reduceIte, reduceCtorEq, Nat.reduceEqDiff, Nat.reduceAdd, Nat.reduceSub, Nat.reduceLeDiff, Nat.reduceLT, Int.reduceEq, Nat.reduceMul, zoned]
    refine Ycp (p53) ?_
    simp (maxDischargeDepth := 9) only [↓gB, gV, gT, reduceIte, reduceCtorEq, Nat.reduceEqDiff, Nat.reduceAdd, Nat.reduceSub, Nat.reduceLeDiff, Nat.reduceLT, Int.reduceEq, Nat.reduceMul, zoned]
    rcases bool_tf (Go.Proofs.Ytgkdbjnmlecimaa.moment a) with c1 | c1
    rotate_left 1
    focus
      simp (maxDischargeDepth := 9) only [↓gB, gV, gT, reduceIte, reduceCtorEq, Nat.reduceEqDiff, Nat.reduceAdd, Nat.reduceSub, Nat.reduceLeDiff, Nat.reduceLT, Int.reduceEq, Nat.reduceMul, c1, zoned]
      exact Kup_val (le_refl _) rfl
    rotate_right 1
    simp (maxDischargeDepth := 9) only [↓gB, gV, gT, reduceIte, reduceCtorEq, Nat.reduceEqDiff, Nat.reduceAdd, Nat.reduceSub, Nat.reduceLeDiff, Nat.reduceLT, Int.reduceEq, Nat.reduceMul, c1, zoned]
    refine Ycp (p49) ?_
    simp (maxDischargeDepth := 9) only [↓gB, gV, gT, reduceIte, reduceCtorEq, Nat.reduceEqDiff, Nat.reduceAdd, Nat.reduceSub, Nat.reduceLeDiff, Nat.reduceLT, Int.reduceEq, Nat.reduceMul, c1, zoned]
    rcases bool_tf (Go.Proofs.Ytgkdbjnmlecimaa.within z (-1440) 1440) with c2 | c2
    rotate_left 1
    focus
      simp (maxDischargeDepth := 9) only [↓gB, gV, gT, reduceIte, reduceCtorEq, Nat.reduceEqDiff, Nat.reduceAdd, Nat.reduceSub, Nat.reduceLeDiff, Nat.reduceLT, Int.reduceEq, Nat.reduceMul, c1, c2, zoned]
      exact Kup_val (le_refl _) rfl
    rotate_right 1
    simp (maxDischargeDepth := 9) only [↓gB, gV, gT, reduceIte, reduceCtorEq, Nat.reduceEqDiff, Nat.reduceAdd, Nat.reduceSub, Nat.reduceLeDiff, Nat.reduceLT, Int.reduceEq, Nat.reduceMul, c1, c2, zoned]
    refine Ycp (p54) ?_
    simp (maxDischargeDepth := 9) only [↓gB, gV, gT, reduceIte, reduceCtorEq, Nat.reduceEqDiff, Nat.reduceAdd, Nat.reduceSub, Nat.reduceLeDiff, Nat.reduceLT, Int.reduceEq, Nat.reduceMul, c1, c2, zoned]
    exact Kup_val (le_refl _) rfl
theorem p90 {G0 : GH} {a : Int}  : Pure Try.prog G0 90 [V a] (.bool false) := by
  intro G hG
  clear hG G0
  refine enter Try.func90 6 #[.tmp 2] rfl Try.ntmps90 rfl (by decide +kernel) rfl ?_
  simp (maxDischargeDepth := 9) only [↓gB, gV, gT, reduceIte, reduceCtorEq, Nat.reduceEqDiff, Nat.reduceAdd, Nat.reduceSub, Nat.reduceLeDiff, Nat.reduceLT, Int.reduceEq, Nat.reduceMul]
  exact Kup_val (le_refl _) rfl
def cmp3 (a b : Int) : Int := if a < b then -1 else if b < a then 1 else 0
theorem p70 {G0 : GH} {a b : Int}  : Pure Try.prog G0 70 [V a, V b] (V (cmp3 a b)) := by
  intro G hG
  clear hG G0
  refine enter Try.func70 20 #[.tmp 4] rfl Try.ntmps70 rfl (by decide +kernel) rfl ?_
  focus
    simp (maxDischargeDepth := 9) only [↓gB, gV, gT, reduceIte, reduceCtorEq, Nat.reduceEqDiff, Nat.reduceAdd, Nat.reduceSub, Nat.reduceLeDiff, Nat.reduceLT, Int.reduceEq, Nat.reduceMul, cmp3]
    refine Ycp (p90) ?_
    simp (maxDischargeDepth := 9) only [↓gB, gV, gT, reduceIte, reduceCtorEq, Nat.reduceEqDiff, Nat.reduceAdd, Nat.reduceSub, Nat.reduceLeDiff, Nat.reduceLT, Int.reduceEq, Nat.reduceMul, cmp3]
    refine Ycp (p90) ?_
    simp (maxDischargeDepth := 9) only [↓gB, gV, gT, reduceIte, reduceCtorEq, Nat.reduceEqDiff, Nat.reduceAdd, Nat.reduceSub, Nat.reduceLeDiff, Nat.reduceLT, Int.reduceEq, Nat.reduceMul, cmp3]
    refine Xc_split _ _ _ _ _ (fun c1 => ?_) (fun c1 => ?_)
    rotate_left 1
    focus
      simp (maxDischargeDepth := 9) only [↓gB, gV, gT, reduceIte, reduceCtorEq, Nat.reduceEqDiff, Nat.reduceAdd, Nat.reduceSub, Nat.reduceLeDiff, Nat.reduceLT, Int.reduceEq, Nat.reduceMul, c1, cmp3]
      refine Xc_split _ _ _ _ _ (fun c2 => ?_) (fun c2 => ?_)
      rotate_left 1
      focus
        simp (maxDischargeDepth := 9) only [↓gB, gV, gT, reduceIte, reduceCtorEq, Nat.reduceEqDiff, Nat.reduceAdd, Nat.reduceSub, Nat.reduceLeDiff, Nat.reduceLT, Int.reduceEq, Nat.reduceMul, c1, c2, cmp3]
        exact Kup_val (le_refl _) rfl
      rotate_right 1
      simp (maxDischargeDepth := 9) only [↓gB, gV, gT, reduceIte, reduceCtorEq, Nat.reduceEqDiff, Nat.reduceAdd, Nat.reduceSub, Nat.reduceLeDiff, Nat.reduceLT, Int.reduceEq, Nat.reduceMul, c1, c2, cmp3]
      exact Kup_val (le_refl _) rfl
    rotate_right 1
    simp (maxDischargeDepth := 9) only [↓gB, gV, gT, reduceIte, reduceCtorEq, Nat.reduceEqDiff, Nat.reduceAdd, Nat.reduceSub, Nat.reduceLeDiff, Nat.reduceLT, Int.reduceEq, Nat.reduceMul, c1, cmp3]
    exact Kup_val (le_refl _) rfl
def windowed (a b : Int) : Bool := within a 0 b && decide (b ≤ 345686400000)
theorem p94 {G0 : GH} {a b : Int}  : Pure Try.prog G0 94 [.agg #[V a, V b]] (.bool (windowed a b)) := by
  intro G hG
  clear hG G0
  refine enter Try.func94 14 #[.tmp 2] rfl Try.ntmps94 rfl (by decide +kernel) rfl ?_
  focus
    simp (maxDischargeDepth := 9) only [↓gB, gV, gT, reduceIte, reduceCtorEq, Nat.reduceEqDiff, Nat.reduceAdd, Nat.reduceSub, Nat.reduceLeDiff, Nat.reduceLT, Int.reduceEq, Nat.reduceMul, windowed]
    refine Yn2 fun r1 h1 => ?_
    simp (maxDischargeDepth := 9) only [↓gB, gV, gT, reduceIte, reduceCtorEq, Nat.reduceEqDiff, Nat.reduceAdd, Nat.reduceSub, Nat.reduceLeDiff, Nat.reduceLT, Int.reduceEq, Nat.reduceMul, h1, windowed]
    refine Ycp (p49) ?_
    simp (maxDischargeDepth := 9) only [↓gB, gV, gT, reduceIte, reduceCtorEq, Nat.reduceEqDiff, Nat.reduceAdd, Nat.reduceSub, Nat.reduceLeDiff, Nat.reduceLT, Int.reduceEq, Nat.reduceMul, h1, windowed]
    rcases bool_tf (Go.Proofs.Ytgkdbjnmlecimaa.within a 0 b) with c1 | c1
    rotate_left 1
    focus
      simp (maxDischargeDepth := 9) only [↓gB, gV, gT, reduceIte, reduceCtorEq, Nat.reduceEqDiff, Nat.reduceAdd, Nat.reduceSub, Nat.reduceLeDiff, Nat.reduceLT, Int.reduceEq, Nat.reduceMul, h1, c1, windowed]
      exact Kup_val (by simp (maxDischargeDepth := 9) only [le_self, le_puts, le_put0, h1]) rfl
    rotate_right 1
    simp (maxDischargeDepth := 9) only [↓gB, gV, gT, reduceIte, reduceCtorEq, Nat.reduceEqDiff, Nat.reduceAdd, Nat.reduceSub, Nat.reduceLeDiff, Nat.reduceLT, Int.reduceEq, Nat.reduceMul, h1, c1, windowed]
    exact Kup_val (by simp (maxDischargeDepth := 9) only [le_self, le_puts, le_put0, h1]) rfl
theorem p42 {G0 : GH} {a b : Int}  : Pure Try.prog G0 42 [.agg #[V a, V b]] (V (bi (windowed a b))) := by
  intro G hG
  clear hG G0
  refine enter Try.func42 14 #[.tmp 2] rfl Try.ntmps42 rfl (by decide +kernel) rfl ?_
  focus
    simp (maxDischargeDepth := 9) only [↓gB, gV, gT, reduceIte, reduceCtorEq, Nat.reduceEqDiff, Nat.reduceAdd, Nat.reduceSub, Nat.reduceLeDiff, Nat.reduceLT, Int.reduceEq, Nat.reduceMul, bi, windowed]
    refine Yn2 fun r1 h1 => ?_
    simp (maxDischargeDepth := 9) only [↓gB, gV, gT, reduceIte, reduceCtorEq, Nat.reduceEqDiff, Nat.reduceAdd, Nat.reduceSub, Nat.reduceLeDiff, Nat.reduceLT, Int.reduceEq, Nat.reduceMul, h1, bi, windowed]
    refine Ycp (p51) ?_
    simp (maxDischargeDepth := 9) only [↓gB, gV, gT, reduceIte, reduceCtorEq, Nat.reduceEqDiff, Nat.reduceAdd, Nat.reduceSub, Nat.reduceLeDiff, Nat.reduceLT, Int.reduceEq, Nat.reduceMul, h1, bi, windowed]
    rcases bool_tf (Go.Proofs.Ytgkdbjnmlecimaa.within a 0 b) with c1 | c1
    rotate_left 1
    focus
      simp (maxDischargeDepth := 9) only [↓gB, gV, gT, reduceIte, reduceCtorEq, Nat.reduceEqDiff, Nat.reduceAdd, Nat.reduceSub, Nat.reduceLeDiff, Nat.reduceLT, Int.reduceEq, Nat.reduceMul, h1, c1, bi, windowed]
      exact Kup_val (by simp (maxDischargeDepth := 9) only [le_self, le_puts, le_put0, h1]) rfl
    rotate_right 1
    simp (maxDischargeDepth := 9) only [↓gB, gV, gT, reduceIte, reduceCtorEq, Nat.reduceEqDiff, Nat.reduceAdd, Nat.reduceSub, Nat.reduceLeDiff, Nat.reduceLT, Int.reduceEq, Nat.reduceMul, h1, c1, bi, windowed]
    refine Xc_split _ _ _ _ _ (fun c2 => ?_) (fun c2 => ?_)
    rotate_left 1
    focus
      simp (maxDischargeDepth := 9) only [↓gB, gV, gT, reduceIte, reduceCtorEq, Nat.reduceEqDiff, Nat.reduceAdd, Nat.reduceSub, Nat.reduceLeDiff, Nat.reduceLT, Int.reduceEq, Nat.reduceMul, h1, c1, c2, bi, windowed]
      exact Kup_val (by simp (maxDischargeDepth := 9) only [le_self, le_puts, le_put0, h1]) (by simp [h1, c1, c2, bi, windowed])
    rotate_right 1
    simp (maxDischargeDepth := 9) only [↓gB, gV, gT, reduceIte, reduceCtorEq, Nat.reduceEqDiff, Nat.reduceAdd, Nat.reduceSub, Nat.reduceLeDiff, Nat.reduceLT, Int.reduceEq, Nat.reduceMul, h1, c1, c2, bi, windowed]
    exact Kup_val (by simp (maxDischargeDepth := 9) only [le_self, le_puts, le_put0, h1]) (by simp [h1, c1, c2, bi, windowed])
theorem p76 {G0 : GH} {a b z : Int}  : Pure Try.prog G0 76 [.agg #[V a, V b], V z] (V (bi (windowed a b && zoned z))) := by
  intro G hG
  clear hG G0
  refine enter Try.func76 12 #[.tmp 4] rfl Try.ntmps76 rfl (by decide +kernel) rfl ?_
  focus
    simp (maxDischargeDepth := 9) only [↓gB, gV, gT, reduceIte, reduceCtorEq, Nat.reduceEqDiff, Nat.reduceAdd, Nat.reduceSub, Nat.reduceLeDiff, Nat.reduceLT, Int.reduceEq, Nat.reduceMul, bi, zoned]
    refine Yn2 fun r1 h1 => ?_
    simp (maxDischargeDepth := 9) only [↓gB, gV, gT, reduceIte, reduceCtorEq, Nat.reduceEqDiff, Nat.reduceAdd, Nat.reduceSub, Nat.reduceLeDiff, Nat.reduceLT, Int.reduceEq, Nat.reduceMul, h1, bi, zoned]
    refine Ycp (p94) ?_
    simp (maxDischargeDepth := 9) only [↓gB, gV, gT, reduceIte, reduceCtorEq, Nat.reduceEqDiff, Nat.reduceAdd, Nat.reduceSub, Nat.reduceLeDiff, Nat.reduceLT, Int.reduceEq, Nat.reduceMul, h1, bi, zoned]
    rcases bool_tf (Go.Proofs.Ytgkdbjnmlecimaa.windowed a b) with c1 | c1
    rotate_left 1
    focus
      simp (maxDischargeDepth := 9) only [↓gB, gV, gT, reduceIte, reduceCtorEq, Nat.reduceEqDiff, Nat.reduceAdd, Nat.reduceSub, Nat.reduceLeDiff, Nat.reduceLT, Int.reduceEq, Nat.reduceMul, h1, c1, bi, zoned]
      exact Kup_val (by simp (maxDischargeDepth := 9) only [le_self, le_puts, le_put0, h1]) rfl
    rotate_right 1
    simp (maxDischargeDepth := 9) only [↓gB, gV, gT, reduceIte, reduceCtorEq, Nat.reduceEqDiff, Nat.reduceAdd, Nat.reduceSub, Nat.reduceLeDiff, Nat.reduceLT, Int.reduceEq, Nat.reduceMul, h1, c1, bi, zoned]
    refine Ycp (p49) ?_
    simp (maxDischargeDepth := 9) only [↓gB, gV, gT, reduceIte, reduceCtorEq, Nat.reduceEqDiff, Nat.reduceAdd, Nat.reduceSub, Nat.reduceLeDiff, Nat.reduceLT, Int.reduceEq, Nat.reduceMul, h1, c1, bi, zoned]
    rcases bool_tf (Go.Proofs.Ytgkdbjnmlecimaa.within z (-1440) 1440) with c2 | c2
    rotate_left 1
    focus
      simp (maxDischargeDepth := 9) only [↓gB, gV, gT, reduceIte, reduceCtorEq, Nat.reduceEqDiff, Nat.reduceAdd, Nat.reduceSub, Nat.reduceLeDiff, Nat.reduceLT, Int.reduceEq, Nat.reduceMul, h1, c1, c2, bi, zoned]
      exact Kup_val (by simp (maxDischargeDepth := 9) only [le_self, le_puts, le_put0, h1]) rfl
    rotate_right 1
    simp (maxDischargeDepth := 9) only [↓gB, gV, gT, reduceIte, reduceCtorEq, Nat.reduceEqDiff, Nat.reduceAdd, Nat.reduceSub, Nat.reduceLeDiff, Nat.reduceLT, Int.reduceEq, Nat.reduceMul, h1, c1, c2, bi, zoned]
    exact Kup_val (by simp (maxDischargeDepth := 9) only [le_self, le_puts, le_put0, h1]) rfl
theorem p26 {G0 : GH} {b : Bool} {e : Int}  : Pure Try.prog G0 26 [.bool b, V e] (V (if b then e else 0)) := by
  intro G hG
  clear hG G0
  refine enter Try.func26 7 #[.tmp 4] rfl Try.ntmps26 rfl (by decide +kernel) rfl ?_
  focus
    simp (maxDischargeDepth := 9) only [↓gB, gV, gT, reduceIte, reduceCtorEq, Nat.reduceEqDiff, Nat.reduceAdd, Nat.reduceSub, Nat.reduceLeDiff, Nat.reduceLT, Int.reduceEq, Nat.reduceMul]
    rcases bool_tf (b) with c1 | c1
    rotate_left 1
    focus
      simp (maxDischargeDepth := 9) only [↓gB, gV, gT, reduceIte, reduceCtorEq, Nat.reduceEqDiff, Nat.reduceAdd, Nat.reduceSub, Nat.reduceLeDiff, Nat.reduceLT, Int.reduceEq, Nat.reduceMul, c1]
      exact Kup_val (le_refl _) rfl
    rotate_right 1
    simp (maxDischargeDepth := 9) only [↓gB, gV, gT, reduceIte, reduceCtorEq, Nat.reduceEqDiff, Nat.reduceAdd, Nat.reduceSub, Nat.reduceLeDiff, Nat.reduceLT, Int.reduceEq, Nat.reduceMul, c1]
    exact Kup_val (le_refl _) rfl
def cellCmp (a b c d : Int) : Int := if cmp3 a c = 0 then cmp3 b d else cmp3 a c
def orOf : List Int → Int
  | [] => 0
  | x :: l => if x ≠ 0 then x else orOf l
end Go.Proofs.Ytgkdbjnmlecimaa
namespace Go.Proofs.Ytgkdbjnmlecimaa
open Go Go.GL
set_option maxRecDepth 10000
set_option maxHeartbeats 0
theorem orE_gen {G0 : GH} {l : List Int} {r : Nat} {e : TypeId} {t : Bool} {fr : Nat × Nat} (hn : (l.length : Int) ≤ 9223372036854775807) (hr : G0 r = some (.cells (l.map V).toArray e fr, t)) : Pure Try.prog G0 7 [.slice (some ⟨r, 0, none⟩) l.length l.length] (V (orOf l)) := by
  intro G hG; replace hr := hG _ _ hr; clear hG G0
  refine enter Try.func7 18 #[.tmp 2] rfl Try.ntmps7 rfl (by decide +kernel) rfl ?_
  simp (maxDischargeDepth := 9) only [↓gB, gV, gT, reduceIte, reduceCtorEq, Nat.reduceEqDiff, Nat.reduceAdd, Nat.reduceSub, Nat.reduceLeDiff, Nat.reduceLT, Int.reduceEq, Nat.reduceMul, hr]
  focus
    refine Xloop_intro _ _ _ _ _ (fun k f G' => ∃ (i : Nat), k = l.length - i ∧ (i ≤ l.length) ∧ (orOf l = orOf (l.drop i)) ∧ (G = G') ∧ f 8 = V i ∧ f 3 = Go.Value.int Go.IntKind.i64 0 ∧ f 6 = Go.Value.slice (Option.some { block := r, off := 0 }) l.length l.length ∧ f 7 = Go.Value.int Go.IntKind.i64 ↑l.length) _ ⟨0, rfl, ?_, ?_, rfl, by simp (maxDischargeDepth := 9) only [↓gB, gV, gT, reduceIte, reduceCtorEq, Nat.reduceEqDiff, Nat.reduceAdd, Nat.reduceSub, Nat.reduceLeDiff, Nat.reduceLT, Int.reduceEq, Nat.reduceMul, hr, and_self]⟩ ?_
    · omega
    · rfl
    rintro k f G' ⟨i, rfl, hi, h, rfl, f8, f3, f6, f7⟩
  simp (maxDischargeDepth := 9) only [↓gB, gV, gT, reduceIte, reduceCtorEq, Nat.reduceEqDiff, Nat.reduceAdd, Nat.reduceSub, Nat.reduceLeDiff, Nat.reduceLT, Int.reduceEq, Nat.reduceMul, hr, f8, f3, f6, f7]
  refine Xc_split _ _ _ _ _ (fun hlt => ?_) (fun hlt => ?_)
  · obtain ⟨x, hx⟩ : ∃ x, l[i]? = some x := ⟨l[i]'(by omega), List.getElem?_eq_getElem (by omega)⟩
    have hd := drop_at hx
    focus
      simp (maxDischargeDepth := 9) only [↓gB, gV, gT, reduceIte, reduceCtorEq, Nat.reduceEqDiff, Nat.reduceAdd, Nat.reduceSub, Nat.reduceLeDiff, Nat.reduceLT, Int.reduceEq, Nat.reduceMul, hr, f8, f3, f6, f7, List.getElem?_map, hx]
      refine vguard_intro (by omega) ?_
      refine Xc_split _ _ _ _ _ (fun c1 => ?_) (fun c1 => ?_)
      rotate_left 1
      focus
        simp (maxDischargeDepth := 9) only [↓gB, gV, gT, reduceIte, reduceCtorEq, Nat.reduceEqDiff, Nat.reduceAdd, Nat.reduceSub, Nat.reduceLeDiff, Nat.reduceLT, Int.reduceEq, Nat.reduceMul, hr, f8, f3, f6, f7, c1, List.getElem?_map, hx]
        have q1 : Go.IntKind.i64.wrap (↑i + 1) = ↑i + 1 := wrap_id (by omega)
        simp (maxDischargeDepth := 9) only [↓gB, gV, gT, reduceIte, reduceCtorEq, Nat.reduceEqDiff, Nat.reduceAdd, Nat.reduceSub, Nat.reduceLeDiff, Nat.reduceLT, Int.reduceEq, Nat.reduceMul, hr, f8, f3, f6, f7, c1, q1, List.getElem?_map, hx]
        rw [N_lp]
        refine ⟨_, ?_, _, ?_, i + 1, rfl, ?_, ?_, rfl, by simp (maxDischargeDepth := 9) only [↓gB, gV, gT, reduceIte, reduceCtorEq, Nat.reduceEqDiff, Nat.reduceAdd, Nat.reduceSub, Nat.reduceLeDiff, Nat.reduceLT, Int.reduceEq, Nat.reduceMul, hr, f8, f3, f6, f7, c1, q1, List.getElem?_map, hx, nat_succ, and_self]⟩
        · omega
        · exact sub_refl _
        · omega
        · (rw [h, hd]; simp [orOf, *]; done)
      rotate_right 1
      simp (maxDischargeDepth := 9) only [↓gB, gV, gT, reduceIte, reduceCtorEq, Nat.reduceEqDiff, Nat.reduceAdd, Nat.reduceSub, Nat.reduceLeDiff, Nat.reduceLT, Int.reduceEq, Nat.reduceMul, hr, f8, f3, f6, f7, c1, List.getElem?_map, hx]
      refine Kup_val (le_refl _) ?_
      (rw [h, hd]; simp [orOf, *]; done)
  · simp (maxDischargeDepth := 9) only [↓gB, gV, gT, reduceIte, reduceCtorEq, Nat.reduceEqDiff, Nat.reduceAdd, Nat.reduceSub, Nat.reduceLeDiff, Nat.reduceLT, Int.reduceEq, Nat.reduceMul, hr, f8, f3, f6, f7]
    refine Kup_val (le_refl _) ?_
    (rw [h, List.drop_eq_nil_of_le (by omega)]; rfl; done)
theorem orI_gen {G0 : GH} {l : List Int} {r : Nat} {e : TypeId} {t : Bool} {fr : Nat × Nat} (hn : (l.length : Int) ≤ 9223372036854775807) (hr : G0 r = some (.cells (l.map V).toArray e fr, t)) : Pure Try.prog G0 66 [.slice (some ⟨r, 0, none⟩) l.length l.length] (V (orOf l)) := by
  intro G hG; replace hr := hG _ _ hr; clear hG G0
  refine enter Try.func66 18 #[.tmp 2] rfl Try.ntmps66 rfl (by decide +kernel) rfl ?_
  simp (maxDischargeDepth := 9) only [↓gB, gV, gT, reduceIte, reduceCtorEq, Nat.reduceEqDiff, Nat.reduceAdd, Nat.reduceSub, Nat.reduceLeDiff, Nat.reduceLT, Int.reduceEq, Nat.reduceMul, hr]
  focus
    refine Xloop_intro _ _ _ _ _ (fun k f G' => ∃ (i : Nat), k = l.length - i ∧ (i ≤ l.length) ∧ (orOf l = orOf (l.drop i)) ∧ (G = G') ∧ f 8 = V i ∧ f 3 = Go.Value.int Go.IntKind.i64 0 ∧ f 6 = Go.Value.slice (Option.some { block := r, off := 0 }) l.length l.length ∧ f 7 = Go.Value.int Go.IntKind.i64 ↑l.length) _ ⟨0, rfl, ?_, ?_, rfl, by simp (maxDischargeDepth := 9) only [↓gB, gV, gT, reduceIte, reduceCtorEq, Nat.reduceEqDiff, Nat.reduceAdd, Nat.reduceSub, Nat.reduceLeDiff, Nat.reduceLT, Int.reduceEq, Nat.reduceMul, hr, and_self]⟩ ?_
    · omega
    · rfl
    rintro k f G' ⟨i, rfl, hi, h, rfl, f8, f3, f6, f7⟩
  simp (maxDischargeDepth := 9) only [↓gB, gV, gT, reduceIte, reduceCtorEq, Nat.reduceEqDiff, Nat.reduceAdd, Nat.reduceSub, Nat.reduceLeDiff, Nat.reduceLT, Int.reduceEq, Nat.reduceMul, hr, f8, f3, f6, f7]
  refine Xc_split _ _ _ _ _ (fun hlt => ?_) (fun hlt => ?_)
  · obtain ⟨x, hx⟩ : ∃ x, l[i]? = some x := ⟨l[i]'(by omega), List.getElem?_eq_getElem (by omega)⟩
    have hd := drop_at hx
    focus
      simp (maxDischargeDepth := 9) only [↓gB, gV, gT, reduceIte, reduceCtorEq, Nat.reduceEqDiff, Nat.reduceAdd, Nat.reduceSub, Nat.reduceLeDiff, Nat.reduceLT, Int.reduceEq, Nat.reduceMul, hr, f8, f3, f6, f7, List.getElem?_map, hx]
      refine vguard_intro (by omega) ?_
      refine Xc_split _ _ _ _ _ (fun c1 => ?_) (fun c1 => ?_)
      rotate_left 1
      focus
        simp (maxDischargeDepth := 9) only [↓gB, gV, gT, reduceIte, reduceCtorEq, Nat.reduceEqDiff, Nat.reduceAdd, Nat.reduceSub, Nat.reduceLeDiff, Nat.reduceLT, Int.reduceEq, Nat.reduceMul, hr, f8, f3, f6, f7, c1, List.getElem?_map, hx]
        have q1 : Go.IntKind.i64.wrap (↑i + 1) = ↑i + 1 := wrap_id (by omega)
        simp (maxDischargeDepth := 9) only [↓gB, gV, gT, reduceIte, reduceCtorEq, Nat.reduceEqDiff, Nat.reduceAdd, Nat.reduceSub, Nat.reduceLeDiff, Nat.reduceLT, Int.reduceEq, Nat.reduceMul, hr, f8, f3, f6, f7, c1, q1, List.getElem?_map, hx]
        rw [N_lp]
        refine ⟨_, ?_, _, ?_, i + 1, rfl, ?_, ?_, rfl, by simp (maxDischargeDepth := 9) only [↓gB, gV, gT, reduceIte, reduceCtorEq, Nat.reduceEqDiff, Nat.reduceAdd, Nat.reduceSub, Nat.reduceLeDiff, Nat.reduceLT, Int.reduceEq, Nat.reduceMul, hr, f8, f3, f6, f7, c1, q1, List.getElem?_map, hx, nat_succ, and_self]⟩
        · omega
        · exact sub_refl _
        · omega
        · (rw [h, hd]; simp [orOf, *]; done)
      rotate_right 1
      simp (maxDischargeDepth := 9) only [↓gB, gV, gT, reduceIte, reduceCtorEq, Nat.reduceEqDiff, Nat.reduceAdd, Nat.reduceSub, Nat.reduceLeDiff, Nat.reduceLT, Int.reduceEq, Nat.reduceMul, hr, f8, f3, f6, f7, c1, List.getElem?_map, hx]
      refine Kup_val (le_refl _) ?_
      (rw [h, hd]; simp [orOf, *]; done)
  · simp (maxDischargeDepth := 9) only [↓gB, gV, gT, reduceIte, reduceCtorEq, Nat.reduceEqDiff, Nat.reduceAdd, Nat.reduceSub, Nat.reduceLeDiff, Nat.reduceLT, Int.reduceEq, Nat.reduceMul, hr, f8, f3, f6, f7]
    refine Kup_val (le_refl _) ?_
    (rw [h, List.drop_eq_nil_of_le (by omega)]; rfl; done)
theorem p7 {G0 : GH} {x y : Int} {r : Nat} {e : TypeId} {t : Bool} {fr : Nat × Nat} (hr : G0 r = some (.cells [V x, V y].toArray e fr, t)) : Pure Try.prog G0 7 [.slice (some ⟨r, 0, none⟩) 2 2] (V (orOf [x, y])) := orE_gen (l := [x, y]) (by simp) hr
theorem p7b {G0 : GH} {x y z : Int} {r : Nat} {e : TypeId} {t : Bool} {fr : Nat × Nat} (hr : G0 r = some (.cells [V x, V y, V z].toArray e fr, t)) : Pure Try.prog G0 7 [.slice (some ⟨r, 0, none⟩) 3 3] (V (orOf [x, y, z])) := orE_gen (l := [x, y, z]) (by simp) hr
theorem p7c {G0 : GH} {x y z u : Int} {r : Nat} {e : TypeId} {t : Bool} {fr : Nat × Nat} (hr : G0 r = some (.cells [V x, V y, V z, V u].toArray e fr, t)) : Pure Try.prog G0 7 [.slice (some ⟨r, 0, none⟩) 4 4] (V (orOf [x, y, z, u])) := orE_gen (l := [x, y, z, u]) (by simp) hr
theorem p7d {G0 : GH} {x y z u w : Int} {r : Nat} {e : TypeId} {t : Bool} {fr : Nat × Nat} (hr : G0 r = some (.cells [V x, V y, V z, V u, V w].toArray e fr, t)) : Pure Try.prog G0 7 [.slice (some ⟨r, 0, none⟩) 5 5] (V (orOf [x, y, z, u, w])) := orE_gen (l := [x, y, z, u, w]) (by simp) hr
theorem p66 {G0 : GH} {x y : Int} {r : Nat} {e : TypeId} {t : Bool} {fr : Nat × Nat} (hr : G0 r = some (.cells [V x, V y].toArray e fr, t)) : Pure Try.prog G0 66 [.slice (some ⟨r, 0, none⟩) 2 2] (V (orOf [x, y])) := orI_gen (l := [x, y]) (by simp) hr
theorem orOf2 (x y : Int) : orOf [x, y] = if x = 0 then y else x := by
  unfold orOf; by_cases h : x = 0
  · subst h; simp [orOf]; omega
  · simp [h]
theorem p60 {G0 : GH} {a b c d : Int}  : Pure Try.prog G0 60 [.agg #[V a, V b], .agg #[V c, V d]] (V (cellCmp a b c d)) := by
  intro G hG
  clear hG G0
  refine enter Try.func60 17 #[.tmp 4] rfl Try.ntmps60 rfl (by decide +kernel) rfl ?_
  simp (maxDischargeDepth := 9) only [↓gB, gV, gT, reduceIte, reduceCtorEq, Nat.reduceEqDiff, Nat.reduceAdd, Nat.reduceSub, Nat.reduceLeDiff, Nat.reduceLT, Int.reduceEq, Nat.reduceMul, orOf2, cellCmp]
  refine Yn2 fun r1 h1 => ?_
  simp (maxDischargeDepth := 9) only [↓gB, gV, gT, reduceIte, reduceCtorEq, Nat.reduceEqDiff, Nat.reduceAdd, Nat.reduceSub, Nat.reduceLeDiff, Nat.reduceLT, Int.reduceEq, Nat.reduceMul, h1, orOf2, cellCmp]
  refine Yn2 fun r2 h2 => ?_
  have n2 := h2
  simp only [put_none_eq, ne_eq] at n2
  simp (maxDischargeDepth := 9) only [↓gB, gV, gT, reduceIte, reduceCtorEq, Nat.reduceEqDiff, Nat.reduceAdd, Nat.reduceSub, Nat.reduceLeDiff, Nat.reduceLT, Int.reduceEq, Nat.reduceMul, h1, h2, n2, orOf2, cellCmp]
  refine Xdraw_intro [0, 1, 2, 3, 5, 6, 7, 8, 4, 9, 10, 11, 12] mixed (by kernel_rfl) (by decide +kernel) ?_
  simp (maxDischargeDepth := 9) only [↓gB, gV, gT, reduceIte, reduceCtorEq, Nat.reduceEqDiff, Nat.reduceAdd, Nat.reduceSub, Nat.reduceLeDiff, Nat.reduceLT, Int.reduceEq, Nat.reduceMul, h1, h2, n2, orOf2, cellCmp]
  refine Ycp (p70) ?_
  simp (maxDischargeDepth := 9) only [↓gB, gV, gT, reduceIte, reduceCtorEq, Nat.reduceEqDiff, Nat.reduceAdd, Nat.reduceSub, Nat.reduceLeDiff, Nat.reduceLT, Int.reduceEq, Nat.reduceMul, h1, h2, n2, orOf2, cellCmp]
  refine Ycp (p70) ?_
  simp (maxDischargeDepth := 9) only [↓gB, gV, gT, reduceIte, reduceCtorEq, Nat.reduceEqDiff, Nat.reduceAdd, Nat.reduceSub, Nat.reduceLeDiff, Nat.reduceLT, Int.reduceEq, Nat.reduceMul, h1, h2, n2, orOf2, cellCmp]
  refine Yn1 fun r3 h3 => ?_
  have n3 := h3
  simp only [put_none_eq, ne_eq] at n3
  simp (maxDischargeDepth := 9) only [↓gB, gV, gT, reduceIte, reduceCtorEq, Nat.reduceEqDiff, Nat.reduceAdd, Nat.reduceSub, Nat.reduceLeDiff, Nat.reduceLT, Int.reduceEq, Nat.reduceMul, h1, h2, n2, h3, n3, orOf2, cellCmp]
  refine Ycp (p66 (by exact put_self _ _ _)) ?_
  simp (maxDischargeDepth := 9) only [↓gB, gV, gT, reduceIte, reduceCtorEq, Nat.reduceEqDiff, Nat.reduceAdd, Nat.reduceSub, Nat.reduceLeDiff, Nat.reduceLT, Int.reduceEq, Nat.reduceMul, h1, h2, n2, h3, n3, orOf2, cellCmp]
  exact Kup_val (by simp (maxDischargeDepth := 9) only [le_self, le_puts, le_put0, h1, h2, n2, h3, n3]) rfl
theorem p59 {G0 : GH} {a b c d : Int}  : Pure Try.prog G0 59 [.agg #[V a, V b], .agg #[V c, V d]] (V (cellCmp a b c d)) := by
  intro G hG
  clear hG G0
  refine enter Try.func59 17 #[.tmp 4] rfl Try.ntmps59 rfl (by decide +kernel) rfl ?_
  simp (maxDischargeDepth := 9) only [↓gB, gV, gT, reduceIte, reduceCtorEq, Nat.reduceEqDiff, Nat.reduceAdd, Nat.reduceSub, Nat.reduceLeDiff, Nat.reduceLT, Int.reduceEq, Nat.reduceMul, orOf2, cellCmp]
  refine Yn2 fun r1 h1 => ?_
  simp (maxDischargeDepth := 9) only [↓gB, gV, gT, reduceIte, reduceCtorEq, Nat.reduceEqDiff, Nat.reduceAdd, Nat.reduceSub, Nat.reduceLeDiff, Nat.reduceLT, Int.reduceEq, Nat.reduceMul, h1, orOf2, cellCmp]
  refine Yn2 fun r2 h2 => ?_
  have n2 := h2
  simp only [put_none_eq, ne_eq] at n2
  simp (maxDischargeDepth := 9) only [↓gB, gV, gT, reduceIte, reduceCtorEq, Nat.reduceEqDiff, Nat.reduceAdd, Nat.reduceSub, Nat.reduceLeDiff, Nat.reduceLT, Int.reduceEq, Nat.reduceMul, h1, h2, n2, orOf2, cellCmp]
  refine Xdraw_intro [0, 1, 2, 3, 5, 6, 7, 8, 4, 9, 10, 11, 12] mixed (by kernel_rfl) (by decide +kernel) ?_
  simp (maxDischargeDepth := 9) only [↓gB, gV, gT, reduceIte, reduceCtorEq, Nat.reduceEqDiff, Nat.reduceAdd, Nat.reduceSub, Nat.reduceLeDiff, Nat.reduceLT, Int.reduceEq, Nat.reduceMul, h1, h2, n2, orOf2, cellCmp]
  refine Ycp (p70) ?_
  simp (maxDischargeDepth := 9) only [↓gB, gV, gT, reduceIte, reduceCtorEq, Nat.reduceEqDiff, Nat.reduceAdd, Nat.reduceSub, Nat.reduceLeDiff, Nat.reduceLT, Int.reduceEq, Nat.reduceMul, h1, h2, n2, orOf2, cellCmp]
  refine Ycp (p70) ?_
  simp (maxDischargeDepth := 9) only [↓gB, gV, gT, reduceIte, reduceCtorEq, Nat.reduceEqDiff, Nat.reduceAdd, Nat.reduceSub, Nat.reduceLeDiff, Nat.reduceLT, Int.reduceEq, Nat.reduceMul, h1, h2, n2, orOf2, cellCmp]
  refine Yn1 fun r3 h3 => ?_
  have n3 := h3
  simp only [put_none_eq, ne_eq] at n3
  simp (maxDischargeDepth := 9) only [↓gB, gV, gT, reduceIte, reduceCtorEq, Nat.reduceEqDiff, Nat.reduceAdd, Nat.reduceSub, Nat.reduceLeDiff, Nat.reduceLT, Int.reduceEq, Nat.reduceMul, h1, h2, n2, h3, n3, orOf2, cellCmp]
  refine Ycp (p66 (by exact put_self _ _ _)) ?_
  simp (maxDischargeDepth := 9) only [↓gB, gV, gT, reduceIte, reduceCtorEq, Nat.reduceEqDiff, Nat.reduceAdd, Nat.reduceSub, Nat.reduceLeDiff, Nat.reduceLT, Int.reduceEq, Nat.reduceMul, h1, h2, n2, h3, n3, orOf2, cellCmp]
  exact Kup_val (by simp (maxDischargeDepth := 9) only [le_self, le_puts, le_put0, h1, h2, n2, h3, n3]) rfl
def tallyCmp (a b h c d k : Int) : Int := if cellCmp a b c d = 0 then cmp3 h k else cellCmp a b c d
theorem p71 {G0 : GH} {a b h m c d k n : Int}  : Pure Try.prog G0 71 [.agg #[V a, V b, V h, V m], .agg #[V c, V d, V k, V n]] (V (tallyCmp a b h c d k)) := by
  intro G hG
  clear hG G0
  refine enter Try.func71 17 #[.tmp 4] rfl Try.ntmps71 rfl (by decide +kernel) rfl ?_
  simp (maxDischargeDepth := 9) only [↓gB, gV, gT, reduceIte, reduceCtorEq, Nat.reduceEqDiff, Nat.reduceAdd, Nat.reduceSub, Nat.reduceLeDiff, Nat.reduceLT, Int.reduceEq, Nat.reduceMul, orOf2, tallyCmp]
  refine Yn2 fun r1 h1 => ?_
  simp (maxDischargeDepth := 9) only [↓gB, gV, gT, reduceIte, reduceCtorEq, Nat.reduceEqDiff, Nat.reduceAdd, Nat.reduceSub, Nat.reduceLeDiff, Nat.reduceLT, Int.reduceEq, Nat.reduceMul, h1, orOf2, tallyCmp]
  refine Yn2 fun r2 h2 => ?_
  have n2 := h2
  simp only [put_none_eq, ne_eq] at n2
  simp (maxDischargeDepth := 9) only [↓gB, gV, gT, reduceIte, reduceCtorEq, Nat.reduceEqDiff, Nat.reduceAdd, Nat.reduceSub, Nat.reduceLeDiff, Nat.reduceLT, Int.reduceEq, Nat.reduceMul, h1, h2, n2, orOf2, tallyCmp]
  refine Xdraw_intro [0, 1, 2, 3, 5, 6, 7, 8, 4, 9, 10, 11, 12] mixed (by kernel_rfl) (by decide +kernel) ?_
  simp (maxDischargeDepth := 9) only [↓gB, gV, gT, reduceIte, reduceCtorEq, Nat.reduceEqDiff, Nat.reduceAdd, Nat.reduceSub, Nat.reduceLeDiff, Nat.reduceLT, Int.reduceEq, Nat.reduceMul, h1, h2, n2, orOf2, tallyCmp]
  refine Ycp (p60) ?_
  simp (maxDischargeDepth := 9) only [↓gB, gV, gT, reduceIte, reduceCtorEq, Nat.reduceEqDiff, Nat.reduceAdd, Nat.reduceSub, Nat.reduceLeDiff, Nat.reduceLT, Int.reduceEq, Nat.reduceMul, h1, h2, n2, orOf2, tallyCmp]
  refine Ycp (p70) ?_
  simp (maxDischargeDepth := 9) only [↓gB, gV, gT, reduceIte, reduceCtorEq, Nat.reduceEqDiff, Nat.reduceAdd, Nat.reduceSub, Nat.reduceLeDiff, Nat.reduceLT, Int.reduceEq, Nat.reduceMul, h1, h2, n2, orOf2, tallyCmp]
  refine Yn1 fun r3 h3 => ?_
  have n3 := h3
  simp only [put_none_eq, ne_eq] at n3
  simp (maxDischargeDepth := 9) only [↓gB, gV, gT, reduceIte, reduceCtorEq, Nat.reduceEqDiff, Nat.reduceAdd, Nat.reduceSub, Nat.reduceLeDiff, Nat.reduceLT, Int.reduceEq, Nat.reduceMul, h1, h2, n2, h3, n3, orOf2, tallyCmp]
  refine Ycp (p66 (by exact put_self _ _ _)) ?_
  simp (maxDischargeDepth := 9) only [↓gB, gV, gT, reduceIte, reduceCtorEq, Nat.reduceEqDiff, Nat.reduceAdd, Nat.reduceSub, Nat.reduceLeDiff, Nat.reduceLT, Int.reduceEq, Nat.reduceMul, h1, h2, n2, h3, n3, orOf2, tallyCmp]
  exact Kup_val (by simp (maxDischargeDepth := 9) only [le_self, le_puts, le_put0, h1, h2, n2, h3, n3]) rfl
theorem p83 {G0 : GH} {a b h m c d k n : Int}  : Pure Try.prog G0 83 [.agg #[V a, V b, V h, V m], .agg #[V c, V d, V k, V n]] (V (tallyCmp a b h c d k)) := by
  intro G hG
  clear hG G0
  refine enter Try.func83 17 #[.tmp 4] rfl Try.ntmps83 rfl (by decide +kernel) rfl ?_
  simp (maxDischargeDepth := 9) only [↓gB, gV, gT, reduceIte, reduceCtorEq, Nat.reduceEqDiff, Nat.reduceAdd, Nat.reduceSub, Nat.reduceLeDiff, Nat.reduceLT, Int.reduceEq, Nat.reduceMul, orOf2, tallyCmp]
  refine Yn2 fun r1 h1 => ?_
  simp (maxDischargeDepth := 9) only [↓gB, gV, gT, reduceIte, reduceCtorEq, Nat.reduceEqDiff, Nat.reduceAdd, Nat.reduceSub, Nat.reduceLeDiff, Nat.reduceLT, Int.reduceEq, Nat.reduceMul, h1, orOf2, tallyCmp]
  refine Yn2 fun r2 h2 => ?_
  have n2 := h2
  simp only [put_none_eq, ne_eq] at n2
  simp (maxDischargeDepth := 9) only [↓gB, gV, gT, reduceIte, reduceCtorEq, Nat.reduceEqDiff, Nat.reduceAdd, Nat.reduceSub, Nat.reduceLeDiff, Nat.reduceLT, Int.reduceEq, Nat.reduceMul, h1, h2, n2, orOf2, tallyCmp]
  refine Xdraw_intro [0, 1, 2, 3, 5, 6, 7, 8, 4, 9, 10, 11, 12] mixed (by kernel_rfl) (by decide +kernel) ?_
  simp (maxDischargeDepth := 9) only [↓gB, gV, gT, reduceIte, reduceCtorEq, Nat.reduceEqDiff, Nat.reduceAdd, Nat.reduceSub, Nat.reduceLeDiff, Nat.reduceLT, Int.reduceEq, Nat.reduceMul, h1, h2, n2, orOf2, tallyCmp]
  refine Ycp (p59) ?_
  simp (maxDischargeDepth := 9) only [↓gB, gV, gT, reduceIte, reduceCtorEq, Nat.reduceEqDiff, Nat.reduceAdd, Nat.reduceSub, Nat.reduceLeDiff, Nat.reduceLT, Int.reduceEq, Nat.reduceMul, h1, h2, n2, orOf2, tallyCmp]
  refine Ycp (p70) ?_
  simp (maxDischargeDepth := 9) only [↓gB, gV, gT, reduceIte, reduceCtorEq, Nat.reduceEqDiff, Nat.reduceAdd, Nat.reduceSub, Nat.reduceLeDiff, Nat.reduceLT, Int.reduceEq, Nat.reduceMul, h1, h2, n2, orOf2, tallyCmp]
  refine Yn1 fun r3 h3 => ?_
  have n3 := h3
  simp only [put_none_eq, ne_eq] at n3
  simp (maxDischargeDepth := 9) only [↓gB, gV, gT, reduceIte, reduceCtorEq, Nat.reduceEqDiff, Nat.reduceAdd, Nat.reduceSub, Nat.reduceLeDiff, Nat.reduceLT, Int.reduceEq, Nat.reduceMul, h1, h2, n2, h3, n3, orOf2, tallyCmp]
  refine Ycp (p66 (by exact put_self _ _ _)) ?_
  simp (maxDischargeDepth := 9) only [↓gB, gV, gT, reduceIte, reduceCtorEq, Nat.reduceEqDiff, Nat.reduceAdd, Nat.reduceSub, Nat.reduceLeDiff, Nat.reduceLT, Int.reduceEq, Nat.reduceMul, h1, h2, n2, h3, n3, orOf2, tallyCmp]
  exact Kup_val (by simp (maxDischargeDepth := 9) only [le_self, le_puts, le_put0, h1, h2, n2, h3, n3]) rfl
end Go.Proofs.Ytgkdbjnmlecimaa
namespace Go.Proofs.Ytgkdbjnmlecimaa
open Go Go.GL
set_option maxRecDepth 10000
set_option maxHeartbeats 0
structure Tly where
  a : Int
  b : Int
  h : Int
  k : Int
deriving DecidableEq
def rTly : Rp Tly where
  sz := 4
  R _ c cs := cs = [.int .i64 c.a, .int .i64 c.b, .int .i64 c.h, .int .i64 c.k]
  len := by rintro G x cs rfl; rfl
  ile := by rintro G G' x cs h hv; exact hv
  one := by rintro G x cs rfl; rfl
def prevOf {α : Type} (l : List α) (i : Nat) : Option α := if i = 0 then none else l[i-1]?
theorem prevOf_s {α : Type} (l : List α) (i : Nat) : prevOf l (i + 1) = l[i]? := by simp [prevOf]
theorem prevOf_z {α : Type} {l : List α} {i : Nat} (h : ¬ (0:Int) < i) : prevOf l i = none := by simp [prevOf]; omega
theorem prevOf_p {α : Type} {l : List α} {i : Nat} (h : (0:Int) < i) : prevOf l i = l[i-1]? := by simp [prevOf]; omega
def chg : Option Tly → List Tly → Int
  | _, [] => 0
  | p, x :: l => (if (p.any fun y => decide (x.a = y.a) && decide (x.b = y.b)) then 0 else 1) + chg (some x) l
theorem p56 {G0 : GH} {v : Value} {l : List Tly} (hv : RSl rTly G0 v l) (hn : (l.length : Int) ≤ 9223372036854775807) : Pure Try.prog G0 56 [v] (.bool (decide (400 < chg none l))) := by
  intro G hG; replace hv := hv.le hG
  clear hG G0
  refine enter Try.func56 31 #[.tmp 2] rfl Try.ntmps56 rfl (by decide +kernel) rfl ?_
  obtain ⟨a, c, rfl⟩ := hv.val
  simp (maxDischargeDepth := 9) only [↓gB, gV, gT, reduceIte, reduceCtorEq, Nat.reduceEqDiff, Nat.reduceAdd, Nat.reduceSub, Nat.reduceLeDiff, Nat.reduceLT, Int.reduceEq, Nat.reduceMul]
  focus
    refine Xloop_intro _ _ _ _ _ (fun k f G' => ∃ (i : Nat) (n : Int), k = l.length - i ∧ (i ≤ l.length) ∧ (0 ≤ n) ∧ (n ≤ i) ∧ (chg none l = n + chg (prevOf l i) (l.drop i)) ∧ (G = G') ∧ f 8 = V i ∧ f 3 = V n ∧ f 0 = Go.Value.slice a l.length c ∧ f 6 = Go.Value.slice a l.length c ∧ f 7 = Go.Value.int Go.IntKind.i64 ↑l.length) _ ⟨0, 0, rfl, ?_, ?_, ?_, ?_, rfl, by simp (maxDischargeDepth := 9) only [↓gB, gV, gT, reduceIte, reduceCtorEq, Nat.reduceEqDiff, Nat.reduceAdd, Nat.reduceSub, Nat.reduceLeDiff, Nat.reduceLT, Int.reduceEq, Nat.reduceMul, and_self]⟩ ?_
    · omega
    · omega
    · omega
    · (simp [prevOf]; done)
    rintro k f G' ⟨i, n, rfl, hi, h0, h1, h, rfl, f8, f3, f0, f6, f7⟩
  focus
    simp (maxDischargeDepth := 9) only [↓gB, gV, gT, reduceIte, reduceCtorEq, Nat.reduceEqDiff, Nat.reduceAdd, Nat.reduceSub, Nat.reduceLeDiff, Nat.reduceLT, Int.reduceEq, Nat.reduceMul, f8, f3, f0, f6, f7]
    refine Xc_split _ _ _ _ _ (fun c1 => ?_) (fun c1 => ?_)
    rotate_left 1
    focus
      simp (maxDischargeDepth := 9) only [↓gB, gV, gT, reduceIte, reduceCtorEq, Nat.reduceEqDiff, Nat.reduceAdd, Nat.reduceSub, Nat.reduceLeDiff, Nat.reduceLT, Int.reduceEq, Nat.reduceMul, f8, f3, f0, f6, f7, c1]
      refine Kup_val (le_refl _) ?_
      (rw [h, List.drop_eq_nil_of_le (by omega)]; simp [chg]; done)
    rotate_right 1
    simp (maxDischargeDepth := 9) only [↓gB, gV, gT, reduceIte, reduceCtorEq, Nat.reduceEqDiff, Nat.reduceAdd, Nat.reduceSub, Nat.reduceLeDiff, Nat.reduceLT, Int.reduceEq, Nat.reduceMul, f8, f3, f0, f6, f7, c1]
    obtain ⟨x1, a1, s1, m1, rfl, rfl, e1⟩ := hv.at (i) (by omega) 4 rfl
    simp (maxDischargeDepth := 9) only [↓gB, gV, gT, reduceIte, reduceCtorEq, Nat.reduceEqDiff, Nat.reduceAdd, Nat.reduceSub, Nat.reduceLeDiff, Nat.reduceLT, Int.reduceEq, Nat.reduceMul, f8, f3, f7, c1, f0, f6, e1]
    refine vguard_intro (by simp) ?_
    refine Yn2 fun r1 h1 => ?_
    simp (maxDischargeDepth := 9) only [↓gB, gV, gT, reduceIte, reduceCtorEq, Nat.reduceEqDiff, Nat.reduceAdd, Nat.reduceSub, Nat.reduceLeDiff, Nat.reduceLT, Int.reduceEq, Nat.reduceMul, f8, f3, f7, c1, f0, f6, e1, h1]
    refine Xdraw_intro [0, 1, 2, 3, 4, 5, 6, 7, 8, 9, 10, 11, 12] mixed (by kernel_rfl) (by decide +kernel) ?_
    simp (maxDischargeDepth := 9) only [↓gB, gV, gT, reduceIte, reduceCtorEq, Nat.reduceEqDiff, Nat.reduceAdd, Nat.reduceSub, Nat.reduceLeDiff, Nat.reduceLT, Int.reduceEq, Nat.reduceMul, f8, f3, f7, c1, f0, f6, e1, h1]
    by_cases c2 : (↑i : Int) = 0
    rotate_left 1
    focus
      simp (maxDischargeDepth := 9) only [↓gB, gV, gT, reduceIte, reduceCtorEq, Nat.reduceEqDiff, Nat.reduceAdd, Nat.reduceSub, Nat.reduceLeDiff, Nat.reduceLT, Int.reduceEq, Nat.reduceMul, f8, f3, f7, c1, f0, f6, e1, h1, c2]
      have q1 : Go.IntKind.i64.wrap (↑i - 1) = ↑i - 1 := wrap_id (by omega)
      simp (maxDischargeDepth := 9) only [↓gB, gV, gT, reduceIte, reduceCtorEq, Nat.reduceEqDiff, Nat.reduceAdd, Nat.reduceSub, Nat.reduceLeDiff, Nat.reduceLT, Int.reduceEq, Nat.reduceMul, f8, f3, f7, c1, f0, f6, e1, h1, c2, q1]
      refine vguard_intro (by omega) ?_
      obtain ⟨x2, s2, m2, rfl, e2⟩ := hv.at' (i - 1) (by omega) 4 rfl
      simp (maxDischargeDepth := 9) only [↓gB, gV, gT, reduceIte, reduceCtorEq, Nat.reduceEqDiff, Nat.reduceAdd, Nat.reduceSub, Nat.reduceLeDiff, Nat.reduceLT, Int.reduceEq, Nat.reduceMul, f8, f3, f7, c1, f0, f6, e1, h1, c2, q1, e2]
      by_cases c3 : (x1.a : Int) = x2.a
      rotate_left 1
      focus
        simp (maxDischargeDepth := 9) only [↓gB, gV, gT, reduceIte, reduceCtorEq, Nat.reduceEqDiff, Nat.reduceAdd, Nat.reduceSub, Nat.reduceLeDiff, Nat.reduceLT, Int.reduceEq, Nat.reduceMul, f8, f3, f7, c1, f0, f6, e1, h1, c2, q1, e2, c3]
        have q2 : Go.IntKind.i64.wrap (n + 1) = n + 1 := wrap_id (by omega)
        simp (maxDischargeDepth := 9) only [↓gB, gV, gT, reduceIte, reduceCtorEq, Nat.reduceEqDiff, Nat.reduceAdd, Nat.reduceSub, Nat.reduceLeDiff, Nat.reduceLT, Int.reduceEq, Nat.reduceMul, f8, f3, f7, c1, f0, f6, e1, h1, c2, q1, e2, c3, q2]
        have q3 : Go.IntKind.i64.wrap (↑i + 1) = ↑i + 1 := wrap_id (by omega)
        simp (maxDischargeDepth := 9) only [↓gB, gV, gT, reduceIte, reduceCtorEq, Nat.reduceEqDiff, Nat.reduceAdd, Nat.reduceSub, Nat.reduceLeDiff, Nat.reduceLT, Int.reduceEq, Nat.reduceMul, f8, f3, f7, c1, f0, f6, e1, h1, c2, q1, e2, c3, q2, q3]
        rw [N_lp]
        refine ⟨_, ?_, _, ?_, i + 1, n + 1, rfl, ?_, ?_, ?_, ?_, rfl, by simp (maxDischargeDepth := 9) only [↓gB, gV, gT, reduceIte, reduceCtorEq, Nat.reduceEqDiff, Nat.reduceAdd, Nat.reduceSub, Nat.reduceLeDiff, Nat.reduceLT, Int.reduceEq, Nat.reduceMul, f8, f3, f7, c1, f0, f6, e1, h1, c2, q1, e2, c3, q2, q3, nat_succ, and_self]⟩
        · omega
        · (simp (maxDischargeDepth := 9) only [le_self, le_puts, le_put0, sub_self, sub_puts, sub_put0, h1]; done)
        · omega
        · omega
        · omega
        · (rw [h, drop_at m1, prevOf_p (by omega), m2, prevOf_s, m1]; simp [chg, *]; try omega; done)
      rotate_right 1
      simp (maxDischargeDepth := 9) only [↓gB, gV, gT, reduceIte, reduceCtorEq, Nat.reduceEqDiff, Nat.reduceAdd, Nat.reduceSub, Nat.reduceLeDiff, Nat.reduceLT, Int.reduceEq, Nat.reduceMul, f8, f3, f7, c1, f0, f6, e1, h1, c2, q1, e2, c3]
      by_cases c4 : (x1.b : Int) = x2.b
      rotate_left 1
      focus
        simp (maxDischargeDepth := 9) only [↓gB, gV, gT, reduceIte, reduceCtorEq, Nat.reduceEqDiff, Nat.reduceAdd, Nat.reduceSub, Nat.reduceLeDiff, Nat.reduceLT, Int.reduceEq, Nat.reduceMul, f8, f3, f7, c1, f0, f6, e1, h1, c2, q1, e2, c3, c4]
        have q2 : Go.IntKind.i64.wrap (n + 1) = n + 1 := wrap_id (by omega)
        simp (maxDischargeDepth := 9) only [↓gB, gV, gT, reduceIte, reduceCtorEq, Nat.reduceEqDiff, Nat.reduceAdd, Nat.reduceSub, Nat.reduceLeDiff, Nat.reduceLT, Int.reduceEq, Nat.reduceMul, f8, f3, f7, c1, f0, f6, e1, h1, c2, q1, e2, c3, c4, q2]
        have q3 : Go.IntKind.i64.wrap (↑i + 1) = ↑i + 1 := wrap_id (by omega)
        simp (maxDischargeDepth := 9) only [↓gB, gV, gT, reduceIte, reduceCtorEq, Nat.reduceEqDiff, Nat.reduceAdd, Nat.reduceSub, Nat.reduceLeDiff, Nat.reduceLT, Int.reduceEq, Nat.reduceMul, f8, f3, f7, c1, f0, f6, e1, h1, c2, q1, e2, c3, c4, q2, q3]
        rw [N_lp]
        refine ⟨_, ?_, _, ?_, i + 1, n + 1, rfl, ?_, ?_, ?_, ?_, rfl, by simp (maxDischargeDepth := 9) only [↓gB, gV, gT, reduceIte, reduceCtorEq, Nat.reduceEqDiff, Nat.reduceAdd, Nat.reduceSub, Nat.reduceLeDiff, Nat.reduceLT, Int.reduceEq, Nat.reduceMul, f8, f3, f7, c1, f0, f6, e1, h1, c2, q1, e2, c3, c4, q2, q3, nat_succ, and_self]⟩
        · omega
        · (simp (maxDischargeDepth := 9) only [le_self, le_puts, le_put0, sub_self, sub_puts, sub_put0, h1]; done)
        · omega
        · omega
        · omega
        · (rw [h, drop_at m1, prevOf_p (by omega), m2, prevOf_s, m1]; simp [chg, *]; try omega; done)
      rotate_right 1
      simp (maxDischargeDepth := 9) only [↓gB, gV, gT, reduceIte, reduceCtorEq, Nat.reduceEqDiff, Nat.reduceAdd, Nat.reduceSub, Nat.reduceLeDiff, Nat.reduceLT, Int.reduceEq, Nat.reduceMul, f8, f3, f7, c1, f0, f6, e1, h1, c2, q1, e2, c3, c4]
      have q2 : Go.IntKind.i64.wrap (↑i + 1) = ↑i + 1 := wrap_id (by omega)
      simp (maxDischargeDepth := 9) only [↓gB, gV, gT, reduceIte, reduceCtorEq, Nat.reduceEqDiff, Nat.reduceAdd, Nat.reduceSub, Nat.reduceLeDiff, Nat.reduceLT, Int.reduceEq, Nat.reduceMul, f8, f3, f7, c1, f0, f6, e1, h1, c2, q1, e2, c3, c4, q2]
      rw [N_lp]
      refine ⟨_, ?_, _, ?_, i + 1, n, rfl, ?_, ?_, ?_, ?_, rfl, by simp (maxDischargeDepth := 9) only [↓gB, gV, gT, reduceIte, reduceCtorEq, Nat.reduceEqDiff, Nat.reduceAdd, Nat.reduceSub, Nat.reduceLeDiff, Nat.reduceLT, Int.reduceEq, Nat.reduceMul, f8, f3, f7, c1, f0, f6, e1, h1, c2, q1, e2, c3, c4, q2, nat_succ, and_self]⟩
      · omega
      · (simp (maxDischargeDepth := 9) only [le_self, le_puts, le_put0, sub_self, sub_puts, sub_put0, h1]; done)
      · omega
      · assumption
      · omega
      · (rw [h, drop_at m1, prevOf_p (by omega), m2, prevOf_s, m1]; simp [chg, *]; try omega; done)
    rotate_right 1
    simp (maxDischargeDepth := 9) only [↓gB, gV, gT, reduceIte, reduceCtorEq, Nat.reduceEqDiff, Nat.reduceAdd, Nat.reduceSub, Nat.reduceLeDiff, Nat.reduceLT, Int.reduceEq, Nat.reduceMul, f8, f3, f7, c1, f0, f6, e1, h1, c2]
    have q1 : Go.IntKind.i64.wrap (n + 1) = n + 1 := wrap_id (by omega)
    simp (maxDischargeDepth := 9) only [↓gB, gV, gT, reduceIte, reduceCtorEq, Nat.reduceEqDiff, Nat.reduceAdd, Nat.reduceSub, Nat.reduceLeDiff, Nat.reduceLT, Int.reduceEq, Nat.reduceMul, f8, f3, f7, c1, f0, f6, e1, h1, c2, q1]
    have q2 : Go.IntKind.i64.wrap (0 + 1) = 0 + 1 := wrap_id (by omega)
    simp (maxDischargeDepth := 9) only [↓gB, gV, gT, reduceIte, reduceCtorEq, Nat.reduceEqDiff, Nat.reduceAdd, Nat.reduceSub, Nat.reduceLeDiff, Nat.reduceLT, Int.reduceEq, Nat.reduceMul, f8, f3, f7, c1, f0, f6, e1, h1, c2, q1, q2]
    rw [N_lp]
    refine ⟨_, ?_, _, ?_, i + 1, n + 1, rfl, ?_, ?_, ?_, ?_, rfl, by simp (maxDischargeDepth := 9) only [↓gB, gV, gT, reduceIte, reduceCtorEq, Nat.reduceEqDiff, Nat.reduceAdd, Nat.reduceSub, Nat.reduceLeDiff, Nat.reduceLT, Int.reduceEq, Nat.reduceMul, f8, f3, f7, c1, f0, f6, e1, h1, c2, q1, q2, nat_succ, and_self]⟩
    · omega
    · (simp (maxDischargeDepth := 9) only [le_self, le_puts, le_put0, sub_self, sub_puts, sub_put0, h1]; done)
    · omega
    · omega
    · omega
    · (rw [h, drop_at m1, prevOf_z (by omega), prevOf_s, m1]; simp [chg]; try omega; done)
end Go.Proofs.Ytgkdbjnmlecimaa
namespace Go.Proofs.Ytgkdbjnmlecimaa
open Go Go.GL
set_option maxRecDepth 10000
set_option maxHeartbeats 0
abbrev Key := Int × Int × Int
def encK (k : Key) : Value := .agg #[.int .i64 k.1, .int .i64 k.2.1, .int .i64 k.2.2]
theorem encK_inj (a b : Key) (h : encK a = encK b) : a = b := by
  obtain ⟨a1, a2, a3⟩ := a; obtain ⟨b1, b2, b3⟩ := b
  simpa [encK] using h
def mkT (p : Key × Int) : Tly := ⟨p.1.1, p.1.2.1, p.1.2.2, p.2⟩
def encT (x : Tly) : List Value := [.int .i64 x.a, .int .i64 x.b, .int .i64 x.h, .int .i64 x.k]
def tcmp (x y : Tly) : Int := tallyCmp x.a x.b x.h y.a y.b y.h
def sortedT (m : List Tly) : Prop := m.Pairwise (fun x y => ¬ tcmp y x < 0)
theorem mt89 : MapTy Try.prog 89 encK V 0 := ⟨encK_inj, _, _, _, Try.underlying89, Try.underlying91, zv3, fun k l => kf91 _ _ _ fun e he => let ⟨k, h⟩ := mkE_key he; ⟨_, _, _, h⟩⟩
theorem mt94 : MapTy Try.prog 94 encK V 0 := ⟨encK_inj, _, _, _, Try.underlying94, Try.underlying96, zv3, fun k l => kf96 _ _ _ fun e he => let ⟨k, h⟩ := mkE_key he; ⟨_, _, _, h⟩⟩
structure SortSpec (g : Nat) : Prop where
  nilc : ∀ p cap G, GCalls Try.prog 82 #[.slice p 0 cap, .func (.func g) #[] #[]] G (fun u G' => u = .tuple #[] ∧ G' = G)
  row : ∀ (l : List Tly), l.length < 4611686018427387904 → ∀ {G : GH} {b cap : Nat} {c : Array Value} {e : TypeId}, G b = some (.cells c e (0, 0), true) → l.length * 4 ≤ c.size → c.toList.take (l.length * 4) = (l.map encT).flatten →
    GCalls Try.prog 82 #[.slice (some ⟨b, 0, none⟩) l.length cap, .func (.func g) #[] #[]] G (fun u G' => u = .tuple #[] ∧ ∃ l' : List Tly, l'.Perm l ∧ sortedT l' ∧
      ∃ c', c'.size = c.size ∧ c'.toList.take (l.length * 4) = (l'.map encT).flatten ∧ G' = G.put b (.cells c' e (0, 0), true))
theorem cellsofT_eq {G : GH} {xs : List Tly} {cs : List Value} (h : Cellsof rTly G xs cs) : cs = (xs.map encT).flatten := by
  obtain ⟨a, rfl, ha, hr⟩ := h
  congr 1
  apply List.ext_getElem (by simpa using ha)
  intro i h1 h2
  have := hr i xs[i] a[i] (List.getElem?_eq_getElem (by simpa using h2)) (List.getElem?_eq_getElem h1)
  simpa [encT, rTly] using this
theorem cellsofT_mk {G : GH} (xs : List Tly) : Cellsof rTly G xs (xs.map encT).flatten := ⟨xs.map encT, rfl, by simp, by
  intro i x c hx hc
  rw [List.getElem?_map, hx] at hc
  cases hc; rfl⟩
theorem SortSpec.at {g : Nat} (hS : SortSpec g) {e : TypeId} {G0 G : GH} {v : Value} {xs : List Tly} (hr : Row rTly e G0 G v xs) (hn : xs.length < 4611686018427387904) :
    GCalls Try.prog 82 #[v, .func (.func g) #[] #[]] G (fun u G' => u = .tuple #[] ∧ ∃ m : List Tly, m.Perm xs ∧ sortedT m ∧ Row rTly e G0 G' v m ∧ (G0.le G → G0.le G')) := by
  obtain ⟨cs, hov, hcs⟩ := hr
  have hceq := cellsofT_eq hcs
  have hov' := hov
  rcases hov.2 with ⟨rfl, h0⟩ | ⟨b, cap, c, rfl, h0, hb, hsz, hnc, htake⟩
  · have := List.eq_nil_of_length_eq_zero h0
    subst this
    refine (hS.nilc _ _ _).mono ?_
    rintro u G' ⟨rfl, rfl⟩
    exact ⟨rfl, [], List.Perm.refl _, List.Pairwise.nil, ⟨cs, hov', hcs⟩, id⟩
  · have hc1 : xs.length * 4 ≤ c.size := by rw [hsz]; exact Nat.mul_le_mul_right _ hnc
    refine (hS.row xs hn hb hc1 (by rw [← hceq]; exact htake)).mono ?_
    rintro u G' ⟨rfl, m, hm, hsrt, c', hsz', htk', rfl⟩
    have hml := hm.length_eq
    refine ⟨rfl, m, hm, hsrt, ⟨(m.map encT).flatten, ⟨(cellsofT_mk (G := G) m).len, .inr ⟨b, cap, c', by rw [hml], h0, put_self _ _ _, by rw [hsz', hsz], by omega, by rw [hml]; exact htk'⟩⟩, cellsofT_mk m⟩, fun hl => le_put_new hl h0 _⟩
def talliesP (q : Int → Bool) (l : List (Key × Int)) : List Tly := (l.filter (fun p => q p.2)).map mkT
theorem tl_push (q : Int → Bool) (l : List (Key × Int)) (seen : Array Nat) (i : Nat) (p : Key × Int) (hp : l[i]? = some p) : talliesP q ((seen.push i).toList.filterMap (l[·]?)) = talliesP q (seen.toList.filterMap (l[·]?)) ++ (if q p.2 then [mkT p] else []) := by
  simp only [Array.toList_push, List.filterMap_append, List.filterMap_cons, hp, List.filterMap_nil, talliesP, List.filter_append, List.map_append]
  congr 1
  by_cases h : q p.2 = true <;> simp [h]
theorem range_get {α : Type} (l : List α) : (List.range l.length).filterMap (l[·]?) = l := by
  induction l with
  | nil => rfl
  | cons p l ih =>
    rw [List.length_cons, List.range_succ_eq_map, List.filterMap_cons, List.filterMap_map]
    simp only [List.getElem?_cons_zero]
    congr 1
theorem tl_len (q : Int → Bool) (l : List (Key × Int)) (seen : Array Nat) (rest : List Nat) (h : (seen.toList ++ rest).Perm (List.range l.length)) : (talliesP q (seen.toList.filterMap (l[·]?))).length ≤ l.length := by
  have h1 := h.length_eq
  rw [List.length_append, List.length_range] at h1
  have h2 : (talliesP q (seen.toList.filterMap (l[·]?))).length ≤ (seen.toList.filterMap (l[·]?)).length := by
    unfold talliesP; rw [List.length_map]; exact List.length_filter_le _ _
  have h3 : (seen.toList.filterMap (l[·]?)).length ≤ seen.toList.length := List.length_filterMap_le _ _
  omega
theorem perm_push {seen : Array Nat} {rest : List Nat} {n i : Nat} (h : (seen.toList ++ rest).Perm (List.range n)) (hi : i < n) (hns : i ∉ seen.toList) : i ∈ rest ∧ ((seen.push i).toList ++ rest.erase i).Perm (List.range n) ∧ (rest.erase i).length < rest.length := by
  have hm : i ∈ seen.toList ++ rest := h.mem_iff.2 (List.mem_range.2 hi)
  have hr : i ∈ rest := by
    rcases List.mem_append.1 hm with h | h
    · exact absurd h hns
    · exact h
  refine ⟨hr, ?_, ?_⟩
  · rw [Array.toList_push, List.append_assoc, List.singleton_append]
    exact ((List.perm_cons_erase hr).symm.append_left _).trans h
  · have h1 := List.length_erase_of_mem hr
    have h2 := List.length_pos_of_mem hr
    omega
theorem rest_nil {seen : Array Nat} {rest : List Nat} {n : Nat} (h : (seen.toList ++ rest).Perm (List.range n)) (hall : ∀ i, i < n → i ∈ seen.toList) : rest = [] := by
  cases rest with
  | nil => rfl
  | cons j rest =>
    have hnd : (seen.toList ++ j :: rest).Nodup := h.nodup_iff.2 List.nodup_range
    have hj : j ∈ List.range n := h.mem_iff.1 (by simp)
    have := (List.nodup_append.1 hnd).2.2 j (hall j (List.mem_range.1 hj)) j (by simp)
    exact absurd rfl this
theorem g55 {G0 : GH} {r : Nat} {l : List (Key × Int)} {t : Bool} (hM : G0 r = some (mapO encK V l, t)) (hS : SortSpec 71) (hn : l.length ≤ 1048576) : Gives Try.prog G0 55 [.map (some r)] (fun u G' => ∃ m : List Tly, m.Perm (talliesP (fun n => decide (0 < n)) l) ∧ sortedT m ∧ RSl rTly G' u m) := by
  intro G hG; replace hM := hG _ _ hM
  clear hG G0
  refine enter Try.func55 27 #[.tmp 2] rfl Try.ntmps55 rfl (by decide +kernel) rfl ?_
  simp (maxDischargeDepth := 9) only [↓gB, gV, gT, reduceIte, reduceCtorEq, Nat.reduceEqDiff, Nat.reduceAdd, Nat.reduceSub, Nat.reduceLeDiff, Nat.reduceLT, Int.reduceEq, Nat.reduceMul, hM]
  refine mrange Try.underlying89 hM ?_
  intro it hit
  simp (maxDischargeDepth := 9) only [↓gB, gV, gT, reduceIte, reduceCtorEq, Nat.reduceEqDiff, Nat.reduceAdd, Nat.reduceSub, Nat.reduceLeDiff, Nat.reduceLT, Int.reduceEq, Nat.reduceMul, hM, hit]
  focus
    refine Xloop_intro _ _ _ _ _ (fun k f G' => ∃ (seen : Array Nat) (rest : List Nat) (v : Value), k = rest.length ∧ ((seen.toList ++ rest).Perm (List.range l.length)) ∧ (G' it = some (.mapIter (some r) l.length seen l.length, true)) ∧ (Row rTly 44 G G' v (talliesP (fun n => decide (0 < n)) (seen.toList.filterMap (l[·]?)))) ∧ (G.le G') ∧ f 3 = v ∧ f 7 = Go.Value.pointer (Option.some { block := it, off := 0 })) _ ⟨#[], List.range l.length, .slice none 0 0, rfl, ?_, ?_, ?_, ?_, by simp (maxDischargeDepth := 9) only [↓gB, gV, gT, reduceIte, reduceCtorEq, Nat.reduceEqDiff, Nat.reduceAdd, Nat.reduceSub, Nat.reduceLeDiff, Nat.reduceLT, Int.reduceEq, Nat.reduceMul, hM, hit, and_self]⟩ ?_
    · rfl
    · exact put_self _ _ _
    rotate_left 1
    · (simp (maxDischargeDepth := 9) only [le_self, le_puts, le_put0, sub_self, sub_puts, sub_put0, hit]; done)
    rotate_right 1
    rotate_left 1
    rintro k f G' ⟨seen, rest, v, rfl, hp, hI, hrow, hle, f3, f7⟩
    rotate_right 1
  · exact Row.nil
  simp (maxDischargeDepth := 9) only [↓gB, gV, gT, reduceIte, reduceCtorEq, Nat.reduceEqDiff, Nat.reduceAdd, Nat.reduceSub, Nat.reduceLeDiff, Nat.reduceLT, Int.reduceEq, Nat.reduceMul, hM, hit, hI, f3, f7]
  refine mnext (hle _ _ hM) hI _ ?_ ?_
  · intro i p hpi hns
    have hil : i < l.length := by
      by_cases h : i < l.length
      · exact h
      · rw [List.getElem?_eq_none (by omega)] at hpi; cases hpi
    obtain ⟨hir, hperm2, hlen2⟩ := perm_push hp hil hns
    have htl := tl_push (fun n => decide (0 < n)) l seen i p hpi
    have htn := tl_len (fun n => decide (0 < n)) l seen rest hp
    have hI2 := put_self G' it (.mapIter (some r) l.length (seen.push i) l.length, true)
    have hrow2 := Row.turn (.mapIter (some r) l.length (seen.push i) l.length, true) hI iter_ne rfl hrow
    have hle2 := le_put_new hle hit (.mapIter (some r) l.length (seen.push i) l.length, true)
    generalize G'.put it (.mapIter (some r) l.length (seen.push i) l.length, true) = G2 at *
    simp (maxDischargeDepth := 9) only [↓gB, gV, gT, reduceIte, reduceCtorEq, Nat.reduceEqDiff, Nat.reduceAdd, Nat.reduceSub, Nat.reduceLeDiff, Nat.reduceLT, Int.reduceEq, Nat.reduceMul, hM, hit, hI, f3, f7, hI2]
    refine mentry (hle2 _ _ hM) hI2 hpi ?_
    focus
      simp (maxDischargeDepth := 9) only [↓gB, gV, gT, reduceIte, reduceCtorEq, Nat.reduceEqDiff, Nat.reduceAdd, Nat.reduceSub, Nat.reduceLeDiff, Nat.reduceLT, Int.reduceEq, Nat.reduceMul, hM, hit, hI, f3, f7, hI2, encK]
      refine Yn2 fun r1 h1 => ?_
      simp (maxDischargeDepth := 9) only [↓gB, gV, gT, reduceIte, reduceCtorEq, Nat.reduceEqDiff, Nat.reduceAdd, Nat.reduceSub, Nat.reduceLeDiff, Nat.reduceLT, Int.reduceEq, Nat.reduceMul, hM, hit, hI, f3, f7, hI2, h1, encK]
      refine Xc_split _ _ _ _ _ (fun c1 => ?_) (fun c1 => ?_)
      rotate_left 1
      focus
        simp (maxDischargeDepth := 9) only [↓gB, gV, gT, reduceIte, reduceCtorEq, Nat.reduceEqDiff, Nat.reduceAdd, Nat.reduceSub, Nat.reduceLeDiff, Nat.reduceLT, Int.reduceEq, Nat.reduceMul, hM, hit, hI, f3, f7, hI2, h1, c1, encK]
      rotate_right 1
      simp (maxDischargeDepth := 9) only [↓gB, gV, gT, reduceIte, reduceCtorEq, Nat.reduceEqDiff, Nat.reduceAdd, Nat.reduceSub, Nat.reduceLeDiff, Nat.reduceLT, Int.reduceEq, Nat.reduceMul, hM, hit, hI, f3, f7, hI2, h1, c1, encK]
      refine Yn1 fun r2 h2 => ?_
      have n2 := h2
      simp only [put_none_eq, ne_eq] at n2
      simp (maxDischargeDepth := 9) only [↓gB, gV, gT, reduceIte, reduceCtorEq, Nat.reduceEqDiff, Nat.reduceAdd, Nat.reduceSub, Nat.reduceLeDiff, Nat.reduceLT, Int.reduceEq, Nat.reduceMul, hM, hit, hI, f3, f7, hI2, h1, c1, h2, n2, encK]
      refine Row.app1 sl39 (Row.le hrow2 (by simp (maxDischargeDepth := 9) only [le_self, le_puts, le_put0, sub_self, sub_puts, sub_put0, hit, hle, hle2, h1, h2, n2])) (by exact put_self _ _ _) (y := ⟨_, _, _, _⟩) rfl (by omega) (by simp (maxDischargeDepth := 9) only [le_self, le_puts, le_put0, sub_self, sub_puts, sub_put0, hit, hle, hle2, h1, h2, n2]) fun v1 G1 w1 k1 l1 => ?_
      simp (maxDischargeDepth := 9) only [↓gB, gV, gT, reduceIte, reduceCtorEq, Nat.reduceEqDiff, Nat.reduceAdd, Nat.reduceSub, Nat.reduceLeDiff, Nat.reduceLT, Int.reduceEq, Nat.reduceMul, hM, hit, hI, f3, f7, hI2, h1, c1, h2, n2, encK]
    · focus
        rw [N_lp]
        refine ⟨_, ?_, G1, ?_, seen.push i, rest.erase i, v1, rfl, ?_, ?_, ?_, ?_, by simp (maxDischargeDepth := 9) only [↓gB, gV, gT, reduceIte, reduceCtorEq, Nat.reduceEqDiff, Nat.reduceAdd, Nat.reduceSub, Nat.reduceLeDiff, Nat.reduceLT, Int.reduceEq, Nat.reduceMul, hM, hit, hI, f3, f7, hI2, h1, c1, h2, n2, nat_succ, and_self]⟩
        · assumption
        · exact sub_refl _
        · assumption
        · (exact k1 it _ (((le_put h1 _).trans (le_put h2 _)) _ _ hI2) (Row.apart hrow2 hI2 iter_ne); done)
        · (rw [htl, if_pos (by simpa using c1)]; exact w1; done)
        · assumption
    · focus
        rw [N_lp]
        refine ⟨_, ?_, G2, ?_, seen.push i, rest.erase i, v, rfl, ?_, ?_, ?_, ?_, by simp (maxDischargeDepth := 9) only [↓gB, gV, gT, reduceIte, reduceCtorEq, Nat.reduceEqDiff, Nat.reduceAdd, Nat.reduceSub, Nat.reduceLeDiff, Nat.reduceLT, Int.reduceEq, Nat.reduceMul, hM, hit, hI, f3, f7, hI2, h1, c1, nat_succ, and_self]⟩
        · assumption
        · (simp (maxDischargeDepth := 9) only [le_self, le_puts, le_put0, sub_self, sub_puts, sub_put0, hit, hle, hle2, h1]; done)
        · assumption
        · assumption
        · (rw [htl, if_neg (by simpa using c1), List.append_nil]; exact hrow2; done)
        · assumption
  · intro hall
    have hr := rest_nil hp hall
    subst hr
    rw [List.append_nil] at hp
    have htp : (talliesP (fun n => decide (0 < n)) (seen.toList.filterMap (l[·]?))).Perm (talliesP (fun n => decide (0 < n)) l) := by
      have h1 := hp.filterMap (fun i => l[i]?)
      rw [range_get] at h1
      exact (h1.filter _).map _
    have htn := tl_len (fun n => decide (0 < n)) l seen [] (by simpa using hp)
    generalize talliesP (fun n => decide (0 < n)) (seen.toList.filterMap (l[·]?)) = acc at *
    simp (maxDischargeDepth := 9) only [↓gB, gV, gT, reduceIte, reduceCtorEq, Nat.reduceEqDiff, Nat.reduceAdd, Nat.reduceSub, Nat.reduceLeDiff, Nat.reduceLT, Int.reduceEq, Nat.reduceMul, hM, hit, hI, f3, f7]
    refine Ycall_intro (md := none) (hS.at hrow (by omega)) ?_
    rintro _ G9 ⟨rfl, m, hm, hsrt, hr9, hle9⟩
    simp (maxDischargeDepth := 9) only [↓gB, gV, gT, reduceIte, reduceCtorEq, Nat.reduceEqDiff, Nat.reduceAdd, Nat.reduceSub, Nat.reduceLeDiff, Nat.reduceLT, Int.reduceEq, Nat.reduceMul, hM, hit, hI, f3, f7]
    obtain ⟨G10, hs, hl, hr⟩ := hr9.fin (hle9 hle)
    exact Kup_gives hs hl ⟨m, hm.trans htp, hsrt, hr⟩
theorem g57 {G0 : GH} {r : Nat} {l : List (Key × Int)} {t : Bool} (hM : G0 r = some (mapO encK V l, t)) (hS : SortSpec 83) (hn : l.length ≤ 1048576) : Gives Try.prog G0 57 [.map (some r)] (fun u G' => ∃ m : List Tly, m.Perm (talliesP (fun n => !decide (n = 0)) l) ∧ sortedT m ∧ RSl rTly G' u m) := by
  intro G hG; replace hM := hG _ _ hM
  clear hG G0
  refine enter Try.func57 27 #[.tmp 2] rfl Try.ntmps57 rfl (by decide +kernel) rfl ?_
  simp (maxDischargeDepth := 9) only [↓gB, gV, gT, reduceIte, reduceCtorEq, Nat.reduceEqDiff, Nat.reduceAdd, Nat.reduceSub, Nat.reduceLeDiff, Nat.reduceLT, Int.reduceEq, Nat.reduceMul, hM]
  refine mrange Try.underlying94 hM ?_
  intro it hit
  simp (maxDischargeDepth := 9) only [↓gB, gV, gT, reduceIte, reduceCtorEq, Nat.reduceEqDiff, Nat.reduceAdd, Nat.reduceSub, Nat.reduceLeDiff, Nat.reduceLT, Int.reduceEq, Nat.reduceMul, hM, hit]
  focus
    refine Xloop_intro _ _ _ _ _ (fun k f G' => ∃ (seen : Array Nat) (rest : List Nat) (v : Value), k = rest.length ∧ ((seen.toList ++ rest).Perm (List.range l.length)) ∧ (G' it = some (.mapIter (some r) l.length seen l.length, true)) ∧ (Row rTly 44 G G' v (talliesP (fun n => !decide (n = 0)) (seen.toList.filterMap (l[·]?)))) ∧ (G.le G') ∧ f 3 = v ∧ f 7 = Go.Value.pointer (Option.some { block := it, off := 0 })) _ ⟨#[], List.range l.length, .slice none 0 0, rfl, ?_, ?_, ?_, ?_, by simp (maxDischargeDepth := 9) only [↓gB, gV, gT, reduceIte, reduceCtorEq, Nat.reduceEqDiff, Nat.reduceAdd, Nat.reduceSub, Nat.reduceLeDiff, Nat.reduceLT, Int.reduceEq, Nat.reduceMul, hM, hit, and_self]⟩ ?_
    · rfl
    · exact put_self _ _ _
    rotate_left 1
    · (simp (maxDischargeDepth := 9) only [le_self, le_puts, le_put0, sub_self, sub_puts, sub_put0, hit]; done)
    rotate_right 1
    rotate_left 1
    rintro k f G' ⟨seen, rest, v, rfl, hp, hI, hrow, hle, f3, f7⟩
    rotate_right 1
  · exact Row.nil
  simp (maxDischargeDepth := 9) only [↓gB, gV, gT, reduceIte, reduceCtorEq, Nat.reduceEqDiff, Nat.reduceAdd, Nat.reduceSub, Nat.reduceLeDiff, Nat.reduceLT, Int.reduceEq, Nat.reduceMul, hM, hit, hI, f3, f7]
  refine mnext (hle _ _ hM) hI _ ?_ ?_
  · intro i p hpi hns
    have hil : i < l.length := by
      by_cases h : i < l.length
      · exact h
      · rw [List.getElem?_eq_none (by omega)] at hpi; cases hpi
    obtain ⟨hir, hperm2, hlen2⟩ := perm_push hp hil hns
    have htl := tl_push (fun n => !decide (n = 0)) l seen i p hpi
    have htn := tl_len (fun n => !decide (n = 0)) l seen rest hp
    have hI2 := put_self G' it (.mapIter (some r) l.length (seen.push i) l.length, true)
    have hrow2 := Row.turn (.mapIter (some r) l.length (seen.push i) l.length, true) hI iter_ne rfl hrow
    have hle2 := le_put_new hle hit (.mapIter (some r) l.length (seen.push i) l.length, true)
    generalize G'.put it (.mapIter (some r) l.length (seen.push i) l.length, true) = G2 at *
    simp (maxDischargeDepth := 9) only [↓gB, gV, gT, reduceIte, reduceCtorEq, Nat.reduceEqDiff, Nat.reduceAdd, Nat.reduceSub, Nat.reduceLeDiff, Nat.reduceLT, Int.reduceEq, Nat.reduceMul, hM, hit, hI, f3, f7, hI2]
    refine mentry (hle2 _ _ hM) hI2 hpi ?_
    focus
      simp (maxDischargeDepth := 9) only [↓gB, gV, gT, reduceIte, reduceCtorEq, Nat.reduceEqDiff, Nat.reduceAdd, Nat.reduceSub, Nat.reduceLeDiff, Nat.reduceLT, Int.reduceEq, Nat.reduceMul, hM, hit, hI, f3, f7, hI2, encK]
      refine Yn2 fun r1 h1 => ?_
      simp (maxDischargeDepth := 9) only [↓gB, gV, gT, reduceIte, reduceCtorEq, Nat.reduceEqDiff, Nat.reduceAdd, Nat.reduceSub, Nat.reduceLeDiff, Nat.reduceLT, Int.reduceEq, Nat.reduceMul, hM, hit, hI, f3, f7, hI2, h1, encK]
      refine Xc_split _ _ _ _ _ (fun c1 => ?_) (fun c1 => ?_)
      rotate_left 1
      focus
        simp (maxDischargeDepth := 9) only [↓gB, gV, gT, reduceIte, reduceCtorEq, Nat.reduceEqDiff, Nat.reduceAdd, Nat.reduceSub, Nat.reduceLeDiff, Nat.reduceLT, Int.reduceEq, Nat.reduceMul, hM, hit, hI, f3, f7, hI2, h1, c1, encK]
      rotate_right 1
      simp (maxDischargeDepth := 9) only [↓gB, gV, gT, reduceIte, reduceCtorEq, Nat.reduceEqDiff, Nat.reduceAdd, Nat.reduceSub, Nat.reduceLeDiff, Nat.reduceLT, Int.reduceEq, Nat.reduceMul, hM, hit, hI, f3, f7, hI2, h1, c1, encK]
      refine Yn1 fun r2 h2 => ?_
      have n2 := h2
      simp only [put_none_eq, ne_eq] at n2
      simp (maxDischargeDepth := 9) only [↓gB, gV, gT, reduceIte, reduceCtorEq, Nat.reduceEqDiff, Nat.reduceAdd, Nat.reduceSub, Nat.reduceLeDiff, Nat.reduceLT, Int.reduceEq, Nat.reduceMul, hM, hit, hI, f3, f7, hI2, h1, c1, h2, n2, encK]
      refine Row.app1 sl39 (Row.le hrow2 (by simp (maxDischargeDepth := 9) only [le_self, le_puts, le_put0, sub_self, sub_puts, sub_put0, hit, hle, hle2, h1, h2, n2])) (by exact put_self _ _ _) (y := ⟨_, _, _, _⟩) rfl (by omega) (by simp (maxDischargeDepth := 9) only [le_self, le_puts, le_put0, sub_self, sub_puts, sub_put0, hit, hle, hle2, h1, h2, n2]) fun v1 G1 w1 k1 l1 => ?_
      simp (maxDischargeDepth := 9) only [↓gB, gV, gT, reduceIte, reduceCtorEq, Nat.reduceEqDiff, Nat.reduceAdd, Nat.reduceSub, Nat.reduceLeDiff, Nat.reduceLT, Int.reduceEq, Nat.reduceMul, hM, hit, hI, f3, f7, hI2, h1, c1, h2, n2, encK]
    · focus
        rw [N_lp]
        refine ⟨_, ?_, G1, ?_, seen.push i, rest.erase i, v1, rfl, ?_, ?_, ?_, ?_, by simp (maxDischargeDepth := 9) only [↓gB, gV, gT, reduceIte, reduceCtorEq, Nat.reduceEqDiff, Nat.reduceAdd, Nat.reduceSub, Nat.reduceLeDiff, Nat.reduceLT, Int.reduceEq, Nat.reduceMul, hM, hit, hI, f3, f7, hI2, h1, c1, h2, n2, nat_succ, and_self]⟩
        · assumption
        · exact sub_refl _
        · assumption
        · (exact k1 it _ (((le_put h1 _).trans (le_put h2 _)) _ _ hI2) (Row.apart hrow2 hI2 iter_ne); done)
        · (rw [htl, if_pos (by simpa using c1)]; exact w1; done)
        · assumption
    · focus
        rw [N_lp]
        refine ⟨_, ?_, G2, ?_, seen.push i, rest.erase i, v, rfl, ?_, ?_, ?_, ?_, by simp (maxDischargeDepth := 9) only [↓gB, gV, gT, reduceIte, reduceCtorEq, Nat.reduceEqDiff, Nat.reduceAdd, Nat.reduceSub, Nat.reduceLeDiff, Nat.reduceLT, Int.reduceEq, Nat.reduceMul, hM, hit, hI, f3, f7, hI2, h1, c1, nat_succ, and_self]⟩
        · assumption
        · (simp (maxDischargeDepth := 9) only [le_self, le_puts, le_put0, sub_self, sub_puts, sub_put0, hit, hle, hle2, h1]; done)
        · assumption
        · assumption
        · (rw [htl, if_neg (by simpa using c1), List.append_nil]; exact hrow2; done)
        · assumption
  · intro hall
    have hr := rest_nil hp hall
    subst hr
    rw [List.append_nil] at hp
    have htp : (talliesP (fun n => !decide (n = 0)) (seen.toList.filterMap (l[·]?))).Perm (talliesP (fun n => !decide (n = 0)) l) := by
      have h1 := hp.filterMap (fun i => l[i]?)
      rw [range_get] at h1
      exact (h1.filter _).map _
    have htn := tl_len (fun n => !decide (n = 0)) l seen [] (by simpa using hp)
    generalize talliesP (fun n => !decide (n = 0)) (seen.toList.filterMap (l[·]?)) = acc at *
    simp (maxDischargeDepth := 9) only [↓gB, gV, gT, reduceIte, reduceCtorEq, Nat.reduceEqDiff, Nat.reduceAdd, Nat.reduceSub, Nat.reduceLeDiff, Nat.reduceLT, Int.reduceEq, Nat.reduceMul, hM, hit, hI, f3, f7]
    refine Ycall_intro (md := none) (hS.at hrow (by omega)) ?_
    rintro _ G9 ⟨rfl, m, hm, hsrt, hr9, hle9⟩
    simp (maxDischargeDepth := 9) only [↓gB, gV, gT, reduceIte, reduceCtorEq, Nat.reduceEqDiff, Nat.reduceAdd, Nat.reduceSub, Nat.reduceLeDiff, Nat.reduceLT, Int.reduceEq, Nat.reduceMul, hM, hit, hI, f3, f7]
    obtain ⟨G10, hs, hl, hr⟩ := hr9.fin (hle9 hle)
    exact Kup_gives hs hl ⟨m, hm.trans htp, hsrt, hr⟩
end Go.Proofs.Ytgkdbjnmlecimaa
namespace Go.Proofs.Ytgkdbjnmlecimaa
open Go Go.GL
set_option maxRecDepth 10000
set_option maxHeartbeats 0
theorem g36 {G0 : GH} {v : Value} {l : List Tly} (hv : RSl rTly G0 v l) (hn : l.length ≤ 1000000000) : Gives Try.prog G0 36 [v] (fun u G' => RSl rTly G' u l) := by
  intro G hG; replace hv := hv.le hG
  clear hG G0
  refine enter Try.func36 8 #[.tmp 2] rfl Try.ntmps36 rfl (by decide +kernel) rfl ?_
  obtain ⟨a, c, rfl⟩ := hv.val
  simp (maxDischargeDepth := 9) only [↓gB, gV, gT, reduceIte, reduceCtorEq, Nat.reduceEqDiff, Nat.reduceAdd, Nat.reduceSub, Nat.reduceLeDiff, Nat.reduceLT, Int.reduceEq, Nat.reduceMul]
  cases a with
  | none =>
    simp (maxDischargeDepth := 9) only [↓gB, gV, gT, reduceIte, reduceCtorEq, Nat.reduceEqDiff, Nat.reduceAdd, Nat.reduceSub, Nat.reduceLeDiff, Nat.reduceLT, Int.reduceEq, Nat.reduceMul, Option.isNone_none]
    have : l = [] := by
      cases l with
      | nil => rfl
      | cons x l => obtain ⟨ad, _, e, _⟩ := hv.get (i := 0) (x := x) rfl; cases e
    subst this
    exact Kup_gives (sub_refl _) (le_refl _) (RSl.nil _ _)
  | some ad =>
    simp (maxDischargeDepth := 9) only [↓gB, gV, gT, reduceIte, reduceCtorEq, Nat.reduceEqDiff, Nat.reduceAdd, Nat.reduceSub, Nat.reduceLeDiff, Nat.reduceLT, Int.reduceEq, Nat.reduceMul, Option.isNone_some]
    refine Yn1 fun r1 h1 => ?_
    simp (maxDischargeDepth := 9) only [↓gB, gV, gT, reduceIte, reduceCtorEq, Nat.reduceEqDiff, Nat.reduceAdd, Nat.reduceSub, Nat.reduceLeDiff, Nat.reduceLT, Int.reduceEq, Nat.reduceMul, h1, Option.isNone_some]
    obtain ⟨ds, h1, h2⟩ := (hv.le (le_put h1 (.cells #[] 44 (0, 0), true))).read
    refine Row.append sl39 (ρ := rTly) (G0 := G) (xs := []) (ys := l) ⟨[], ⟨rfl, .inr ⟨r1, 0, #[], rfl, by assumption, put_self _ _ _, rfl, Nat.le_refl _, rfl⟩⟩, Cellsof.nil _ _⟩ h1 h2 (by simp; omega) (le_put (by assumption) _) ?_
    intro v' G' hrow hk hle
    simp (maxDischargeDepth := 9) only [↓gB, gV, gT, reduceIte, reduceCtorEq, Nat.reduceEqDiff, Nat.reduceAdd, Nat.reduceSub, Nat.reduceLeDiff, Nat.reduceLT, Int.reduceEq, Nat.reduceMul, h1, hk]
    obtain ⟨G2, hs, hl, hr⟩ := hrow.fin hle
    exact Kup_gives hs hl (by simpa using hr)
theorem p20 {G0 : GH} {v w : Value} {l m : List Tly} (hv : RSl rTly G0 v l) (hw : RSl rTly G0 w m) (hn : (l.length : Int) ≤ 9223372036854775807) : Pure Try.prog G0 20 [v, w] (.bool (decide (l = m))) := by
  intro G hG; replace hv := hv.le hG; replace hw := hw.le hG
  clear hG G0
  refine enter Try.func20 26 #[.tmp 4] rfl Try.ntmps20 rfl (by decide +kernel) rfl ?_
  obtain ⟨a, c, rfl⟩ := hv.val
  obtain ⟨b, d, rfl⟩ := hw.val
  simp (maxDischargeDepth := 9) only [↓gB, gV, gT, reduceIte, reduceCtorEq, Nat.reduceEqDiff, Nat.reduceAdd, Nat.reduceSub, Nat.reduceLeDiff, Nat.reduceLT, Int.reduceEq, Nat.reduceMul]
  refine Xc_split _ _ _ _ _ (fun hlen => ?_) (fun hlen => ?_)
  · simp (maxDischargeDepth := 9) only [↓gB, gV, gT, reduceIte, reduceCtorEq, Nat.reduceEqDiff, Nat.reduceAdd, Nat.reduceSub, Nat.reduceLeDiff, Nat.reduceLT, Int.reduceEq, Nat.reduceMul]
    refine Kup_val (le_refl _) ?_
    have hne : l ≠ m := by (rintro rfl; exact hlen rfl)
    simp [hne]
  · simp (maxDischargeDepth := 9) only [↓gB, gV, gT, reduceIte, reduceCtorEq, Nat.reduceEqDiff, Nat.reduceAdd, Nat.reduceSub, Nat.reduceLeDiff, Nat.reduceLT, Int.reduceEq, Nat.reduceMul]
    focus
      refine Xloop_intro _ _ _ _ _ (fun k f G' => ∃ (i : Nat), k = l.length - i ∧ (i ≤ l.length) ∧ (l.take i = m.take i) ∧ (G = G') ∧ f 13 = V i ∧ f 0 = Go.Value.slice a l.length c ∧ f 1 = Go.Value.slice b m.length d ∧ f 12 = Go.Value.int Go.IntKind.i64 ↑l.length) _ ⟨0, rfl, ?_, ?_, rfl, by simp (maxDischargeDepth := 9) only [↓gB, gV, gT, reduceIte, reduceCtorEq, Nat.reduceEqDiff, Nat.reduceAdd, Nat.reduceSub, Nat.reduceLeDiff, Nat.reduceLT, Int.reduceEq, Nat.reduceMul, and_self]⟩ ?_
      · omega
      · rfl
      rintro k f G' ⟨i, rfl, hi, h, rfl, f13, f0, f1, f12⟩
    focus
      simp (maxDischargeDepth := 9) only [↓gB, gV, gT, reduceIte, reduceCtorEq, Nat.reduceEqDiff, Nat.reduceAdd, Nat.reduceSub, Nat.reduceLeDiff, Nat.reduceLT, Int.reduceEq, Nat.reduceMul, f13, f0, f1, f12]
      refine Xc_split _ _ _ _ _ (fun c1 => ?_) (fun c1 => ?_)
      rotate_left 1
      focus
        simp (maxDischargeDepth := 9) only [↓gB, gV, gT, reduceIte, reduceCtorEq, Nat.reduceEqDiff, Nat.reduceAdd, Nat.reduceSub, Nat.reduceLeDiff, Nat.reduceLT, Int.reduceEq, Nat.reduceMul, f13, f0, f1, f12, c1]
        refine Kup_val (le_refl _) ?_
        ((have e : l = m := by (rw [← List.take_of_length_le (l := l) (i := i) (by omega), h, List.take_of_length_le (by omega)])); simp [e]; done)
      rotate_right 1
      simp (maxDischargeDepth := 9) only [↓gB, gV, gT, reduceIte, reduceCtorEq, Nat.reduceEqDiff, Nat.reduceAdd, Nat.reduceSub, Nat.reduceLeDiff, Nat.reduceLT, Int.reduceEq, Nat.reduceMul, f13, f0, f1, f12, c1]
      refine Xdraw_intro [0, 1, 2, 3, 4, 5, 6, 7, 8] mixed (by kernel_rfl) (by decide +kernel) ?_
      simp (maxDischargeDepth := 9) only [↓gB, gV, gT, reduceIte, reduceCtorEq, Nat.reduceEqDiff, Nat.reduceAdd, Nat.reduceSub, Nat.reduceLeDiff, Nat.reduceLT, Int.reduceEq, Nat.reduceMul, f13, f0, f1, f12, c1]
      obtain ⟨x1, a1, s1, m1, rfl, rfl, e1⟩ := hv.at (i) (by omega) 4 rfl
      simp (maxDischargeDepth := 9) only [↓gB, gV, gT, reduceIte, reduceCtorEq, Nat.reduceEqDiff, Nat.reduceAdd, Nat.reduceSub, Nat.reduceLeDiff, Nat.reduceLT, Int.reduceEq, Nat.reduceMul, f13, f1, f12, c1, f0, e1]
      refine vguard_intro (by simp) ?_
      obtain ⟨x2, a2, s2, m2, rfl, rfl, e2⟩ := hw.at (i) (by omega) 4 rfl
      simp (maxDischargeDepth := 9) only [↓gB, gV, gT, reduceIte, reduceCtorEq, Nat.reduceEqDiff, Nat.reduceAdd, Nat.reduceSub, Nat.reduceLeDiff, Nat.reduceLT, Int.reduceEq, Nat.reduceMul, f13, f12, c1, f0, e1, f1, e2]
      refine vguard_intro (by omega) ?_
      by_cases c2 : (x1.a : Int) = x2.a
      rotate_left 1
      focus
        simp (maxDischargeDepth := 9) only [↓gB, gV, gT, reduceIte, reduceCtorEq, Nat.reduceEqDiff, Nat.reduceAdd, Nat.reduceSub, Nat.reduceLeDiff, Nat.reduceLT, Int.reduceEq, Nat.reduceMul, f13, f12, c1, f0, e1, f1, e2, c2]
        refine Kup_val (le_refl _) ?_
        ((have e : l ≠ m := by (rintro rfl; rw [m1] at m2; cases m2; simp_all)); simp [e]; done)
      rotate_right 1
      simp (maxDischargeDepth := 9) only [↓gB, gV, gT, reduceIte, reduceCtorEq, Nat.reduceEqDiff, Nat.reduceAdd, Nat.reduceSub, Nat.reduceLeDiff, Nat.reduceLT, Int.reduceEq, Nat.reduceMul, f13, f12, c1, f0, e1, f1, e2, c2]
      by_cases c3 : (x1.b : Int) = x2.b
      rotate_left 1
      focus
        simp (maxDischargeDepth := 9) only [↓gB, gV, gT, reduceIte, reduceCtorEq, Nat.reduceEqDiff, Nat.reduceAdd, Nat.reduceSub, Nat.reduceLeDiff, Nat.reduceLT, Int.reduceEq, Nat.reduceMul, f13, f12, c1, f0, e1, f1, e2, c2, c3]
        refine Kup_val (le_refl _) ?_
        ((have e : l ≠ m := by (rintro rfl; rw [m1] at m2; cases m2; simp_all)); simp [e]; done)
      rotate_right 1
      simp (maxDischargeDepth := 9) only [↓gB, gV, gT, reduceIte, reduceCtorEq, Nat.reduceEqDiff, Nat.reduceAdd, Nat.reduceSub, Nat.reduceLeDiff, Nat.reduceLT, Int.reduceEq, Nat.reduceMul, f13, f12, c1, f0, e1, f1, e2, c2, c3]
      by_cases c4 : (x1.h : Int) = x2.h
      rotate_left 1
      focus
        simp (maxDischargeDepth := 9) only [↓gB, gV, gT, reduceIte, reduceCtorEq, Nat.reduceEqDiff, Nat.reduceAdd, Nat.reduceSub, Nat.reduceLeDiff, Nat.reduceLT, Int.reduceEq, Nat.reduceMul, f13, f12, c1, f0, e1, f1, e2, c2, c3, c4]
        refine Kup_val (le_refl _) ?_
        ((have e : l ≠ m := by (rintro rfl; rw [m1] at m2; cases m2; simp_all)); simp [e]; done)
      rotate_right 1
      simp (maxDischargeDepth := 9) only [↓gB, gV, gT, reduceIte, reduceCtorEq, Nat.reduceEqDiff, Nat.reduceAdd, Nat.reduceSub, Nat.reduceLeDiff, Nat.reduceLT, Int.reduceEq, Nat.reduceMul, f13, f12, c1, f0, e1, f1, e2, c2, c3, c4]
      by_cases c5 : (x1.k : Int) = x2.k
      rotate_left 1
      focus
        simp (maxDischargeDepth := 9) only [↓gB, gV, gT, reduceIte, reduceCtorEq, Nat.reduceEqDiff, Nat.reduceAdd, Nat.reduceSub, Nat.reduceLeDiff, Nat.reduceLT, Int.reduceEq, Nat.reduceMul, f13, f12, c1, f0, e1, f1, e2, c2, c3, c4, c5]
        refine Kup_val (le_refl _) ?_
        ((have e : l ≠ m := by (rintro rfl; rw [m1] at m2; cases m2; simp_all)); simp [e]; done)
      rotate_right 1
      simp (maxDischargeDepth := 9) only [↓gB, gV, gT, reduceIte, reduceCtorEq, Nat.reduceEqDiff, Nat.reduceAdd, Nat.reduceSub, Nat.reduceLeDiff, Nat.reduceLT, Int.reduceEq, Nat.reduceMul, f13, f12, c1, f0, e1, f1, e2, c2, c3, c4, c5]
      have q1 : Go.IntKind.i64.wrap (↑i + 1) = ↑i + 1 := wrap_id (by omega)
      simp (maxDischargeDepth := 9) only [↓gB, gV, gT, reduceIte, reduceCtorEq, Nat.reduceEqDiff, Nat.reduceAdd, Nat.reduceSub, Nat.reduceLeDiff, Nat.reduceLT, Int.reduceEq, Nat.reduceMul, f13, f12, c1, f0, e1, f1, e2, c2, c3, c4, c5, q1]
      rw [N_lp]
      refine ⟨_, ?_, _, ?_, i + 1, rfl, ?_, ?_, rfl, by simp (maxDischargeDepth := 9) only [↓gB, gV, gT, reduceIte, reduceCtorEq, Nat.reduceEqDiff, Nat.reduceAdd, Nat.reduceSub, Nat.reduceLeDiff, Nat.reduceLT, Int.reduceEq, Nat.reduceMul, f13, f12, c1, f0, e1, f1, e2, c2, c3, c4, c5, q1, nat_succ, and_self]⟩
      · omega
      · exact sub_refl _
      · omega
      · ((have e : x1 = x2 := by (cases x1; cases x2; simp_all)); rw [take_at m1, take_at m2, h, e]; done)
theorem p103 {G0 : GH} {v : Value} {l : List Tly} {q : Tly → Bool} {g : Nat} {fa fb : List Value} (hv : RSl rTly G0 v l) (hg : GL.Enters Try.prog g) (hn : (l.length : Int) ≤ 9223372036854775807) (hf : ∀ (G0' : GH), G0.le G0' → ∀ x cs, (rTly).R G0' x cs → Pure Try.prog G0' g (fa ++ [.agg cs.toArray] ++ fb) (.bool (q x))) : Pure Try.prog G0 103 [v, .func (.func g) fa.toArray fb.toArray] (V (match l.findIdx? q with | some i => (i : Int) | none => -1)) := by
  intro G hG; replace hv := hv.le hG; replace hf := fun (G' : GH) (h : G.le G') => hf G' (hG.trans h)
  clear hG G0
  refine enter Try.func103 19 #[.tmp 4] rfl Try.ntmps103 rfl (by decide +kernel) rfl ?_
  obtain ⟨a, c, rfl⟩ := hv.val
  have hg' := eq_true hg
  simp (maxDischargeDepth := 9) only [↓gB, gV, gT, reduceIte, reduceCtorEq, Nat.reduceEqDiff, Nat.reduceAdd, Nat.reduceSub, Nat.reduceLeDiff, Nat.reduceLT, Int.reduceEq, Nat.reduceMul]
  focus
    refine Xloop_intro _ _ _ _ _ (fun k f G' => ∃ (i : Nat), k = l.length - i ∧ (i ≤ l.length) ∧ ((l.take i).findIdx? q = none) ∧ (G = G') ∧ f 8 = V i ∧ f 0 = Go.Value.slice a l.length c ∧ f 1 = Go.Value.func (Go.Fn.func g) fa.toArray fb.toArray ∧ f 7 = Go.Value.int Go.IntKind.i64 ↑l.length) _ ⟨0, rfl, ?_, ?_, rfl, by simp (maxDischargeDepth := 9) only [↓gB, gV, gT, reduceIte, reduceCtorEq, Nat.reduceEqDiff, Nat.reduceAdd, Nat.reduceSub, Nat.reduceLeDiff, Nat.reduceLT, Int.reduceEq, Nat.reduceMul, and_self]⟩ ?_
    · omega
    · rfl
    rintro k f G' ⟨i, rfl, hi, h, rfl, f8, f0, f1, f7⟩
  simp (maxDischargeDepth := 9) only [↓gB, gV, gT, reduceIte, reduceCtorEq, Nat.reduceEqDiff, Nat.reduceAdd, Nat.reduceSub, Nat.reduceLeDiff, Nat.reduceLT, Int.reduceEq, Nat.reduceMul, f8, f0, f1, f7]
  refine Xc_split _ _ _ _ _ (fun c1 => ?_) (fun c1 => ?_)
  · simp (maxDischargeDepth := 9) only [↓gB, gV, gT, reduceIte, reduceCtorEq, Nat.reduceEqDiff, Nat.reduceAdd, Nat.reduceSub, Nat.reduceLeDiff, Nat.reduceLT, Int.reduceEq, Nat.reduceMul, f8, f0, f1, f7, c1, hg']
    obtain ⟨x1, a1, s1, m1, rfl, rfl, e1⟩ := hv.at (i) (by omega) 4 rfl
    simp (maxDischargeDepth := 9) only [↓gB, gV, gT, reduceIte, reduceCtorEq, Nat.reduceEqDiff, Nat.reduceAdd, Nat.reduceSub, Nat.reduceLeDiff, Nat.reduceLT, Int.reduceEq, Nat.reduceMul, f8, f1, f7, c1, f0, e1, hg']
    refine vguard_intro (by simp) ?_
    refine Ycp (hf _ (le_refl _) x1 _ rfl) ?_
    cases hq : q x1
    · focus
        simp (maxDischargeDepth := 9) only [↓gB, gV, gT, reduceIte, reduceCtorEq, Nat.reduceEqDiff, Nat.reduceAdd, Nat.reduceSub, Nat.reduceLeDiff, Nat.reduceLT, Int.reduceEq, Nat.reduceMul, f8, f1, f7, c1, f0, e1, hq]
        have q1 : Go.IntKind.i64.wrap (↑i + 1) = ↑i + 1 := wrap_id (by omega)
        simp (maxDischargeDepth := 9) only [↓gB, gV, gT, reduceIte, reduceCtorEq, Nat.reduceEqDiff, Nat.reduceAdd, Nat.reduceSub, Nat.reduceLeDiff, Nat.reduceLT, Int.reduceEq, Nat.reduceMul, f8, f1, f7, c1, f0, e1, hq, q1]
        rw [N_lp]
        refine ⟨_, ?_, _, ?_, i + 1, rfl, ?_, ?_, rfl, by simp (maxDischargeDepth := 9) only [↓gB, gV, gT, reduceIte, reduceCtorEq, Nat.reduceEqDiff, Nat.reduceAdd, Nat.reduceSub, Nat.reduceLeDiff, Nat.reduceLT, Int.reduceEq, Nat.reduceMul, f8, f1, f7, c1, f0, e1, hq, q1, nat_succ, and_self]⟩
        · omega
        · exact sub_refl _
        · omega
        · ((rw [take_at m1, List.findIdx?_append, h]; simp [hq]); done)
    · have e := drop_at m1
      have e2 : l.findIdx? q = some i := by
        rw [← List.take_append_drop i l, List.findIdx?_append, h, e, List.findIdx?_cons, hq]; simp; omega
      simp (maxDischargeDepth := 9) only [↓gB, gV, gT, reduceIte, reduceCtorEq, Nat.reduceEqDiff, Nat.reduceAdd, Nat.reduceSub, Nat.reduceLeDiff, Nat.reduceLT, Int.reduceEq, Nat.reduceMul, f8, f1, f7, c1, f0, e1, hq]
      exact Kup_val (le_refl _) (by simp [*])
  · have e : l.findIdx? q = none := by rw [← List.take_of_length_le (l := l) (i := i) (by omega), h]
    simp (maxDischargeDepth := 9) only [↓gB, gV, gT, reduceIte, reduceCtorEq, Nat.reduceEqDiff, Nat.reduceAdd, Nat.reduceSub, Nat.reduceLeDiff, Nat.reduceLT, Int.reduceEq, Nat.reduceMul, f8, f0, f1, f7, c1]
    exact Kup_val (le_refl _) (by simp [*])
theorem p92 {G0 : GH} {v : Value} {l : List Tly} {q : Tly → Bool} {g : Nat} {fa fb : List Value} (hv : RSl rTly G0 v l) (hg : GL.Enters Try.prog g) (hn : (l.length : Int) ≤ 9223372036854775807) (hf : ∀ (G0' : GH), G0.le G0' → ∀ x cs, (rTly).R G0' x cs → Pure Try.prog G0' g (fa ++ [.agg cs.toArray] ++ fb) (.bool (q x))) : Pure Try.prog G0 92 [v, .func (.func g) fa.toArray fb.toArray] (.bool (l.any q)) := by
  intro G hG; replace hv := hv.le hG; replace hf := fun (G' : GH) (h : G.le G') => hf G' (hG.trans h)
  clear hG G0
  refine enter Try.func92 9 #[.tmp 4] rfl Try.ntmps92 rfl (by decide +kernel) rfl ?_
  have e : decide (0 ≤ (match l.findIdx? q with | some i => (i : Int) | none => -1)) = l.any q := by
    cases h : l.findIdx? q with
    | none =>
      rw [List.findIdx?_eq_none_iff] at h
      simp; exact h
    | some i =>
      rw [List.findIdx?_eq_some_iff_getElem] at h
      obtain ⟨hi, h1, _⟩ := h
      have : l.any q = true := List.any_eq_true.2 ⟨l[i], by simp, h1⟩
      rw [this]; simp
  simp (maxDischargeDepth := 9) only [↓gB, gV, gT, reduceIte, reduceCtorEq, Nat.reduceEqDiff, Nat.reduceAdd, Nat.reduceSub, Nat.reduceLeDiff, Nat.reduceLT, Int.reduceEq, Nat.reduceMul, e]
  refine Ycp (p103 (by assumption) (by assumption) (by assumption) (by assumption)) ?_
  simp (maxDischargeDepth := 9) only [↓gB, gV, gT, reduceIte, reduceCtorEq, Nat.reduceEqDiff, Nat.reduceAdd, Nat.reduceSub, Nat.reduceLeDiff, Nat.reduceLT, Int.reduceEq, Nat.reduceMul, e]
  exact Kup_val (le_refl _) rfl
theorem first_gen {G0 : GH} {l : List Int} {r : Nat} {e : TypeId} {t : Bool} {fr : Nat × Nat} (hn : (l.length : Int) ≤ 9223372036854775807) (hr : G0 r = some (.cells (l.map V).toArray e fr, t)) : Pure Try.prog G0 63 [.slice (some ⟨r, 0, none⟩) l.length l.length] (V (orOf l)) := by
  intro G hG; replace hr := hG _ _ hr; clear hG G0
  refine enter Try.func63 15 #[.tmp 2] rfl Try.ntmps63 rfl (by decide +kernel) rfl ?_
  simp (maxDischargeDepth := 9) only [↓gB, gV, gT, reduceIte, reduceCtorEq, Nat.reduceEqDiff, Nat.reduceAdd, Nat.reduceSub, Nat.reduceLeDiff, Nat.reduceLT, Int.reduceEq, Nat.reduceMul, hr]
  focus
    refine Xloop_intro _ _ _ _ _ (fun k f G' => ∃ (i : Nat), k = l.length - i ∧ (i ≤ l.length) ∧ (orOf l = orOf (l.drop i)) ∧ (G = G') ∧ f 7 = V i ∧ f 5 = Go.Value.slice (Option.some { block := r, off := 0 }) l.length l.length ∧ f 6 = Go.Value.int Go.IntKind.i64 ↑l.length) _ ⟨0, rfl, ?_, ?_, rfl, by simp (maxDischargeDepth := 9) only [↓gB, gV, gT, reduceIte, reduceCtorEq, Nat.reduceEqDiff, Nat.reduceAdd, Nat.reduceSub, Nat.reduceLeDiff, Nat.reduceLT, Int.reduceEq, Nat.reduceMul, hr, and_self]⟩ ?_
    · omega
    · rfl
    rintro k f G' ⟨i, rfl, hi, h, rfl, f7, f5, f6⟩
  simp (maxDischargeDepth := 9) only [↓gB, gV, gT, reduceIte, reduceCtorEq, Nat.reduceEqDiff, Nat.reduceAdd, Nat.reduceSub, Nat.reduceLeDiff, Nat.reduceLT, Int.reduceEq, Nat.reduceMul, hr, f7, f5, f6]
  refine Xc_split _ _ _ _ _ (fun hlt => ?_) (fun hlt => ?_)
  · obtain ⟨x, hx⟩ : ∃ x, l[i]? = some x := ⟨l[i]'(by omega), List.getElem?_eq_getElem (by omega)⟩
    have hd := drop_at hx
    focus
      simp (maxDischargeDepth := 9) only [↓gB, gV, gT, reduceIte, reduceCtorEq, Nat.reduceEqDiff, Nat.reduceAdd, Nat.reduceSub, Nat.reduceLeDiff, Nat.reduceLT, Int.reduceEq, Nat.reduceMul, hr, f7, f5, f6, List.getElem?_map, hx]
      refine vguard_intro (by omega) ?_
      refine Xc_split _ _ _ _ _ (fun c1 => ?_) (fun c1 => ?_)
      rotate_left 1
      focus
        simp (maxDischargeDepth := 9) only [↓gB, gV, gT, reduceIte, reduceCtorEq, Nat.reduceEqDiff, Nat.reduceAdd, Nat.reduceSub, Nat.reduceLeDiff, Nat.reduceLT, Int.reduceEq, Nat.reduceMul, hr, f7, f5, f6, c1, List.getElem?_map, hx]
        have q1 : Go.IntKind.i64.wrap (↑i + 1) = ↑i + 1 := wrap_id (by omega)
        simp (maxDischargeDepth := 9) only [↓gB, gV, gT, reduceIte, reduceCtorEq, Nat.reduceEqDiff, Nat.reduceAdd, Nat.reduceSub, Nat.reduceLeDiff, Nat.reduceLT, Int.reduceEq, Nat.reduceMul, hr, f7, f5, f6, c1, q1, List.getElem?_map, hx]
        rw [N_lp]
        refine ⟨_, ?_, _, ?_, i + 1, rfl, ?_, ?_, rfl, by simp (maxDischargeDepth := 9) only [↓gB, gV, gT, reduceIte, reduceCtorEq, Nat.reduceEqDiff, Nat.reduceAdd, Nat.reduceSub, Nat.reduceLeDiff, Nat.reduceLT, Int.reduceEq, Nat.reduceMul, hr, f7, f5, f6, c1, q1, List.getElem?_map, hx, nat_succ, and_self]⟩
        · omega
        · exact sub_refl _
        · omega
        · (rw [h, hd]; simp [orOf, *]; done)
      rotate_right 1
      simp (maxDischargeDepth := 9) only [↓gB, gV, gT, reduceIte, reduceCtorEq, Nat.reduceEqDiff, Nat.reduceAdd, Nat.reduceSub, Nat.reduceLeDiff, Nat.reduceLT, Int.reduceEq, Nat.reduceMul, hr, f7, f5, f6, c1, List.getElem?_map, hx]
      refine Kup_val (le_refl _) ?_
      (rw [h, hd]; simp [orOf, *]; done)
  · simp (maxDischargeDepth := 9) only [↓gB, gV, gT, reduceIte, reduceCtorEq, Nat.reduceEqDiff, Nat.reduceAdd, Nat.reduceSub, Nat.reduceLeDiff, Nat.reduceLT, Int.reduceEq, Nat.reduceMul, hr, f7, f5, f6]
    refine Kup_val (le_refl _) ?_
    (rw [h, List.drop_eq_nil_of_le (by omega)]; rfl; done)
theorem p63 {G0 : GH} {x y : Int} {r : Nat} {e : TypeId} {t : Bool} {fr : Nat × Nat} (hr : G0 r = some (.cells [V x, V y].toArray e fr, t)) : Pure Try.prog G0 63 [.slice (some ⟨r, 0, none⟩) 2 2] (V (orOf [x, y])) := first_gen (l := [x, y]) (by simp) hr
theorem p63b {G0 : GH} {x y z : Int} {r : Nat} {e : TypeId} {t : Bool} {fr : Nat × Nat} (hr : G0 r = some (.cells [V x, V y, V z].toArray e fr, t)) : Pure Try.prog G0 63 [.slice (some ⟨r, 0, none⟩) 3 3] (V (orOf [x, y, z])) := first_gen (l := [x, y, z]) (by simp) hr
def okT (x : Tly) : Bool := point x.a x.b && houred x.h && within x.k 1 1000000000
def tlyFault : Option Tly → List Tly → Int
  | _, [] => 0
  | p, x :: l => if okT x = false then 1 else if p.any (fun y => decide (tcmp x y ≤ 0)) then 7 else tlyFault (some x) l
def checkTallies (l : List Tly) : Int := if 67200 < l.length then 2 else if tlyFault none l ≠ 0 then tlyFault none l else if 400 < chg none l then 2 else 0
theorem p35 {G0 : GH} {v : Value} {l : List Tly} (hv : RSl rTly G0 v l) (hn : (l.length : Int) ≤ 9223372036854775807) : Pure Try.prog G0 35 [v] (V (checkTallies l)) := by
  intro G hG; replace hv := hv.le hG
  clear hG G0
  refine enter Try.func35 48 #[.tmp 2] rfl Try.ntmps35 rfl (by decide +kernel) rfl ?_
  obtain ⟨a, c, rfl⟩ := hv.val
  simp (maxDischargeDepth := 9) only [↓gB, gV, gT, reduceIte, reduceCtorEq, Nat.reduceEqDiff, Nat.reduceAdd, Nat.reduceSub, Nat.reduceLeDiff, Nat.reduceLT, Int.reduceEq, Nat.reduceMul]
  refine Xc_split _ _ _ _ _ (fun h0 => ?_) (fun h0 => ?_)
  · simp (maxDischargeDepth := 9) only [↓gB, gV, gT, reduceIte, reduceCtorEq, Nat.reduceEqDiff, Nat.reduceAdd, Nat.reduceSub, Nat.reduceLeDiff, Nat.reduceLT, Int.reduceEq, Nat.reduceMul]
    refine Kup_val (le_refl _) ?_
    ((have : 67200 < l.length := by omega); simp [checkTallies, this]; done)
  · have h0' : ¬ 67200 < l.length := by omega
    simp (maxDischargeDepth := 9) only [↓gB, gV, gT, reduceIte, reduceCtorEq, Nat.reduceEqDiff, Nat.reduceAdd, Nat.reduceSub, Nat.reduceLeDiff, Nat.reduceLT, Int.reduceEq, Nat.reduceMul]
    focus
      refine Xloop_intro _ _ _ _ _ (fun k f G' => ∃ (i : Nat), k = l.length - i ∧ (i ≤ l.length) ∧ (tlyFault none l = tlyFault (prevOf l i) (l.drop i)) ∧ (G = G') ∧ f 10 = V i ∧ f 0 = Go.Value.slice a l.length c ∧ f 8 = Go.Value.slice a l.length c ∧ f 9 = Go.Value.int Go.IntKind.i64 ↑l.length) _ ⟨0, rfl, ?_, ?_, rfl, by simp (maxDischargeDepth := 9) only [↓gB, gV, gT, reduceIte, reduceCtorEq, Nat.reduceEqDiff, Nat.reduceAdd, Nat.reduceSub, Nat.reduceLeDiff, Nat.reduceLT, Int.reduceEq, Nat.reduceMul, and_self]⟩ ?_
      · omega
      · rfl
      rintro k f G' ⟨i, rfl, hi, h, rfl, f10, f0, f8, f9⟩
    focus
      simp (maxDischargeDepth := 9) only [↓gB, gV, gT, reduceIte, reduceCtorEq, Nat.reduceEqDiff, Nat.reduceAdd, Nat.reduceSub, Nat.reduceLeDiff, Nat.reduceLT, Int.reduceEq, Nat.reduceMul, f10, f0, f8, f9]
      refine Xc_split _ _ _ _ _ (fun c1 => ?_) (fun c1 => ?_)
      rotate_left 1
      focus
        simp (maxDischargeDepth := 9) only [↓gB, gV, gT, reduceIte, reduceCtorEq, Nat.reduceEqDiff, Nat.reduceAdd, Nat.reduceSub, Nat.reduceLeDiff, Nat.reduceLT, Int.reduceEq, Nat.reduceMul, f10, f0, f8, f9, c1]
        refine Ycp (p56 (by assumption) (by assumption)) ?_
        simp (maxDischargeDepth := 9) only [↓gB, gV, gT, reduceIte, reduceCtorEq, Nat.reduceEqDiff, Nat.reduceAdd, Nat.reduceSub, Nat.reduceLeDiff, Nat.reduceLT, Int.reduceEq, Nat.reduceMul, f10, f0, f8, f9, c1]
        refine Xc_split _ _ _ _ _ (fun c2 => ?_) (fun c2 => ?_)
        rotate_left 1
        focus
          simp (maxDischargeDepth := 9) only [↓gB, gV, gT, reduceIte, reduceCtorEq, Nat.reduceEqDiff, Nat.reduceAdd, Nat.reduceSub, Nat.reduceLeDiff, Nat.reduceLT, Int.reduceEq, Nat.reduceMul, f10, f0, f8, f9, c1, c2]
          refine Kup_val (le_refl _) ?_
          ((have e : tlyFault none l = 0 := by (rw [h, List.drop_eq_nil_of_le (by omega)]; simp [tlyFault])); simp [checkTallies, h0', e, *]; done)
        rotate_right 1
        simp (maxDischargeDepth := 9) only [↓gB, gV, gT, reduceIte, reduceCtorEq, Nat.reduceEqDiff, Nat.reduceAdd, Nat.reduceSub, Nat.reduceLeDiff, Nat.reduceLT, Int.reduceEq, Nat.reduceMul, f10, f0, f8, f9, c1, c2]
        refine Kup_val (le_refl _) ?_
        ((have e : tlyFault none l = 0 := by (rw [h, List.drop_eq_nil_of_le (by omega)]; simp [tlyFault])); simp [checkTallies, h0', e, *]; done)
      rotate_right 1
      simp (maxDischargeDepth := 9) only [↓gB, gV, gT, reduceIte, reduceCtorEq, Nat.reduceEqDiff, Nat.reduceAdd, Nat.reduceSub, Nat.reduceLeDiff, Nat.reduceLT, Int.reduceEq, Nat.reduceMul, f10, f0, f8, f9, c1]
      obtain ⟨x1, a1, s1, m1, rfl, rfl, e1⟩ := hv.at (i) (by omega) 4 rfl
      simp (maxDischargeDepth := 9) only [↓gB, gV, gT, reduceIte, reduceCtorEq, Nat.reduceEqDiff, Nat.reduceAdd, Nat.reduceSub, Nat.reduceLeDiff, Nat.reduceLT, Int.reduceEq, Nat.reduceMul, f10, f9, c1, f0, f8, e1]
      refine vguard_intro (by simp) ?_
      refine Yn2 fun r1 h1 => ?_
      simp (maxDischargeDepth := 9) only [↓gB, gV, gT, reduceIte, reduceCtorEq, Nat.reduceEqDiff, Nat.reduceAdd, Nat.reduceSub, Nat.reduceLeDiff, Nat.reduceLT, Int.reduceEq, Nat.reduceMul, f10, f9, c1, f0, f8, e1, h1]
      refine Ycp (p48) ?_
      simp (maxDischargeDepth := 9) only [↓gB, gV, gT, reduceIte, reduceCtorEq, Nat.reduceEqDiff, Nat.reduceAdd, Nat.reduceSub, Nat.reduceLeDiff, Nat.reduceLT, Int.reduceEq, Nat.reduceMul, f10, f9, c1, f0, f8, e1, h1]
      rcases bool_tf (Go.Proofs.Ytgkdbjnmlecimaa.point x1.a x1.b) with c2 | c2
      rotate_left 1
      focus
        simp (maxDischargeDepth := 9) only [↓gB, gV, gT, reduceIte, reduceCtorEq, Nat.reduceEqDiff, Nat.reduceAdd, Nat.reduceSub, Nat.reduceLeDiff, Nat.reduceLT, Int.reduceEq, Nat.reduceMul, f10, f9, c1, f0, f8, e1, h1, c2]
        refine Kup_val (by simp (maxDischargeDepth := 9) only [le_self, le_puts, le_put0, h1]) ?_
        ((have e : tlyFault none l = 1 := by (rw [h, drop_at m1]; simp [tlyFault, okT, houred, *])); simp [checkTallies, h0', e]; done)
      rotate_right 1
      simp (maxDischargeDepth := 9) only [↓gB, gV, gT, reduceIte, reduceCtorEq, Nat.reduceEqDiff, Nat.reduceAdd, Nat.reduceSub, Nat.reduceLeDiff, Nat.reduceLT, Int.reduceEq, Nat.reduceMul, f10, f9, c1, f0, f8, e1, h1, c2]
      refine Ycp (p49) ?_
      simp (maxDischargeDepth := 9) only [↓gB, gV, gT, reduceIte, reduceCtorEq, Nat.reduceEqDiff, Nat.reduceAdd, Nat.reduceSub, Nat.reduceLeDiff, Nat.reduceLT, Int.reduceEq, Nat.reduceMul, f10, f9, c1, f0, f8, e1, h1, c2]
      rcases bool_tf (Go.Proofs.Ytgkdbjnmlecimaa.within x1.h 0 167) with c3 | c3
      rotate_left 1
      focus
        simp (maxDischargeDepth := 9) only [↓gB, gV, gT, reduceIte, reduceCtorEq, Nat.reduceEqDiff, Nat.reduceAdd, Nat.reduceSub, Nat.reduceLeDiff, Nat.reduceLT, Int.reduceEq, Nat.reduceMul, f10, f9, c1, f0, f8, e1, h1, c2, c3]
        refine Kup_val (by simp (maxDischargeDepth := 9) only [le_self, le_puts, le_put0, h1]) ?_
        ((have e : tlyFault none l = 1 := by (rw [h, drop_at m1]; simp [tlyFault, okT, houred, *])); simp [checkTallies, h0', e]; done)
      rotate_right 1
      simp (maxDischargeDepth := 9) only [↓gB, gV, gT, reduceIte, reduceCtorEq, Nat.reduceEqDiff, Nat.reduceAdd, Nat.reduceSub, Nat.reduceLeDiff, Nat.reduceLT, Int.reduceEq, Nat.reduceMul, f10, f9, c1, f0, f8, e1, h1, c2, c3]
      refine Ycp (p49) ?_
      simp (maxDischargeDepth := 9) only [↓gB, gV, gT, reduceIte, reduceCtorEq, Nat.reduceEqDiff, Nat.reduceAdd, Nat.reduceSub, Nat.reduceLeDiff, Nat.reduceLT, Int.reduceEq, Nat.reduceMul, f10, f9, c1, f0, f8, e1, h1, c2, c3]
      rcases bool_tf (Go.Proofs.Ytgkdbjnmlecimaa.within x1.k 1 1000000000) with c4 | c4
      rotate_left 1
      focus
        simp (maxDischargeDepth := 9) only [↓gB, gV, gT, reduceIte, reduceCtorEq, Nat.reduceEqDiff, Nat.reduceAdd, Nat.reduceSub, Nat.reduceLeDiff, Nat.reduceLT, Int.reduceEq, Nat.reduceMul, f10, f9, c1, f0, f8, e1, h1, c2, c3, c4]
        refine Kup_val (by simp (maxDischargeDepth := 9) only [le_self, le_puts, le_put0, h1]) ?_
        ((have e : tlyFault none l = 1 := by (rw [h, drop_at m1]; simp [tlyFault, okT, houred, *])); simp [checkTallies, h0', e]; done)
      rotate_right 1
      simp (maxDischargeDepth := 9) only [↓gB, gV, gT, reduceIte, reduceCtorEq, Nat.reduceEqDiff, Nat.reduceAdd, Nat.reduceSub, Nat.reduceLeDiff, Nat.reduceLT, Int.reduceEq, Nat.reduceMul, f10, f9, c1, f0, f8, e1, h1, c2, c3, c4]
      refine Xdraw_intro [0, 1, 2, 3, 4, 5, 6, 7, 8, 9, 10, 11] mixed (by kernel_rfl) (by decide +kernel) ?_
      simp (maxDischargeDepth := 9) only [↓gB, gV, gT, reduceIte, reduceCtorEq, Nat.reduceEqDiff, Nat.reduceAdd, Nat.reduceSub, Nat.reduceLeDiff, Nat.reduceLT, Int.reduceEq, Nat.reduceMul, f10, f9, c1, f0, f8, e1, h1, c2, c3, c4]
      by_cases c5 : (0 : Int) < ↑i
      rotate_left 1
      focus
        simp (maxDischargeDepth := 9) only [↓gB, gV, gT, reduceIte, reduceCtorEq, Nat.reduceEqDiff, Nat.reduceAdd, Nat.reduceSub, Nat.reduceLeDiff, Nat.reduceLT, Int.reduceEq, Nat.reduceMul, f10, f9, c1, f0, f8, e1, h1, c2, c3, c4, c5]
        have q1 : Go.IntKind.i64.wrap (↑i + 1) = ↑i + 1 := wrap_id (by omega)
        simp (maxDischargeDepth := 9) only [↓gB, gV, gT, reduceIte, reduceCtorEq, Nat.reduceEqDiff, Nat.reduceAdd, Nat.reduceSub, Nat.reduceLeDiff, Nat.reduceLT, Int.reduceEq, Nat.reduceMul, f10, f9, c1, f0, f8, e1, h1, c2, c3, c4, c5, q1]
        rw [N_lp]
        refine ⟨_, ?_, _, ?_, i + 1, rfl, ?_, ?_, rfl, by simp (maxDischargeDepth := 9) only [↓gB, gV, gT, reduceIte, reduceCtorEq, Nat.reduceEqDiff, Nat.reduceAdd, Nat.reduceSub, Nat.reduceLeDiff, Nat.reduceLT, Int.reduceEq, Nat.reduceMul, f10, f9, c1, f0, f8, e1, h1, c2, c3, c4, c5, q1, nat_succ, and_self]⟩
        · omega
        · (simp (maxDischargeDepth := 9) only [le_self, le_puts, le_put0, sub_self, sub_puts, sub_put0, h1]; done)
        · omega
        · (rw [h, drop_at m1, prevOf_z (by omega), prevOf_s, m1]; simp [tlyFault, okT, houred, *]; done)
      rotate_right 1
      simp (maxDischargeDepth := 9) only [↓gB, gV, gT, reduceIte, reduceCtorEq, Nat.reduceEqDiff, Nat.reduceAdd, Nat.reduceSub, Nat.reduceLeDiff, Nat.reduceLT, Int.reduceEq, Nat.reduceMul, f10, f9, c1, f0, f8, e1, h1, c2, c3, c4, c5]
      have q1 : Go.IntKind.i64.wrap (↑i - 1) = ↑i - 1 := wrap_id (by omega)
      simp (maxDischargeDepth := 9) only [↓gB, gV, gT, reduceIte, reduceCtorEq, Nat.reduceEqDiff, Nat.reduceAdd, Nat.reduceSub, Nat.reduceLeDiff, Nat.reduceLT, Int.reduceEq, Nat.reduceMul, f10, f9, c1, f0, f8, e1, h1, c2, c3, c4, c5, q1]
      refine vguard_intro (by omega) ?_
      obtain ⟨x2, s2, m2, rfl, e2⟩ := hv.at' (i - 1) (by omega) 4 rfl
      simp (maxDischargeDepth := 9) only [↓gB, gV, gT, reduceIte, reduceCtorEq, Nat.reduceEqDiff, Nat.reduceAdd, Nat.reduceSub, Nat.reduceLeDiff, Nat.reduceLT, Int.reduceEq, Nat.reduceMul, f10, f9, c1, f0, f8, e1, h1, c2, c3, c4, c5, q1, e2]
      refine Ycp (p71) ?_
      simp (maxDischargeDepth := 9) only [↓gB, gV, gT, reduceIte, reduceCtorEq, Nat.reduceEqDiff, Nat.reduceAdd, Nat.reduceSub, Nat.reduceLeDiff, Nat.reduceLT, Int.reduceEq, Nat.reduceMul, f10, f9, c1, f0, f8, e1, h1, c2, c3, c4, c5, q1, e2]
      refine Xc_split _ _ _ _ _ (fun c6 => ?_) (fun c6 => ?_)
      rotate_left 1
      focus
        simp (maxDischargeDepth := 9) only [↓gB, gV, gT, reduceIte, reduceCtorEq, Nat.reduceEqDiff, Nat.reduceAdd, Nat.reduceSub, Nat.reduceLeDiff, Nat.reduceLT, Int.reduceEq, Nat.reduceMul, f10, f9, c1, f0, f8, e1, h1, c2, c3, c4, c5, q1, e2, c6]
        have q2 : Go.IntKind.i64.wrap (↑i + 1) = ↑i + 1 := wrap_id (by omega)
        simp (maxDischargeDepth := 9) only [↓gB, gV, gT, reduceIte, reduceCtorEq, Nat.reduceEqDiff, Nat.reduceAdd, Nat.reduceSub, Nat.reduceLeDiff, Nat.reduceLT, Int.reduceEq, Nat.reduceMul, f10, f9, c1, f0, f8, e1, h1, c2, c3, c4, c5, q1, e2, c6, q2]
        rw [N_lp]
        refine ⟨_, ?_, _, ?_, i + 1, rfl, ?_, ?_, rfl, by simp (maxDischargeDepth := 9) only [↓gB, gV, gT, reduceIte, reduceCtorEq, Nat.reduceEqDiff, Nat.reduceAdd, Nat.reduceSub, Nat.reduceLeDiff, Nat.reduceLT, Int.reduceEq, Nat.reduceMul, f10, f9, c1, f0, f8, e1, h1, c2, c3, c4, c5, q1, e2, c6, q2, nat_succ, and_self]⟩
        · omega
        · (simp (maxDischargeDepth := 9) only [le_self, le_puts, le_put0, sub_self, sub_puts, sub_put0, h1]; done)
        · omega
        · (rw [h, drop_at m1, prevOf_p (by omega), m2, prevOf_s, m1]; simp [tlyFault, okT, houred, tcmp, *]; done)
      rotate_right 1
      simp (maxDischargeDepth := 9) only [↓gB, gV, gT, reduceIte, reduceCtorEq, Nat.reduceEqDiff, Nat.reduceAdd, Nat.reduceSub, Nat.reduceLeDiff, Nat.reduceLT, Int.reduceEq, Nat.reduceMul, f10, f9, c1, f0, f8, e1, h1, c2, c3, c4, c5, q1, e2, c6]
      refine Kup_val (by simp (maxDischargeDepth := 9) only [le_self, le_puts, le_put0, h1]) ?_
      ((have e : tlyFault none l = 7 := by (rw [h, drop_at m1, prevOf_p (by omega), m2]; simp [tlyFault, okT, houred, tcmp, *])); simp [checkTallies, h0', e]; done)
end Go.Proofs.Ytgkdbjnmlecimaa
namespace Go.Proofs.Ytgkdbjnmlecimaa
open Go Go.GL
set_option maxRecDepth 10000
set_option maxHeartbeats 0
def encC (k : Int × Int) : Value := .agg #[.int .i64 k.1, .int .i64 k.2]
theorem encC_inj (a b : Int × Int) (h : encC a = encC b) : a = b := by
  obtain ⟨a1, a2⟩ := a; obtain ⟨b1, b2⟩ := b
  simpa [encC] using h
theorem mt125 : MapTy Try.prog 125 encC Value.bool false := ⟨encC_inj, _, _, _, Try.underlying125, Try.underlying24, zv4, fun k l => kf24 _ _ fun e he => let ⟨k, h⟩ := mkE_key he; ⟨_, _, h⟩⟩
def cellSet (l : List Tly) : List ((Int × Int) × Bool) := l.foldl (fun m x => mset (x.a, x.b) true m) []
theorem cellSet_snoc {l : List Tly} {i : Nat} {x : Tly} (h : l[i]? = some x) : cellSet (l.take (i + 1)) = mset (x.a, x.b) true (cellSet (l.take i)) := by
  unfold cellSet; rw [take_at h, List.foldl_append]; rfl
theorem p58 {G0 : GH} {v : Value} {l : List Tly} (hv : RSl rTly G0 v l) (hn : (l.length : Int) ≤ 9223372036854775807) : Pure Try.prog G0 58 [v] (V (cellSet l).length) := by
  intro G hG; replace hv := hv.le hG
  clear hG G0
  refine enter Try.func58 19 #[.tmp 2] rfl Try.ntmps58 rfl (by decide +kernel) rfl ?_
  obtain ⟨a, c, rfl⟩ := hv.val
  simp (maxDischargeDepth := 9) only [↓gB, gV, gT, reduceIte, reduceCtorEq, Nat.reduceEqDiff, Nat.reduceAdd, Nat.reduceSub, Nat.reduceLeDiff, Nat.reduceLT, Int.reduceEq, Nat.reduceMul]
  refine Yn1 fun r1 h1 => ?_
  simp (maxDischargeDepth := 9) only [↓gB, gV, gT, reduceIte, reduceCtorEq, Nat.reduceEqDiff, Nat.reduceAdd, Nat.reduceSub, Nat.reduceLeDiff, Nat.reduceLT, Int.reduceEq, Nat.reduceMul, h1]
  focus
    refine Xloop_intro _ _ _ _ _ (fun k f G' => ∃ (i : Nat), k = l.length - i ∧ (i ≤ l.length) ∧ (G' r1 = some (mapO encC Value.bool (cellSet (l.take i)), true)) ∧ (G.le G') ∧ f 9 = V i ∧ f 3 = Go.Value.map (Option.some r1) ∧ f 7 = Go.Value.slice a l.length c ∧ f 8 = Go.Value.int Go.IntKind.i64 ↑l.length) _ ⟨0, rfl, ?_, ?_, ?_, by simp (maxDischargeDepth := 9) only [↓gB, gV, gT, reduceIte, reduceCtorEq, Nat.reduceEqDiff, Nat.reduceAdd, Nat.reduceSub, Nat.reduceLeDiff, Nat.reduceLT, Int.reduceEq, Nat.reduceMul, h1, and_self]⟩ ?_
    · omega
    · exact put_self _ _ _
    · (simp (maxDischargeDepth := 9) only [le_self, le_puts, le_put0, sub_self, sub_puts, sub_put0, h1]; done)
    rintro k f G' ⟨i, rfl, hi, hm, hle, f9, f3, f7, f8⟩
  focus
    simp (maxDischargeDepth := 9) only [↓gB, gV, gT, reduceIte, reduceCtorEq, Nat.reduceEqDiff, Nat.reduceAdd, Nat.reduceSub, Nat.reduceLeDiff, Nat.reduceLT, Int.reduceEq, Nat.reduceMul, h1, hm, f9, f3, f7, f8]
    refine Xc_split _ _ _ _ _ (fun c1 => ?_) (fun c1 => ?_)
    rotate_left 1
    focus
      simp (maxDischargeDepth := 9) only [↓gB, gV, gT, reduceIte, reduceCtorEq, Nat.reduceEqDiff, Nat.reduceAdd, Nat.reduceSub, Nat.reduceLeDiff, Nat.reduceLT, Int.reduceEq, Nat.reduceMul, h1, hm, f9, f3, f7, f8, c1]
      have p1 := mt125.len (by assumption)
      simp (maxDischargeDepth := 9) only [↓gB, gV, gT, reduceIte, reduceCtorEq, Nat.reduceEqDiff, Nat.reduceAdd, Nat.reduceSub, Nat.reduceLeDiff, Nat.reduceLT, Int.reduceEq, Nat.reduceMul, h1, hm, f9, f3, f7, f8, c1, p1]
      refine Kup_val (by simp (maxDischargeDepth := 9) only [le_self, le_puts, le_put0, h1, hle]) ?_
      (simp [List.take_of_length_le (show l.length ≤ i by omega)]; done)
    rotate_right 1
    simp (maxDischargeDepth := 9) only [↓gB, gV, gT, reduceIte, reduceCtorEq, Nat.reduceEqDiff, Nat.reduceAdd, Nat.reduceSub, Nat.reduceLeDiff, Nat.reduceLT, Int.reduceEq, Nat.reduceMul, h1, hm, f9, f3, f7, f8, c1]
    obtain ⟨x1, a1, s1, m1, rfl, rfl, e1⟩ := (RSl.le hv hle).at (i) (by omega) 4 rfl
    simp (maxDischargeDepth := 9) only [↓gB, gV, gT, reduceIte, reduceCtorEq, Nat.reduceEqDiff, Nat.reduceAdd, Nat.reduceSub, Nat.reduceLeDiff, Nat.reduceLT, Int.reduceEq, Nat.reduceMul, h1, hm, f9, f3, f8, c1, f7, e1]
    refine vguard_intro (by simp) ?_
    refine Yn2 fun r2 h2 => ?_
    simp (maxDischargeDepth := 9) only [↓gB, gV, gT, reduceIte, reduceCtorEq, Nat.reduceEqDiff, Nat.reduceAdd, Nat.reduceSub, Nat.reduceLeDiff, Nat.reduceLT, Int.reduceEq, Nat.reduceMul, h1, hm, f9, f3, f8, c1, f7, e1, h2]
    refine mt125.upd ((put_pk (by assumption) (kn_of hm)).trans hm) (_, _) rfl _ rfl ?_
    simp (maxDischargeDepth := 9) only [↓gB, gV, gT, reduceIte, reduceCtorEq, Nat.reduceEqDiff, Nat.reduceAdd, Nat.reduceSub, Nat.reduceLeDiff, Nat.reduceLT, Int.reduceEq, Nat.reduceMul, h1, hm, f9, f3, f8, c1, f7, e1, h2]
    have q1 : Go.IntKind.i64.wrap (↑i + 1) = ↑i + 1 := wrap_id (by omega)
    simp (maxDischargeDepth := 9) only [↓gB, gV, gT, reduceIte, reduceCtorEq, Nat.reduceEqDiff, Nat.reduceAdd, Nat.reduceSub, Nat.reduceLeDiff, Nat.reduceLT, Int.reduceEq, Nat.reduceMul, h1, hm, f9, f3, f8, c1, f7, e1, h2, q1]
    rw [N_lp]
    refine ⟨_, ?_, _, sub_refl _, i + 1, rfl, ?_, ?_, ?_, by simp (maxDischargeDepth := 9) only [↓gB, gV, gT, reduceIte, reduceCtorEq, Nat.reduceEqDiff, Nat.reduceAdd, Nat.reduceSub, Nat.reduceLeDiff, Nat.reduceLT, Int.reduceEq, Nat.reduceMul, h1, hm, f9, f3, f8, c1, f7, e1, h2, q1, nat_succ, and_self]⟩
    · omega
    · omega
    · (rw [cellSet_snoc m1]; exact put_self _ _ _; done)
    · (simp (maxDischargeDepth := 9) only [le_self, le_puts, le_put0, sub_self, sub_puts, sub_put0, h1, hle, h2]; done)
theorem bi_d1 (b : Bool) : decide (bi b = 0) = b := by cases b <;> rfl
theorem bi_d2 (b : Bool) : decide (¬ bi b = 0) = !b := by cases b <;> rfl
theorem cmp3_flip (a b : Int) : cmp3 b a = - cmp3 a b := by unfold cmp3; split <;> split <;> omega
theorem cellCmp_flip (a b c d : Int) : cellCmp c d a b = - cellCmp a b c d := by
  unfold cellCmp; rw [cmp3_flip a c, cmp3_flip b d]; split <;> split <;> omega
theorem tallyCmp_flip (a b h c d k : Int) : tallyCmp c d k a b h = - tallyCmp a b h c d k := by
  unfold tallyCmp; rw [cellCmp_flip a b c d, cmp3_flip h k]; split <;> split <;> omega
def checkTallies2 (l : List Tly) : Int := if 67200 < l.length then 2 else if tlyFault none l ≠ 0 then tlyFault none l else if 400 < ((cellSet l).length : Int) then 2 else 0
theorem flip_le (x y : Tly) : (0 ≤ (if cellCmp y.a y.b x.a x.b = 0 then cmp3 y.h x.h else cellCmp y.a y.b x.a x.b)) = (tcmp x y ≤ 0) := by
  have := tallyCmp_flip x.a x.b x.h y.a y.b y.h
  unfold tcmp
  rw [show (if cellCmp y.a y.b x.a x.b = 0 then cmp3 y.h x.h else cellCmp y.a y.b x.a x.b) = tallyCmp y.a y.b y.h x.a x.b x.h from rfl, this]
  apply propext; omega
theorem p34 {G0 : GH} {v : Value} {l : List Tly} (hv : RSl rTly G0 v l) (hn : (l.length : Int) ≤ 9223372036854775807) : Pure Try.prog G0 34 [v] (V (checkTallies2 l)) := by
  intro G hG; replace hv := hv.le hG
  clear hG G0
  refine enter Try.func34 64 #[.tmp 2] rfl Try.ntmps34 rfl (by decide +kernel) rfl ?_
  obtain ⟨a, c, rfl⟩ := hv.val
  simp (maxDischargeDepth := 9) only [↓gB, gV, gT, reduceIte, reduceCtorEq, Nat.reduceEqDiff, Nat.reduceAdd, Nat.reduceSub, Nat.reduceLeDiff, Nat.reduceLT, Int.reduceEq, Nat.reduceMul]
  refine Xc_split _ _ _ _ _ (fun h0 => ?_) (fun h0 => ?_)
  · simp (maxDischargeDepth := 9) only [↓gB, gV, gT, reduceIte, reduceCtorEq, Nat.reduceEqDiff, Nat.reduceAdd, Nat.reduceSub, Nat.reduceLeDiff, Nat.reduceLT, Int.reduceEq, Nat.reduceMul]
    refine Kup_val (le_refl _) ?_
    ((have : 67200 < l.length := by omega); simp [checkTallies2, this]; done)
  · have h0' : ¬ 67200 < l.length := by omega
    simp (maxDischargeDepth := 9) only [↓gB, gV, gT, reduceIte, reduceCtorEq, Nat.reduceEqDiff, Nat.reduceAdd, Nat.reduceSub, Nat.reduceLeDiff, Nat.reduceLT, Int.reduceEq, Nat.reduceMul]
    focus
      refine Xloop_intro _ _ _ _ _ (fun k f G' => ∃ (i : Nat), k = l.length - i ∧ (i ≤ l.length) ∧ (tlyFault none l = tlyFault (prevOf l i) (l.drop i)) ∧ (G = G') ∧ f 10 = V i ∧ f 0 = Go.Value.slice a l.length c ∧ f 8 = Go.Value.slice a l.length c ∧ f 9 = Go.Value.int Go.IntKind.i64 ↑l.length) _ ⟨0, rfl, ?_, ?_, rfl, by simp (maxDischargeDepth := 9) only [↓gB, gV, gT, reduceIte, reduceCtorEq, Nat.reduceEqDiff, Nat.reduceAdd, Nat.reduceSub, Nat.reduceLeDiff, Nat.reduceLT, Int.reduceEq, Nat.reduceMul, and_self]⟩ ?_
      · omega
      · rfl
      rintro k f G' ⟨i, rfl, hi, h, rfl, f10, f0, f8, f9⟩
    focus
      simp (maxDischargeDepth := 9) only [↓gB, gV, gT, reduceIte, reduceCtorEq, Nat.reduceEqDiff, Nat.reduceAdd, Nat.reduceSub, Nat.reduceLeDiff, Nat.reduceLT, Int.reduceEq, Nat.reduceMul, f10, f0, f8, f9, orOf2, flip_le, bi_d1, bi_d2]
      refine Xc_split _ _ _ _ _ (fun c1 => ?_) (fun c1 => ?_)
      rotate_left 1
      focus
        simp (maxDischargeDepth := 9) only [↓gB, gV, gT, reduceIte, reduceCtorEq, Nat.reduceEqDiff, Nat.reduceAdd, Nat.reduceSub, Nat.reduceLeDiff, Nat.reduceLT, Int.reduceEq, Nat.reduceMul, f10, f0, f8, f9, c1, orOf2, flip_le, bi_d1, bi_d2]
        refine Ycp (p58 (by assumption) (by assumption)) ?_
        simp (maxDischargeDepth := 9) only [↓gB, gV, gT, reduceIte, reduceCtorEq, Nat.reduceEqDiff, Nat.reduceAdd, Nat.reduceSub, Nat.reduceLeDiff, Nat.reduceLT, Int.reduceEq, Nat.reduceMul, f10, f0, f8, f9, c1, orOf2, flip_le, bi_d1, bi_d2]
        refine Xc_split _ _ _ _ _ (fun c2 => ?_) (fun c2 => ?_)
        rotate_left 1
        focus
          simp (maxDischargeDepth := 9) only [↓gB, gV, gT, reduceIte, reduceCtorEq, Nat.reduceEqDiff, Nat.reduceAdd, Nat.reduceSub, Nat.reduceLeDiff, Nat.reduceLT, Int.reduceEq, Nat.reduceMul, f10, f0, f8, f9, c1, c2, orOf2, flip_le, bi_d1, bi_d2]
          refine Kup_val (le_refl _) ?_
          ((have e : tlyFault none l = 0 := by (rw [h, List.drop_eq_nil_of_le (by omega)]; simp [tlyFault])); simp [checkTallies2, h0', e, *]; done)
        rotate_right 1
        simp (maxDischargeDepth := 9) only [↓gB, gV, gT, reduceIte, reduceCtorEq, Nat.reduceEqDiff, Nat.reduceAdd, Nat.reduceSub, Nat.reduceLeDiff, Nat.reduceLT, Int.reduceEq, Nat.reduceMul, f10, f0, f8, f9, c1, c2, orOf2, flip_le, bi_d1, bi_d2]
        refine Kup_val (le_refl _) ?_
        ((have e : tlyFault none l = 0 := by (rw [h, List.drop_eq_nil_of_le (by omega)]; simp [tlyFault])); simp [checkTallies2, h0', e, *]; done)
      rotate_right 1
      simp (maxDischargeDepth := 9) only [↓gB, gV, gT, reduceIte, reduceCtorEq, Nat.reduceEqDiff, Nat.reduceAdd, Nat.reduceSub, Nat.reduceLeDiff, Nat.reduceLT, Int.reduceEq, Nat.reduceMul, f10, f0, f8, f9, c1, orOf2, flip_le, bi_d1, bi_d2]
      obtain ⟨x1, a1, s1, m1, rfl, rfl, e1⟩ := hv.at (i) (by omega) 4 rfl
      simp (maxDischargeDepth := 9) only [↓gB, gV, gT, reduceIte, reduceCtorEq, Nat.reduceEqDiff, Nat.reduceAdd, Nat.reduceSub, Nat.reduceLeDiff, Nat.reduceLT, Int.reduceEq, Nat.reduceMul, f10, f9, c1, f0, f8, e1, orOf2, flip_le, bi_d1, bi_d2]
      refine vguard_intro (by simp) ?_
      refine Yn2 fun r1 h1 => ?_
      simp (maxDischargeDepth := 9) only [↓gB, gV, gT, reduceIte, reduceCtorEq, Nat.reduceEqDiff, Nat.reduceAdd, Nat.reduceSub, Nat.reduceLeDiff, Nat.reduceLT, Int.reduceEq, Nat.reduceMul, f10, f9, c1, f0, f8, e1, h1, orOf2, flip_le, bi_d1, bi_d2]
      refine Ycp (p8) ?_
      simp (maxDischargeDepth := 9) only [↓gB, gV, gT, reduceIte, reduceCtorEq, Nat.reduceEqDiff, Nat.reduceAdd, Nat.reduceSub, Nat.reduceLeDiff, Nat.reduceLT, Int.reduceEq, Nat.reduceMul, f10, f9, c1, f0, f8, e1, h1, orOf2, flip_le, bi_d1, bi_d2]
      rcases bool_tf (Go.Proofs.Ytgkdbjnmlecimaa.point x1.a x1.b) with c2 | c2
      rotate_left 1
      focus
        simp (maxDischargeDepth := 9) only [↓gB, gV, gT, reduceIte, reduceCtorEq, Nat.reduceEqDiff, Nat.reduceAdd, Nat.reduceSub, Nat.reduceLeDiff, Nat.reduceLT, Int.reduceEq, Nat.reduceMul, f10, f9, c1, f0, f8, e1, h1, c2, orOf2, flip_le, bi_d1, bi_d2]
        refine Kup_val (by simp (maxDischargeDepth := 9) only [le_self, le_puts, le_put0, h1]) ?_
        ((have e : tlyFault none l = 1 := by (rw [h, drop_at m1]; simp [tlyFault, okT, *])); simp [checkTallies2, h0', e]; done)
      rotate_right 1
      simp (maxDischargeDepth := 9) only [↓gB, gV, gT, reduceIte, reduceCtorEq, Nat.reduceEqDiff, Nat.reduceAdd, Nat.reduceSub, Nat.reduceLeDiff, Nat.reduceLT, Int.reduceEq, Nat.reduceMul, f10, f9, c1, f0, f8, e1, h1, c2, orOf2, flip_le, bi_d1, bi_d2]
      refine Ycp (p43) ?_
      simp (maxDischargeDepth := 9) only [↓gB, gV, gT, reduceIte, reduceCtorEq, Nat.reduceEqDiff, Nat.reduceAdd, Nat.reduceSub, Nat.reduceLeDiff, Nat.reduceLT, Int.reduceEq, Nat.reduceMul, f10, f9, c1, f0, f8, e1, h1, c2, orOf2, flip_le, bi_d1, bi_d2]
      rcases bool_tf (Go.Proofs.Ytgkdbjnmlecimaa.houred x1.h) with c3 | c3
      rotate_left 1
      focus
        simp (maxDischargeDepth := 9) only [↓gB, gV, gT, reduceIte, reduceCtorEq, Nat.reduceEqDiff, Nat.reduceAdd, Nat.reduceSub, Nat.reduceLeDiff, Nat.reduceLT, Int.reduceEq, Nat.reduceMul, f10, f9, c1, f0, f8, e1, h1, c2, c3, orOf2, flip_le, bi_d1, bi_d2]
        refine Kup_val (by simp (maxDischargeDepth := 9) only [le_self, le_puts, le_put0, h1]) ?_
        ((have e : tlyFault none l = 1 := by (rw [h, drop_at m1]; simp [tlyFault, okT, *])); simp [checkTallies2, h0', e]; done)
      rotate_right 1
      simp (maxDischargeDepth := 9) only [↓gB, gV, gT, reduceIte, reduceCtorEq, Nat.reduceEqDiff, Nat.reduceAdd, Nat.reduceSub, Nat.reduceLeDiff, Nat.reduceLT, Int.reduceEq, Nat.reduceMul, f10, f9, c1, f0, f8, e1, h1, c2, c3, orOf2, flip_le, bi_d1, bi_d2]
      refine Ycp (p51) ?_
      simp (maxDischargeDepth := 9) only [↓gB, gV, gT, reduceIte, reduceCtorEq, Nat.reduceEqDiff, Nat.reduceAdd, Nat.reduceSub, Nat.reduceLeDiff, Nat.reduceLT, Int.reduceEq, Nat.reduceMul, f10, f9, c1, f0, f8, e1, h1, c2, c3, orOf2, flip_le, bi_d1, bi_d2]
      rcases bool_tf (Go.Proofs.Ytgkdbjnmlecimaa.within x1.k 1 1000000000) with c4 | c4
      rotate_left 1
      focus
        simp (maxDischargeDepth := 9) only [↓gB, gV, gT, reduceIte, reduceCtorEq, Nat.reduceEqDiff, Nat.reduceAdd, Nat.reduceSub, Nat.reduceLeDiff, Nat.reduceLT, Int.reduceEq, Nat.reduceMul, f10, f9, c1, f0, f8, e1, h1, c2, c3, c4, orOf2, flip_le, bi_d1, bi_d2]
        refine Kup_val (by simp (maxDischargeDepth := 9) only [le_self, le_puts, le_put0, h1]) ?_
        ((have e : tlyFault none l = 1 := by (rw [h, drop_at m1]; simp [tlyFault, okT, *])); simp [checkTallies2, h0', e]; done)
      rotate_right 1
      simp (maxDischargeDepth := 9) only [↓gB, gV, gT, reduceIte, reduceCtorEq, Nat.reduceEqDiff, Nat.reduceAdd, Nat.reduceSub, Nat.reduceLeDiff, Nat.reduceLT, Int.reduceEq, Nat.reduceMul, f10, f9, c1, f0, f8, e1, h1, c2, c3, c4, orOf2, flip_le, bi_d1, bi_d2]
      refine Xdraw_intro [0, 1, 2, 3, 4, 5, 6, 7, 8, 9, 10, 12, 13, 14, 15, 16, 17, 18, 19, 11, 20, 21, 22, 23, 24] mixed (by kernel_rfl) (by decide +kernel) ?_
      simp (maxDischargeDepth := 9) only [↓gB, gV, gT, reduceIte, reduceCtorEq, Nat.reduceEqDiff, Nat.reduceAdd, Nat.reduceSub, Nat.reduceLeDiff, Nat.reduceLT, Int.reduceEq, Nat.reduceMul, f10, f9, c1, f0, f8, e1, h1, c2, c3, c4, orOf2, flip_le, bi_d1, bi_d2]
      by_cases c5 : (0 : Int) < ↑i
      rotate_left 1
      focus
        simp (maxDischargeDepth := 9) only [↓gB, gV, gT, reduceIte, reduceCtorEq, Nat.reduceEqDiff, Nat.reduceAdd, Nat.reduceSub, Nat.reduceLeDiff, Nat.reduceLT, Int.reduceEq, Nat.reduceMul, f10, f9, c1, f0, f8, e1, h1, c2, c3, c4, c5, orOf2, flip_le, bi_d1, bi_d2]
        have q1 : Go.IntKind.i64.wrap (↑i + 1) = ↑i + 1 := wrap_id (by omega)
        simp (maxDischargeDepth := 9) only [↓gB, gV, gT, reduceIte, reduceCtorEq, Nat.reduceEqDiff, Nat.reduceAdd, Nat.reduceSub, Nat.reduceLeDiff, Nat.reduceLT, Int.reduceEq, Nat.reduceMul, f10, f9, c1, f0, f8, e1, h1, c2, c3, c4, c5, q1, orOf2, flip_le, bi_d1, bi_d2]
        rw [N_lp]
        refine ⟨_, ?_, _, ?_, i + 1, rfl, ?_, ?_, rfl, by simp (maxDischargeDepth := 9) only [↓gB, gV, gT, reduceIte, reduceCtorEq, Nat.reduceEqDiff, Nat.reduceAdd, Nat.reduceSub, Nat.reduceLeDiff, Nat.reduceLT, Int.reduceEq, Nat.reduceMul, f10, f9, c1, f0, f8, e1, h1, c2, c3, c4, c5, q1, orOf2, flip_le, bi_d1, bi_d2, nat_succ, and_self]⟩
        · omega
        · (simp (maxDischargeDepth := 9) only [le_self, le_puts, le_put0, sub_self, sub_puts, sub_put0, h1]; done)
        · omega
        · (rw [h, drop_at m1, prevOf_z (by omega), prevOf_s, m1]; simp [tlyFault, okT, *]; done)
      rotate_right 1
      simp (maxDischargeDepth := 9) only [↓gB, gV, gT, reduceIte, reduceCtorEq, Nat.reduceEqDiff, Nat.reduceAdd, Nat.reduceSub, Nat.reduceLeDiff, Nat.reduceLT, Int.reduceEq, Nat.reduceMul, f10, f9, c1, f0, f8, e1, h1, c2, c3, c4, c5, orOf2, flip_le, bi_d1, bi_d2]
      have q1 : Go.IntKind.i64.wrap (↑i - 1) = ↑i - 1 := wrap_id (by omega)
      simp (maxDischargeDepth := 9) only [↓gB, gV, gT, reduceIte, reduceCtorEq, Nat.reduceEqDiff, Nat.reduceAdd, Nat.reduceSub, Nat.reduceLeDiff, Nat.reduceLT, Int.reduceEq, Nat.reduceMul, f10, f9, c1, f0, f8, e1, h1, c2, c3, c4, c5, q1, orOf2, flip_le, bi_d1, bi_d2]
      refine vguard_intro (by omega) ?_
      obtain ⟨x2, s2, m2, rfl, e2⟩ := hv.at' (i - 1) (by omega) 4 rfl
      simp (maxDischargeDepth := 9) only [↓gB, gV, gT, reduceIte, reduceCtorEq, Nat.reduceEqDiff, Nat.reduceAdd, Nat.reduceSub, Nat.reduceLeDiff, Nat.reduceLT, Int.reduceEq, Nat.reduceMul, f10, f9, c1, f0, f8, e1, h1, c2, c3, c4, c5, q1, e2, orOf2, flip_le, bi_d1, bi_d2]
      refine vguard_intro (by omega) ?_
      refine Ycp (p59) ?_
      simp (maxDischargeDepth := 9) only [↓gB, gV, gT, reduceIte, reduceCtorEq, Nat.reduceEqDiff, Nat.reduceAdd, Nat.reduceSub, Nat.reduceLeDiff, Nat.reduceLT, Int.reduceEq, Nat.reduceMul, f10, f9, c1, f0, f8, e1, h1, c2, c3, c4, c5, q1, e2, orOf2, flip_le, bi_d1, bi_d2]
      refine Ycp (p70) ?_
      simp (maxDischargeDepth := 9) only [↓gB, gV, gT, reduceIte, reduceCtorEq, Nat.reduceEqDiff, Nat.reduceAdd, Nat.reduceSub, Nat.reduceLeDiff, Nat.reduceLT, Int.reduceEq, Nat.reduceMul, f10, f9, c1, f0, f8, e1, h1, c2, c3, c4, c5, q1, e2, orOf2, flip_le, bi_d1, bi_d2]
      refine Yn1 fun r2 h2 => ?_
      have n2 := h2
      simp only [put_none_eq, ne_eq] at n2
      simp (maxDischargeDepth := 9) only [↓gB, gV, gT, reduceIte, reduceCtorEq, Nat.reduceEqDiff, Nat.reduceAdd, Nat.reduceSub, Nat.reduceLeDiff, Nat.reduceLT, Int.reduceEq, Nat.reduceMul, f10, f9, c1, f0, f8, e1, h1, c2, c3, c4, c5, q1, e2, h2, n2, orOf2, flip_le, bi_d1, bi_d2]
      refine Ycp (p66 (by exact put_self _ _ _)) ?_
      simp (maxDischargeDepth := 9) only [↓gB, gV, gT, reduceIte, reduceCtorEq, Nat.reduceEqDiff, Nat.reduceAdd, Nat.reduceSub, Nat.reduceLeDiff, Nat.reduceLT, Int.reduceEq, Nat.reduceMul, f10, f9, c1, f0, f8, e1, h1, c2, c3, c4, c5, q1, e2, h2, n2, orOf2, flip_le, bi_d1, bi_d2]
      refine Xc_split _ _ _ _ _ (fun c6 => ?_) (fun c6 => ?_)
      rotate_left 1
      focus
        simp (maxDischargeDepth := 9) only [↓gB, gV, gT, reduceIte, reduceCtorEq, Nat.reduceEqDiff, Nat.reduceAdd, Nat.reduceSub, Nat.reduceLeDiff, Nat.reduceLT, Int.reduceEq, Nat.reduceMul, f10, f9, c1, f0, f8, e1, h1, c2, c3, c4, c5, q1, e2, h2, n2, c6, orOf2, flip_le, bi_d1, bi_d2]
        have q2 : Go.IntKind.i64.wrap (↑i + 1) = ↑i + 1 := wrap_id (by omega)
        simp (maxDischargeDepth := 9) only [↓gB, gV, gT, reduceIte, reduceCtorEq, Nat.reduceEqDiff, Nat.reduceAdd, Nat.reduceSub, Nat.reduceLeDiff, Nat.reduceLT, Int.reduceEq, Nat.reduceMul, f10, f9, c1, f0, f8, e1, h1, c2, c3, c4, c5, q1, e2, h2, n2, c6, q2, orOf2, flip_le, bi_d1, bi_d2]
        rw [N_lp]
        refine ⟨_, ?_, _, ?_, i + 1, rfl, ?_, ?_, rfl, by simp (maxDischargeDepth := 9) only [↓gB, gV, gT, reduceIte, reduceCtorEq, Nat.reduceEqDiff, Nat.reduceAdd, Nat.reduceSub, Nat.reduceLeDiff, Nat.reduceLT, Int.reduceEq, Nat.reduceMul, f10, f9, c1, f0, f8, e1, h1, c2, c3, c4, c5, q1, e2, h2, n2, c6, q2, orOf2, flip_le, bi_d1, bi_d2, nat_succ, and_self]⟩
        · omega
        · (simp (maxDischargeDepth := 9) only [le_self, le_puts, le_put0, sub_self, sub_puts, sub_put0, h1, h2, n2]; done)
        · omega
        · (rw [h, drop_at m1, prevOf_p (by omega), m2, prevOf_s, m1]; simp [tlyFault, okT, *]; done)
      rotate_right 1
      simp (maxDischargeDepth := 9) only [↓gB, gV, gT, reduceIte, reduceCtorEq, Nat.reduceEqDiff, Nat.reduceAdd, Nat.reduceSub, Nat.reduceLeDiff, Nat.reduceLT, Int.reduceEq, Nat.reduceMul, f10, f9, c1, f0, f8, e1, h1, c2, c3, c4, c5, q1, e2, h2, n2, c6, orOf2, flip_le, bi_d1, bi_d2]
      refine Kup_val (by simp (maxDischargeDepth := 9) only [le_self, le_puts, le_put0, h1, h2, n2]) ?_
      ((have e : tlyFault none l = 7 := by (rw [h, drop_at m1, prevOf_p (by omega), m2]; simp [tlyFault, okT, *])); simp [checkTallies2, h0', e]; done)
end Go.Proofs.Ytgkdbjnmlecimaa
namespace Go.Proofs.Ytgkdbjnmlecimaa
open Go Go.GL
set_option maxRecDepth 10000
set_option maxHeartbeats 0
theorem windowed_of {a b : Int} (h : windowed a b = true) : 0 ≤ a ∧ a ≤ b ∧ b ≤ 345686400000 := by
  simp only [windowed, Bool.and_eq_true, decide_eq_true_eq, within_iff] at h; omega
theorem gcd_step {x y : Int} (hx : 0 ≤ x) (hy : 0 ≤ y) (h : ¬ y = 0) : 0 ≤ x.tmod y ∧ (x.tmod y).toNat < y.toNat ∧ y.toNat.gcd (x.tmod y).toNat = x.toNat.gcd y.toNat := by
  obtain ⟨m, rfl⟩ := Int.eq_ofNat_of_zero_le hx
  obtain ⟨n, rfl⟩ := Int.eq_ofNat_of_zero_le hy
  rw [← Int.ofNat_tmod]
  simp only [Int.toNat_natCast]
  have hn : 0 < n := by omega
  refine ⟨by omega, Nat.mod_lt _ hn, ?_⟩
  rw [Nat.gcd_comm m n, Nat.gcd_rec n m, Nat.gcd_comm]
theorem p95 {G0 : GH} {a b : Int} (ha : 0 ≤ a) (hb : 0 ≤ b) : Pure Try.prog G0 95 [V a, V b] (V (Nat.gcd a.toNat b.toNat)) := by
  intro G hG
  clear hG G0
  refine enter Try.func95 12 #[.tmp 4] rfl Try.ntmps95 rfl (by decide +kernel) rfl ?_
  simp (maxDischargeDepth := 9) only [↓gB, gV, gT, reduceIte, reduceCtorEq, Nat.reduceEqDiff, Nat.reduceAdd, Nat.reduceSub, Nat.reduceLeDiff, Nat.reduceLT, Int.reduceEq, Nat.reduceMul]
  focus
    refine Xloop_intro _ _ _ _ _ (fun k f G' => ∃ (x : Int) (y : Int), k = y.toNat ∧ (0 ≤ x) ∧ (0 ≤ y) ∧ (Nat.gcd a.toNat b.toNat = Nat.gcd x.toNat y.toNat) ∧ (G = G') ∧ f 0 = V x ∧ f 1 = V y) _ ⟨a, b, rfl, ?_, ?_, ?_, rfl, by simp (maxDischargeDepth := 9) only [↓gB, gV, gT, reduceIte, reduceCtorEq, Nat.reduceEqDiff, Nat.reduceAdd, Nat.reduceSub, Nat.reduceLeDiff, Nat.reduceLT, Int.reduceEq, Nat.reduceMul, and_self]⟩ ?_
    · assumption
    · assumption
    · rfl
    rintro k f G' ⟨x, y, rfl, hx, hy, h, rfl, f0, f1⟩
  focus
    simp (maxDischargeDepth := 9) only [↓gB, gV, gT, reduceIte, reduceCtorEq, Nat.reduceEqDiff, Nat.reduceAdd, Nat.reduceSub, Nat.reduceLeDiff, Nat.reduceLT, Int.reduceEq, Nat.reduceMul, f0, f1]
    refine Xc_split _ _ _ _ _ (fun c1 => ?_) (fun c1 => ?_)
    rotate_left 1
    focus
      simp (maxDischargeDepth := 9) only [↓gB, gV, gT, reduceIte, reduceCtorEq, Nat.reduceEqDiff, Nat.reduceAdd, Nat.reduceSub, Nat.reduceLeDiff, Nat.reduceLT, Int.reduceEq, Nat.reduceMul, f0, f1, c1]
      refine Kup_val (le_refl _) ?_
      ((have e : y = 0 := by omega); subst e; simp [h, Int.toNat_of_nonneg hx]; done)
    rotate_right 1
    simp (maxDischargeDepth := 9) only [↓gB, gV, gT, reduceIte, reduceCtorEq, Nat.reduceEqDiff, Nat.reduceAdd, Nat.reduceSub, Nat.reduceLeDiff, Nat.reduceLT, Int.reduceEq, Nat.reduceMul, f0, f1, c1]
    refine Xdraw_intro [0, 1, 2, 3, 4, 5] mixed (by kernel_rfl) (by decide +kernel) ?_
    simp (maxDischargeDepth := 9) only [↓gB, gV, gT, reduceIte, reduceCtorEq, Nat.reduceEqDiff, Nat.reduceAdd, Nat.reduceSub, Nat.reduceLeDiff, Nat.reduceLT, Int.reduceEq, Nat.reduceMul, f0, f1, c1]
    have q1 : Int.tmod (x) (y) = (x) % (y) := Int.tmod_eq_emod_of_nonneg (by omega)
    simp (maxDischargeDepth := 9) only [↓gB, gV, gT, reduceIte, reduceCtorEq, Nat.reduceEqDiff, Nat.reduceAdd, Nat.reduceSub, Nat.reduceLeDiff, Nat.reduceLT, Int.reduceEq, Nat.reduceMul, f0, f1, c1, q1]
    rw [N_lp]
    refine ⟨_, ?_, _, ?_, y, x.tmod y, rfl, ?_, ?_, ?_, rfl, by simp (maxDischargeDepth := 9) only [↓gB, gV, gT, reduceIte, reduceCtorEq, Nat.reduceEqDiff, Nat.reduceAdd, Nat.reduceSub, Nat.reduceLeDiff, Nat.reduceLT, Int.reduceEq, Nat.reduceMul, f0, f1, c1, q1, nat_succ, and_self]⟩
    · (exact (gcd_step hx hy c1).2.1; done)
    · exact sub_refl _
    · assumption
    · (exact (gcd_step hx hy c1).1; done)
    · (rw [h, (gcd_step hx hy c1).2.2]; done)
theorem p80 {G0 : GH} {a b : Int} (ha : 0 ≤ a) (hb : 0 ≤ b) : Pure Try.prog G0 80 [V a, V b] (V (Nat.gcd a.toNat b.toNat)) := by
  intro G hG
  clear hG G0
  refine enter Try.func80 12 #[.tmp 4] rfl Try.ntmps80 rfl (by decide +kernel) rfl ?_
  simp (maxDischargeDepth := 9) only [↓gB, gV, gT, reduceIte, reduceCtorEq, Nat.reduceEqDiff, Nat.reduceAdd, Nat.reduceSub, Nat.reduceLeDiff, Nat.reduceLT, Int.reduceEq, Nat.reduceMul]
  focus
    refine Xloop_intro _ _ _ _ _ (fun k f G' => ∃ (x : Int) (y : Int), k = y.toNat ∧ (0 ≤ x) ∧ (0 ≤ y) ∧ (Nat.gcd a.toNat b.toNat = Nat.gcd x.toNat y.toNat) ∧ (G = G') ∧ f 0 = V x ∧ f 1 = V y) _ ⟨a, b, rfl, ?_, ?_, ?_, rfl, by simp (maxDischargeDepth := 9) only [↓gB, gV, gT, reduceIte, reduceCtorEq, Nat.reduceEqDiff, Nat.reduceAdd, Nat.reduceSub, Nat.reduceLeDiff, Nat.reduceLT, Int.reduceEq, Nat.reduceMul, and_self]⟩ ?_
    · assumption
    · assumption
    · rfl
    rintro k f G' ⟨x, y, rfl, hx, hy, h, rfl, f0, f1⟩
  focus
    simp (maxDischargeDepth := 9) only [↓gB, gV, gT, reduceIte, reduceCtorEq, Nat.reduceEqDiff, Nat.reduceAdd, Nat.reduceSub, Nat.reduceLeDiff, Nat.reduceLT, Int.reduceEq, Nat.reduceMul, f0, f1]
    refine Xc_split _ _ _ _ _ (fun c1 => ?_) (fun c1 => ?_)
    rotate_left 1
    focus
      simp (maxDischargeDepth := 9) only [↓gB, gV, gT, reduceIte, reduceCtorEq, Nat.reduceEqDiff, Nat.reduceAdd, Nat.reduceSub, Nat.reduceLeDiff, Nat.reduceLT, Int.reduceEq, Nat.reduceMul, f0, f1, c1]
      refine Kup_val (le_refl _) ?_
      ((have e : y = 0 := by omega); subst e; simp [h, Int.toNat_of_nonneg hx]; done)
    rotate_right 1
    simp (maxDischargeDepth := 9) only [↓gB, gV, gT, reduceIte, reduceCtorEq, Nat.reduceEqDiff, Nat.reduceAdd, Nat.reduceSub, Nat.reduceLeDiff, Nat.reduceLT, Int.reduceEq, Nat.reduceMul, f0, f1, c1]
    refine Xdraw_intro [0, 1, 2, 3, 4, 5] mixed (by kernel_rfl) (by decide +kernel) ?_
    simp (maxDischargeDepth := 9) only [↓gB, gV, gT, reduceIte, reduceCtorEq, Nat.reduceEqDiff, Nat.reduceAdd, Nat.reduceSub, Nat.reduceLeDiff, Nat.reduceLT, Int.reduceEq, Nat.reduceMul, f0, f1, c1]
    have q1 : Int.tmod (x) (y) = (x) % (y) := Int.tmod_eq_emod_of_nonneg (by omega)
    simp (maxDischargeDepth := 9) only [↓gB, gV, gT, reduceIte, reduceCtorEq, Nat.reduceEqDiff, Nat.reduceAdd, Nat.reduceSub, Nat.reduceLeDiff, Nat.reduceLT, Int.reduceEq, Nat.reduceMul, f0, f1, c1, q1]
    rw [N_lp]
    refine ⟨_, ?_, _, ?_, y, x.tmod y, rfl, ?_, ?_, ?_, rfl, by simp (maxDischargeDepth := 9) only [↓gB, gV, gT, reduceIte, reduceCtorEq, Nat.reduceEqDiff, Nat.reduceAdd, Nat.reduceSub, Nat.reduceLeDiff, Nat.reduceLT, Int.reduceEq, Nat.reduceMul, f0, f1, c1, q1, nat_succ, and_self]⟩
    · (exact (gcd_step hx hy c1).2.1; done)
    · exact sub_refl _
    · assumption
    · (exact (gcd_step hx hy c1).1; done)
    · (rw [h, (gcd_step hx hy c1).2.2]; done)
def lowest (n d : Int) : Value := .agg #[V (n.tdiv (Nat.gcd n.toNat d.toNat)), V (d.tdiv (Nat.gcd n.toNat d.toNat))]
theorem gcd_ne {n d : Int} (hd : 0 < d) : ¬ ((Nat.gcd n.toNat d.toNat : Nat) : Int) = 0 := by
  have := Nat.gcd_pos_of_pos_right n.toNat (show 0 < d.toNat by omega)
  omega
theorem tdiv_small {n : Int} {g : Nat} (h0 : 0 ≤ n) (h1 : n ≤ 1000000000000) : IntKind.i64.wrap (n.tdiv g) = n.tdiv g := by
  have := Int.tdiv_nonneg h0 (show (0:Int) ≤ g by omega)
  have := Int.natAbs_tdiv_le_natAbs n g
  exact wrap_id (by omega)
theorem p79 {G0 : GH} {n d : Int} (hn : 0 ≤ n) (hn2 : n ≤ 1000000000000) (hd : 0 < d) (hd2 : d ≤ 1000000000000) : Pure Try.prog G0 79 [V n, V d] (lowest n d) := by
  intro G hG
  clear hG G0
  refine enter Try.func79 19 #[.cell 4 79] rfl Try.ntmps79 rfl (by decide +kernel) rfl ?_
  have hm : (if n < -n then -n else n) = n := by rw [if_neg (by omega)]
  have hg := gcd_ne (n := n) hd
  have hg' : (¬ ((Nat.gcd n.toNat d.toNat : Nat) : Int) = 0) = True := eq_true hg
  simp (maxDischargeDepth := 9) only [↓gB, gV, gT, reduceIte, reduceCtorEq, Nat.reduceEqDiff, Nat.reduceAdd, Nat.reduceSub, Nat.reduceLeDiff, Nat.reduceLT, Int.reduceEq, Nat.reduceMul, hm, tdiv_small hn hn2, tdiv_small (Int.le_of_lt hd) hd2, hg', Int.zero_sub, lowest]
  refine Yn2 fun r1 h1 => ?_
  simp (maxDischargeDepth := 9) only [↓gB, gV, gT, reduceIte, reduceCtorEq, Nat.reduceEqDiff, Nat.reduceAdd, Nat.reduceSub, Nat.reduceLeDiff, Nat.reduceLT, Int.reduceEq, Nat.reduceMul, h1, hm, tdiv_small hn hn2, tdiv_small (Int.le_of_lt hd) hd2, hg', Int.zero_sub, lowest]
  refine Ycp (p95 (by omega) (by omega)) ?_
  simp (maxDischargeDepth := 9) only [↓gB, gV, gT, reduceIte, reduceCtorEq, Nat.reduceEqDiff, Nat.reduceAdd, Nat.reduceSub, Nat.reduceLeDiff, Nat.reduceLT, Int.reduceEq, Nat.reduceMul, h1, hm, tdiv_small hn hn2, tdiv_small (Int.le_of_lt hd) hd2, hg', Int.zero_sub, lowest]
  refine Xdraw_intro [0, 1, 2, 3, 4, 5, 6, 7] mixed (by kernel_rfl) (by decide +kernel) ?_
  simp (maxDischargeDepth := 9) only [↓gB, gV, gT, reduceIte, reduceCtorEq, Nat.reduceEqDiff, Nat.reduceAdd, Nat.reduceSub, Nat.reduceLeDiff, Nat.reduceLT, Int.reduceEq, Nat.reduceMul, h1, hm, tdiv_small hn hn2, tdiv_small (Int.le_of_lt hd) hd2, hg', Int.zero_sub, lowest]
  refine vguard_intro (by simp; omega) ?_
  refine vguard_intro (by simp; omega) ?_
  refine Kup_val (by simp (maxDischargeDepth := 9) only [le_self, le_puts, le_put0, h1]) ?_
  have q1 : Int.tdiv (n) (↑((if Go.IntKind.i64.wrap (-n) > n then Go.IntKind.i64.wrap (-n) else n).toNat.gcd d.toNat)) = (n) / (↑((if Go.IntKind.i64.wrap (-n) > n then Go.IntKind.i64.wrap (-n) else n).toNat.gcd d.toNat)) := Int.tdiv_eq_ediv_of_nonneg (by omega)
  simp (maxDischargeDepth := 9) only [↓gB, gV, gT, reduceIte, reduceCtorEq, Nat.reduceEqDiff, Nat.reduceAdd, Nat.reduceSub, Nat.reduceLeDiff, Nat.reduceLT, Int.reduceEq, Nat.reduceMul, h1, q1, hm, tdiv_small hn hn2, tdiv_small (Int.le_of_lt hd) hd2, hg', Int.zero_sub, lowest]
  have q2 : Go.IntKind.i64.wrap (-n) = -n := wrap_id (by omega)
  simp (maxDischargeDepth := 9) only [↓gB, gV, gT, reduceIte, reduceCtorEq, Nat.reduceEqDiff, Nat.reduceAdd, Nat.reduceSub, Nat.reduceLeDiff, Nat.reduceLT, Int.reduceEq, Nat.reduceMul, h1, q1, q2, hm, tdiv_small hn hn2, tdiv_small (Int.le_of_lt hd) hd2, hg', Int.zero_sub, lowest]
  have q3 : Int.tdiv (d) (↑(n.toNat.gcd d.toNat)) = (d) / (↑(n.toNat.gcd d.toNat)) := Int.tdiv_eq_ediv_of_nonneg (by omega)
  simp (maxDischargeDepth := 9) only [↓gB, gV, gT, reduceIte, reduceCtorEq, Nat.reduceEqDiff, Nat.reduceAdd, Nat.reduceSub, Nat.reduceLeDiff, Nat.reduceLT, Int.reduceEq, Nat.reduceMul, h1, q1, q2, q3, hm, tdiv_small hn hn2, tdiv_small (Int.le_of_lt hd) hd2, hg', Int.zero_sub, lowest]
  have q4 : Int.tdiv (n) (↑(n.toNat.gcd d.toNat)) = (n) / (↑(n.toNat.gcd d.toNat)) := Int.tdiv_eq_ediv_of_nonneg (by omega)
  simp (maxDischargeDepth := 9) only [↓gB, gV, gT, reduceIte, reduceCtorEq, Nat.reduceEqDiff, Nat.reduceAdd, Nat.reduceSub, Nat.reduceLeDiff, Nat.reduceLT, Int.reduceEq, Nat.reduceMul, h1, q1, q2, q3, q4, hm, tdiv_small hn hn2, tdiv_small (Int.le_of_lt hd) hd2, hg', Int.zero_sub, lowest]
theorem p46 {G0 : GH} {n d : Int} (hn : 0 ≤ n) (hn2 : n ≤ 1000000000000) (hd : 0 < d) (hd2 : d ≤ 1000000000000) : Pure Try.prog G0 46 [V n, V d] (lowest n d) := by
  intro G hG
  clear hG G0
  refine enter Try.func46 19 #[.cell 4 79] rfl Try.ntmps46 rfl (by decide +kernel) rfl ?_
  have hm : (if n < -n then -n else n) = n := by rw [if_neg (by omega)]
  have hg := gcd_ne (n := n) hd
  have hg' : (¬ ((Nat.gcd n.toNat d.toNat : Nat) : Int) = 0) = True := eq_true hg
  simp (maxDischargeDepth := 9) only [↓gB, gV, gT, reduceIte, reduceCtorEq, Nat.reduceEqDiff, Nat.reduceAdd, Nat.reduceSub, Nat.reduceLeDiff, Nat.reduceLT, Int.reduceEq, Nat.reduceMul, hm, tdiv_small hn hn2, tdiv_small (Int.le_of_lt hd) hd2, hg', Int.zero_sub, lowest]
  refine Yn2 fun r1 h1 => ?_
  simp (maxDischargeDepth := 9) only [↓gB, gV, gT, reduceIte, reduceCtorEq, Nat.reduceEqDiff, Nat.reduceAdd, Nat.reduceSub, Nat.reduceLeDiff, Nat.reduceLT, Int.reduceEq, Nat.reduceMul, h1, hm, tdiv_small hn hn2, tdiv_small (Int.le_of_lt hd) hd2, hg', Int.zero_sub, lowest]
  refine Ycp (p80 (by omega) (by omega)) ?_
  simp (maxDischargeDepth := 9) only [↓gB, gV, gT, reduceIte, reduceCtorEq, Nat.reduceEqDiff, Nat.reduceAdd, Nat.reduceSub, Nat.reduceLeDiff, Nat.reduceLT, Int.reduceEq, Nat.reduceMul, h1, hm, tdiv_small hn hn2, tdiv_small (Int.le_of_lt hd) hd2, hg', Int.zero_sub, lowest]
  refine Xdraw_intro [0, 1, 2, 3, 4, 5, 6, 7] mixed (by kernel_rfl) (by decide +kernel) ?_
  simp (maxDischargeDepth := 9) only [↓gB, gV, gT, reduceIte, reduceCtorEq, Nat.reduceEqDiff, Nat.reduceAdd, Nat.reduceSub, Nat.reduceLeDiff, Nat.reduceLT, Int.reduceEq, Nat.reduceMul, h1, hm, tdiv_small hn hn2, tdiv_small (Int.le_of_lt hd) hd2, hg', Int.zero_sub, lowest]
  refine vguard_intro (by simp; omega) ?_
  refine vguard_intro (by simp; omega) ?_
  refine Kup_val (by simp (maxDischargeDepth := 9) only [le_self, le_puts, le_put0, h1]) ?_
  have q1 : Int.tdiv (n) (↑((if Go.IntKind.i64.wrap (-n) > n then Go.IntKind.i64.wrap (-n) else n).toNat.gcd d.toNat)) = (n) / (↑((if Go.IntKind.i64.wrap (-n) > n then Go.IntKind.i64.wrap (-n) else n).toNat.gcd d.toNat)) := Int.tdiv_eq_ediv_of_nonneg (by omega)
  simp (maxDischargeDepth := 9) only [↓gB, gV, gT, reduceIte, reduceCtorEq, Nat.reduceEqDiff, Nat.reduceAdd, Nat.reduceSub, Nat.reduceLeDiff, Nat.reduceLT, Int.reduceEq, Nat.reduceMul, h1, q1, hm, tdiv_small hn hn2, tdiv_small (Int.le_of_lt hd) hd2, hg', Int.zero_sub, lowest]
  have q2 : Go.IntKind.i64.wrap (-n) = -n := wrap_id (by omega)
  simp (maxDischargeDepth := 9) only [↓gB, gV, gT, reduceIte, reduceCtorEq, Nat.reduceEqDiff, Nat.reduceAdd, Nat.reduceSub, Nat.reduceLeDiff, Nat.reduceLT, Int.reduceEq, Nat.reduceMul, h1, q1, q2, hm, tdiv_small hn hn2, tdiv_small (Int.le_of_lt hd) hd2, hg', Int.zero_sub, lowest]
  have q3 : Int.tdiv (d) (↑(n.toNat.gcd d.toNat)) = (d) / (↑(n.toNat.gcd d.toNat)) := Int.tdiv_eq_ediv_of_nonneg (by omega)
  simp (maxDischargeDepth := 9) only [↓gB, gV, gT, reduceIte, reduceCtorEq, Nat.reduceEqDiff, Nat.reduceAdd, Nat.reduceSub, Nat.reduceLeDiff, Nat.reduceLT, Int.reduceEq, Nat.reduceMul, h1, q1, q2, q3, hm, tdiv_small hn hn2, tdiv_small (Int.le_of_lt hd) hd2, hg', Int.zero_sub, lowest]
  have q4 : Int.tdiv (n) (↑(n.toNat.gcd d.toNat)) = (n) / (↑(n.toNat.gcd d.toNat)) := Int.tdiv_eq_ediv_of_nonneg (by omega)
  simp (maxDischargeDepth := 9) only [↓gB, gV, gT, reduceIte, reduceCtorEq, Nat.reduceEqDiff, Nat.reduceAdd, Nat.reduceSub, Nat.reduceLeDiff, Nat.reduceLT, Int.reduceEq, Nat.reduceMul, h1, q1, q2, q3, q4, hm, tdiv_small hn hn2, tdiv_small (Int.le_of_lt hd) hd2, hg', Int.zero_sub, lowest]
def weeksN (a b z h : Int) : Int := if a + (h * 3600000 - z * 60000 - a) % 604800000 ≥ b then 0 else (b - 1 - (a + (h * 3600000 - z * 60000 - a) % 604800000)) / 604800000 + 1
theorem fdiv_eq (x s : Int) (hs : 0 < s) (h1 : -4611686018427387904 ≤ x) (h2 : x ≤ 4611686018427387904) : fdiv x s = x / s := by
  have hb1 : x.tdiv s ≤ 4611686018427387904 ∧ -4611686018427387904 ≤ x.tdiv s := by
    have := Int.natAbs_tdiv_le_natAbs x s
    omega
  have hw : IntKind.i64.wrap (x.tdiv s) = x.tdiv s := wrap_id (by omega)
  have hw2 : IntKind.i64.wrap (x.tdiv s - 1) = x.tdiv s - 1 := wrap_id (by omega)
  unfold fdiv
  rw [hw, hw2]
  have hm := Int.tmod_add_mul_tdiv x s
  by_cases hx : 0 ≤ x
  · have h3 : x.tdiv s = x / s := Int.tdiv_eq_ediv_of_nonneg hx
    have h4 : 0 ≤ x.tmod s := Int.tmod_nonneg s hx
    rw [if_neg (by omega), h3]
  · have h5 : -s < x.tmod s := Int.lt_tmod_of_pos x hs
    have h6 : x.tmod s ≤ 0 := by
      have := Int.tmod_nonneg s (show 0 ≤ -x by omega)
      rw [Int.neg_tmod] at this; omega
    by_cases h7 : x.tmod s < 0
    · rw [if_pos h7]
      symm
      rw [Int.ediv_eq_iff_of_pos hs]
      rw [Int.sub_mul, Int.mul_comm (x.tdiv s) s]
      omega
    · have h8 : x.tmod s = 0 := by omega
      rw [if_neg h7]
      symm
      rw [Int.ediv_eq_iff_of_pos hs, Int.mul_comm (x.tdiv s) s]
      omega
theorem inWeek_eq {t : Int} (h1 : -4611686018427387904 ≤ t) (h2 : t ≤ 4611686018427387904) : inWeek t = t % 604800000 := by
  unfold inWeek w64
  rw [fdiv_eq t _ (by decide) h1 h2]
  have e1 : IntKind.i64.wrap (t / 604800000 * 604800000) = t / 604800000 * 604800000 := wrap_id (by omega)
  have e2 : IntKind.i64.wrap (t - t / 604800000 * 604800000) = t - t / 604800000 * 604800000 := wrap_id (by omega)
  rw [e1, e2]; omega
theorem p77 {G0 : GH} {a b z h : Int} (hw : windowed a b = true) (hz : zoned z = true) (hh : within h 0 167 = true) : Pure Try.prog G0 77 [.agg #[V a, V b], V z, V h] (V (weeksN a b z h)) := by
  intro G hG
  clear hG G0
  refine enter Try.func77 31 #[.tmp 6] rfl Try.ntmps77 rfl (by decide +kernel) rfl ?_
  rw [zoned, within_iff] at hz
  rw [within_iff] at hh
  simp only [windowed, Bool.and_eq_true, decide_eq_true_eq, within_iff] at hw
  have hi := @inWeek_eq (h * 3600000 - z * 60000 - a) (by omega) (by omega)
  focus
    simp (maxDischargeDepth := 9) only [↓gB, gV, gT, reduceIte, reduceCtorEq, Nat.reduceEqDiff, Nat.reduceAdd, Nat.reduceSub, Nat.reduceLeDiff, Nat.reduceLT, Int.reduceEq, Nat.reduceMul, hi]
    refine Yn2 fun r1 h1 => ?_
    simp (maxDischargeDepth := 9) only [↓gB, gV, gT, reduceIte, reduceCtorEq, Nat.reduceEqDiff, Nat.reduceAdd, Nat.reduceSub, Nat.reduceLeDiff, Nat.reduceLT, Int.reduceEq, Nat.reduceMul, h1, hi]
    refine Xdraw_intro [0, 1, 2, 3, 4, 5, 6, 7, 8, 9, 10, 11, 12] mixed (by kernel_rfl) (by decide +kernel) ?_
    simp (maxDischargeDepth := 9) only [↓gB, gV, gT, reduceIte, reduceCtorEq, Nat.reduceEqDiff, Nat.reduceAdd, Nat.reduceSub, Nat.reduceLeDiff, Nat.reduceLT, Int.reduceEq, Nat.reduceMul, h1, hi]
    refine Ycp (p81) ?_
    simp (maxDischargeDepth := 9) only [↓gB, gV, gT, reduceIte, reduceCtorEq, Nat.reduceEqDiff, Nat.reduceAdd, Nat.reduceSub, Nat.reduceLeDiff, Nat.reduceLT, Int.reduceEq, Nat.reduceMul, h1, hi]
    have q1 : Go.IntKind.i64.wrap (h * 3600000) = h * 3600000 := wrap_id (by omega)
    simp (maxDischargeDepth := 9) only [↓gB, gV, gT, reduceIte, reduceCtorEq, Nat.reduceEqDiff, Nat.reduceAdd, Nat.reduceSub, Nat.reduceLeDiff, Nat.reduceLT, Int.reduceEq, Nat.reduceMul, h1, q1, hi]
    have q2 : Go.IntKind.i64.wrap (z * 60000) = z * 60000 := wrap_id (by omega)
    simp (maxDischargeDepth := 9) only [↓gB, gV, gT, reduceIte, reduceCtorEq, Nat.reduceEqDiff, Nat.reduceAdd, Nat.reduceSub, Nat.reduceLeDiff, Nat.reduceLT, Int.reduceEq, Nat.reduceMul, h1, q1, q2, hi]
    have q3 : Go.IntKind.i64.wrap (h * 3600000 - z * 60000) = h * 3600000 - z * 60000 := wrap_id (by omega)
    simp (maxDischargeDepth := 9) only [↓gB, gV, gT, reduceIte, reduceCtorEq, Nat.reduceEqDiff, Nat.reduceAdd, Nat.reduceSub, Nat.reduceLeDiff, Nat.reduceLT, Int.reduceEq, Nat.reduceMul, h1, q1, q2, q3, hi]
    have q4 : Go.IntKind.i64.wrap (h * 3600000 - z * 60000 - a) = h * 3600000 - z * 60000 - a := wrap_id (by omega)
    simp (maxDischargeDepth := 9) only [↓gB, gV, gT, reduceIte, reduceCtorEq, Nat.reduceEqDiff, Nat.reduceAdd, Nat.reduceSub, Nat.reduceLeDiff, Nat.reduceLT, Int.reduceEq, Nat.reduceMul, h1, q1, q2, q3, q4, hi]
    have q5 : Go.IntKind.i64.wrap (a + (h * 3600000 - z * 60000 - a) % 604800000) = a + (h * 3600000 - z * 60000 - a) % 604800000 := wrap_id (by omega)
    simp (maxDischargeDepth := 9) only [↓gB, gV, gT, reduceIte, reduceCtorEq, Nat.reduceEqDiff, Nat.reduceAdd, Nat.reduceSub, Nat.reduceLeDiff, Nat.reduceLT, Int.reduceEq, Nat.reduceMul, h1, q1, q2, q3, q4, q5, hi]
    refine Xc_split _ _ _ _ _ (fun c1 => ?_) (fun c1 => ?_)
    rotate_left 1
    focus
      simp (maxDischargeDepth := 9) only [↓gB, gV, gT, reduceIte, reduceCtorEq, Nat.reduceEqDiff, Nat.reduceAdd, Nat.reduceSub, Nat.reduceLeDiff, Nat.reduceLT, Int.reduceEq, Nat.reduceMul, h1, q1, q2, q3, q4, q5, c1, hi]
      refine Kup_val (by simp (maxDischargeDepth := 9) only [le_self, le_puts, le_put0, h1]) ?_
      have q6 : Go.IntKind.i64.wrap (b - 1) = b - 1 := wrap_id (by omega)
      simp (maxDischargeDepth := 9) only [↓gB, gV, gT, reduceIte, reduceCtorEq, Nat.reduceEqDiff, Nat.reduceAdd, Nat.reduceSub, Nat.reduceLeDiff, Nat.reduceLT, Int.reduceEq, Nat.reduceMul, h1, q1, q2, q3, q4, q5, c1, q6, hi]
      have q7 : Go.IntKind.i64.wrap (b - 1 - (a + (h * 3600000 - z * 60000 - a) % 604800000)) = b - 1 - (a + (h * 3600000 - z * 60000 - a) % 604800000) := wrap_id (by omega)
      simp (maxDischargeDepth := 9) only [↓gB, gV, gT, reduceIte, reduceCtorEq, Nat.reduceEqDiff, Nat.reduceAdd, Nat.reduceSub, Nat.reduceLeDiff, Nat.reduceLT, Int.reduceEq, Nat.reduceMul, h1, q1, q2, q3, q4, q5, c1, q6, q7, hi]
      have q8 : Int.tdiv (b - 1 - (a + (h * 3600000 - z * 60000 - a) % 604800000)) (604800000) = (b - 1 - (a + (h * 3600000 - z * 60000 - a) % 604800000)) / (604800000) := Int.tdiv_eq_ediv_of_nonneg (by omega)
      simp (maxDischargeDepth := 9) only [↓gB, gV, gT, reduceIte, reduceCtorEq, Nat.reduceEqDiff, Nat.reduceAdd, Nat.reduceSub, Nat.reduceLeDiff, Nat.reduceLT, Int.reduceEq, Nat.reduceMul, h1, q1, q2, q3, q4, q5, c1, q6, q7, q8, hi]
      have q9 : Go.IntKind.i64.wrap ((b - 1 - (a + (h * 3600000 - z * 60000 - a) % 604800000)) / 604800000) = (b - 1 - (a + (h * 3600000 - z * 60000 - a) % 604800000)) / 604800000 := wrap_id (by omega)
      simp (maxDischargeDepth := 9) only [↓gB, gV, gT, reduceIte, reduceCtorEq, Nat.reduceEqDiff, Nat.reduceAdd, Nat.reduceSub, Nat.reduceLeDiff, Nat.reduceLT, Int.reduceEq, Nat.reduceMul, h1, q1, q2, q3, q4, q5, c1, q6, q7, q8, q9, hi]
      have q10 : Go.IntKind.i64.wrap ((b - 1 - (a + (h * 3600000 - z * 60000 - a) % 604800000)) / 604800000 + 1) = (b - 1 - (a + (h * 3600000 - z * 60000 - a) % 604800000)) / 604800000 + 1 := wrap_id (by omega)
      simp (maxDischargeDepth := 9) only [↓gB, gV, gT, reduceIte, reduceCtorEq, Nat.reduceEqDiff, Nat.reduceAdd, Nat.reduceSub, Nat.reduceLeDiff, Nat.reduceLT, Int.reduceEq, Nat.reduceMul, h1, q1, q2, q3, q4, q5, c1, q6, q7, q8, q9, q10, hi]
      (simp [weeksN, *]; done)
    rotate_right 1
    simp (maxDischargeDepth := 9) only [↓gB, gV, gT, reduceIte, reduceCtorEq, Nat.reduceEqDiff, Nat.reduceAdd, Nat.reduceSub, Nat.reduceLeDiff, Nat.reduceLT, Int.reduceEq, Nat.reduceMul, h1, q1, q2, q3, q4, q5, c1, hi]
    refine Kup_val (by simp (maxDischargeDepth := 9) only [le_self, le_puts, le_put0, h1]) ?_
    (simp [weeksN, *]; done)
theorem p41 {G0 : GH} {a b z h : Int}  : Pure Try.prog G0 41 [.agg #[V a, V b], V z, V h] (if (windowed a b && zoned z && houred h) then .tuple #[V (weeksN a b z h), V 0] else .tuple #[V 0, V 1]) := by
  intro G hG
  clear hG G0
  refine enter Try.func41 20 #[.tmp 6, .tmp 7] rfl Try.ntmps41 rfl (by decide +kernel) rfl ?_
  focus
    simp (maxDischargeDepth := 9) only [↓gB, gV, gT, reduceIte, reduceCtorEq, Nat.reduceEqDiff, Nat.reduceAdd, Nat.reduceSub, Nat.reduceLeDiff, Nat.reduceLT, Int.reduceEq, Nat.reduceMul, bi_d1, bi_d2, houred]
    refine Yn2 fun r1 h1 => ?_
    simp (maxDischargeDepth := 9) only [↓gB, gV, gT, reduceIte, reduceCtorEq, Nat.reduceEqDiff, Nat.reduceAdd, Nat.reduceSub, Nat.reduceLeDiff, Nat.reduceLT, Int.reduceEq, Nat.reduceMul, h1, bi_d1, bi_d2, houred]
    refine Ycp (p76) ?_
    simp (maxDischargeDepth := 9) only [↓gB, gV, gT, reduceIte, reduceCtorEq, Nat.reduceEqDiff, Nat.reduceAdd, Nat.reduceSub, Nat.reduceLeDiff, Nat.reduceLT, Int.reduceEq, Nat.reduceMul, h1, bi_d1, bi_d2, houred]
    rcases bool_tf (Go.Proofs.Ytgkdbjnmlecimaa.windowed a b) with c1 | c1
    rotate_left 1
    focus
      simp (maxDischargeDepth := 9) only [↓gB, gV, gT, reduceIte, reduceCtorEq, Nat.reduceEqDiff, Nat.reduceAdd, Nat.reduceSub, Nat.reduceLeDiff, Nat.reduceLT, Int.reduceEq, Nat.reduceMul, h1, c1, bi_d1, bi_d2, houred]
      exact Kup_val (by simp (maxDischargeDepth := 9) only [le_self, le_puts, le_put0, h1]) rfl
    rotate_right 1
    simp (maxDischargeDepth := 9) only [↓gB, gV, gT, reduceIte, reduceCtorEq, Nat.reduceEqDiff, Nat.reduceAdd, Nat.reduceSub, Nat.reduceLeDiff, Nat.reduceLT, Int.reduceEq, Nat.reduceMul, h1, c1, bi_d1, bi_d2, houred]
    rcases bool_tf (Go.Proofs.Ytgkdbjnmlecimaa.zoned z) with c2 | c2
    rotate_left 1
    focus
      simp (maxDischargeDepth := 9) only [↓gB, gV, gT, reduceIte, reduceCtorEq, Nat.reduceEqDiff, Nat.reduceAdd, Nat.reduceSub, Nat.reduceLeDiff, Nat.reduceLT, Int.reduceEq, Nat.reduceMul, h1, c1, c2, bi_d1, bi_d2, houred]
      exact Kup_val (by simp (maxDischargeDepth := 9) only [le_self, le_puts, le_put0, h1]) rfl
    rotate_right 1
    simp (maxDischargeDepth := 9) only [↓gB, gV, gT, reduceIte, reduceCtorEq, Nat.reduceEqDiff, Nat.reduceAdd, Nat.reduceSub, Nat.reduceLeDiff, Nat.reduceLT, Int.reduceEq, Nat.reduceMul, h1, c1, c2, bi_d1, bi_d2, houred]
    refine Ycp (p49) ?_
    simp (maxDischargeDepth := 9) only [↓gB, gV, gT, reduceIte, reduceCtorEq, Nat.reduceEqDiff, Nat.reduceAdd, Nat.reduceSub, Nat.reduceLeDiff, Nat.reduceLT, Int.reduceEq, Nat.reduceMul, h1, c1, c2, bi_d1, bi_d2, houred]
    rcases bool_tf (Go.Proofs.Ytgkdbjnmlecimaa.within h 0 167) with c3 | c3
    rotate_left 1
    focus
      simp (maxDischargeDepth := 9) only [↓gB, gV, gT, reduceIte, reduceCtorEq, Nat.reduceEqDiff, Nat.reduceAdd, Nat.reduceSub, Nat.reduceLeDiff, Nat.reduceLT, Int.reduceEq, Nat.reduceMul, h1, c1, c2, c3, bi_d1, bi_d2, houred]
      exact Kup_val (by simp (maxDischargeDepth := 9) only [le_self, le_puts, le_put0, h1]) rfl
    rotate_right 1
    simp (maxDischargeDepth := 9) only [↓gB, gV, gT, reduceIte, reduceCtorEq, Nat.reduceEqDiff, Nat.reduceAdd, Nat.reduceSub, Nat.reduceLeDiff, Nat.reduceLT, Int.reduceEq, Nat.reduceMul, h1, c1, c2, c3, bi_d1, bi_d2, houred]
    refine Ycp (p77 (by assumption) (by assumption) (by assumption)) ?_
    simp (maxDischargeDepth := 9) only [↓gB, gV, gT, reduceIte, reduceCtorEq, Nat.reduceEqDiff, Nat.reduceAdd, Nat.reduceSub, Nat.reduceLeDiff, Nat.reduceLT, Int.reduceEq, Nat.reduceMul, h1, c1, c2, c3, bi_d1, bi_d2, houred]
    exact Kup_val (by simp (maxDischargeDepth := 9) only [le_self, le_puts, le_put0, h1]) rfl
theorem p44 {G0 : GH} {a b z h : Int} (hw : windowed a b = true) (hz : zoned z = true) (hh : within h 0 167 = true) : Pure Try.prog G0 44 [.agg #[V a, V b], V z, V h] (V (weeksN a b z h)) := by
  intro G hG
  clear hG G0
  refine enter Try.func44 28 #[.tmp 6] rfl Try.ntmps44 rfl (by decide +kernel) rfl ?_
  rw [zoned, within_iff] at hz
  rw [within_iff] at hh
  simp only [windowed, Bool.and_eq_true, decide_eq_true_eq, within_iff] at hw
  simp (maxDischargeDepth := 9) only [↓gB, gV, gT, reduceIte, reduceCtorEq, Nat.reduceEqDiff, Nat.reduceAdd, Nat.reduceSub, Nat.reduceLeDiff, Nat.reduceLT, Int.reduceEq, Nat.reduceMul]
  refine Yn2 fun r1 h1 => ?_
  simp (maxDischargeDepth := 9) only [↓gB, gV, gT, reduceIte, reduceCtorEq, Nat.reduceEqDiff, Nat.reduceAdd, Nat.reduceSub, Nat.reduceLeDiff, Nat.reduceLT, Int.reduceEq, Nat.reduceMul, h1]
  have q1 : Go.IntKind.i64.wrap (h * 3600000) = h * 3600000 := wrap_id (by omega)
  simp (maxDischargeDepth := 9) only [↓gB, gV, gT, reduceIte, reduceCtorEq, Nat.reduceEqDiff, Nat.reduceAdd, Nat.reduceSub, Nat.reduceLeDiff, Nat.reduceLT, Int.reduceEq, Nat.reduceMul, h1, q1]
  have q2 : Go.IntKind.i64.wrap (z * 60000) = z * 60000 := wrap_id (by omega)
  simp (maxDischargeDepth := 9) only [↓gB, gV, gT, reduceIte, reduceCtorEq, Nat.reduceEqDiff, Nat.reduceAdd, Nat.reduceSub, Nat.reduceLeDiff, Nat.reduceLT, Int.reduceEq, Nat.reduceMul, h1, q1, q2]
  have q3 : Go.IntKind.i64.wrap (h * 3600000 - z * 60000) = h * 3600000 - z * 60000 := wrap_id (by omega)
  simp (maxDischargeDepth := 9) only [↓gB, gV, gT, reduceIte, reduceCtorEq, Nat.reduceEqDiff, Nat.reduceAdd, Nat.reduceSub, Nat.reduceLeDiff, Nat.reduceLT, Int.reduceEq, Nat.reduceMul, h1, q1, q2, q3]
  have q4 : Go.IntKind.i64.wrap (h * 3600000 - z * 60000 - 604800000) = h * 3600000 - z * 60000 - 604800000 := wrap_id (by omega)
  simp (maxDischargeDepth := 9) only [↓gB, gV, gT, reduceIte, reduceCtorEq, Nat.reduceEqDiff, Nat.reduceAdd, Nat.reduceSub, Nat.reduceLeDiff, Nat.reduceLT, Int.reduceEq, Nat.reduceMul, h1, q1, q2, q3, q4]
  focus
    refine Xloop_intro _ _ _ _ _ (fun k f G' => ∃ (n : Int) (t : Int) (j : Int), k = (b + 604800000 - t).toNat ∧ (t = a + (h * 3600000 - z * 60000 - a) % 604800000 + j * 604800000) ∧ (h * 3600000 - z * 60000 - 604800000 ≤ t) ∧ (n = if j ≤ 0 then 0 else j) ∧ (j ≤ 0 ∨ a + (h * 3600000 - z * 60000 - a) % 604800000 + (j - 1) * 604800000 < b) ∧ (G.put r1 (Go.Obj.cells #[Go.GL.V a, Go.GL.V b] 70, Bool.true) = G') ∧ f 7 = V n ∧ f 8 = V t ∧ f 3 = Go.Value.pointer (Option.some { block := r1, off := 0 })) _ ⟨0, h * 3600000 - z * 60000 - 604800000, (h * 3600000 - z * 60000 - 604800000 - (a + (h * 3600000 - z * 60000 - a) % 604800000)) / 604800000, rfl, ?_, ?_, ?_, ?_, rfl, by simp (maxDischargeDepth := 9) only [↓gB, gV, gT, reduceIte, reduceCtorEq, Nat.reduceEqDiff, Nat.reduceAdd, Nat.reduceSub, Nat.reduceLeDiff, Nat.reduceLT, Int.reduceEq, Nat.reduceMul, h1, q1, q2, q3, q4, and_self]⟩ ?_
    · omega
    · omega
    · omega
    · omega
    rintro k f G' ⟨n, t, j, rfl, ht, ht0, hn, hj, rfl, f7, f8, f3⟩
  focus
    simp (maxDischargeDepth := 9) only [↓gB, gV, gT, reduceIte, reduceCtorEq, Nat.reduceEqDiff, Nat.reduceAdd, Nat.reduceSub, Nat.reduceLeDiff, Nat.reduceLT, Int.reduceEq, Nat.reduceMul, h1, q1, q2, q3, q4, f7, f8, f3]
    refine Xc_split _ _ _ _ _ (fun c1 => ?_) (fun c1 => ?_)
    rotate_left 1
    focus
      simp (maxDischargeDepth := 9) only [↓gB, gV, gT, reduceIte, reduceCtorEq, Nat.reduceEqDiff, Nat.reduceAdd, Nat.reduceSub, Nat.reduceLeDiff, Nat.reduceLT, Int.reduceEq, Nat.reduceMul, h1, q1, q2, q3, q4, f7, f8, f3, c1]
      refine Kup_val (by simp (maxDischargeDepth := 9) only [le_self, le_puts, le_put0, h1]) ?_
      (subst hn; unfold weeksN; congr 1; split <;> split <;> omega; done)
    rotate_right 1
    simp (maxDischargeDepth := 9) only [↓gB, gV, gT, reduceIte, reduceCtorEq, Nat.reduceEqDiff, Nat.reduceAdd, Nat.reduceSub, Nat.reduceLeDiff, Nat.reduceLT, Int.reduceEq, Nat.reduceMul, h1, q1, q2, q3, q4, f7, f8, f3, c1]
    refine Xc_split _ _ _ _ _ (fun c2 => ?_) (fun c2 => ?_)
    rotate_left 1
    focus
      simp (maxDischargeDepth := 9) only [↓gB, gV, gT, reduceIte, reduceCtorEq, Nat.reduceEqDiff, Nat.reduceAdd, Nat.reduceSub, Nat.reduceLeDiff, Nat.reduceLT, Int.reduceEq, Nat.reduceMul, h1, q1, q2, q3, q4, f7, f8, f3, c1, c2]
      have q5 : Go.IntKind.i64.wrap (t + 604800000) = t + 604800000 := wrap_id (by omega)
      simp (maxDischargeDepth := 9) only [↓gB, gV, gT, reduceIte, reduceCtorEq, Nat.reduceEqDiff, Nat.reduceAdd, Nat.reduceSub, Nat.reduceLeDiff, Nat.reduceLT, Int.reduceEq, Nat.reduceMul, h1, q1, q2, q3, q4, f7, f8, f3, c1, c2, q5]
      rw [N_lp]
      refine ⟨_, ?_, _, ?_, n, t + 604800000, j + 1, rfl, ?_, ?_, ?_, ?_, rfl, by simp (maxDischargeDepth := 9) only [↓gB, gV, gT, reduceIte, reduceCtorEq, Nat.reduceEqDiff, Nat.reduceAdd, Nat.reduceSub, Nat.reduceLeDiff, Nat.reduceLT, Int.reduceEq, Nat.reduceMul, h1, q1, q2, q3, q4, f7, f8, f3, c1, c2, q5, nat_succ, and_self]⟩
      · omega
      · exact sub_refl _
      · omega
      · omega
      · omega
      · omega
    rotate_right 1
    simp (maxDischargeDepth := 9) only [↓gB, gV, gT, reduceIte, reduceCtorEq, Nat.reduceEqDiff, Nat.reduceAdd, Nat.reduceSub, Nat.reduceLeDiff, Nat.reduceLT, Int.reduceEq, Nat.reduceMul, h1, q1, q2, q3, q4, f7, f8, f3, c1, c2]
    have q5 : Go.IntKind.i64.wrap (n + 1) = n + 1 := wrap_id (by omega)
    simp (maxDischargeDepth := 9) only [↓gB, gV, gT, reduceIte, reduceCtorEq, Nat.reduceEqDiff, Nat.reduceAdd, Nat.reduceSub, Nat.reduceLeDiff, Nat.reduceLT, Int.reduceEq, Nat.reduceMul, h1, q1, q2, q3, q4, f7, f8, f3, c1, c2, q5]
    have q6 : Go.IntKind.i64.wrap (t + 604800000) = t + 604800000 := wrap_id (by omega)
    simp (maxDischargeDepth := 9) only [↓gB, gV, gT, reduceIte, reduceCtorEq, Nat.reduceEqDiff, Nat.reduceAdd, Nat.reduceSub, Nat.reduceLeDiff, Nat.reduceLT, Int.reduceEq, Nat.reduceMul, h1, q1, q2, q3, q4, f7, f8, f3, c1, c2, q5, q6]
    rw [N_lp]
    refine ⟨_, ?_, _, ?_, n + 1, t + 604800000, j + 1, rfl, ?_, ?_, ?_, ?_, rfl, by simp (maxDischargeDepth := 9) only [↓gB, gV, gT, reduceIte, reduceCtorEq, Nat.reduceEqDiff, Nat.reduceAdd, Nat.reduceSub, Nat.reduceLeDiff, Nat.reduceLT, Int.reduceEq, Nat.reduceMul, h1, q1, q2, q3, q4, f7, f8, f3, c1, c2, q5, q6, nat_succ, and_self]⟩
    · omega
    · exact sub_refl _
    · omega
    · omega
    · omega
    · omega
end Go.Proofs.Ytgkdbjnmlecimaa
namespace Go.Proofs.Ytgkdbjnmlecimaa
open Go Go.GL
set_option maxRecDepth 10000
set_option maxHeartbeats 0
theorem p78 {G0 : GH} {v : Value} {t1 t2 t3 t4 : Int} {l : List Tly} {cf : Tly → Int} {g : Nat} {fa fb : List Value} (hv : RSl rTly G0 v l) (hg : GL.Enters Try.prog g) (hn : (l.length : Int) ≤ 4611686018427387903) (hmono : ∀ (i j : Nat) x y, i < j → l[i]? = some x → l[j]? = some y → cf y < 0 → cf x < 0) (hf : ∀ (G0' : GH), G0.le G0' → ∀ x cs, (rTly).R G0' x cs → Pure Try.prog G0' g (fa ++ [.agg cs.toArray, .agg #[V t1, V t2, V t3, V t4]] ++ fb) (V (cf x))) : Pure Try.prog G0 78 [v, .agg #[V t1, V t2, V t3, V t4], .func (.func g) fa.toArray fb.toArray] (.tuple #[V (bsPos cf l), .bool (bsHas cf l)]) := by
  intro G hG; replace hv := hv.le hG; replace hf := fun (G' : GH) (h : G.le G') => hf G' (hG.trans h)
  clear hG G0
  refine enter Try.func78 49 #[.tmp 6, .tmp 7] rfl Try.ntmps78 rfl (by decide +kernel) rfl ?_
  obtain ⟨a, c, rfl⟩ := hv.val
  have hg' := eq_true hg
  simp (maxDischargeDepth := 9) only [↓gB, gV, gT, reduceIte, reduceCtorEq, Nat.reduceEqDiff, Nat.reduceAdd, Nat.reduceSub, Nat.reduceLeDiff, Nat.reduceLT, Int.reduceEq, Nat.reduceMul]
  refine Yn2 fun r1 h1 => ?_
  simp (maxDischargeDepth := 9) only [↓gB, gV, gT, reduceIte, reduceCtorEq, Nat.reduceEqDiff, Nat.reduceAdd, Nat.reduceSub, Nat.reduceLeDiff, Nat.reduceLT, Int.reduceEq, Nat.reduceMul, h1]
  focus
    refine Xloop_intro _ _ _ _ _ (fun k f G' => ∃ (i : Nat) (j : Nat), k = j - i ∧ (i ≤ j) ∧ (j ≤ l.length) ∧ (∀ (k : Nat) x, k < i → l[k]? = some x → cf x < 0) ∧ (∀ (k : Nat) x, j ≤ k → l[k]? = some x → ¬ cf x < 0) ∧ (G.put r1 (Go.Obj.cells #[Go.GL.V t1, Go.GL.V t2, Go.GL.V t3, Go.GL.V t4] 44, Bool.true) = G') ∧ f 9 = V i ∧ f 10 = V j ∧ f 0 = Go.Value.slice a l.length c ∧ f 2 = Go.Value.func (Go.Fn.func g) fa.toArray fb.toArray ∧ f 4 = Go.Value.pointer (Option.some { block := r1, off := 0 }) ∧ f 8 = Go.Value.int Go.IntKind.i64 ↑l.length) _ ⟨0, l.length, rfl, ?_, ?_, ?_, ?_, rfl, by simp (maxDischargeDepth := 9) only [↓gB, gV, gT, reduceIte, reduceCtorEq, Nat.reduceEqDiff, Nat.reduceAdd, Nat.reduceSub, Nat.reduceLeDiff, Nat.reduceLT, Int.reduceEq, Nat.reduceMul, h1, and_self]⟩ ?_
    · omega
    · omega
    · omega
    · (intro k x hk hx; rw [List.getElem?_eq_none hk] at hx; cases hx; done)
    rintro k f G' ⟨i, j, rfl, hij, hj, hb1, hb2, rfl, f9, f10, f0, f2, f4, f8⟩
  have hm := @mid_eq i j (by omega)
  simp (maxDischargeDepth := 9) only [↓gB, gV, gT, reduceIte, reduceCtorEq, Nat.reduceEqDiff, Nat.reduceAdd, Nat.reduceSub, Nat.reduceLeDiff, Nat.reduceLT, Int.reduceEq, Nat.reduceMul, h1, f9, f10, f0, f2, f4, f8, hm]
  refine Xc_split _ _ _ _ _ (fun c1 => ?_) (fun c1 => ?_)
  · simp (maxDischargeDepth := 9) only [↓gB, gV, gT, reduceIte, reduceCtorEq, Nat.reduceEqDiff, Nat.reduceAdd, Nat.reduceSub, Nat.reduceLeDiff, Nat.reduceLT, Int.reduceEq, Nat.reduceMul, h1, f9, f10, f0, f2, f4, f8, hm, c1, hg']
    refine vguard_intro (by omega) ?_
    refine Xdraw_intro [0, 1, 2, 3, 4, 5, 6, 7] mixed (by kernel_rfl) (by decide +kernel) ?_
    simp (maxDischargeDepth := 9) only [↓gB, gV, gT, reduceIte, reduceCtorEq, Nat.reduceEqDiff, Nat.reduceAdd, Nat.reduceSub, Nat.reduceLeDiff, Nat.reduceLT, Int.reduceEq, Nat.reduceMul, h1, f9, f10, f0, f2, f4, f8, hm, c1, hg']
    obtain ⟨x1, a1, s1, m1, rfl, rfl, e1⟩ := hv.at ((i + j) / 2) (by omega) 4 rfl
    simp (maxDischargeDepth := 9) only [↓gB, gV, gT, reduceIte, reduceCtorEq, Nat.reduceEqDiff, Nat.reduceAdd, Nat.reduceSub, Nat.reduceLeDiff, Nat.reduceLT, Int.reduceEq, Nat.reduceMul, h1, f9, f10, f2, f4, f8, hm, c1, f0, e1, hg']
    refine vguard_intro (by omega) ?_
    refine Ycp (hf _ (by simp (maxDischargeDepth := 9) only [le_self, le_puts, h1]) x1 _ rfl) ?_
    focus
      simp (maxDischargeDepth := 9) only [↓gB, gV, gT, reduceIte, reduceCtorEq, Nat.reduceEqDiff, Nat.reduceAdd, Nat.reduceSub, Nat.reduceLeDiff, Nat.reduceLT, Int.reduceEq, Nat.reduceMul, h1, f9, f10, f2, f4, f8, hm, c1, f0, e1, hg']
      refine Xc_split _ _ _ _ _ (fun c2 => ?_) (fun c2 => ?_)
      rotate_left 1
      focus
        simp (maxDischargeDepth := 9) only [↓gB, gV, gT, reduceIte, reduceCtorEq, Nat.reduceEqDiff, Nat.reduceAdd, Nat.reduceSub, Nat.reduceLeDiff, Nat.reduceLT, Int.reduceEq, Nat.reduceMul, h1, f9, f10, f2, f4, f8, hm, c1, f0, e1, c2, hg']
        have q1 : Go.IntKind.i64.wrap (↑i + ↑j) = ↑i + ↑j := wrap_id (by omega)
        simp (maxDischargeDepth := 9) only [↓gB, gV, gT, reduceIte, reduceCtorEq, Nat.reduceEqDiff, Nat.reduceAdd, Nat.reduceSub, Nat.reduceLeDiff, Nat.reduceLT, Int.reduceEq, Nat.reduceMul, h1, f9, f10, f2, f4, f8, hm, c1, f0, e1, c2, q1, hg']
        rw [N_lp]
        refine ⟨_, ?_, _, ?_, i, (i + j) / 2, rfl, ?_, ?_, ?_, ?_, rfl, by simp (maxDischargeDepth := 9) only [↓gB, gV, gT, reduceIte, reduceCtorEq, Nat.reduceEqDiff, Nat.reduceAdd, Nat.reduceSub, Nat.reduceLeDiff, Nat.reduceLT, Int.reduceEq, Nat.reduceMul, h1, f9, f10, f2, f4, f8, hm, c1, f0, e1, c2, q1, hg', nat_succ, and_self]⟩
        · omega
        · exact sub_refl _
        · omega
        · omega
        · assumption
        · (intro k x hk hx hlt; by_cases e : k = (i + j) / 2; (subst e; rw [m1] at hx; cases hx; exact c2 hlt); exact c2 (hmono ((i + j) / 2) k x1 x (by omega) m1 hx hlt); done)
      rotate_right 1
      simp (maxDischargeDepth := 9) only [↓gB, gV, gT, reduceIte, reduceCtorEq, Nat.reduceEqDiff, Nat.reduceAdd, Nat.reduceSub, Nat.reduceLeDiff, Nat.reduceLT, Int.reduceEq, Nat.reduceMul, h1, f9, f10, f2, f4, f8, hm, c1, f0, e1, c2, hg']
      have q1 : Go.IntKind.i64.wrap (↑i + ↑j) = ↑i + ↑j := wrap_id (by omega)
      simp (maxDischargeDepth := 9) only [↓gB, gV, gT, reduceIte, reduceCtorEq, Nat.reduceEqDiff, Nat.reduceAdd, Nat.reduceSub, Nat.reduceLeDiff, Nat.reduceLT, Int.reduceEq, Nat.reduceMul, h1, f9, f10, f2, f4, f8, hm, c1, f0, e1, c2, q1, hg']
      have q2 : Go.IntKind.i64.wrap (↑((i + j) / 2) + 1) = ↑((i + j) / 2) + 1 := wrap_id (by omega)
      simp (maxDischargeDepth := 9) only [↓gB, gV, gT, reduceIte, reduceCtorEq, Nat.reduceEqDiff, Nat.reduceAdd, Nat.reduceSub, Nat.reduceLeDiff, Nat.reduceLT, Int.reduceEq, Nat.reduceMul, h1, f9, f10, f2, f4, f8, hm, c1, f0, e1, c2, q1, q2, hg']
      rw [N_lp]
      refine ⟨_, ?_, _, ?_, (i + j) / 2 + 1, j, rfl, ?_, ?_, ?_, ?_, rfl, by simp (maxDischargeDepth := 9) only [↓gB, gV, gT, reduceIte, reduceCtorEq, Nat.reduceEqDiff, Nat.reduceAdd, Nat.reduceSub, Nat.reduceLeDiff, Nat.reduceLT, Int.reduceEq, Nat.reduceMul, h1, f9, f10, f2, f4, f8, hm, c1, f0, e1, c2, q1, q2, hg', nat_succ, and_self]⟩
      · omega
      · exact sub_refl _
      · omega
      · assumption
      · (intro k x hk hx; by_cases e : k = (i + j) / 2; (subst e; rw [m1] at hx; cases hx; exact c2); exact hmono k ((i + j) / 2) x x1 (by omega) hx m1 c2; done)
      · assumption
  · have hp : bsPos cf l = i := bsPos_at (by omega) hb1 (fun k x hk => hb2 k x (by omega))
    simp (maxDischargeDepth := 9) only [↓gB, gV, gT, reduceIte, reduceCtorEq, Nat.reduceEqDiff, Nat.reduceAdd, Nat.reduceSub, Nat.reduceLeDiff, Nat.reduceLT, Int.reduceEq, Nat.reduceMul, h1, f9, f10, f0, f2, f4, f8, hm, c1, hg']
    refine Xdraw_intro [0, 1, 2, 3, 4, 5, 6, 7, 8, 9, 10, 11, 12, 13, 14, 15] mixed (by kernel_rfl) (by decide +kernel) ?_
    simp (maxDischargeDepth := 9) only [↓gB, gV, gT, reduceIte, reduceCtorEq, Nat.reduceEqDiff, Nat.reduceAdd, Nat.reduceSub, Nat.reduceLeDiff, Nat.reduceLT, Int.reduceEq, Nat.reduceMul, h1, f9, f10, f0, f2, f4, f8, hm, c1, hg']
    by_cases c2 : (i : Int) < l.length
    · simp (maxDischargeDepth := 9) only [↓gB, gV, gT, reduceIte, reduceCtorEq, Nat.reduceEqDiff, Nat.reduceAdd, Nat.reduceSub, Nat.reduceLeDiff, Nat.reduceLT, Int.reduceEq, Nat.reduceMul, h1, f9, f10, f0, f2, f4, f8, hm, c1, c2, hg']
      obtain ⟨x1, a1, s1, m1, rfl, rfl, e1⟩ := hv.at (i) (by omega) 4 rfl
      simp (maxDischargeDepth := 9) only [↓gB, gV, gT, reduceIte, reduceCtorEq, Nat.reduceEqDiff, Nat.reduceAdd, Nat.reduceSub, Nat.reduceLeDiff, Nat.reduceLT, Int.reduceEq, Nat.reduceMul, h1, f9, f10, f2, f4, f8, hm, c1, c2, f0, e1, hg']
      refine vguard_intro (by simp) ?_
      refine Ycp (hf _ (by simp (maxDischargeDepth := 9) only [le_self, le_puts, h1]) x1 _ rfl) ?_
      simp (maxDischargeDepth := 9) only [↓gB, gV, gT, reduceIte, reduceCtorEq, Nat.reduceEqDiff, Nat.reduceAdd, Nat.reduceSub, Nat.reduceLeDiff, Nat.reduceLT, Int.reduceEq, Nat.reduceMul, h1, f9, f10, f2, f4, f8, hm, c1, c2, f0, e1]
      refine Kup_val (by simp (maxDischargeDepth := 9) only [le_self, le_puts, le_put0, h1]) ?_
      (simp [hp, bsHas, m1]; done)
    · have hnone : l[i]? = none := List.getElem?_eq_none (by omega)
      simp (maxDischargeDepth := 9) only [↓gB, gV, gT, reduceIte, reduceCtorEq, Nat.reduceEqDiff, Nat.reduceAdd, Nat.reduceSub, Nat.reduceLeDiff, Nat.reduceLT, Int.reduceEq, Nat.reduceMul, h1, f9, f10, f0, f2, f4, f8, hm, c1, c2, hg']
      refine Kup_val (by simp (maxDischargeDepth := 9) only [le_self, le_puts, le_put0, h1]) ?_
      (simp [hp, bsHas, hnone]; done)
theorem tcmp_lt (x y : Tly) : tcmp x y < 0 ↔ (x.a < y.a ∨ x.a = y.a ∧ (x.b < y.b ∨ x.b = y.b ∧ x.h < y.h)) := by
  unfold tcmp tallyCmp cellCmp cmp3
  repeat' split
  all_goals omega
theorem tcmp_flip (x y : Tly) : tcmp y x = - tcmp x y := tallyCmp_flip _ _ _ _ _ _
theorem tcmp_zero (x y : Tly) : tcmp x y = 0 ↔ (x.a = y.a ∧ x.b = y.b ∧ x.h = y.h) := by
  have h1 := tcmp_lt x y
  have h2 := tcmp_lt y x
  rw [tcmp_flip x y] at h2
  omega
theorem tly_sorted : ∀ {p : Option Tly} {l : List Tly}, tlyFault p l = 0 → l.Pairwise (fun x y => tcmp x y < 0) ∧ (∀ y, p = some y → ∀ x ∈ l, tcmp y x < 0) ∧ ∀ x ∈ l, okT x = true
  | _, [], _ => ⟨List.Pairwise.nil, by simp, by simp⟩
  | p, x :: l, h => by
    unfold tlyFault at h
    split at h
    · omega
    · rename_i ho
      split at h
      · omega
      · rename_i hp
        obtain ⟨h1, h2, h3⟩ := tly_sorted h
        refine ⟨List.pairwise_cons.2 ⟨fun y hy => h2 x rfl y hy, h1⟩, ?_, ?_⟩
        · rintro y rfl z hz
          have hyx : tcmp y x < 0 := by
            have hp : ¬ tcmp x y ≤ 0 := by simpa using hp
            have := tcmp_flip x y; omega
          rcases List.mem_cons.1 hz with rfl | hz
          · exact hyx
          · have := h2 x rfl z hz
            rw [tcmp_lt] at *; omega
        · intro z hz
          rcases List.mem_cons.1 hz with rfl | hz
          · simpa using ho
          · exact h3 z hz
theorem ok_of {l : List Tly} (h : checkTallies l = 0) : l.length ≤ 67200 ∧ tlyFault none l = 0 ∧ ¬ 400 < chg none l := by
  unfold checkTallies at h
  split at h
  · omega
  · split at h
    · rename_i h1; exact absurd h h1
    · split at h
      · omega
      · omega
def manyAt (l : List Tly) (a b h : Int) : Int := match l.find? (fun t => decide (t.a = a) && decide (t.b = b) && decide (t.h = h)) with | some t => t.k | none => 0
theorem many_bs {l : List Tly} (t : Tly) (hs : l.Pairwise (fun x y => tcmp x y < 0)) : manyAt l t.a t.b t.h = match l[bsPos (fun x => tcmp x t) l]? with | some x => if tcmp x t = 0 then x.k else 0 | none => 0 := by
  induction l with
  | nil => rfl
  | cons y l ih =>
    have ih := ih (List.pairwise_cons.1 hs).2
    have hy := (List.pairwise_cons.1 hs).1
    unfold manyAt bsPos at *
    by_cases h : tcmp y t < 0
    · rw [List.takeWhile_cons_of_pos (by simpa using h), List.length_cons, List.getElem?_cons_succ, ← ih, List.find?_cons_of_neg]
      intro he
      simp only [Bool.and_eq_true, decide_eq_true_eq] at he
      have := (tcmp_zero y t).2 ⟨he.1.1, he.1.2, he.2⟩
      omega
    · rw [List.takeWhile_cons_of_neg (by simpa using h), List.length_nil, List.getElem?_cons_zero]
      by_cases h0 : tcmp y t = 0
      · rw [List.find?_cons_of_pos]
        · simp [h0]
        · obtain ⟨h1, h2, h3⟩ := (tcmp_zero y t).1 h0
          simp [h1, h2, h3]
      · rw [List.find?_cons_of_neg]
        · simp only [h0, if_false]
          have : l.find? (fun t' => decide (t'.a = t.a) && decide (t'.b = t.b) && decide (t'.h = t.h)) = none := by
            rw [List.find?_eq_none]
            intro z hz he
            simp only [Bool.and_eq_true, decide_eq_true_eq] at he
            have h1 := (tcmp_zero z t).2 ⟨he.1.1, he.1.2, he.2⟩
            have h2 := hy z hz
            have h3 := tcmp_flip y t
            have : tcmp t y < 0 := by omega
            rw [tcmp_lt] at *
            omega
          rw [this]
        · intro he
          simp only [Bool.and_eq_true, decide_eq_true_eq] at he
          exact h0 ((tcmp_zero y t).2 ⟨he.1.1, he.1.2, he.2⟩)
theorem mono_bs {l : List Tly} (t : Tly) (hs : l.Pairwise (fun x y => tcmp x y < 0)) (i j : Nat) (x y : Tly) (hij : i < j) (hx : l[i]? = some x) (hy : l[j]? = some y) (h : tcmp y t < 0) : tcmp x t < 0 := by
  have h1 := List.pairwise_iff_getElem.1 hs
  obtain ⟨hi, rfl⟩ := List.getElem?_eq_some_iff.1 hx
  obtain ⟨hj, rfl⟩ := List.getElem?_eq_some_iff.1 hy
  have := h1 i j hi hj hij
  rw [tcmp_lt] at *
  omega
theorem p47 {G0 : GH} {v : Value} {l : List Tly} {a b h : Int} (hv : RSl rTly G0 v l) (hn : (l.length : Int) ≤ 9223372036854775807) : Pure Try.prog G0 47 [v, .agg #[V a, V b], V h] (V (manyAt l a b h)) := by
  intro G hG; replace hv := hv.le hG
  clear hG G0
  refine enter Try.func47 28 #[.tmp 6] rfl Try.ntmps47 rfl (by decide +kernel) rfl ?_
  obtain ⟨ad, c, rfl⟩ := hv.val
  simp (maxDischargeDepth := 9) only [↓gB, gV, gT, reduceIte, reduceCtorEq, Nat.reduceEqDiff, Nat.reduceAdd, Nat.reduceSub, Nat.reduceLeDiff, Nat.reduceLT, Int.reduceEq, Nat.reduceMul]
  refine Yn2 fun r1 h1 => ?_
  simp (maxDischargeDepth := 9) only [↓gB, gV, gT, reduceIte, reduceCtorEq, Nat.reduceEqDiff, Nat.reduceAdd, Nat.reduceSub, Nat.reduceLeDiff, Nat.reduceLT, Int.reduceEq, Nat.reduceMul, h1]
  focus
    refine Xloop_intro _ _ _ _ _ (fun k f G' => ∃ (i : Nat), k = l.length - i ∧ (i ≤ l.length) ∧ (manyAt l a b h = manyAt (l.drop i) a b h) ∧ (G.put r1 (Go.Obj.cells #[Go.GL.V a, Go.GL.V b] 24, Bool.true) = G') ∧ f 11 = V i ∧ f 2 = Go.GL.V h ∧ f 4 = Go.Value.pointer (Option.some { block := r1, off := 0 }) ∧ f 9 = Go.Value.slice ad l.length c ∧ f 10 = Go.Value.int Go.IntKind.i64 ↑l.length) _ ⟨0, rfl, ?_, ?_, rfl, by simp (maxDischargeDepth := 9) only [↓gB, gV, gT, reduceIte, reduceCtorEq, Nat.reduceEqDiff, Nat.reduceAdd, Nat.reduceSub, Nat.reduceLeDiff, Nat.reduceLT, Int.reduceEq, Nat.reduceMul, h1, and_self]⟩ ?_
    · omega
    · rfl
    rintro k f G' ⟨i, rfl, hi, hf, rfl, f11, f2, f4, f9, f10⟩
  focus
    simp (maxDischargeDepth := 9) only [↓gB, gV, gT, reduceIte, reduceCtorEq, Nat.reduceEqDiff, Nat.reduceAdd, Nat.reduceSub, Nat.reduceLeDiff, Nat.reduceLT, Int.reduceEq, Nat.reduceMul, h1, f11, f2, f4, f9, f10]
    refine Xc_split _ _ _ _ _ (fun c1 => ?_) (fun c1 => ?_)
    rotate_left 1
    focus
      simp (maxDischargeDepth := 9) only [↓gB, gV, gT, reduceIte, reduceCtorEq, Nat.reduceEqDiff, Nat.reduceAdd, Nat.reduceSub, Nat.reduceLeDiff, Nat.reduceLT, Int.reduceEq, Nat.reduceMul, h1, f11, f2, f4, f9, f10, c1]
      refine Kup_val (by simp (maxDischargeDepth := 9) only [le_self, le_puts, le_put0, h1]) ?_
      (rw [hf, List.drop_eq_nil_of_le (by omega)]; rfl; done)
    rotate_right 1
    simp (maxDischargeDepth := 9) only [↓gB, gV, gT, reduceIte, reduceCtorEq, Nat.reduceEqDiff, Nat.reduceAdd, Nat.reduceSub, Nat.reduceLeDiff, Nat.reduceLT, Int.reduceEq, Nat.reduceMul, h1, f11, f2, f4, f9, f10, c1]
    obtain ⟨x1, a1, s1, m1, rfl, rfl, e1⟩ := hv.at (i) (by omega) 4 rfl
    simp (maxDischargeDepth := 9) only [↓gB, gV, gT, reduceIte, reduceCtorEq, Nat.reduceEqDiff, Nat.reduceAdd, Nat.reduceSub, Nat.reduceLeDiff, Nat.reduceLT, Int.reduceEq, Nat.reduceMul, h1, f11, f2, f4, f10, c1, f9, e1]
    refine vguard_intro (by simp) ?_
    refine Yn2 fun r2 h2 => ?_
    have n2 := h2
    simp only [put_none_eq, ne_eq] at n2
    simp (maxDischargeDepth := 9) only [↓gB, gV, gT, reduceIte, reduceCtorEq, Nat.reduceEqDiff, Nat.reduceAdd, Nat.reduceSub, Nat.reduceLeDiff, Nat.reduceLT, Int.reduceEq, Nat.reduceMul, h1, f11, f2, f4, f10, c1, f9, e1, h2, n2]
    by_cases c2 : (x1.a : Int) = a
    rotate_left 1
    focus
      simp (maxDischargeDepth := 9) only [↓gB, gV, gT, reduceIte, reduceCtorEq, Nat.reduceEqDiff, Nat.reduceAdd, Nat.reduceSub, Nat.reduceLeDiff, Nat.reduceLT, Int.reduceEq, Nat.reduceMul, h1, f11, f2, f4, f10, c1, f9, e1, h2, n2, c2]
      have q1 : Go.IntKind.i64.wrap (↑i + 1) = ↑i + 1 := wrap_id (by omega)
      simp (maxDischargeDepth := 9) only [↓gB, gV, gT, reduceIte, reduceCtorEq, Nat.reduceEqDiff, Nat.reduceAdd, Nat.reduceSub, Nat.reduceLeDiff, Nat.reduceLT, Int.reduceEq, Nat.reduceMul, h1, f11, f2, f4, f10, c1, f9, e1, h2, n2, c2, q1]
      rw [N_lp]
      refine ⟨_, ?_, _, ?_, i + 1, rfl, ?_, ?_, rfl, by simp (maxDischargeDepth := 9) only [↓gB, gV, gT, reduceIte, reduceCtorEq, Nat.reduceEqDiff, Nat.reduceAdd, Nat.reduceSub, Nat.reduceLeDiff, Nat.reduceLT, Int.reduceEq, Nat.reduceMul, h1, f11, f2, f4, f10, c1, f9, e1, h2, n2, c2, q1, nat_succ, and_self]⟩
      · omega
      · (simp (maxDischargeDepth := 9) only [le_self, le_puts, le_put0, sub_self, sub_puts, sub_put0, h1, h2, n2]; done)
      · omega
      · (rw [hf, drop_at m1]; simp [manyAt, *]; done)
    rotate_right 1
    simp (maxDischargeDepth := 9) only [↓gB, gV, gT, reduceIte, reduceCtorEq, Nat.reduceEqDiff, Nat.reduceAdd, Nat.reduceSub, Nat.reduceLeDiff, Nat.reduceLT, Int.reduceEq, Nat.reduceMul, h1, f11, f2, f4, f10, c1, f9, e1, h2, n2, c2]
    by_cases c3 : (x1.b : Int) = b
    rotate_left 1
    focus
      simp (maxDischargeDepth := 9) only [↓gB, gV, gT, reduceIte, reduceCtorEq, Nat.reduceEqDiff, Nat.reduceAdd, Nat.reduceSub, Nat.reduceLeDiff, Nat.reduceLT, Int.reduceEq, Nat.reduceMul, h1, f11, f2, f4, f10, c1, f9, e1, h2, n2, c2, c3]
      have q1 : Go.IntKind.i64.wrap (↑i + 1) = ↑i + 1 := wrap_id (by omega)
      simp (maxDischargeDepth := 9) only [↓gB, gV, gT, reduceIte, reduceCtorEq, Nat.reduceEqDiff, Nat.reduceAdd, Nat.reduceSub, Nat.reduceLeDiff, Nat.reduceLT, Int.reduceEq, Nat.reduceMul, h1, f11, f2, f4, f10, c1, f9, e1, h2, n2, c2, c3, q1]
      rw [N_lp]
      refine ⟨_, ?_, _, ?_, i + 1, rfl, ?_, ?_, rfl, by simp (maxDischargeDepth := 9) only [↓gB, gV, gT, reduceIte, reduceCtorEq, Nat.reduceEqDiff, Nat.reduceAdd, Nat.reduceSub, Nat.reduceLeDiff, Nat.reduceLT, Int.reduceEq, Nat.reduceMul, h1, f11, f2, f4, f10, c1, f9, e1, h2, n2, c2, c3, q1, nat_succ, and_self]⟩
      · omega
      · (simp (maxDischargeDepth := 9) only [le_self, le_puts, le_put0, sub_self, sub_puts, sub_put0, h1, h2, n2]; done)
      · omega
      · (rw [hf, drop_at m1]; simp [manyAt, *]; done)
    rotate_right 1
    simp (maxDischargeDepth := 9) only [↓gB, gV, gT, reduceIte, reduceCtorEq, Nat.reduceEqDiff, Nat.reduceAdd, Nat.reduceSub, Nat.reduceLeDiff, Nat.reduceLT, Int.reduceEq, Nat.reduceMul, h1, f11, f2, f4, f10, c1, f9, e1, h2, n2, c2, c3]
    refine Xc_split _ _ _ _ _ (fun c4 => ?_) (fun c4 => ?_)
    rotate_left 1
    focus
      simp (maxDischargeDepth := 9) only [↓gB, gV, gT, reduceIte, reduceCtorEq, Nat.reduceEqDiff, Nat.reduceAdd, Nat.reduceSub, Nat.reduceLeDiff, Nat.reduceLT, Int.reduceEq, Nat.reduceMul, h1, f11, f2, f4, f10, c1, f9, e1, h2, n2, c2, c3, c4]
      have q1 : Go.IntKind.i64.wrap (↑i + 1) = ↑i + 1 := wrap_id (by omega)
      simp (maxDischargeDepth := 9) only [↓gB, gV, gT, reduceIte, reduceCtorEq, Nat.reduceEqDiff, Nat.reduceAdd, Nat.reduceSub, Nat.reduceLeDiff, Nat.reduceLT, Int.reduceEq, Nat.reduceMul, h1, f11, f2, f4, f10, c1, f9, e1, h2, n2, c2, c3, c4, q1]
      rw [N_lp]
      refine ⟨_, ?_, _, ?_, i + 1, rfl, ?_, ?_, rfl, by simp (maxDischargeDepth := 9) only [↓gB, gV, gT, reduceIte, reduceCtorEq, Nat.reduceEqDiff, Nat.reduceAdd, Nat.reduceSub, Nat.reduceLeDiff, Nat.reduceLT, Int.reduceEq, Nat.reduceMul, h1, f11, f2, f4, f10, c1, f9, e1, h2, n2, c2, c3, c4, q1, nat_succ, and_self]⟩
      · omega
      · (simp (maxDischargeDepth := 9) only [le_self, le_puts, le_put0, sub_self, sub_puts, sub_put0, h1, h2, n2]; done)
      · omega
      · (rw [hf, drop_at m1]; simp [manyAt, *]; done)
    rotate_right 1
    simp (maxDischargeDepth := 9) only [↓gB, gV, gT, reduceIte, reduceCtorEq, Nat.reduceEqDiff, Nat.reduceAdd, Nat.reduceSub, Nat.reduceLeDiff, Nat.reduceLT, Int.reduceEq, Nat.reduceMul, h1, f11, f2, f4, f10, c1, f9, e1, h2, n2, c2, c3, c4]
    refine Kup_val (by simp (maxDischargeDepth := 9) only [le_self, le_puts, le_put0, h1, h2, n2]) ?_
    (rw [hf, drop_at m1]; simp [manyAt, *]; done)
def expected (l : List Tly) (a b z cx cy h : Int) : Value :=
  if ¬ orOf [checkTallies l, bi (windowed a b && zoned z)] = 0 then .tuple #[.agg #[V 0, V 0], .bool false, V (orOf [checkTallies l, bi (windowed a b && zoned z)])]
  else if (point cx cy && within h 0 167) = false then .tuple #[.agg #[V 0, V 0], .bool false, V 1]
  else if weeksN a b z h = 0 then .tuple #[.agg #[V 0, V 0], .bool false, V 0]
  else .tuple #[lowest (manyAt l cx cy h) (weeksN a b z h), .bool true, V 0]
theorem weeks_bd {a b z h : Int} (hw : windowed a b = true) : 0 ≤ weeksN a b z h ∧ weeksN a b z h ≤ 1000 := by
  simp only [windowed, Bool.and_eq_true, decide_eq_true_eq, within_iff] at hw
  unfold weeksN; split <;> omega
theorem many_bd {l : List Tly} (h : ∀ x ∈ l, okT x = true) (a b c : Int) : 0 ≤ manyAt l a b c ∧ manyAt l a b c ≤ 1000000000 := by
  unfold manyAt
  split
  · rename_i t ht
    have := h t (List.mem_of_find?_eq_some ht)
    simp only [okT, Bool.and_eq_true, within_iff] at this
    omega
  · omega
theorem bi_zero (b : Bool) : (bi b = 0) = (b = true) := by cases b <;> simp [bi]
theorem or_ok {x : Int} {p q : Bool} (h : orOf [x, bi (p && q)] = 0) : x = 0 ∧ p = true ∧ q = true := by
  rw [orOf2] at h
  split at h
  · rename_i h1
    rw [bi_zero, Bool.and_eq_true] at h
    exact ⟨h1, h.1, h.2⟩
  · rename_i h1; exact absurd h h1
theorem p45 {G0 : GH} {v : Value} {l : List Tly} {a b z cx cy h : Int} (hv : RSl rTly G0 v l) (hn : (l.length : Int) ≤ 9223372036854775807) : Pure Try.prog G0 45 [v, .agg #[V a, V b], V z, .agg #[V cx, V cy], V h] (expected l a b z cx cy h) := by
  intro G hG; replace hv := hv.le hG
  clear hG G0
  refine enter Try.func45 64 #[.cell 10 79, .tmp 11, .tmp 12] rfl Try.ntmps45 rfl (by decide +kernel) rfl ?_
  unfold expected
  obtain ⟨ad, c, rfl⟩ := hv.val
  by_cases he : orOf [checkTallies l, bi (windowed a b && zoned z)] = 0
  · obtain ⟨hc, hw, hz⟩ := or_ok he
    have hso := tly_sorted (ok_of hc).2.1
    have hlen := (ok_of hc).1
    have hb := @weeks_bd a b z h hw
    have hmd := @many_bd l hso.2.2 cx cy h
    have hmb := many_bs ⟨cx, cy, h, 0⟩ hso.1
    focus
      simp (maxDischargeDepth := 9) only [↓gB, gV, gT, reduceIte, reduceCtorEq, Nat.reduceEqDiff, Nat.reduceAdd, Nat.reduceSub, Nat.reduceLeDiff, Nat.reduceLT, Int.reduceEq, Nat.reduceMul, hw, hz, he]
      refine Yn2 fun r1 h1 => ?_
      simp (maxDischargeDepth := 9) only [↓gB, gV, gT, reduceIte, reduceCtorEq, Nat.reduceEqDiff, Nat.reduceAdd, Nat.reduceSub, Nat.reduceLeDiff, Nat.reduceLT, Int.reduceEq, Nat.reduceMul, hw, hz, h1, he]
      refine Yn2 fun r2 h2 => ?_
      have n2 := h2
      simp only [put_none_eq, ne_eq] at n2
      simp (maxDischargeDepth := 9) only [↓gB, gV, gT, reduceIte, reduceCtorEq, Nat.reduceEqDiff, Nat.reduceAdd, Nat.reduceSub, Nat.reduceLeDiff, Nat.reduceLT, Int.reduceEq, Nat.reduceMul, hw, hz, h1, h2, n2, he]
      refine Yn2 fun r3 h3 => ?_
      have n3 := h3
      simp only [put_none_eq, ne_eq] at n3
      simp (maxDischargeDepth := 9) only [↓gB, gV, gT, reduceIte, reduceCtorEq, Nat.reduceEqDiff, Nat.reduceAdd, Nat.reduceSub, Nat.reduceLeDiff, Nat.reduceLT, Int.reduceEq, Nat.reduceMul, hw, hz, h1, h2, n2, h3, n3, he]
      refine Xdraw_intro [0, 2, 3, 1, 4, 5, 6, 7] mixed (by kernel_rfl) (by decide +kernel) ?_
      simp (maxDischargeDepth := 9) only [↓gB, gV, gT, reduceIte, reduceCtorEq, Nat.reduceEqDiff, Nat.reduceAdd, Nat.reduceSub, Nat.reduceLeDiff, Nat.reduceLT, Int.reduceEq, Nat.reduceMul, hw, hz, h1, h2, n2, h3, n3, he]
      refine Ycp (p35 (by exact RSl.le (by assumption) (by simp (maxDischargeDepth := 9) only [le_self, le_puts, le_put0, sub_self, sub_puts, sub_put0, h1, h2, n2, h3, n3])) (by assumption)) ?_
      simp (maxDischargeDepth := 9) only [↓gB, gV, gT, reduceIte, reduceCtorEq, Nat.reduceEqDiff, Nat.reduceAdd, Nat.reduceSub, Nat.reduceLeDiff, Nat.reduceLT, Int.reduceEq, Nat.reduceMul, hw, hz, h1, h2, n2, h3, n3, he]
      refine Ycp (p76) ?_
      simp (maxDischargeDepth := 9) only [↓gB, gV, gT, reduceIte, reduceCtorEq, Nat.reduceEqDiff, Nat.reduceAdd, Nat.reduceSub, Nat.reduceLeDiff, Nat.reduceLT, Int.reduceEq, Nat.reduceMul, hw, hz, h1, h2, n2, h3, n3, he]
      refine Yn1 fun r4 h4 => ?_
      have n4 := h4
      simp only [put_none_eq, ne_eq] at n4
      simp (maxDischargeDepth := 9) only [↓gB, gV, gT, reduceIte, reduceCtorEq, Nat.reduceEqDiff, Nat.reduceAdd, Nat.reduceSub, Nat.reduceLeDiff, Nat.reduceLT, Int.reduceEq, Nat.reduceMul, hw, hz, h1, h2, n2, h3, n3, h4, n4, he]
      refine Ycp (p63 (by exact put_self _ _ _)) ?_
      simp (maxDischargeDepth := 9) only [↓gB, gV, gT, reduceIte, reduceCtorEq, Nat.reduceEqDiff, Nat.reduceAdd, Nat.reduceSub, Nat.reduceLeDiff, Nat.reduceLT, Int.reduceEq, Nat.reduceMul, hw, hz, h1, h2, n2, h3, n3, h4, n4, he]
      refine Xc_split _ _ _ _ _ (fun c1 => ?_) (fun c1 => ?_)
      rotate_left 1
      focus
        simp (maxDischargeDepth := 9) only [↓gB, gV, gT, reduceIte, reduceCtorEq, Nat.reduceEqDiff, Nat.reduceAdd, Nat.reduceSub, Nat.reduceLeDiff, Nat.reduceLT, Int.reduceEq, Nat.reduceMul, hw, hz, h1, h2, n2, h3, n3, h4, n4, c1, he]
        refine Ycp (p48) ?_
        simp (maxDischargeDepth := 9) only [↓gB, gV, gT, reduceIte, reduceCtorEq, Nat.reduceEqDiff, Nat.reduceAdd, Nat.reduceSub, Nat.reduceLeDiff, Nat.reduceLT, Int.reduceEq, Nat.reduceMul, hw, hz, h1, h2, n2, h3, n3, h4, n4, c1, he]
        rcases bool_tf (Go.Proofs.Ytgkdbjnmlecimaa.point cx cy) with c2 | c2
        rotate_left 1
        focus
          simp (maxDischargeDepth := 9) only [↓gB, gV, gT, reduceIte, reduceCtorEq, Nat.reduceEqDiff, Nat.reduceAdd, Nat.reduceSub, Nat.reduceLeDiff, Nat.reduceLT, Int.reduceEq, Nat.reduceMul, hw, hz, h1, h2, n2, h3, n3, h4, n4, c1, c2, he]
          exact Kup_val (by simp (maxDischargeDepth := 9) only [le_self, le_puts, le_put0, h1, h2, n2, h3, n3, h4, n4]) rfl
        rotate_right 1
        simp (maxDischargeDepth := 9) only [↓gB, gV, gT, reduceIte, reduceCtorEq, Nat.reduceEqDiff, Nat.reduceAdd, Nat.reduceSub, Nat.reduceLeDiff, Nat.reduceLT, Int.reduceEq, Nat.reduceMul, hw, hz, h1, h2, n2, h3, n3, h4, n4, c1, c2, he]
        refine Ycp (p49) ?_
        simp (maxDischargeDepth := 9) only [↓gB, gV, gT, reduceIte, reduceCtorEq, Nat.reduceEqDiff, Nat.reduceAdd, Nat.reduceSub, Nat.reduceLeDiff, Nat.reduceLT, Int.reduceEq, Nat.reduceMul, hw, hz, h1, h2, n2, h3, n3, h4, n4, c1, c2, he]
        rcases bool_tf (Go.Proofs.Ytgkdbjnmlecimaa.within h 0 167) with c3 | c3
        rotate_left 1
        focus
          simp (maxDischargeDepth := 9) only [↓gB, gV, gT, reduceIte, reduceCtorEq, Nat.reduceEqDiff, Nat.reduceAdd, Nat.reduceSub, Nat.reduceLeDiff, Nat.reduceLT, Int.reduceEq, Nat.reduceMul, hw, hz, h1, h2, n2, h3, n3, h4, n4, c1, c2, c3, he]
          exact Kup_val (by simp (maxDischargeDepth := 9) only [le_self, le_puts, le_put0, h1, h2, n2, h3, n3, h4, n4]) rfl
        rotate_right 1
        simp (maxDischargeDepth := 9) only [↓gB, gV, gT, reduceIte, reduceCtorEq, Nat.reduceEqDiff, Nat.reduceAdd, Nat.reduceSub, Nat.reduceLeDiff, Nat.reduceLT, Int.reduceEq, Nat.reduceMul, hw, hz, h1, h2, n2, h3, n3, h4, n4, c1, c2, c3, he]
        refine Ycp (p77 (by assumption) (by assumption) (by assumption)) ?_
        simp (maxDischargeDepth := 9) only [↓gB, gV, gT, reduceIte, reduceCtorEq, Nat.reduceEqDiff, Nat.reduceAdd, Nat.reduceSub, Nat.reduceLeDiff, Nat.reduceLT, Int.reduceEq, Nat.reduceMul, hw, hz, h1, h2, n2, h3, n3, h4, n4, c1, c2, c3, he]
        refine Xc_split _ _ _ _ _ (fun c4 => ?_) (fun c4 => ?_)
        rotate_left 1
        focus
          simp (maxDischargeDepth := 9) only [↓gB, gV, gT, reduceIte, reduceCtorEq, Nat.reduceEqDiff, Nat.reduceAdd, Nat.reduceSub, Nat.reduceLeDiff, Nat.reduceLT, Int.reduceEq, Nat.reduceMul, hw, hz, h1, h2, n2, h3, n3, h4, n4, c1, c2, c3, c4, he]
        rotate_right 1
        simp (maxDischargeDepth := 9) only [↓gB, gV, gT, reduceIte, reduceCtorEq, Nat.reduceEqDiff, Nat.reduceAdd, Nat.reduceSub, Nat.reduceLeDiff, Nat.reduceLT, Int.reduceEq, Nat.reduceMul, hw, hz, h1, h2, n2, h3, n3, h4, n4, c1, c2, c3, c4, he]
        exact Kup_val (by simp (maxDischargeDepth := 9) only [le_self, le_puts, le_put0, h1, h2, n2, h3, n3, h4, n4]) rfl
      rotate_right 1
      simp (maxDischargeDepth := 9) only [↓gB, gV, gT, reduceIte, reduceCtorEq, Nat.reduceEqDiff, Nat.reduceAdd, Nat.reduceSub, Nat.reduceLeDiff, Nat.reduceLT, Int.reduceEq, Nat.reduceMul, hw, hz, h1, h2, n2, h3, n3, h4, n4, c1, he]
      exact Kup_val (by simp (maxDischargeDepth := 9) only [le_self, le_puts, le_put0, h1, h2, n2, h3, n3, h4, n4]) rfl
    refine Ycp (p78 (cf := fun x => tcmp x ⟨cx, cy, h, 0⟩) (fa := []) (fb := []) (hv := RSl.le hv (by simp (maxDischargeDepth := 9) only [le_self, le_puts, h1, h2, h3, h4])) (of_eq_true en71) (by omega) (mono_bs ⟨cx, cy, h, 0⟩ hso.1) (fun G' _ x cs hx => by cases hx; exact p71)) ?_
    simp (maxDischargeDepth := 9) only [↓gB, gV, gT, reduceIte, reduceCtorEq, Nat.reduceEqDiff, Nat.reduceAdd, Nat.reduceSub, Nat.reduceLeDiff, Nat.reduceLT, Int.reduceEq, Nat.reduceMul, hw, hz, h1, h2, n2, h3, n3, h4, n4, c1, c2, c3, c4, he]
    generalize hcf : (fun x => tcmp x ⟨cx, cy, h, 0⟩) = cf at *
    rcases bool_tf (bsHas cf l) with hbs | hbs
    · have hlt : bsPos cf l < l.length := by
        unfold bsHas at hbs
        by_cases hh : bsPos cf l < l.length
        · exact hh
        · rw [List.getElem?_eq_none (by omega)] at hbs; cases hbs
      simp (maxDischargeDepth := 9) only [↓gB, gV, gT, reduceIte, reduceCtorEq, Nat.reduceEqDiff, Nat.reduceAdd, Nat.reduceSub, Nat.reduceLeDiff, Nat.reduceLT, Int.reduceEq, Nat.reduceMul, hw, hz, h1, h2, n2, h3, n3, h4, n4, c1, c2, c3, c4, hbs, he]
      obtain ⟨x1, a1, s1, m1, rfl, rfl, e1⟩ := hv.at (Go.GL.bsPos cf l) (by omega) 4 rfl
      simp (maxDischargeDepth := 9) only [↓gB, gV, gT, reduceIte, reduceCtorEq, Nat.reduceEqDiff, Nat.reduceAdd, Nat.reduceSub, Nat.reduceLeDiff, Nat.reduceLT, Int.reduceEq, Nat.reduceMul, hw, hz, h1, h2, n2, h3, n3, h4, n4, c1, c2, c3, c4, hbs, e1, he]
      refine vguard_intro (by omega) ?_
      have hk : x1.k = manyAt l cx cy h := by
        have h0 : tcmp x1 ⟨cx, cy, h, 0⟩ = 0 := by
          unfold bsHas at hbs; rw [m1] at hbs; subst hcf; simpa using hbs
        simp only [m1] at hmb
        rw [if_pos h0] at hmb
        exact hmb.symm
      simp (maxDischargeDepth := 9) only [↓gB, gV, gT, reduceIte, reduceCtorEq, Nat.reduceEqDiff, Nat.reduceAdd, Nat.reduceSub, Nat.reduceLeDiff, Nat.reduceLT, Int.reduceEq, Nat.reduceMul, hw, hz, h1, h2, n2, h3, n3, h4, n4, c1, c2, c3, c4, hbs, e1, hk, lowest]
      refine Ycp (p79 (by omega) (by omega) (by omega) (by omega)) ?_
      simp (maxDischargeDepth := 9) only [↓gB, gV, gT, reduceIte, reduceCtorEq, Nat.reduceEqDiff, Nat.reduceAdd, Nat.reduceSub, Nat.reduceLeDiff, Nat.reduceLT, Int.reduceEq, Nat.reduceMul, hw, hz, h1, h2, n2, h3, n3, h4, n4, c1, c2, c3, c4, hbs, e1, hk, lowest]
      exact Kup_val (by simp (maxDischargeDepth := 9) only [le_self, le_puts, le_put0, h1, h2, n2, h3, n3, h4, n4]) rfl
    · have hk : manyAt l cx cy h = 0 := by
        have hmb' := hmb
        simp only at hmb'
        rw [hmb']
        cases hx : l[bsPos cf l]? with
        | none => rfl
        | some x =>
          unfold bsHas at hbs; rw [hx] at hbs
          subst hcf
          simp at hbs
          simp [hbs]
      simp (maxDischargeDepth := 9) only [↓gB, gV, gT, reduceIte, reduceCtorEq, Nat.reduceEqDiff, Nat.reduceAdd, Nat.reduceSub, Nat.reduceLeDiff, Nat.reduceLT, Int.reduceEq, Nat.reduceMul, hw, hz, h1, h2, n2, h3, n3, h4, n4, c1, c2, c3, c4, hbs, he, hk, lowest]
      refine Ycp (p79 (by omega) (by omega) (by omega) (by omega)) ?_
      simp (maxDischargeDepth := 9) only [↓gB, gV, gT, reduceIte, reduceCtorEq, Nat.reduceEqDiff, Nat.reduceAdd, Nat.reduceSub, Nat.reduceLeDiff, Nat.reduceLT, Int.reduceEq, Nat.reduceMul, hw, hz, h1, h2, n2, h3, n3, h4, n4, c1, c2, c3, c4, hbs, he, hk, lowest]
      exact Kup_val (by simp (maxDischargeDepth := 9) only [le_self, le_puts, le_put0, h1, h2, n2, h3, n3, h4, n4]) rfl
  · simp (maxDischargeDepth := 9) only [↓gB, gV, gT, reduceIte, reduceCtorEq, Nat.reduceEqDiff, Nat.reduceAdd, Nat.reduceSub, Nat.reduceLeDiff, Nat.reduceLT, Int.reduceEq, Nat.reduceMul, he]
    refine Yn2 fun r1 h1 => ?_
    simp (maxDischargeDepth := 9) only [↓gB, gV, gT, reduceIte, reduceCtorEq, Nat.reduceEqDiff, Nat.reduceAdd, Nat.reduceSub, Nat.reduceLeDiff, Nat.reduceLT, Int.reduceEq, Nat.reduceMul, h1, he]
    refine Yn2 fun r2 h2 => ?_
    have n2 := h2
    simp only [put_none_eq, ne_eq] at n2
    simp (maxDischargeDepth := 9) only [↓gB, gV, gT, reduceIte, reduceCtorEq, Nat.reduceEqDiff, Nat.reduceAdd, Nat.reduceSub, Nat.reduceLeDiff, Nat.reduceLT, Int.reduceEq, Nat.reduceMul, h1, h2, n2, he]
    refine Yn2 fun r3 h3 => ?_
    have n3 := h3
    simp only [put_none_eq, ne_eq] at n3
    simp (maxDischargeDepth := 9) only [↓gB, gV, gT, reduceIte, reduceCtorEq, Nat.reduceEqDiff, Nat.reduceAdd, Nat.reduceSub, Nat.reduceLeDiff, Nat.reduceLT, Int.reduceEq, Nat.reduceMul, h1, h2, n2, h3, n3, he]
    refine Xdraw_intro [0, 2, 3, 1, 4, 5, 6, 7] mixed (by kernel_rfl) (by decide +kernel) ?_
    simp (maxDischargeDepth := 9) only [↓gB, gV, gT, reduceIte, reduceCtorEq, Nat.reduceEqDiff, Nat.reduceAdd, Nat.reduceSub, Nat.reduceLeDiff, Nat.reduceLT, Int.reduceEq, Nat.reduceMul, h1, h2, n2, h3, n3, he]
    refine Ycp (p35 (by exact RSl.le (by assumption) (by simp (maxDischargeDepth := 9) only [le_self, le_puts, le_put0, sub_self, sub_puts, sub_put0, h1, h2, n2, h3, n3])) (by assumption)) ?_
    simp (maxDischargeDepth := 9) only [↓gB, gV, gT, reduceIte, reduceCtorEq, Nat.reduceEqDiff, Nat.reduceAdd, Nat.reduceSub, Nat.reduceLeDiff, Nat.reduceLT, Int.reduceEq, Nat.reduceMul, h1, h2, n2, h3, n3, he]
    refine Ycp (p76) ?_
    simp (maxDischargeDepth := 9) only [↓gB, gV, gT, reduceIte, reduceCtorEq, Nat.reduceEqDiff, Nat.reduceAdd, Nat.reduceSub, Nat.reduceLeDiff, Nat.reduceLT, Int.reduceEq, Nat.reduceMul, h1, h2, n2, h3, n3, he]
    refine Yn1 fun r4 h4 => ?_
    have n4 := h4
    simp only [put_none_eq, ne_eq] at n4
    simp (maxDischargeDepth := 9) only [↓gB, gV, gT, reduceIte, reduceCtorEq, Nat.reduceEqDiff, Nat.reduceAdd, Nat.reduceSub, Nat.reduceLeDiff, Nat.reduceLT, Int.reduceEq, Nat.reduceMul, h1, h2, n2, h3, n3, h4, n4, he]
    refine Ycp (p63 (by exact put_self _ _ _)) ?_
    simp (maxDischargeDepth := 9) only [↓gB, gV, gT, reduceIte, reduceCtorEq, Nat.reduceEqDiff, Nat.reduceAdd, Nat.reduceSub, Nat.reduceLeDiff, Nat.reduceLT, Int.reduceEq, Nat.reduceMul, h1, h2, n2, h3, n3, h4, n4, he]
    exact Kup_val (by simp (maxDischargeDepth := 9) only [le_self, le_puts, le_put0, h1, h2, n2, h3, n3, h4, n4]) rfl
end Go.Proofs.Ytgkdbjnmlecimaa
