/- The law CallsCounted (second form, up to the bulk): a part of its proof. No conditions. -/
import Derived.Test.YtgkdbjnmlecimaaTryTy
set_option linter.unusedSimpArgs false
set_option linter.unusedVariables false
namespace Go.Proofs.Ytgkdbjnmlecimaa
open Go Go.GL
theorem mixed : Try.prog.follows .mixedOrders = true := by kernel_rfl
theorem en6 : GL.Enters Try.prog 6 = True := eq_true ⟨Try.f6, Try.func6, by decide +kernel, rfl⟩
theorem en7 : GL.Enters Try.prog 7 = True := eq_true ⟨Try.f7, Try.func7, by decide +kernel, rfl⟩
theorem en8 : GL.Enters Try.prog 8 = True := eq_true ⟨Try.f8, Try.func8, by decide +kernel, rfl⟩
theorem en9 : GL.Enters Try.prog 9 = True := eq_true ⟨Try.f9, Try.func9, by decide +kernel, rfl⟩
theorem en10 : GL.Enters Try.prog 10 = True := eq_true ⟨Try.f10, Try.func10, by decide +kernel, rfl⟩
theorem en11 : GL.Enters Try.prog 11 = True := eq_true ⟨Try.f11, Try.func11, by decide +kernel, rfl⟩
theorem en12 : GL.Enters Try.prog 12 = True := eq_true ⟨Try.f12, Try.func12, by decide +kernel, rfl⟩
theorem en13 : GL.Enters Try.prog 13 = True := eq_true ⟨Try.f13, Try.func13, by decide +kernel, rfl⟩
theorem en14 : GL.Enters Try.prog 14 = True := eq_true ⟨Try.f14, Try.func14, by decide +kernel, rfl⟩
theorem en15 : GL.Enters Try.prog 15 = True := eq_true ⟨Try.f15, Try.func15, by decide +kernel, rfl⟩
theorem en16 : GL.Enters Try.prog 16 = True := eq_true ⟨Try.f16, Try.func16, by decide +kernel, rfl⟩
theorem en17 : GL.Enters Try.prog 17 = True := eq_true ⟨Try.f17, Try.func17, by decide +kernel, rfl⟩
theorem en18 : GL.Enters Try.prog 18 = True := eq_true ⟨Try.f18, Try.func18, by decide +kernel, rfl⟩
theorem en19 : GL.Enters Try.prog 19 = True := eq_true ⟨Try.f19, Try.func19, by decide +kernel, rfl⟩
theorem en20 : GL.Enters Try.prog 20 = True := eq_true ⟨Try.f20, Try.func20, by decide +kernel, rfl⟩
theorem en21 : GL.Enters Try.prog 21 = True := eq_true ⟨Try.f21, Try.func21, by decide +kernel, rfl⟩
theorem en48 : GL.Enters Try.prog 48 = True := eq_true ⟨Try.f48, Try.func48, by decide +kernel, rfl⟩
theorem en49 : GL.Enters Try.prog 49 = True := eq_true ⟨Try.f49, Try.func49, by decide +kernel, rfl⟩
theorem en50 : GL.Enters Try.prog 50 = True := eq_true ⟨Try.f50, Try.func50, by decide +kernel, rfl⟩
theorem en51 : GL.Enters Try.prog 51 = True := eq_true ⟨Try.f51, Try.func51, by decide +kernel, rfl⟩
theorem en52 : GL.Enters Try.prog 52 = True := eq_true ⟨Try.f52, Try.func52, by decide +kernel, rfl⟩
theorem en53 : GL.Enters Try.prog 53 = True := eq_true ⟨Try.f53, Try.func53, by decide +kernel, rfl⟩
theorem en54 : GL.Enters Try.prog 54 = True := eq_true ⟨Try.f54, Try.func54, by decide +kernel, rfl⟩
theorem en55 : GL.Enters Try.prog 55 = True := eq_true ⟨Try.f55, Try.func55, by decide +kernel, rfl⟩
theorem en56 : GL.Enters Try.prog 56 = True := eq_true ⟨Try.f56, Try.func56, by decide +kernel, rfl⟩
theorem en57 : GL.Enters Try.prog 57 = True := eq_true ⟨Try.f57, Try.func57, by decide +kernel, rfl⟩
theorem en58 : GL.Enters Try.prog 58 = True := eq_true ⟨Try.f58, Try.func58, by decide +kernel, rfl⟩
theorem en59 : GL.Enters Try.prog 59 = True := eq_true ⟨Try.f59, Try.func59, by decide +kernel, rfl⟩
theorem en60 : GL.Enters Try.prog 60 = True := eq_true ⟨Try.f60, Try.func60, by decide +kernel, rfl⟩
theorem en66 : GL.Enters Try.prog 66 = True := eq_true ⟨Try.f66, Try.func66, by decide +kernel, rfl⟩
theorem en70 : GL.Enters Try.prog 70 = True := eq_true ⟨Try.f70, Try.func70, by decide +kernel, rfl⟩
theorem en71 : GL.Enters Try.prog 71 = True := eq_true ⟨Try.f71, Try.func71, by decide +kernel, rfl⟩
theorem en81 : GL.Enters Try.prog 81 = True := eq_true ⟨Try.f81, Try.func81, by decide +kernel, rfl⟩
theorem en82 : GL.Enters Try.prog 82 = True := eq_true ⟨Try.f82, Try.func82, by decide +kernel, rfl⟩
theorem en83 : GL.Enters Try.prog 83 = True := eq_true ⟨Try.f83, Try.func83, by decide +kernel, rfl⟩
theorem en90 : GL.Enters Try.prog 90 = True := eq_true ⟨Try.f90, Try.func90, by decide +kernel, rfl⟩
end Go.Proofs.Ytgkdbjnmlecimaa
