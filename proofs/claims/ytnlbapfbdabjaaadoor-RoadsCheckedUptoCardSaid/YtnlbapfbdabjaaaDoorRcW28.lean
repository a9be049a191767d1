/- A part of a proof: RoadsChecked, where what it reads is of bulk at most 1048576: the law holds of the program. No conditions but the statement's own. -/
import Derived.Shelf.Strings.SlTrimAscii
import Derived.Shelf.Small.Strs
import Derived.Test.YtnlbapfbdabjaaaDoorRcGlL
import Derived.Test.YtnlbapfbdabjaaaDoorRcGlN
import Derived.Test.YtnlbapfbdabjaaaDoorRcGlU
import Derived.Test.YtnlbapfbdabjaaaDoorRcGlY
import Derived.Test.YtnlbapfbdabjaaaDoorRcSh
import Derived.Test.YtnlbapfbdabjaaaDoorRcW27
set_option linter.unusedSimpArgs false
set_option linter.unusedVariables false
set_option linter.unusedSectionVars false
namespace Go.Proofs.YtnlbapfbdabjaaaDoor
open Go Go.GL
theorem mixed : Tryd.prog.follows .mixedOrders = true := by kernel_rfl
theorem en3 : GL.Enters Tryd.prog 3 = True := eq_true ⟨Tryd.f3, Tryd.func3, by decide +kernel, rfl⟩
theorem en4 : GL.Enters Tryd.prog 4 = True := eq_true ⟨Tryd.f4, Tryd.func4, by decide +kernel, rfl⟩
theorem en5 : GL.Enters Tryd.prog 5 = True := eq_true ⟨Tryd.f5, Tryd.func5, by decide +kernel, rfl⟩
theorem en6 : GL.Enters Tryd.prog 6 = True := eq_true ⟨Tryd.f6, Tryd.func6, by decide +kernel, rfl⟩
theorem en7 : GL.Enters Tryd.prog 7 = True := eq_true ⟨Tryd.f7, Tryd.func7, by decide +kernel, rfl⟩
theorem en8 : GL.Enters Tryd.prog 8 = True := eq_true ⟨Tryd.f8, Tryd.func8, by decide +kernel, rfl⟩
theorem en9 : GL.Enters Tryd.prog 9 = True := eq_true ⟨Tryd.f9, Tryd.func9, by decide +kernel, rfl⟩
theorem en10 : GL.Enters Tryd.prog 10 = True := eq_true ⟨Tryd.f10, Tryd.func10, by decide +kernel, rfl⟩
theorem en11 : GL.Enters Tryd.prog 11 = True := eq_true ⟨Tryd.f11, Tryd.func11, by decide +kernel, rfl⟩
theorem en12 : GL.Enters Tryd.prog 12 = True := eq_true ⟨Tryd.f12, Tryd.func12, by decide +kernel, rfl⟩
theorem en13 : GL.Enters Tryd.prog 13 = True := eq_true ⟨Tryd.f13, Tryd.func13, by decide +kernel, rfl⟩
theorem en14 : GL.Enters Tryd.prog 14 = True := eq_true ⟨Tryd.f14, Tryd.func14, by decide +kernel, rfl⟩
theorem en15 : GL.Enters Tryd.prog 15 = True := eq_true ⟨Tryd.f15, Tryd.func15, by decide +kernel, rfl⟩
theorem en16 : GL.Enters Tryd.prog 16 = True := eq_true ⟨Tryd.f16, Tryd.func16, by decide +kernel, rfl⟩
theorem en17 : GL.Enters Tryd.prog 17 = True := eq_true ⟨Tryd.f17, Tryd.func17, by decide +kernel, rfl⟩
theorem en18 : GL.Enters Tryd.prog 18 = True := eq_true ⟨Tryd.f18, Tryd.func18, by decide +kernel, rfl⟩
theorem en19 : GL.Enters Tryd.prog 19 = True := eq_true ⟨Tryd.f19, Tryd.func19, by decide +kernel, rfl⟩
theorem en20 : GL.Enters Tryd.prog 20 = True := eq_true ⟨Tryd.f20, Tryd.func20, by decide +kernel, rfl⟩
theorem en21 : GL.Enters Tryd.prog 21 = True := eq_true ⟨Tryd.f21, Tryd.func21, by decide +kernel, rfl⟩
theorem en22 : GL.Enters Tryd.prog 22 = True := eq_true ⟨Tryd.f22, Tryd.func22, by decide +kernel, rfl⟩
theorem en23 : GL.Enters Tryd.prog 23 = True := eq_true ⟨Tryd.f23, Tryd.func23, by decide +kernel, rfl⟩
theorem en24 : GL.Enters Tryd.prog 24 = True := eq_true ⟨Tryd.f24, Tryd.func24, by decide +kernel, rfl⟩
theorem en25 : GL.Enters Tryd.prog 25 = True := eq_true ⟨Tryd.f25, Tryd.func25, by decide +kernel, rfl⟩
theorem en26 : GL.Enters Tryd.prog 26 = True := eq_true ⟨Tryd.f26, Tryd.func26, by decide +kernel, rfl⟩
theorem en27 : GL.Enters Tryd.prog 27 = True := eq_true ⟨Tryd.f27, Tryd.func27, by decide +kernel, rfl⟩
theorem en28 : GL.Enters Tryd.prog 28 = True := eq_true ⟨Tryd.f28, Tryd.func28, by decide +kernel, rfl⟩
theorem en29 : GL.Enters Tryd.prog 29 = True := eq_true ⟨Tryd.f29, Tryd.func29, by decide +kernel, rfl⟩
theorem en30 : GL.Enters Tryd.prog 30 = True := eq_true ⟨Tryd.f30, Tryd.func30, by decide +kernel, rfl⟩
theorem en31 : GL.Enters Tryd.prog 31 = True := eq_true ⟨Tryd.f31, Tryd.func31, by decide +kernel, rfl⟩
theorem en32 : GL.Enters Tryd.prog 32 = True := eq_true ⟨Tryd.f32, Tryd.func32, by decide +kernel, rfl⟩
theorem en33 : GL.Enters Tryd.prog 33 = True := eq_true ⟨Tryd.f33, Tryd.func33, by decide +kernel, rfl⟩
theorem en34 : GL.Enters Tryd.prog 34 = True := eq_true ⟨Tryd.f34, Tryd.func34, by decide +kernel, rfl⟩
theorem en35 : GL.Enters Tryd.prog 35 = True := eq_true ⟨Tryd.f35, Tryd.func35, by decide +kernel, rfl⟩
theorem en36 : GL.Enters Tryd.prog 36 = True := eq_true ⟨Tryd.f36, Tryd.func36, by decide +kernel, rfl⟩
theorem en37 : GL.Enters Tryd.prog 37 = True := eq_true ⟨Tryd.f37, Tryd.func37, by decide +kernel, rfl⟩
theorem en38 : GL.Enters Tryd.prog 38 = True := eq_true ⟨Tryd.f38, Tryd.func38, by decide +kernel, rfl⟩
theorem en39 : GL.Enters Tryd.prog 39 = True := eq_true ⟨Tryd.f39, Tryd.func39, by decide +kernel, rfl⟩
theorem en40 : GL.Enters Tryd.prog 40 = True := eq_true ⟨Tryd.f40, Tryd.func40, by decide +kernel, rfl⟩
theorem en41 : GL.Enters Tryd.prog 41 = True := eq_true ⟨Tryd.f41, Tryd.func41, by decide +kernel, rfl⟩
theorem en42 : GL.Enters Tryd.prog 42 = True := eq_true ⟨Tryd.f42, Tryd.func42, by decide +kernel, rfl⟩
theorem en43 : GL.Enters Tryd.prog 43 = True := eq_true ⟨Tryd.f43, Tryd.func43, by decide +kernel, rfl⟩
theorem en44 : GL.Enters Tryd.prog 44 = True := eq_true ⟨Tryd.f44, Tryd.func44, by decide +kernel, rfl⟩
theorem en45 : GL.Enters Tryd.prog 45 = True := eq_true ⟨Tryd.f45, Tryd.func45, by decide +kernel, rfl⟩
theorem en46 : GL.Enters Tryd.prog 46 = True := eq_true ⟨Tryd.f46, Tryd.func46, by decide +kernel, rfl⟩
theorem en47 : GL.Enters Tryd.prog 47 = True := eq_true ⟨Tryd.f47, Tryd.func47, by decide +kernel, rfl⟩
theorem en48 : GL.Enters Tryd.prog 48 = True := eq_true ⟨Tryd.f48, Tryd.func48, by decide +kernel, rfl⟩
theorem en49 : GL.Enters Tryd.prog 49 = True := eq_true ⟨Tryd.f49, Tryd.func49, by decide +kernel, rfl⟩
theorem en50 : GL.Enters Tryd.prog 50 = True := eq_true ⟨Tryd.f50, Tryd.func50, by decide +kernel, rfl⟩
theorem en51 : GL.Enters Tryd.prog 51 = True := eq_true ⟨Tryd.f51, Tryd.func51, by decide +kernel, rfl⟩
theorem en52 : GL.Enters Tryd.prog 52 = True := eq_true ⟨Tryd.f52, Tryd.func52, by decide +kernel, rfl⟩
theorem en53 : GL.Enters Tryd.prog 53 = True := eq_true ⟨Tryd.f53, Tryd.func53, by decide +kernel, rfl⟩
theorem en54 : GL.Enters Tryd.prog 54 = True := eq_true ⟨Tryd.f54, Tryd.func54, by decide +kernel, rfl⟩
theorem en55 : GL.Enters Tryd.prog 55 = True := eq_true ⟨Tryd.f55, Tryd.func55, by decide +kernel, rfl⟩
theorem en56 : GL.Enters Tryd.prog 56 = True := eq_true ⟨Tryd.f56, Tryd.func56, by decide +kernel, rfl⟩
theorem en57 : GL.Enters Tryd.prog 57 = True := eq_true ⟨Tryd.f57, Tryd.func57, by decide +kernel, rfl⟩
theorem en58 : GL.Enters Tryd.prog 58 = True := eq_true ⟨Tryd.f58, Tryd.func58, by decide +kernel, rfl⟩
theorem en59 : GL.Enters Tryd.prog 59 = True := eq_true ⟨Tryd.f59, Tryd.func59, by decide +kernel, rfl⟩
theorem en60 : GL.Enters Tryd.prog 60 = True := eq_true ⟨Tryd.f60, Tryd.func60, by decide +kernel, rfl⟩
theorem en61 : GL.Enters Tryd.prog 61 = True := eq_true ⟨Tryd.f61, Tryd.func61, by decide +kernel, rfl⟩
theorem en62 : GL.Enters Tryd.prog 62 = True := eq_true ⟨Tryd.f62, Tryd.func62, by decide +kernel, rfl⟩
theorem en63 : GL.Enters Tryd.prog 63 = True := eq_true ⟨Tryd.f63, Tryd.func63, by decide +kernel, rfl⟩
theorem en64 : GL.Enters Tryd.prog 64 = True := eq_true ⟨Tryd.f64, Tryd.func64, by decide +kernel, rfl⟩
theorem en65 : GL.Enters Tryd.prog 65 = True := eq_true ⟨Tryd.f65, Tryd.func65, by decide +kernel, rfl⟩
theorem en66 : GL.Enters Tryd.prog 66 = True := eq_true ⟨Tryd.f66, Tryd.func66, by decide +kernel, rfl⟩
theorem en67 : GL.Enters Tryd.prog 67 = True := eq_true ⟨Tryd.f67, Tryd.func67, by decide +kernel, rfl⟩
theorem en68 : GL.Enters Tryd.prog 68 = True := eq_true ⟨Tryd.f68, Tryd.func68, by decide +kernel, rfl⟩
theorem en69 : GL.Enters Tryd.prog 69 = True := eq_true ⟨Tryd.f69, Tryd.func69, by decide +kernel, rfl⟩
theorem en70 : GL.Enters Tryd.prog 70 = True := eq_true ⟨Tryd.f70, Tryd.func70, by decide +kernel, rfl⟩
theorem en71 : GL.Enters Tryd.prog 71 = True := eq_true ⟨Tryd.f71, Tryd.func71, by decide +kernel, rfl⟩
theorem en72 : GL.Enters Tryd.prog 72 = True := eq_true ⟨Tryd.f72, Tryd.func72, by decide +kernel, rfl⟩
theorem en73 : GL.Enters Tryd.prog 73 = True := eq_true ⟨Tryd.f73, Tryd.func73, by decide +kernel, rfl⟩
theorem en74 : GL.Enters Tryd.prog 74 = True := eq_true ⟨Tryd.f74, Tryd.func74, by decide +kernel, rfl⟩
theorem en75 : GL.Enters Tryd.prog 75 = True := eq_true ⟨Tryd.f75, Tryd.func75, by decide +kernel, rfl⟩
theorem en76 : GL.Enters Tryd.prog 76 = True := eq_true ⟨Tryd.f76, Tryd.func76, by decide +kernel, rfl⟩
theorem en77 : GL.Enters Tryd.prog 77 = True := eq_true ⟨Tryd.f77, Tryd.func77, by decide +kernel, rfl⟩
theorem en78 : GL.Enters Tryd.prog 78 = True := eq_true ⟨Tryd.f78, Tryd.func78, by decide +kernel, rfl⟩
theorem en79 : GL.Enters Tryd.prog 79 = True := eq_true ⟨Tryd.f79, Tryd.func79, by decide +kernel, rfl⟩
theorem en80 : GL.Enters Tryd.prog 80 = True := eq_true ⟨Tryd.f80, Tryd.func80, by decide +kernel, rfl⟩
theorem en81 : GL.Enters Tryd.prog 81 = True := eq_true ⟨Tryd.f81, Tryd.func81, by decide +kernel, rfl⟩
theorem en82 : GL.Enters Tryd.prog 82 = True := eq_true ⟨Tryd.f82, Tryd.func82, by decide +kernel, rfl⟩
theorem en83 : GL.Enters Tryd.prog 83 = True := eq_true ⟨Tryd.f83, Tryd.func83, by decide +kernel, rfl⟩
theorem en84 : GL.Enters Tryd.prog 84 = True := eq_true ⟨Tryd.f84, Tryd.func84, by decide +kernel, rfl⟩
theorem en85 : GL.Enters Tryd.prog 85 = True := eq_true ⟨Tryd.f85, Tryd.func85, by decide +kernel, rfl⟩
theorem en86 : GL.Enters Tryd.prog 86 = True := eq_true ⟨Tryd.f86, Tryd.func86, by decide +kernel, rfl⟩
theorem en87 : GL.Enters Tryd.prog 87 = True := eq_true ⟨Tryd.f87, Tryd.func87, by decide +kernel, rfl⟩
theorem en88 : GL.Enters Tryd.prog 88 = True := eq_true ⟨Tryd.f88, Tryd.func88, by decide +kernel, rfl⟩
theorem en89 : GL.Enters Tryd.prog 89 = True := eq_true ⟨Tryd.f89, Tryd.func89, by decide +kernel, rfl⟩
theorem en90 : GL.Enters Tryd.prog 90 = True := eq_true ⟨Tryd.f90, Tryd.func90, by decide +kernel, rfl⟩
theorem en91 : GL.Enters Tryd.prog 91 = True := eq_true ⟨Tryd.f91, Tryd.func91, by decide +kernel, rfl⟩
theorem en92 : GL.Enters Tryd.prog 92 = True := eq_true ⟨Tryd.f92, Tryd.func92, by decide +kernel, rfl⟩
theorem en93 : GL.Enters Tryd.prog 93 = True := eq_true ⟨Tryd.f93, Tryd.func93, by decide +kernel, rfl⟩
theorem en94 : GL.Enters Tryd.prog 94 = True := eq_true ⟨Tryd.f94, Tryd.func94, by decide +kernel, rfl⟩
theorem en95 : GL.Enters Tryd.prog 95 = True := eq_true ⟨Tryd.f95, Tryd.func95, by decide +kernel, rfl⟩
theorem en96 : GL.Enters Tryd.prog 96 = True := eq_true ⟨Tryd.f96, Tryd.func96, by decide +kernel, rfl⟩
theorem en97 : GL.Enters Tryd.prog 97 = True := eq_true ⟨Tryd.f97, Tryd.func97, by decide +kernel, rfl⟩
theorem en98 : GL.Enters Tryd.prog 98 = True := eq_true ⟨Tryd.f98, Tryd.func98, by decide +kernel, rfl⟩
theorem en99 : GL.Enters Tryd.prog 99 = True := eq_true ⟨Tryd.f99, Tryd.func99, by decide +kernel, rfl⟩
theorem en100 : GL.Enters Tryd.prog 100 = True := eq_true ⟨Tryd.f100, Tryd.func100, by decide +kernel, rfl⟩
theorem en101 : GL.Enters Tryd.prog 101 = True := eq_true ⟨Tryd.f101, Tryd.func101, by decide +kernel, rfl⟩
theorem en102 : GL.Enters Tryd.prog 102 = True := eq_true ⟨Tryd.f102, Tryd.func102, by decide +kernel, rfl⟩
theorem en103 : GL.Enters Tryd.prog 103 = True := eq_true ⟨Tryd.f103, Tryd.func103, by decide +kernel, rfl⟩
theorem en104 : GL.Enters Tryd.prog 104 = True := eq_true ⟨Tryd.f104, Tryd.func104, by decide +kernel, rfl⟩
theorem en105 : GL.Enters Tryd.prog 105 = True := eq_true ⟨Tryd.f105, Tryd.func105, by decide +kernel, rfl⟩
theorem en106 : GL.Enters Tryd.prog 106 = True := eq_true ⟨Tryd.f106, Tryd.func106, by decide +kernel, rfl⟩
theorem en107 : GL.Enters Tryd.prog 107 = True := eq_true ⟨Tryd.f107, Tryd.func107, by decide +kernel, rfl⟩
theorem en108 : GL.Enters Tryd.prog 108 = True := eq_true ⟨Tryd.f108, Tryd.func108, by decide +kernel, rfl⟩
theorem en109 : GL.Enters Tryd.prog 109 = True := eq_true ⟨Tryd.f109, Tryd.func109, by decide +kernel, rfl⟩
theorem en110 : GL.Enters Tryd.prog 110 = True := eq_true ⟨Tryd.f110, Tryd.func110, by decide +kernel, rfl⟩
theorem en111 : GL.Enters Tryd.prog 111 = True := eq_true ⟨Tryd.f111, Tryd.func111, by decide +kernel, rfl⟩
theorem en112 : GL.Enters Tryd.prog 112 = True := eq_true ⟨Tryd.f112, Tryd.func112, by decide +kernel, rfl⟩
theorem en113 : GL.Enters Tryd.prog 113 = True := eq_true ⟨Tryd.f113, Tryd.func113, by decide +kernel, rfl⟩
theorem en114 : GL.Enters Tryd.prog 114 = True := eq_true ⟨Tryd.f114, Tryd.func114, by decide +kernel, rfl⟩
theorem en115 : GL.Enters Tryd.prog 115 = True := eq_true ⟨Tryd.f115, Tryd.func115, by decide +kernel, rfl⟩
theorem en116 : GL.Enters Tryd.prog 116 = True := eq_true ⟨Tryd.f116, Tryd.func116, by decide +kernel, rfl⟩
theorem en117 : GL.Enters Tryd.prog 117 = True := eq_true ⟨Tryd.f117, Tryd.func117, by decide +kernel, rfl⟩
theorem en118 : GL.Enters Tryd.prog 118 = True := eq_true ⟨Tryd.f118, Tryd.func118, by decide +kernel, rfl⟩
theorem en119 : GL.Enters Tryd.prog 119 = True := eq_true ⟨Tryd.f119, Tryd.func119, by decide +kernel, rfl⟩
theorem en120 : GL.Enters Tryd.prog 120 = True := eq_true ⟨Tryd.f120, Tryd.func120, by decide +kernel, rfl⟩
theorem en121 : GL.Enters Tryd.prog 121 = True := eq_true ⟨Tryd.f121, Tryd.func121, by decide +kernel, rfl⟩
theorem en122 : GL.Enters Tryd.prog 122 = True := eq_true ⟨Tryd.f122, Tryd.func122, by decide +kernel, rfl⟩
theorem en123 : GL.Enters Tryd.prog 123 = True := eq_true ⟨Tryd.f123, Tryd.func123, by decide +kernel, rfl⟩
theorem en124 : GL.Enters Tryd.prog 124 = True := eq_true ⟨Tryd.f124, Tryd.func124, by decide +kernel, rfl⟩
theorem en125 : GL.Enters Tryd.prog 125 = True := eq_true ⟨Tryd.f125, Tryd.func125, by decide +kernel, rfl⟩
theorem en126 : GL.Enters Tryd.prog 126 = True := eq_true ⟨Tryd.f126, Tryd.func126, by decide +kernel, rfl⟩
theorem en127 : GL.Enters Tryd.prog 127 = True := eq_true ⟨Tryd.f127, Tryd.func127, by decide +kernel, rfl⟩
theorem en128 : GL.Enters Tryd.prog 128 = True := eq_true ⟨Tryd.f128, Tryd.func128, by decide +kernel, rfl⟩
theorem en129 : GL.Enters Tryd.prog 129 = True := eq_true ⟨Tryd.f129, Tryd.func129, by decide +kernel, rfl⟩
theorem en130 : GL.Enters Tryd.prog 130 = True := eq_true ⟨Tryd.f130, Tryd.func130, by decide +kernel, rfl⟩
theorem en131 : GL.Enters Tryd.prog 131 = True := eq_true ⟨Tryd.f131, Tryd.func131, by decide +kernel, rfl⟩
theorem en132 : GL.Enters Tryd.prog 132 = True := eq_true ⟨Tryd.f132, Tryd.func132, by decide +kernel, rfl⟩
theorem en133 : GL.Enters Tryd.prog 133 = True := eq_true ⟨Tryd.f133, Tryd.func133, by decide +kernel, rfl⟩
theorem en134 : GL.Enters Tryd.prog 134 = True := eq_true ⟨Tryd.f134, Tryd.func134, by decide +kernel, rfl⟩
theorem en135 : GL.Enters Tryd.prog 135 = True := eq_true ⟨Tryd.f135, Tryd.func135, by decide +kernel, rfl⟩
theorem en136 : GL.Enters Tryd.prog 136 = True := eq_true ⟨Tryd.f136, Tryd.func136, by decide +kernel, rfl⟩
theorem en137 : GL.Enters Tryd.prog 137 = True := eq_true ⟨Tryd.f137, Tryd.func137, by decide +kernel, rfl⟩
theorem en138 : GL.Enters Tryd.prog 138 = True := eq_true ⟨Tryd.f138, Tryd.func138, by decide +kernel, rfl⟩
theorem en139 : GL.Enters Tryd.prog 139 = True := eq_true ⟨Tryd.f139, Tryd.func139, by decide +kernel, rfl⟩
theorem en140 : GL.Enters Tryd.prog 140 = True := eq_true ⟨Tryd.f140, Tryd.func140, by decide +kernel, rfl⟩
theorem en141 : GL.Enters Tryd.prog 141 = True := eq_true ⟨Tryd.f141, Tryd.func141, by decide +kernel, rfl⟩
theorem en142 : GL.Enters Tryd.prog 142 = True := eq_true ⟨Tryd.f142, Tryd.func142, by decide +kernel, rfl⟩
theorem en143 : GL.Enters Tryd.prog 143 = True := eq_true ⟨Tryd.f143, Tryd.func143, by decide +kernel, rfl⟩
theorem en144 : GL.Enters Tryd.prog 144 = True := eq_true ⟨Tryd.f144, Tryd.func144, by decide +kernel, rfl⟩
theorem en145 : GL.Enters Tryd.prog 145 = True := eq_true ⟨Tryd.f145, Tryd.func145, by decide +kernel, rfl⟩
theorem en146 : GL.Enters Tryd.prog 146 = True := eq_true ⟨Tryd.f146, Tryd.func146, by decide +kernel, rfl⟩
theorem en147 : GL.Enters Tryd.prog 147 = True := eq_true ⟨Tryd.f147, Tryd.func147, by decide +kernel, rfl⟩
theorem en148 : GL.Enters Tryd.prog 148 = True := eq_true ⟨Tryd.f148, Tryd.func148, by decide +kernel, rfl⟩
theorem en149 : GL.Enters Tryd.prog 149 = True := eq_true ⟨Tryd.f149, Tryd.func149, by decide +kernel, rfl⟩
theorem en150 : GL.Enters Tryd.prog 150 = True := eq_true ⟨Tryd.f150, Tryd.func150, by decide +kernel, rfl⟩
theorem en151 : GL.Enters Tryd.prog 151 = True := eq_true ⟨Tryd.f151, Tryd.func151, by decide +kernel, rfl⟩
theorem en152 : GL.Enters Tryd.prog 152 = True := eq_true ⟨Tryd.f152, Tryd.func152, by decide +kernel, rfl⟩
theorem en153 : GL.Enters Tryd.prog 153 = True := eq_true ⟨Tryd.f153, Tryd.func153, by decide +kernel, rfl⟩
theorem en154 : GL.Enters Tryd.prog 154 = True := eq_true ⟨Tryd.f154, Tryd.func154, by decide +kernel, rfl⟩
theorem en155 : GL.Enters Tryd.prog 155 = True := eq_true ⟨Tryd.f155, Tryd.func155, by decide +kernel, rfl⟩
theorem en156 : GL.Enters Tryd.prog 156 = True := eq_true ⟨Tryd.f156, Tryd.func156, by decide +kernel, rfl⟩
theorem en157 : GL.Enters Tryd.prog 157 = True := eq_true ⟨Tryd.f157, Tryd.func157, by decide +kernel, rfl⟩
theorem en158 : GL.Enters Tryd.prog 158 = True := eq_true ⟨Tryd.f158, Tryd.func158, by decide +kernel, rfl⟩
theorem en159 : GL.Enters Tryd.prog 159 = True := eq_true ⟨Tryd.f159, Tryd.func159, by decide +kernel, rfl⟩
theorem en160 : GL.Enters Tryd.prog 160 = True := eq_true ⟨Tryd.f160, Tryd.func160, by decide +kernel, rfl⟩
theorem en161 : GL.Enters Tryd.prog 161 = True := eq_true ⟨Tryd.f161, Tryd.func161, by decide +kernel, rfl⟩
theorem en162 : GL.Enters Tryd.prog 162 = True := eq_true ⟨Tryd.f162, Tryd.func162, by decide +kernel, rfl⟩
theorem en163 : GL.Enters Tryd.prog 163 = True := eq_true ⟨Tryd.f163, Tryd.func163, by decide +kernel, rfl⟩
theorem en164 : GL.Enters Tryd.prog 164 = True := eq_true ⟨Tryd.f164, Tryd.func164, by decide +kernel, rfl⟩
theorem en165 : GL.Enters Tryd.prog 165 = True := eq_true ⟨Tryd.f165, Tryd.func165, by decide +kernel, rfl⟩
theorem en166 : GL.Enters Tryd.prog 166 = True := eq_true ⟨Tryd.f166, Tryd.func166, by decide +kernel, rfl⟩
theorem en167 : GL.Enters Tryd.prog 167 = True := eq_true ⟨Tryd.f167, Tryd.func167, by decide +kernel, rfl⟩
theorem en168 : GL.Enters Tryd.prog 168 = True := eq_true ⟨Tryd.f168, Tryd.func168, by decide +kernel, rfl⟩
theorem en169 : GL.Enters Tryd.prog 169 = True := eq_true ⟨Tryd.f169, Tryd.func169, by decide +kernel, rfl⟩
theorem en170 : GL.Enters Tryd.prog 170 = True := eq_true ⟨Tryd.f170, Tryd.func170, by decide +kernel, rfl⟩
theorem en171 : GL.Enters Tryd.prog 171 = True := eq_true ⟨Tryd.f171, Tryd.func171, by decide +kernel, rfl⟩
theorem en172 : GL.Enters Tryd.prog 172 = True := eq_true ⟨Tryd.f172, Tryd.func172, by decide +kernel, rfl⟩
theorem en173 : GL.Enters Tryd.prog 173 = True := eq_true ⟨Tryd.f173, Tryd.func173, by decide +kernel, rfl⟩
theorem en174 : GL.Enters Tryd.prog 174 = True := eq_true ⟨Tryd.f174, Tryd.func174, by decide +kernel, rfl⟩
theorem en175 : GL.Enters Tryd.prog 175 = True := eq_true ⟨Tryd.f175, Tryd.func175, by decide +kernel, rfl⟩
theorem en176 : GL.Enters Tryd.prog 176 = True := eq_true ⟨Tryd.f176, Tryd.func176, by decide +kernel, rfl⟩
theorem en177 : GL.Enters Tryd.prog 177 = True := eq_true ⟨Tryd.f177, Tryd.func177, by decide +kernel, rfl⟩
theorem en178 : GL.Enters Tryd.prog 178 = True := eq_true ⟨Tryd.f178, Tryd.func178, by decide +kernel, rfl⟩
theorem en179 : GL.Enters Tryd.prog 179 = True := eq_true ⟨Tryd.f179, Tryd.func179, by decide +kernel, rfl⟩
theorem en180 : GL.Enters Tryd.prog 180 = True := eq_true ⟨Tryd.f180, Tryd.func180, by decide +kernel, rfl⟩
theorem en182 : GL.Enters Tryd.prog 182 = True := eq_true ⟨Tryd.f182, Tryd.func182, by decide +kernel, rfl⟩
theorem en184 : GL.Enters Tryd.prog 184 = True := eq_true ⟨Tryd.f184, Tryd.func184, by decide +kernel, rfl⟩
theorem en185 : GL.Enters Tryd.prog 185 = True := eq_true ⟨Tryd.f185, Tryd.func185, by decide +kernel, rfl⟩
theorem en186 : GL.Enters Tryd.prog 186 = True := eq_true ⟨Tryd.f186, Tryd.func186, by decide +kernel, rfl⟩
theorem en187 : GL.Enters Tryd.prog 187 = True := eq_true ⟨Tryd.f187, Tryd.func187, by decide +kernel, rfl⟩
theorem en188 : GL.Enters Tryd.prog 188 = True := eq_true ⟨Tryd.f188, Tryd.func188, by decide +kernel, rfl⟩
theorem en189 : GL.Enters Tryd.prog 189 = True := eq_true ⟨Tryd.f189, Tryd.func189, by decide +kernel, rfl⟩
theorem en190 : GL.Enters Tryd.prog 190 = True := eq_true ⟨Tryd.f190, Tryd.func190, by decide +kernel, rfl⟩
theorem en191 : GL.Enters Tryd.prog 191 = True := eq_true ⟨Tryd.f191, Tryd.func191, by decide +kernel, rfl⟩
theorem en192 : GL.Enters Tryd.prog 192 = True := eq_true ⟨Tryd.f192, Tryd.func192, by decide +kernel, rfl⟩
theorem en193 : GL.Enters Tryd.prog 193 = True := eq_true ⟨Tryd.f193, Tryd.func193, by decide +kernel, rfl⟩
theorem en194 : GL.Enters Tryd.prog 194 = True := eq_true ⟨Tryd.f194, Tryd.func194, by decide +kernel, rfl⟩
theorem en195 : GL.Enters Tryd.prog 195 = True := eq_true ⟨Tryd.f195, Tryd.func195, by decide +kernel, rfl⟩
theorem en196 : GL.Enters Tryd.prog 196 = True := eq_true ⟨Tryd.f196, Tryd.func196, by decide +kernel, rfl⟩
theorem en197 : GL.Enters Tryd.prog 197 = True := eq_true ⟨Tryd.f197, Tryd.func197, by decide +kernel, rfl⟩
theorem en198 : GL.Enters Tryd.prog 198 = True := eq_true ⟨Tryd.f198, Tryd.func198, by decide +kernel, rfl⟩
theorem en199 : GL.Enters Tryd.prog 199 = True := eq_true ⟨Tryd.f199, Tryd.func199, by decide +kernel, rfl⟩
theorem en200 : GL.Enters Tryd.prog 200 = True := eq_true ⟨Tryd.f200, Tryd.func200, by decide +kernel, rfl⟩
theorem en201 : GL.Enters Tryd.prog 201 = True := eq_true ⟨Tryd.f201, Tryd.func201, by decide +kernel, rfl⟩
theorem en202 : GL.Enters Tryd.prog 202 = True := eq_true ⟨Tryd.f202, Tryd.func202, by decide +kernel, rfl⟩
theorem en203 : GL.Enters Tryd.prog 203 = True := eq_true ⟨Tryd.f203, Tryd.func203, by decide +kernel, rfl⟩
theorem en204 : GL.Enters Tryd.prog 204 = True := eq_true ⟨Tryd.f204, Tryd.func204, by decide +kernel, rfl⟩
theorem en205 : GL.Enters Tryd.prog 205 = True := eq_true ⟨Tryd.f205, Tryd.func205, by decide +kernel, rfl⟩
theorem en206 : GL.Enters Tryd.prog 206 = True := eq_true ⟨Tryd.f206, Tryd.func206, by decide +kernel, rfl⟩
theorem en207 : GL.Enters Tryd.prog 207 = True := eq_true ⟨Tryd.f207, Tryd.func207, by decide +kernel, rfl⟩
theorem en208 : GL.Enters Tryd.prog 208 = True := eq_true ⟨Tryd.f208, Tryd.func208, by decide +kernel, rfl⟩
theorem en209 : GL.Enters Tryd.prog 209 = True := eq_true ⟨Tryd.f209, Tryd.func209, by decide +kernel, rfl⟩
theorem en211 : GL.Enters Tryd.prog 211 = True := eq_true ⟨Tryd.f211, Tryd.func211, by decide +kernel, rfl⟩
theorem en212 : GL.Enters Tryd.prog 212 = True := eq_true ⟨Tryd.f212, Tryd.func212, by decide +kernel, rfl⟩
end Go.Proofs.YtnlbapfbdabjaaaDoor
namespace Go.Proofs.YtnlbapfbdabjaaaDoor
open Go Go.GL
theorem bd34_0_1 (x0 x1 : Value) (hx0 : oneV x0 = true) (hx1 : oneV x1 = true) : pvBuild Tryd.prog 34 [(0, x0), (1, x1)] = some (.agg #[x0, x1]) := pvBuild_struct (pl := [(0, 1), (1, 1)]) (show tyD Tryd.prog 34 = _ from Tryd.underlying34) zv34 (by kernel_rfl) (by decide +kernel) (by simp [Instr.fill, agg_cells, int_cells, bool_cells, string_cells, slice_cells, pointer_cells, map_cells, nilFunc_cells, nilIface_cells, one_cells hx0, one_cells hx1])
theorem bd84_0_1 (x0 x1 : Value) (hx0 : oneV x0 = true) (hx1 : oneV x1 = true) : pvBuild Tryd.prog 84 [(0, x0), (1, x1)] = some (.agg #[x0, x1, .slice none 0 0]) := pvBuild_struct (pl := [(0, 1), (1, 1), (2, 1)]) (show tyD Tryd.prog 84 = _ from Tryd.underlying84) zv84 (by kernel_rfl) (by decide +kernel) (by simp [Instr.fill, agg_cells, int_cells, bool_cells, string_cells, slice_cells, pointer_cells, map_cells, nilFunc_cells, nilIface_cells, one_cells hx0, one_cells hx1])
theorem bd84_0_2 (x0 x1 : Value) (hx0 : oneV x0 = true) (hx1 : oneV x1 = true) : pvBuild Tryd.prog 84 [(0, x0), (2, x1)] = some (.agg #[x0, .slice none 0 0, x1]) := pvBuild_struct (pl := [(0, 1), (1, 1), (2, 1)]) (show tyD Tryd.prog 84 = _ from Tryd.underlying84) zv84 (by kernel_rfl) (by decide +kernel) (by simp [Instr.fill, agg_cells, int_cells, bool_cells, string_cells, slice_cells, pointer_cells, map_cells, nilFunc_cells, nilIface_cells, one_cells hx0, one_cells hx1])
theorem bd87_0_1_2_3_4 (x0 x1 x2 x3 x4 : Value) (hx0 : oneV x0 = true) (hx1 : oneV x1 = true) (hx2 : oneV x2 = true) (hx3 : oneV x3 = true) (hx4 : oneV x4 = true) : pvBuild Tryd.prog 87 [(0, x0), (1, x1), (2, x2), (3, x3), (4, x4)] = some (.agg #[x0, x1, x2, x3, x4]) := pvBuild_struct (pl := [(0, 1), (1, 1), (2, 1), (3, 1), (4, 1)]) (show tyD Tryd.prog 87 = _ from Tryd.underlying87) zv87 (by kernel_rfl) (by decide +kernel) (by simp [Instr.fill, agg_cells, int_cells, bool_cells, string_cells, slice_cells, pointer_cells, map_cells, nilFunc_cells, nilIface_cells, one_cells hx0, one_cells hx1, one_cells hx2, one_cells hx3, one_cells hx4])
theorem bd93_0 (x0 : Value) (hx0 : oneV x0 = true) : pvBuild Tryd.prog 93 [(0, x0)] = some (.agg #[x0, .int .i64 0, .int .i64 0]) := pvBuild_struct (pl := [(0, 1), (1, 1), (2, 1)]) (show tyD Tryd.prog 93 = _ from Tryd.underlying93) zv93 (by kernel_rfl) (by decide +kernel) (by simp [Instr.fill, agg_cells, int_cells, bool_cells, string_cells, slice_cells, pointer_cells, map_cells, nilFunc_cells, nilIface_cells, one_cells hx0])
theorem bd141_0_1 (x0 x1 : Value) (hx0 : oneV x0 = true) (hx1 : oneV x1 = true) : pvBuild Tryd.prog 141 [(0, x0), (1, x1)] = some (.agg #[x0, x1]) := pvBuild_struct (pl := [(0, 1), (1, 1)]) (show tyD Tryd.prog 141 = _ from Tryd.underlying141) zv141 (by kernel_rfl) (by decide +kernel) (by simp [Instr.fill, agg_cells, int_cells, bool_cells, string_cells, slice_cells, pointer_cells, map_cells, nilFunc_cells, nilIface_cells, one_cells hx0, one_cells hx1])
theorem bd178_0_1 (x0 x1 : Value) (hx0 : oneV x0 = true) (hx1 : oneV x1 = true) : pvBuild Tryd.prog 178 [(0, x0), (1, x1)] = some (.agg #[x0, x1]) := pvBuild_struct (pl := [(0, 1), (1, 1)]) (show tyD Tryd.prog 178 = _ from Tryd.underlying178) zv178 (by kernel_rfl) (by decide +kernel) (by simp [Instr.fill, agg_cells, int_cells, bool_cells, string_cells, slice_cells, pointer_cells, map_cells, nilFunc_cells, nilIface_cells, one_cells hx0, one_cells hx1])
theorem bs22_0   : bsCells Tryd.prog 22 0 [] = some ([], 9) := bsCells_eq (show tyD Tryd.prog 22 = _ from Tryd.underlying22) sz9 (by decide) (by decide) zv9 (by simp [Instr.fill, agg_cells, int_cells, bool_cells, string_cells, slice_cells, pointer_cells, map_cells, nilFunc_cells, nilIface_cells, Array.range] <;> rfl)
theorem bs22_1 (x0 : Value) (hx0 : oneV x0 = true) : bsCells Tryd.prog 22 1 [(0, x0)] = some ([x0], 9) := bsCells_eq (show tyD Tryd.prog 22 = _ from Tryd.underlying22) sz9 (by decide) (by decide) zv9 (by simp [Instr.fill, agg_cells, int_cells, bool_cells, string_cells, slice_cells, pointer_cells, map_cells, nilFunc_cells, nilIface_cells, Array.range, one_cells hx0] <;> rfl)
theorem bs22_2 (x0 x1 : Value) (hx0 : oneV x0 = true) (hx1 : oneV x1 = true) : bsCells Tryd.prog 22 2 [(0, x0), (1, x1)] = some ([x0, x1], 9) := bsCells_eq (show tyD Tryd.prog 22 = _ from Tryd.underlying22) sz9 (by decide) (by decide) zv9 (by simp [Instr.fill, agg_cells, int_cells, bool_cells, string_cells, slice_cells, pointer_cells, map_cells, nilFunc_cells, nilIface_cells, Array.range, one_cells hx0, one_cells hx1] <;> rfl)
theorem bs23_0   : bsCells Tryd.prog 23 0 [] = some ([], 3) := bsCells_eq (show tyD Tryd.prog 23 = _ from Tryd.underlying23) sz3 (by decide) (by decide) zv3 (by simp [Instr.fill, agg_cells, int_cells, bool_cells, string_cells, slice_cells, pointer_cells, map_cells, nilFunc_cells, nilIface_cells, Array.range] <;> rfl)
theorem bs23_1 (x0 : Value) (hx0 : oneV x0 = true) : bsCells Tryd.prog 23 1 [(0, x0)] = some ([x0], 3) := bsCells_eq (show tyD Tryd.prog 23 = _ from Tryd.underlying23) sz3 (by decide) (by decide) zv3 (by simp [Instr.fill, agg_cells, int_cells, bool_cells, string_cells, slice_cells, pointer_cells, map_cells, nilFunc_cells, nilIface_cells, Array.range, one_cells hx0] <;> rfl)
theorem bs23_2 (x0 x1 : Value) (hx0 : oneV x0 = true) (hx1 : oneV x1 = true) : bsCells Tryd.prog 23 2 [(0, x0), (1, x1)] = some ([x0, x1], 3) := bsCells_eq (show tyD Tryd.prog 23 = _ from Tryd.underlying23) sz3 (by decide) (by decide) zv3 (by simp [Instr.fill, agg_cells, int_cells, bool_cells, string_cells, slice_cells, pointer_cells, map_cells, nilFunc_cells, nilIface_cells, Array.range, one_cells hx0, one_cells hx1] <;> rfl)
theorem bs23_3 (x0 x1 x2 : Value) (hx0 : oneV x0 = true) (hx1 : oneV x1 = true) (hx2 : oneV x2 = true) : bsCells Tryd.prog 23 3 [(0, x0), (1, x1), (2, x2)] = some ([x0, x1, x2], 3) := bsCells_eq (show tyD Tryd.prog 23 = _ from Tryd.underlying23) sz3 (by decide) (by decide) zv3 (by simp [Instr.fill, agg_cells, int_cells, bool_cells, string_cells, slice_cells, pointer_cells, map_cells, nilFunc_cells, nilIface_cells, Array.range, one_cells hx0, one_cells hx1, one_cells hx2] <;> rfl)
theorem bs23_6 (x0 x1 x2 x3 x4 x5 : Value) (hx0 : oneV x0 = true) (hx1 : oneV x1 = true) (hx2 : oneV x2 = true) (hx3 : oneV x3 = true) (hx4 : oneV x4 = true) (hx5 : oneV x5 = true) : bsCells Tryd.prog 23 6 [(0, x0), (1, x1), (2, x2), (3, x3), (4, x4), (5, x5)] = some ([x0, x1, x2, x3, x4, x5], 3) := bsCells_eq (show tyD Tryd.prog 23 = _ from Tryd.underlying23) sz3 (by decide) (by decide) zv3 (by simp [Instr.fill, agg_cells, int_cells, bool_cells, string_cells, slice_cells, pointer_cells, map_cells, nilFunc_cells, nilIface_cells, Array.range, one_cells hx0, one_cells hx1, one_cells hx2, one_cells hx3, one_cells hx4, one_cells hx5] <;> rfl)
theorem bs24_0  : bsCells Tryd.prog 24 0 [] = some ([], 34) := bsCells_all [] (show tyD Tryd.prog 24 = _ from Tryd.underlying24) sz34 (by decide) (by decide) zv34 rfl rfl
theorem bs24_1 (x0 x1 : Value) : bsCells Tryd.prog 24 1 [(0, .agg #[x0, x1])] = some ([x0, x1], 34) := bsCells_all [.agg #[x0, x1]] (show tyD Tryd.prog 24 = _ from Tryd.underlying24) sz34 (by decide) (by decide) zv34 rfl rfl
theorem bs25_0  : bsCells Tryd.prog 25 0 [] = some ([], 47) := bsCells_all [] (show tyD Tryd.prog 25 = _ from Tryd.underlying25) sz47 (by decide) (by decide) zv47 rfl rfl
theorem bs52_1 (x0 x1 : Value) : bsCells Tryd.prog 52 1 [(0, .agg #[x0, x1])] = some ([x0, x1], 122) := bsCells_all [.agg #[x0, x1]] (show tyD Tryd.prog 52 = _ from Tryd.underlying52) sz122 (by decide) (by decide) zv122 rfl rfl
theorem bs63_0  : bsCells Tryd.prog 63 0 [] = some ([], 66) := bsCells_all [] (show tyD Tryd.prog 63 = _ from Tryd.underlying63) sz66 (by decide) (by decide) zv66 rfl rfl
theorem bs63_1 (x0 x1 x2 x3 x4 x5 x6 x7 x8 x9 : Value) : bsCells Tryd.prog 63 1 [(0, .agg #[x0, x1, x2, x3, x4, x5, x6, x7, x8, x9])] = some ([x0, x1, x2, x3, x4, x5, x6, x7, x8, x9], 66) := bsCells_all [.agg #[x0, x1, x2, x3, x4, x5, x6, x7, x8, x9]] (show tyD Tryd.prog 63 = _ from Tryd.underlying63) sz66 (by decide) (by decide) zv66 rfl rfl
theorem bs64_1 (x0 x1 x2 x3 x4 x5 : Value) : bsCells Tryd.prog 64 1 [(0, .agg #[x0, x1, x2, x3, x4, x5])] = some ([x0, x1, x2, x3, x4, x5], 70) := bsCells_all [.agg #[x0, x1, x2, x3, x4, x5]] (show tyD Tryd.prog 64 = _ from Tryd.underlying64) sz70 (by decide) (by decide) zv70 rfl rfl
theorem bs80_0  : bsCells Tryd.prog 80 0 [] = some ([], 93) := bsCells_all [] (show tyD Tryd.prog 80 = _ from Tryd.underlying80) sz93 (by decide) (by decide) zv93 rfl rfl
theorem bs80_1 (x0 x1 x2 : Value) : bsCells Tryd.prog 80 1 [(0, .agg #[x0, x1, x2])] = some ([x0, x1, x2], 93) := bsCells_all [.agg #[x0, x1, x2]] (show tyD Tryd.prog 80 = _ from Tryd.underlying80) sz93 (by decide) (by decide) zv93 rfl rfl
theorem bs80_2 (x0 x1 x2 x3 x4 x5 : Value) : bsCells Tryd.prog 80 2 [(0, .agg #[x0, x1, x2]), (1, .agg #[x3, x4, x5])] = some ([x0, x1, x2, x3, x4, x5], 93) := bsCells_all [.agg #[x0, x1, x2], .agg #[x3, x4, x5]] (show tyD Tryd.prog 80 = _ from Tryd.underlying80) sz93 (by decide) (by decide) zv93 rfl rfl
theorem bs81_1 (x0 x1 x2 x3 x4 : Value) : bsCells Tryd.prog 81 1 [(0, .agg #[x0, x1, x2, x3, x4])] = some ([x0, x1, x2, x3, x4], 87) := bsCells_all [.agg #[x0, x1, x2, x3, x4]] (show tyD Tryd.prog 81 = _ from Tryd.underlying81) sz87 (by decide) (by decide) zv87 rfl rfl
theorem bs82_0  : bsCells Tryd.prog 82 0 [] = some ([], 131) := bsCells_all [] (show tyD Tryd.prog 82 = _ from Tryd.underlying82) sz131 (by decide) (by decide) zv131 rfl rfl
theorem bs85_0  : bsCells Tryd.prog 85 0 [] = some ([], 141) := bsCells_all [] (show tyD Tryd.prog 85 = _ from Tryd.underlying85) sz141 (by decide) (by decide) zv141 rfl rfl
theorem bs85_1 (x0 x1 : Value) : bsCells Tryd.prog 85 1 [(0, .agg #[x0, x1])] = some ([x0, x1], 141) := bsCells_all [.agg #[x0, x1]] (show tyD Tryd.prog 85 = _ from Tryd.underlying85) sz141 (by decide) (by decide) zv141 rfl rfl
theorem bs85_2 (x0 x1 x2 x3 : Value) : bsCells Tryd.prog 85 2 [(0, .agg #[x0, x1]), (1, .agg #[x2, x3])] = some ([x0, x1, x2, x3], 141) := bsCells_all [.agg #[x0, x1], .agg #[x2, x3]] (show tyD Tryd.prog 85 = _ from Tryd.underlying85) sz141 (by decide) (by decide) zv141 rfl rfl
theorem bs97_1 (x0 x1 : Value) : bsCells Tryd.prog 97 1 [(0, .agg #[x0, x1])] = some ([x0, x1], 143) := bsCells_all [.agg #[x0, x1]] (show tyD Tryd.prog 97 = _ from Tryd.underlying97) sz143 (by decide) (by decide) zv143 rfl rfl
theorem bs119_2 (x0 x1 : Value) (hx0 : oneV x0 = true) (hx1 : oneV x1 = true) : bsCells Tryd.prog 119 2 [(0, x0), (1, x1)] = some ([x0, x1], 26) := bsCells_eq (show tyD Tryd.prog 119 = _ from Tryd.underlying119) sz26 (by decide) (by decide) zv26 (by simp [Instr.fill, agg_cells, int_cells, bool_cells, string_cells, slice_cells, pointer_cells, map_cells, nilFunc_cells, nilIface_cells, Array.range, one_cells hx0, one_cells hx1] <;> rfl)
theorem bs119_3 (x0 x1 x2 : Value) (hx0 : oneV x0 = true) (hx1 : oneV x1 = true) (hx2 : oneV x2 = true) : bsCells Tryd.prog 119 3 [(0, x0), (1, x1), (2, x2)] = some ([x0, x1, x2], 26) := bsCells_eq (show tyD Tryd.prog 119 = _ from Tryd.underlying119) sz26 (by decide) (by decide) zv26 (by simp [Instr.fill, agg_cells, int_cells, bool_cells, string_cells, slice_cells, pointer_cells, map_cells, nilFunc_cells, nilIface_cells, Array.range, one_cells hx0, one_cells hx1, one_cells hx2] <;> rfl)
theorem bs172_1 (x0 x1 : Value) : bsCells Tryd.prog 172 1 [(0, .agg #[x0, x1])] = some ([x0, x1], 178) := bsCells_all [.agg #[x0, x1]] (show tyD Tryd.prog 172 = _ from Tryd.underlying172) sz178 (by decide) (by decide) zv178 rfl rfl
theorem cv3_169 (k : IntKind) (n : Int) : pvConv Tryd.prog 3 169 (.int k n) = some (.int .u64 (IntKind.u64.wrap n)) := pvConv_int 3 169 Tryd.underlying169 Tryd.underlying3 k n
theorem cv3_173 (k : IntKind) (n : Int) : pvConv Tryd.prog 3 173 (.int k n) = some (.int .u64 (IntKind.u64.wrap n)) := pvConv_int 3 173 Tryd.underlying173 Tryd.underlying3 k n
theorem cv3_219 (k : IntKind) (n : Int) : pvConv Tryd.prog 3 219 (.int k n) = some (.int .u64 (IntKind.u64.wrap n)) := pvConv_int 3 219 Tryd.underlying219 Tryd.underlying3 k n
theorem cv5_3 (k : IntKind) (n : Int) : pvConv Tryd.prog 5 3 (.int k n) = some (.int .i64 (IntKind.i64.wrap n)) := pvConv_int 5 3 Tryd.underlying3 Tryd.underlying5 k n
theorem cv5_21 (k : IntKind) (n : Int) : pvConv Tryd.prog 5 21 (.int k n) = some (.int .i32 (IntKind.i32.wrap n)) := pvConv_int 5 21 Tryd.underlying21 Tryd.underlying5 k n
theorem cv21_5 (k : IntKind) (n : Int) : pvConv Tryd.prog 21 5 (.int k n) = some (.int .u8 (IntKind.u8.wrap n)) := pvConv_int 21 5 Tryd.underlying5 Tryd.underlying21 k n
theorem cv169_3 (k : IntKind) (n : Int) : pvConv Tryd.prog 169 3 (.int k n) = some (.int .i64 (IntKind.i64.wrap n)) := pvConv_int 169 3 Tryd.underlying3 Tryd.underlying169 k n
theorem cv169_206 (k : IntKind) (n : Int) : pvConv Tryd.prog 169 206 (.int k n) = some (.int .u32 (IntKind.u32.wrap n)) := pvConv_int 169 206 Tryd.underlying206 Tryd.underlying169 k n
theorem cv173_3 (k : IntKind) (n : Int) : pvConv Tryd.prog 173 3 (.int k n) = some (.int .i64 (IntKind.i64.wrap n)) := pvConv_int 173 3 Tryd.underlying3 Tryd.underlying173 k n
theorem cv173_5 (k : IntKind) (n : Int) : pvConv Tryd.prog 173 5 (.int k n) = some (.int .u8 (IntKind.u8.wrap n)) := pvConv_int 173 5 Tryd.underlying5 Tryd.underlying173 k n
theorem cv173_206 (k : IntKind) (n : Int) : pvConv Tryd.prog 173 206 (.int k n) = some (.int .u32 (IntKind.u32.wrap n)) := pvConv_int 173 206 Tryd.underlying206 Tryd.underlying173 k n
theorem cv206_5 (k : IntKind) (n : Int) : pvConv Tryd.prog 206 5 (.int k n) = some (.int .u8 (IntKind.u8.wrap n)) := pvConv_int 206 5 Tryd.underlying5 Tryd.underlying206 k n
theorem cv206_169 (k : IntKind) (n : Int) : pvConv Tryd.prog 206 169 (.int k n) = some (.int .u64 (IntKind.u64.wrap n)) := pvConv_int 206 169 Tryd.underlying169 Tryd.underlying206 k n
theorem cv206_173 (k : IntKind) (n : Int) : pvConv Tryd.prog 206 173 (.int k n) = some (.int .u64 (IntKind.u64.wrap n)) := pvConv_int 206 173 Tryd.underlying173 Tryd.underlying206 k n
end Go.Proofs.YtnlbapfbdabjaaaDoor
namespace Go.Proofs.YtnlbapfbdabjaaaDoor
open Go Go.GL
theorem pt9 (cs : Array Value) (off : Nat) : calm Tryd.prog (part 9 cs off) = cs[off]? := calm_part_one ag9 cs off
theorem eq9 (d : Nat) (a b : ByteArray) : calm Tryd.prog (Op.equalIn (d + 1) 9 (.string a) (.string b)) = some (decide (a = b)) := calm_eq_string Tryd.underlying9 d a b
theorem ck9 (em : Bool) (n : Nat) (v : Value) : calm Tryd.prog (Instr.checkKey em (n + 1) 9 v) = some () := calm_check_plain Tryd.underlying9 rfl em n v
theorem pt3 (cs : Array Value) (off : Nat) : calm Tryd.prog (part 3 cs off) = cs[off]? := calm_part_one ag3 cs off
theorem eq3 (d : Nat) (k : IntKind) (a b : Int) : calm Tryd.prog (Op.equalIn (d + 1) 3 (.int k a) (.int k b)) = some (decide (a = b)) := calm_eq_int Tryd.underlying3 d k a b
theorem ck3 (em : Bool) (n : Nat) (v : Value) : calm Tryd.prog (Instr.checkKey em (n + 1) 3 v) = some () := calm_check_plain Tryd.underlying3 rfl em n v
theorem eq34 (d : Nat) (x0 y0 : ByteArray) (x1 y1 : Int) : calm Tryd.prog (Op.equalIn (d + 2) 34 (.agg #[.string x0, .int .i64 x1]) (.agg #[.string y0, .int .i64 y1])) = some (decide (x0 = y0) && decide (x1 = y1)) := by
  rw [calm_equal_struct (d + 1) 34 _ _ (show Tryd.prog.underlying 34 = _ from Tryd.underlying34) (by kernel_rfl)]
  simp [eqFields_cons, eqFields_nil, eq3, eq9, pt3, pt9]
  (try by_cases h0 : x0 = y0) <;> (try by_cases h1 : x1 = y1) <;> (try simp [*])
theorem aeq34 (a b : Operand) (x0 y0 : ByteArray) (x1 y1 : Int) : pvB Tryd.prog .eql 34 a b (.agg #[.string x0, .int .i64 x1]) (.agg #[.string y0, .int .i64 y1]) = some (.bool (decide (x0 = y0) && decide (x1 = y1))) := gwp_aggEq (by kernel_rfl) (eq34 9998 x0 y0 x1 y1)
theorem ane34 (a b : Operand) (x0 y0 : ByteArray) (x1 y1 : Int) : pvB Tryd.prog .neq 34 a b (.agg #[.string x0, .int .i64 x1]) (.agg #[.string y0, .int .i64 y1]) = some (.bool (!(decide (x0 = y0) && decide (x1 = y1)))) := gwp_aggNe (by kernel_rfl) (eq34 9998 x0 y0 x1 y1)
theorem ck34 (em : Bool) (n : Nat) (x0 : ByteArray) (x1 : Int) : calm Tryd.prog (Instr.checkKey em (n + 2) 34 (.agg #[.string x0, .int .i64 x1])) = some () := by
  rw [calm_check_struct em (n + 1) 34 _ (show Tryd.prog.underlying 34 = _ from Tryd.underlying34)]
  simp [chkFields, ck3, ck9, pt3, pt9]
theorem kf34 (x0 : ByteArray) (x1 : Int) {es : List MapEntry} (h : ∀ e ∈ es, ∃ y0 y1, e.key = .agg #[.string y0, .int .i64 y1]) : KeyFit Tryd.prog 34 (.agg #[.string x0, .int .i64 x1]) es := ⟨fun em => ck34 em 9998 x0 x1, by simp [Instr.sameBits, bytes_beq], by rw [show Op.equal 34 (.agg #[.string x0, .int .i64 x1]) (.agg #[.string x0, .int .i64 x1]) = Op.equalIn (9998 + 2) 34 (.agg #[.string x0, .int .i64 x1]) (.agg #[.string x0, .int .i64 x1]) from rfl, eq34]; simp, fun e he => by
  obtain ⟨y0, y1, hy⟩ := h e he
  rw [hy, show Op.equal 34 (.agg #[.string x0, .int .i64 x1]) (.agg #[.string y0, .int .i64 y1]) = Op.equalIn (9998 + 2) 34 (.agg #[.string x0, .int .i64 x1]) (.agg #[.string y0, .int .i64 y1]) from rfl, eq34]
  rw [Option.some.injEq, Bool.eq_iff_iff]
  simp [and_assoc]⟩
end Go.Proofs.YtnlbapfbdabjaaaDoor
namespace Go.Proofs.YtnlbapfbdabjaaaDoor
open Go Go.GL
set_option linter.defProp false in
def gT := (And.intro (And.intro (And.intro (And.intro (And.intro (And.intro (And.intro (And.intro (And.intro @ld2 (And.intro @st2 @al2)) (And.intro (And.intro @ld3 @st3) (And.intro @al3 @ld4))) (And.intro (And.intro @st4 (And.intro @al4 @be4)) (And.intro (And.intro @bn4 @ld5) (And.intro @st5 @al5)))) (And.intro (And.intro (And.intro @ld6 (And.intro @st6 @al6)) (And.intro (And.intro @ld7 @st7) (And.intro @al7 @fa7_0))) (And.intro (And.intro (And.intro @fl7_0 @fa7_1) (And.intro @fl7_1 @fa7_2)) (And.intro (And.intro @fl7_2 @fa7_3) (And.intro @fl7_3 @ld8))))) (And.intro (And.intro (And.intro (And.intro @st8 (And.intro @al8 @fa8_0)) (And.intro (And.intro @fl8_0 @fa8_1) (And.intro @fl8_1 @fa8_2))) (And.intro (And.intro @fl8_2 (And.intro @fa8_3 @fl8_3)) (And.intro (And.intro @ld9 @st9) (And.intro @al9 @ln9)))) (And.intro (And.intro (And.intro @ix9 (And.intro @ld10 @st10)) (And.intro (And.intro @al10 @ln10) (And.intro @ix10 @ld11))) (And.intro (And.intro (And.intro @st11 @al11) (And.intro @ln11 @ix11)) (And.intro (And.intro @ld12 @st12) (And.intro @al12 @ld13)))))) (And.intro (And.intro (And.intro (And.intro (And.intro @st13 (And.intro @al13 @fa13_0)) (And.intro (And.intro @fl13_0 @fa13_1) (And.intro @fl13_1 @ld14))) (And.intro (And.intro @st14 (And.intro @al14 @fa14_0)) (And.intro (And.intro @fl14_0 @fa14_1) (And.intro @fl14_1 @ld15)))) (And.intro (And.intro (And.intro @st15 (And.intro @al15 @ld16)) (And.intro (And.intro @st16 @al16) (And.intro @ld17 @st17))) (And.intro (And.intro (And.intro @al17 @ld18) (And.intro @st18 @al18)) (And.intro (And.intro @fa18_0 @fl18_0) (And.intro @ld19 @st19))))) (And.intro (And.intro (And.intro (And.intro @al19 (And.intro @fa19_0 @fl19_0)) (And.intro (And.intro @ld21 @st21) (And.intro @al21 @ld22))) (And.intro (And.intro @st22 (And.intro @al22 @ia22)) (And.intro (And.intro @ln22 @cp22) (And.intro @sxh22 @sxl22)))) (And.intro (And.intro (And.intro @sxb22 (And.intro @sxm22 @sn22)) (And.intro (And.intro @snn22 @ld23) (And.intro @st23 @al23))) (And.intro (And.intro (And.intro @ia23 @ln23) (And.intro @cp23 @sxh23)) (And.intro (And.intro @sxl23 @sxb23) (And.intro @sxm23 @sn23))))))) (And.intro (And.intro (And.intro (And.intro (And.intro (And.intro @snn23 (And.intro @ld24 @st24)) (And.intro (And.intro @al24 @ia24) (And.intro @ln24 @cp24))) (And.intro (And.intro @sxh24 (And.intro @sxl24 @sxb24)) (And.intro (And.intro @sxm24 @sn24) (And.intro @snn24 @ld25)))) (And.intro (And.intro (And.intro @st25 (And.intro @al25 @ia25)) (And.intro (And.intro @ln25 @cp25) (And.intro @sxh25 @sxl25))) (And.intro (And.intro (And.intro @sxb25 @sxm25) (And.intro @sn25 @snn25)) (And.intro (And.intro @ld26 @st26) (And.intro @al26 @ld33))))) (And.intro (And.intro (And.intro (And.intro @st33 (And.intro @al33 @fa33_0)) (And.intro (And.intro @fl33_0 @fa33_1) (And.intro @fl33_1 @ld34))) (And.intro (And.intro @st34 (And.intro @al34 @fa34_0)) (And.intro (And.intro @fl34_0 @fa34_1) (And.intro @fl34_1 @ld46)))) (And.intro (And.intro (And.intro @st46 (And.intro @al46 @fa46_0)) (And.intro (And.intro @fl46_0 @fa46_1) (And.intro @fl46_1 @ld47))) (And.intro (And.intro (And.intro @st47 @al47) (And.intro @fa47_0 @fl47_0)) (And.intro (And.intro @fa47_1 @fl47_1) (And.intro @ld52 @st52)))))) (And.intro (And.intro (And.intro (And.intro (And.intro @al52 (And.intro @ia52 @ln52)) (And.intro (And.intro @cp52 @sxh52) (And.intro @sxl52 @sxb52))) (And.intro (And.intro @sxm52 (And.intro @sn52 @snn52)) (And.intro (And.intro @ld63 @st63) (And.intro @al63 @ia63)))) (And.intro (And.intro (And.intro @ln63 (And.intro @cp63 @sxh63)) (And.intro (And.intro @sxl63 @sxb63) (And.intro @sxm63 @sn63))) (And.intro (And.intro (And.intro @snn63 @ld64) (And.intro @st64 @al64)) (And.intro (And.intro @ia64 @ln64) (And.intro @cp64 @sxh64))))) (And.intro (And.intro (And.intro (And.intro @sxl64 (And.intro @sxb64 @sxm64)) (And.intro (And.intro @sn64 @snn64) (And.intro @ld65 @st65))) (And.intro (And.intro @al65 (And.intro @fa65_0 @fl65_0)) (And.intro (And.intro @fa65_1 @fl65_1) (And.intro @fa65_2 @fl65_2)))) (And.intro (And.intro (And.intro @fa65_3 (And.intro @fl65_3 @fa65_4)) (And.intro (And.intro @fl65_4 @fa65_5) (And.intro @fl65_5 @fa65_6))) (And.intro (And.intro (And.intro @fl65_6 @fa65_7) (And.intro @fl65_7 @fa65_8)) (And.intro (And.intro @fl65_8 @fa65_9) (And.intro @fl65_9 @ld66)))))))) (And.intro (And.intro (And.intro (And.intro (And.intro (And.intro (And.intro @st66 (And.intro @al66 @fa66_0)) (And.intro (And.intro @fl66_0 @fa66_1) (And.intro @fl66_1 @fa66_2))) (And.intro (And.intro @fl66_2 (And.intro @fa66_3 @fl66_3)) (And.intro (And.intro @fa66_4 @fl66_4) (And.intro @fa66_5 @fl66_5)))) (And.intro (And.intro (And.intro @fa66_6 (And.intro @fl66_6 @fa66_7)) (And.intro (And.intro @fl66_7 @fa66_8) (And.intro @fl66_8 @fa66_9))) (And.intro (And.intro (And.intro @fl66_9 @ld67) (And.intro @st67 @al67)) (And.intro (And.intro @fa67_0 @fl67_0) (And.intro @fa67_1 @fl67_1))))) (And.intro (And.intro (And.intro (And.intro @ld68 (And.intro @st68 @al68)) (And.intro (And.intro @fa68_0 @fl68_0) (And.intro @fa68_1 @fl68_1))) (And.intro (And.intro @ld69 (And.intro @st69 @al69)) (And.intro (And.intro @fa69_0 @fl69_0) (And.intro @fa69_1 @fl69_1)))) (And.intro (And.intro (And.intro @fa69_2 (And.intro @fl69_2 @fa69_3)) (And.intro (And.intro @fl69_3 @fa69_4) (And.intro @fl69_4 @ld70))) (And.intro (And.intro (And.intro @st70 @al70) (And.intro @fa70_0 @fl70_0)) (And.intro (And.intro @fa70_1 @fl70_1) (And.intro @fa70_2 @fl70_2)))))) (And.intro (And.intro (And.intro (And.intro (And.intro @fa70_3 (And.intro @fl70_3 @fa70_4)) (And.intro (And.intro @fl70_4 @ld80) (And.intro @st80 @al80))) (And.intro (And.intro @ia80 (And.intro @ln80 @cp80)) (And.intro (And.intro @sxh80 @sxl80) (And.intro @sxb80 @sxm80)))) (And.intro (And.intro (And.intro @sn80 (And.intro @snn80 @ld81)) (And.intro (And.intro @st81 @al81) (And.intro @ia81 @ln81))) (And.intro (And.intro (And.intro @cp81 @sxh81) (And.intro @sxl81 @sxb81)) (And.intro (And.intro @sxm81 @sn81) (And.intro @snn81 @ld82))))) (And.intro (And.intro (And.intro (And.intro @st82 (And.intro @al82 @ia82)) (And.intro (And.intro @ln82 @cp82) (And.intro @sxh82 @sxl82))) (And.intro (And.intro @sxb82 (And.intro @sxm82 @sn82)) (And.intro (And.intro @snn82 @ld83) (And.intro @st83 @al83)))) (And.intro (And.intro (And.intro @fa83_0 (And.intro @fl83_0 @fa83_1)) (And.intro (And.intro @fl83_1 @fa83_2) (And.intro @fl83_2 @ld84))) (And.intro (And.intro (And.intro @st84 @al84) (And.intro @fa84_0 @fl84_0)) (And.intro (And.intro @fa84_1 @fl84_1) (And.intro @fa84_2 @fl84_2))))))) (And.intro (And.intro (And.intro (And.intro (And.intro (And.intro @ld85 (And.intro @st85 @al85)) (And.intro (And.intro @ia85 @ln85) (And.intro @cp85 @sxh85))) (And.intro (And.intro @sxl85 (And.intro @sxb85 @sxm85)) (And.intro (And.intro @sn85 @snn85) (And.intro @ld86 @st86)))) (And.intro (And.intro (And.intro @al86 (And.intro @fa86_0 @fl86_0)) (And.intro (And.intro @fa86_1 @fl86_1) (And.intro @fa86_2 @fl86_2))) (And.intro (And.intro (And.intro @fa86_3 @fl86_3) (And.intro @fa86_4 @fl86_4)) (And.intro (And.intro @ld87 @st87) (And.intro @al87 @fa87_0))))) (And.intro (And.intro (And.intro (And.intro @fl87_0 (And.intro @fa87_1 @fl87_1)) (And.intro (And.intro @fa87_2 @fl87_2) (And.intro @fa87_3 @fl87_3))) (And.intro (And.intro @fa87_4 (And.intro @fl87_4 @ld92)) (And.intro (And.intro @st92 @al92) (And.intro @fa92_0 @fl92_0)))) (And.intro (And.intro (And.intro @fa92_1 (And.intro @fl92_1 @fa92_2)) (And.intro (And.intro @fl92_2 @ld93) (And.intro @st93 @al93))) (And.intro (And.intro (And.intro @fa93_0 @fl93_0) (And.intro @fa93_1 @fl93_1)) (And.intro (And.intro @fa93_2 @fl93_2) (And.intro @ld97 @st97)))))) (And.intro (And.intro (And.intro (And.intro (And.intro @al97 (And.intro @ia97 @ln97)) (And.intro (And.intro @cp97 @sxh97) (And.intro @sxl97 @sxb97))) (And.intro (And.intro @sxm97 (And.intro @sn97 @snn97)) (And.intro (And.intro @ld119 @st119) (And.intro @al119 @ia119)))) (And.intro (And.intro (And.intro @ln119 (And.intro @cp119 @sxh119)) (And.intro (And.intro @sxl119 @sxb119) (And.intro @sxm119 @sn119))) (And.intro (And.intro (And.intro @snn119 @ld120) (And.intro @st120 @al120)) (And.intro (And.intro @ld121 @st121) (And.intro @al121 @fa121_0))))) (And.intro (And.intro (And.intro (And.intro @fl121_0 (And.intro @fa121_1 @fl121_1)) (And.intro (And.intro @ld122 @st122) (And.intro @al122 @fa122_0))) (And.intro (And.intro @fl122_0 (And.intro @fa122_1 @fl122_1)) (And.intro (And.intro @ld128 @st128) (And.intro @al128 @ld130)))) (And.intro (And.intro (And.intro @st130 (And.intro @al130 @fa130_0)) (And.intro (And.intro @fl130_0 @fa130_1) (And.intro @fl130_1 @ld131))) (And.intro (And.intro (And.intro @st131 @al131) (And.intro @fa131_0 @fl131_0)) (And.intro (And.intro @fa131_1 @fl131_1) (And.intro @ld138 @st138))))))))) (And.intro (And.intro (And.intro (And.intro (And.intro (And.intro (And.intro (And.intro @al138 (And.intro @ld140 @st140)) (And.intro (And.intro @al140 @fa140_0) (And.intro @fl140_0 @fa140_1))) (And.intro (And.intro @fl140_1 (And.intro @ld141 @st141)) (And.intro (And.intro @al141 @fa141_0) (And.intro @fl141_0 @fa141_1)))) (And.intro (And.intro (And.intro @fl141_1 (And.intro @ld142 @st142)) (And.intro (And.intro @al142 @fa142_0) (And.intro @fl142_0 @fa142_1))) (And.intro (And.intro (And.intro @fl142_1 @ld143) (And.intro @st143 @al143)) (And.intro (And.intro @fa143_0 @fl143_0) (And.intro @fa143_1 @fl143_1))))) (And.intro (And.intro (And.intro (And.intro @ld144 (And.intro @st144 @al144)) (And.intro (And.intro @ld169 @st169) (And.intro @al169 @ld172))) (And.intro (And.intro @st172 (And.intro @al172 @ia172)) (And.intro (And.intro @ln172 @cp172) (And.intro @sxh172 @sxl172)))) (And.intro (And.intro (And.intro @sxb172 (And.intro @sxm172 @sn172)) (And.intro (And.intro @snn172 @ld173) (And.intro @st173 @al173))) (And.intro (And.intro (And.intro @ld177 @st177) (And.intro @al177 @fa177_0)) (And.intro (And.intro @fl177_0 @fa177_1) (And.intro @fl177_1 @ld178)))))) (And.intro (And.intro (And.intro (And.intro (And.intro @st178 (And.intro @al178 @fa178_0)) (And.intro (And.intro @fl178_0 @fa178_1) (And.intro @fl178_1 @ld194))) (And.intro (And.intro @st194 (And.intro @al194 @ld199)) (And.intro (And.intro @st199 @al199) (And.intro @ld206 @st206)))) (And.intro (And.intro (And.intro @al206 (And.intro @ld209 @st209)) (And.intro (And.intro @al209 @ld219) (And.intro @st219 @al219))) (And.intro (And.intro (And.intro @ld223 @st223) (And.intro @al223 @ld233)) (And.intro (And.intro @st233 @al233) (And.intro @ld239 @st239))))) (And.intro (And.intro (And.intro (And.intro @al239 (And.intro @fa239_0 @fl239_0)) (And.intro (And.intro @fa239_1 @fl239_1) (And.intro @ld240 @st240))) (And.intro (And.intro @al240 (And.intro @fa240_0 @fl240_0)) (And.intro (And.intro @fa240_1 @fl240_1) (And.intro @ld241 @st241)))) (And.intro (And.intro (And.intro @al241 (And.intro @ld245 @st245)) (And.intro (And.intro @al245 @ld247) (And.intro @st247 @al247))) (And.intro (And.intro (And.intro @fa247_0 @fl247_0) (And.intro @fa247_1 @fl247_1)) (And.intro (And.intro @fa247_2 @fl247_2) (And.intro @fa247_3 @fl247_3))))))) (And.intro (And.intro (And.intro (And.intro (And.intro (And.intro @ld248 (And.intro @st248 @al248)) (And.intro (And.intro @fa248_0 @fl248_0) (And.intro @fa248_1 @fl248_1))) (And.intro (And.intro @fa248_2 (And.intro @fl248_2 @fa248_3)) (And.intro (And.intro @fl248_3 @al249) (And.intro @al250 @al251)))) (And.intro (And.intro (And.intro @ld253 (And.intro @st253 @al253)) (And.intro (And.intro @ld254 @st254) (And.intro @al254 @ld256))) (And.intro (And.intro (And.intro @st256 @al256) (And.intro @ld257 @st257)) (And.intro (And.intro @al257 @ld258) (And.intro @st258 @al258))))) (And.intro (And.intro (And.intro (And.intro @ld259 (And.intro @st259 @al259)) (And.intro (And.intro @fa259_0 @fl259_0) (And.intro @fa259_1 @fl259_1))) (And.intro (And.intro @fa259_2 (And.intro @fl259_2 @fa259_3)) (And.intro (And.intro @fl259_3 @fa259_4) (And.intro @fl259_4 @fa259_5)))) (And.intro (And.intro (And.intro @fl259_5 (And.intro @fa259_6 @fl259_6)) (And.intro (And.intro @fa259_7 @fl259_7) (And.intro @fa259_8 @fl259_8))) (And.intro (And.intro (And.intro @fa259_9 @fl259_9) (And.intro @fa259_10 @fl259_10)) (And.intro (And.intro @ld260 @st260) (And.intro @al260 @fa260_0)))))) (And.intro (And.intro (And.intro (And.intro (And.intro @fl260_0 (And.intro @fa260_1 @fl260_1)) (And.intro (And.intro @fa260_2 @fl260_2) (And.intro @fa260_3 @fl260_3))) (And.intro (And.intro @fa260_4 (And.intro @fl260_4 @fa260_5)) (And.intro (And.intro @fl260_5 @fa260_6) (And.intro @fl260_6 @fa260_7)))) (And.intro (And.intro (And.intro @fl260_7 (And.intro @fa260_8 @fl260_8)) (And.intro (And.intro @fa260_9 @fl260_9) (And.intro @fa260_10 @fl260_10))) (And.intro (And.intro (And.intro @ld261 @st261) (And.intro @al261 @fa261_0)) (And.intro (And.intro @fl261_0 @ld262) (And.intro @st262 @al262))))) (And.intro (And.intro (And.intro (And.intro @fa262_0 (And.intro @fl262_0 @ld263)) (And.intro (And.intro @st263 @al263) (And.intro @en3 @en4))) (And.intro (And.intro @en5 (And.intro @en6 @en7)) (And.intro (And.intro @en8 @en9) (And.intro @en10 @en11)))) (And.intro (And.intro (And.intro @en12 (And.intro @en13 @en14)) (And.intro (And.intro @en15 @en16) (And.intro @en17 @en18))) (And.intro (And.intro (And.intro @en19 @en20) (And.intro @en21 @en22)) (And.intro (And.intro @en23 @en24) (And.intro @en25 @en26)))))))) (And.intro (And.intro (And.intro (And.intro (And.intro (And.intro (And.intro @en27 (And.intro @en28 @en29)) (And.intro (And.intro @en30 @en31) (And.intro @en32 @en33))) (And.intro (And.intro @en34 (And.intro @en35 @en36)) (And.intro (And.intro @en37 @en38) (And.intro @en39 @en40)))) (And.intro (And.intro (And.intro @en41 (And.intro @en42 @en43)) (And.intro (And.intro @en44 @en45) (And.intro @en46 @en47))) (And.intro (And.intro (And.intro @en48 @en49) (And.intro @en50 @en51)) (And.intro (And.intro @en52 @en53) (And.intro @en54 @en55))))) (And.intro (And.intro (And.intro (And.intro @en56 (And.intro @en57 @en58)) (And.intro (And.intro @en59 @en60) (And.intro @en61 @en62))) (And.intro (And.intro @en63 (And.intro @en64 @en65)) (And.intro (And.intro @en66 @en67) (And.intro @en68 @en69)))) (And.intro (And.intro (And.intro @en70 (And.intro @en71 @en72)) (And.intro (And.intro @en73 @en74) (And.intro @en75 @en76))) (And.intro (And.intro (And.intro @en77 @en78) (And.intro @en79 @en80)) (And.intro (And.intro @en81 @en82) (And.intro @en83 @en84)))))) (And.intro (And.intro (And.intro (And.intro (And.intro @en85 (And.intro @en86 @en87)) (And.intro (And.intro @en88 @en89) (And.intro @en90 @en91))) (And.intro (And.intro @en92 (And.intro @en93 @en94)) (And.intro (And.intro @en95 @en96) (And.intro @en97 @en98)))) (And.intro (And.intro (And.intro @en99 (And.intro @en100 @en101)) (And.intro (And.intro @en102 @en103) (And.intro @en104 @en105))) (And.intro (And.intro (And.intro @en106 @en107) (And.intro @en108 @en109)) (And.intro (And.intro @en110 @en111) (And.intro @en112 @en113))))) (And.intro (And.intro (And.intro (And.intro @en114 (And.intro @en115 @en116)) (And.intro (And.intro @en117 @en118) (And.intro @en119 @en120))) (And.intro (And.intro @en121 (And.intro @en122 @en123)) (And.intro (And.intro @en124 @en125) (And.intro @en126 @en127)))) (And.intro (And.intro (And.intro @en128 (And.intro @en129 @en130)) (And.intro (And.intro @en131 @en132) (And.intro @en133 @en134))) (And.intro (And.intro (And.intro @en135 @en136) (And.intro @en137 @en138)) (And.intro (And.intro @en139 @en140) (And.intro @en141 @en142))))))) (And.intro (And.intro (And.intro (And.intro (And.intro (And.intro @en143 (And.intro @en144 @en145)) (And.intro (And.intro @en146 @en147) (And.intro @en148 @en149))) (And.intro (And.intro @en150 (And.intro @en151 @en152)) (And.intro (And.intro @en153 @en154) (And.intro @en155 @en156)))) (And.intro (And.intro (And.intro @en157 (And.intro @en158 @en159)) (And.intro (And.intro @en160 @en161) (And.intro @en162 @en163))) (And.intro (And.intro (And.intro @en164 @en165) (And.intro @en166 @en167)) (And.intro (And.intro @en168 @en169) (And.intro @en170 @en171))))) (And.intro (And.intro (And.intro (And.intro @en172 (And.intro @en173 @en174)) (And.intro (And.intro @en175 @en176) (And.intro @en177 @en178))) (And.intro (And.intro @en179 (And.intro @en180 @en182)) (And.intro (And.intro @en184 @en185) (And.intro @en186 @en187)))) (And.intro (And.intro (And.intro @en188 (And.intro @en189 @en190)) (And.intro (And.intro @en191 @en192) (And.intro @en193 @en194))) (And.intro (And.intro (And.intro @en195 @en196) (And.intro @en197 @en198)) (And.intro (And.intro @en199 @en200) (And.intro @en201 @en202)))))) (And.intro (And.intro (And.intro (And.intro (And.intro @en203 (And.intro @en204 @en205)) (And.intro (And.intro @en206 @en207) (And.intro @en208 @en209))) (And.intro (And.intro @en211 (And.intro @en212 @bd34_0_1)) (And.intro (And.intro @bd84_0_1 @bd84_0_2) (And.intro @bd87_0_1_2_3_4 @bd93_0)))) (And.intro (And.intro (And.intro @bd141_0_1 (And.intro @bd178_0_1 @bs22_0)) (And.intro (And.intro @bs22_1 @bs22_2) (And.intro @bs23_0 @bs23_1))) (And.intro (And.intro (And.intro @bs23_2 @bs23_3) (And.intro @bs23_6 @bs24_0)) (And.intro (And.intro @bs24_1 @bs25_0) (And.intro @bs52_1 @bs63_0))))) (And.intro (And.intro (And.intro (And.intro @bs63_1 (And.intro @bs64_1 @bs80_0)) (And.intro (And.intro @bs80_1 @bs80_2) (And.intro @bs81_1 @bs82_0))) (And.intro (And.intro (And.intro @bs85_0 @bs85_1) (And.intro @bs85_2 @bs97_1)) (And.intro (And.intro @bs119_2 @bs119_3) (And.intro @bs172_1 @cv3_169)))) (And.intro (And.intro (And.intro @cv3_173 (And.intro @cv3_219 @cv5_3)) (And.intro (And.intro @cv5_21 @cv21_5) (And.intro @cv169_3 @cv169_206))) (And.intro (And.intro (And.intro @cv173_3 @cv173_5) (And.intro @cv173_206 @cv206_5)) (And.intro (And.intro @cv206_169 @cv206_173) (And.intro @aeq34 @ane34))))))))))
end Go.Proofs.YtnlbapfbdabjaaaDoor
namespace Go.Proofs.YtnlbapfbdabjaaaDoor
open Go Go.GL
attribute [local irreducible] Ycall GCalls
set_option maxRecDepth 10000
set_option maxHeartbeats 0
def within (a lo hi : Int) : Bool := decide (lo ≤ a) && decide (a ≤ hi)
theorem out_within (a lo hi : Int) : (decide (a < lo) || decide (hi < a)) = !within a lo hi := by
  unfold within
  by_cases h1 : a < lo <;> by_cases h2 : hi < a <;> simp [h1, h2] <;> omega
theorem within_iff {a lo hi : Int} : within a lo hi = true ↔ lo ≤ a ∧ a ≤ hi := by simp [within]
def moment (a : Int) : Bool := within a 0 345686399999
def coord (a : Int) : Bool := within a (-10000) 10000
def sized (a : Int) : Bool := within a 1 10000
def zoned (a : Int) : Bool := within a (-1440) 1440
def point (a b : Int) : Bool := coord a && coord b
def bi (b : Bool) : Int := if b then 0 else 1
theorem p74 {G0 : GH} {a lo hi : Int}  : Pure Tryd.prog G0 74 [V a, V lo, V hi] (.bool (!within a lo hi)) := by
  intro G hG
  clear hG G0
  refine enter Tryd.func74 15 #[.tmp 6] rfl Tryd.ntmps74 rfl (by decide +kernel) rfl ?_
  rw [← out_within]
  focus
    simp (maxDischargeDepth := 9) only [↓gB, gV, gT, reduceIte, reduceCtorEq, Nat.reduceEqDiff, Nat.reduceAdd, Nat.reduceSub, Nat.reduceLeDiff, Nat.reduceLT, Int.reduceEq, Nat.reduceMul]
    by_cases c1 : (a : Int) < lo
    rotate_left 1
    focus
      simp (maxDischargeDepth := 9) only [↓gB, gV, gT, reduceIte, reduceCtorEq, Nat.reduceEqDiff, Nat.reduceAdd, Nat.reduceSub, Nat.reduceLeDiff, Nat.reduceLT, Int.reduceEq, Nat.reduceMul, c1]
      exact Kup_val (le_refl _) rfl
    rotate_right 1
    simp (maxDischargeDepth := 9) only [↓gB, gV, gT, reduceIte, reduceCtorEq, Nat.reduceEqDiff, Nat.reduceAdd, Nat.reduceSub, Nat.reduceLeDiff, Nat.reduceLT, Int.reduceEq, Nat.reduceMul, c1]
    exact Kup_val (le_refl _) rfl
theorem p68 {G0 : GH} {a lo hi : Int}  : Pure Tryd.prog G0 68 [V a, V lo, V hi] (.bool (within a lo hi)) := by
  intro G hG
  clear hG G0
  refine enter Tryd.func68 15 #[.tmp 6] rfl Tryd.ntmps68 rfl (by decide +kernel) rfl ?_
  focus
    simp (maxDischargeDepth := 9) only [↓gB, gV, gT, reduceIte, reduceCtorEq, Nat.reduceEqDiff, Nat.reduceAdd, Nat.reduceSub, Nat.reduceLeDiff, Nat.reduceLT, Int.reduceEq, Nat.reduceMul, within]
    by_cases c1 : (lo : Int) ≤ a
    rotate_left 1
    focus
      simp (maxDischargeDepth := 9) only [↓gB, gV, gT, reduceIte, reduceCtorEq, Nat.reduceEqDiff, Nat.reduceAdd, Nat.reduceSub, Nat.reduceLeDiff, Nat.reduceLT, Int.reduceEq, Nat.reduceMul, c1, within]
      exact Kup_val (le_refl _) rfl
    rotate_right 1
    simp (maxDischargeDepth := 9) only [↓gB, gV, gT, reduceIte, reduceCtorEq, Nat.reduceEqDiff, Nat.reduceAdd, Nat.reduceSub, Nat.reduceLeDiff, Nat.reduceLT, Int.reduceEq, Nat.reduceMul, c1, within]
    exact Kup_val (le_refl _) rfl
theorem p102 {G0 : GH} {a : Int}  : Pure Tryd.prog G0 102 [V a] (.bool (moment a)) := by
  intro G hG
  clear hG G0
  refine enter Tryd.func102 6 #[.tmp 2] rfl Tryd.ntmps102 rfl (by decide +kernel) rfl ?_
  simp (maxDischargeDepth := 9) only [↓gB, gV, gT, reduceIte, reduceCtorEq, Nat.reduceEqDiff, Nat.reduceAdd, Nat.reduceSub, Nat.reduceLeDiff, Nat.reduceLT, Int.reduceEq, Nat.reduceMul, moment]
  refine Ycp (p74) ?_
  simp (maxDischargeDepth := 9) only [↓gB, gV, gT, reduceIte, reduceCtorEq, Nat.reduceEqDiff, Nat.reduceAdd, Nat.reduceSub, Nat.reduceLeDiff, Nat.reduceLT, Int.reduceEq, Nat.reduceMul, moment]
  exact Kup_val (le_refl _) rfl
def fdiv (a s : Int) : Int := if a.tmod s < 0 then IntKind.i64.wrap (IntKind.i64.wrap (a.tdiv s) - 1) else IntKind.i64.wrap (a.tdiv s)
theorem p61 {G0 : GH} {a s : Int} (hs : s ≠ 0) : Pure Tryd.prog G0 61 [V a, V s] (V (fdiv a s)) := by
  intro G hG
  clear hG G0
  refine enter Tryd.func61 16 #[.tmp 4] rfl Tryd.ntmps61 rfl (by decide +kernel) rfl ?_
  focus
    simp (maxDischargeDepth := 9) only [↓gB, gV, gT, reduceIte, reduceCtorEq, Nat.reduceEqDiff, Nat.reduceAdd, Nat.reduceSub, Nat.reduceLeDiff, Nat.reduceLT, Int.reduceEq, Nat.reduceMul, fdiv]
    refine vguard_intro (by omega) ?_
    refine vguard_intro (by omega) ?_
    refine Xc_split _ _ _ _ _ (fun c1 => ?_) (fun c1 => ?_)
    rotate_left 1
    focus
      simp (maxDischargeDepth := 9) only [↓gB, gV, gT, reduceIte, reduceCtorEq, Nat.reduceEqDiff, Nat.reduceAdd, Nat.reduceSub, Nat.reduceLeDiff, Nat.reduceLT, Int.reduceEq, Nat.reduceMul, c1, fdiv]
      exact Kup_val (le_refl _) rfl
    rotate_right 1
    simp (maxDischargeDepth := 9) only [↓gB, gV, gT, reduceIte, reduceCtorEq, Nat.reduceEqDiff, Nat.reduceAdd, Nat.reduceSub, Nat.reduceLeDiff, Nat.reduceLT, Int.reduceEq, Nat.reduceMul, c1, fdiv]
    exact Kup_val (le_refl _) rfl
theorem p105 {G0 : GH} {a s : Int} (hs : s ≠ 0) : Pure Tryd.prog G0 105 [V a, V s] (V (fdiv a s)) := by
  intro G hG
  clear hG G0
  refine enter Tryd.func105 16 #[.tmp 4] rfl Tryd.ntmps105 rfl (by decide +kernel) rfl ?_
  focus
    simp (maxDischargeDepth := 9) only [↓gB, gV, gT, reduceIte, reduceCtorEq, Nat.reduceEqDiff, Nat.reduceAdd, Nat.reduceSub, Nat.reduceLeDiff, Nat.reduceLT, Int.reduceEq, Nat.reduceMul, fdiv]
    refine vguard_intro (by omega) ?_
    refine vguard_intro (by omega) ?_
    refine Xc_split _ _ _ _ _ (fun c1 => ?_) (fun c1 => ?_)
    rotate_left 1
    focus
      simp (maxDischargeDepth := 9) only [↓gB, gV, gT, reduceIte, reduceCtorEq, Nat.reduceEqDiff, Nat.reduceAdd, Nat.reduceSub, Nat.reduceLeDiff, Nat.reduceLT, Int.reduceEq, Nat.reduceMul, c1, fdiv]
      exact Kup_val (le_refl _) rfl
    rotate_right 1
    simp (maxDischargeDepth := 9) only [↓gB, gV, gT, reduceIte, reduceCtorEq, Nat.reduceEqDiff, Nat.reduceAdd, Nat.reduceSub, Nat.reduceLeDiff, Nat.reduceLT, Int.reduceEq, Nat.reduceMul, c1, fdiv]
    exact Kup_val (le_refl _) rfl
def w64 (x : Int) : Int := IntKind.i64.wrap x
def inWeek (t : Int) : Int := w64 (t - w64 (fdiv t 604800000 * 604800000))
def hour1 (at_ zone : Int) : Int := w64 ((inWeek (w64 (at_ + w64 (zone * 60000)))).tdiv 3600000)
def hour2 (at_ zone : Int) : Int := w64 (fdiv (w64 (at_ + w64 (zone * 60000))) 3600000 - w64 (fdiv (fdiv (w64 (at_ + w64 (zone * 60000))) 3600000) 168 * 168))
theorem p48 {G0 : GH} {a : Int}  : Pure Tryd.prog G0 48 [V a] (V (bi (moment a))) := by
  intro G hG
  clear hG G0
  refine enter Tryd.func48 6 #[.tmp 2] rfl Tryd.ntmps48 rfl (by decide +kernel) rfl ?_
  focus
    simp (maxDischargeDepth := 9) only [↓gB, gV, gT, reduceIte, reduceCtorEq, Nat.reduceEqDiff, Nat.reduceAdd, Nat.reduceSub, Nat.reduceLeDiff, Nat.reduceLT, Int.reduceEq, Nat.reduceMul, bi, moment]
    refine Ycp (p68) ?_
    simp (maxDischargeDepth := 9) only [↓gB, gV, gT, reduceIte, reduceCtorEq, Nat.reduceEqDiff, Nat.reduceAdd, Nat.reduceSub, Nat.reduceLeDiff, Nat.reduceLT, Int.reduceEq, Nat.reduceMul, bi, moment]
    rcases bool_tf (Go.Proofs.YtnlbapfbdabjaaaDoor.within a 0 345686399999) with c1 | c1
    rotate_left 1
    focus
      simp (maxDischargeDepth := 9) only [↓gB, gV, gT, reduceIte, reduceCtorEq, Nat.reduceEqDiff, Nat.reduceAdd, Nat.reduceSub, Nat.reduceLeDiff, Nat.reduceLT, Int.reduceEq, Nat.reduceMul, c1, bi, moment]
      exact Kup_val (le_refl _) rfl
    rotate_right 1
    simp (maxDischargeDepth := 9) only [↓gB, gV, gT, reduceIte, reduceCtorEq, Nat.reduceEqDiff, Nat.reduceAdd, Nat.reduceSub, Nat.reduceLeDiff, Nat.reduceLT, Int.reduceEq, Nat.reduceMul, c1, bi, moment]
    exact Kup_val (le_refl _) rfl
def houred (a : Int) : Bool := within a 0 167
theorem p113 {G0 : GH} {a : Int}  : Pure Tryd.prog G0 113 [V a] (.bool false) := by
  intro G hG
  clear hG G0
  refine enter Tryd.func113 6 #[.tmp 2] rfl Tryd.ntmps113 rfl (by decide +kernel) rfl ?_
  simp (maxDischargeDepth := 9) only [↓gB, gV, gT, reduceIte, reduceCtorEq, Nat.reduceEqDiff, Nat.reduceAdd, Nat.reduceSub, Nat.reduceLeDiff, Nat.reduceLT, Int.reduceEq, Nat.reduceMul]
  exact Kup_val (le_refl _) rfl
def cmp3 (a b : Int) : Int := if a < b then -1 else if b < a then 1 else 0
theorem p64 {G0 : GH} {a b : Int}  : Pure Tryd.prog G0 64 [V a, V b] (V (cmp3 a b)) := by
  intro G hG
  clear hG G0
  refine enter Tryd.func64 20 #[.tmp 4] rfl Tryd.ntmps64 rfl (by decide +kernel) rfl ?_
  focus
    simp (maxDischargeDepth := 9) only [↓gB, gV, gT, reduceIte, reduceCtorEq, Nat.reduceEqDiff, Nat.reduceAdd, Nat.reduceSub, Nat.reduceLeDiff, Nat.reduceLT, Int.reduceEq, Nat.reduceMul, cmp3]
    refine Ycp (p113) ?_
    simp (maxDischargeDepth := 9) only [↓gB, gV, gT, reduceIte, reduceCtorEq, Nat.reduceEqDiff, Nat.reduceAdd, Nat.reduceSub, Nat.reduceLeDiff, Nat.reduceLT, Int.reduceEq, Nat.reduceMul, cmp3]
    refine Ycp (p113) ?_
    simp (maxDischargeDepth := 9) only [↓gB, gV, gT, reduceIte, reduceCtorEq, Nat.reduceEqDiff, Nat.reduceAdd, Nat.reduceSub, Nat.reduceLeDiff, Nat.reduceLT, Int.reduceEq, Nat.reduceMul, cmp3]
    refine Xc_split _ _ _ _ _ (fun c1 => ?_) (fun c1 => ?_)
    rotate_left 1
    focus
      simp (maxDischargeDepth := 9) only [↓gB, gV, gT, reduceIte, reduceCtorEq, Nat.reduceEqDiff, Nat.reduceAdd, Nat.reduceSub, Nat.reduceLeDiff, Nat.reduceLT, Int.reduceEq, Nat.reduceMul, c1, cmp3]
      refine Xc_split _ _ _ _ _ (fun c2 => ?_) (fun c2 => ?_)
      rotate_left 1
      focus
        simp (maxDischargeDepth := 9) only [↓gB, gV, gT, reduceIte, reduceCtorEq, Nat.reduceEqDiff, Nat.reduceAdd, Nat.reduceSub, Nat.reduceLeDiff, Nat.reduceLT, Int.reduceEq, Nat.reduceMul, c1, c2, cmp3]
        exact Kup_val (le_refl _) rfl
      rotate_right 1
      simp (maxDischargeDepth := 9) only [↓gB, gV, gT, reduceIte, reduceCtorEq, Nat.reduceEqDiff, Nat.reduceAdd, Nat.reduceSub, Nat.reduceLeDiff, Nat.reduceLT, Int.reduceEq, Nat.reduceMul, c1, c2, cmp3]
      exact Kup_val (le_refl _) rfl
    rotate_right 1
    simp (maxDischargeDepth := 9) only [↓gB, gV, gT, reduceIte, reduceCtorEq, Nat.reduceEqDiff, Nat.reduceAdd, Nat.reduceSub, Nat.reduceLeDiff, Nat.reduceLT, Int.reduceEq, Nat.reduceMul, c1, cmp3]
    exact Kup_val (le_refl _) rfl
def windowed (a b : Int) : Bool := within a 0 b && decide (b ≤ 345686400000)
def cellCmp (a b c d : Int) : Int := if cmp3 a c = 0 then cmp3 b d else cmp3 a c
def orOf : List Int → Int
  | [] => 0
  | x :: l => if x ≠ 0 then x else orOf l
end Go.Proofs.YtnlbapfbdabjaaaDoor
namespace Go.Proofs.YtnlbapfbdabjaaaDoor
open Go Go.GL
attribute [local irreducible] Ycall GCalls
set_option maxRecDepth 10000
set_option maxHeartbeats 0
theorem orE_gen {G0 : GH} {l : List Int} {r : Nat} {e : TypeId} {t : Bool} {fr : Nat × Nat} (hn : (l.length : Int) ≤ 9223372036854775807) (hr : G0 r = some (.cells (l.map V).toArray e fr, t)) : Pure Tryd.prog G0 16 [.slice (some ⟨r, 0, none⟩) l.length l.length] (V (orOf l)) := by
  intro G hG; replace hr := hG _ _ hr; clear hG G0
  refine enter Tryd.func16 18 #[.tmp 2] rfl Tryd.ntmps16 rfl (by decide +kernel) rfl ?_
  simp (maxDischargeDepth := 9) only [↓gB, gV, gT, reduceIte, reduceCtorEq, Nat.reduceEqDiff, Nat.reduceAdd, Nat.reduceSub, Nat.reduceLeDiff, Nat.reduceLT, Int.reduceEq, Nat.reduceMul, hr]
  focus
    refine Xloop_intro _ _ _ _ _ (fun k f G' => ∃ (i : Nat), k = l.length - i ∧ (i ≤ l.length) ∧ (orOf l = orOf (l.drop i)) ∧ (G = G') ∧ f 8 = V i ∧ f 3 = Go.Value.int Go.IntKind.i64 0 ∧ f 6 = Go.Value.slice (Option.some { block := r, off := 0 }) l.length l.length ∧ f 7 = Go.Value.int Go.IntKind.i64 ↑l.length) _ ⟨0, rfl, ?_, ?_, rfl, by simp (maxDischargeDepth := 9) only [↓gB, gV, gT, reduceIte, reduceCtorEq, Nat.reduceEqDiff, Nat.reduceAdd, Nat.reduceSub, Nat.reduceLeDiff, Nat.reduceLT, Int.reduceEq, Nat.reduceMul, hr, and_self]⟩ ?_
    · omega
    · rfl
    rintro k f G' ⟨i, rfl, hi, h, rfl, f8, f3, f6, f7⟩
  simp (maxDischargeDepth := 9) only [↓gB, gV, gT, reduceIte, reduceCtorEq, Nat.reduceEqDiff, Nat.reduceAdd, Nat.reduceSub, Nat.reduceLeDiff, Nat.reduceLT, Int.reduceEq, Nat.reduceMul, hr, f8, f3, f6, f7]
  refine Xc_split _ _ _ _ _ (fun hlt => ?_) (fun hlt => ?_)
  · obtain ⟨x, hx⟩ : ∃ x, l[i]? = some x := ⟨l[i]'(by omega), List.getElem?_eq_getElem (by omega)⟩
    have hd := drop_at hx
    focus
      simp (maxDischargeDepth := 9) only [↓gB, gV, gT, reduceIte, reduceCtorEq, Nat.reduceEqDiff, Nat.reduceAdd, Nat.reduceSub, Nat.reduceLeDiff, Nat.reduceLT, Int.reduceEq, Nat.reduceMul, hr, f8, f3, f6, f7, List.getElem?_map, hx]
      refine vguard_intro (by omega) ?_
      refine Xc_split _ _ _ _ _ (fun c1 => ?_) (fun c1 => ?_)
      rotate_left 1
      focus
        simp (maxDischargeDepth := 9) only [↓gB, gV, gT, reduceIte, reduceCtorEq, Nat.reduceEqDiff, Nat.reduceAdd, Nat.reduceSub, Nat.reduceLeDiff, Nat.reduceLT, Int.reduceEq, Nat.reduceMul, hr, f8, f3, f6, f7, c1, List.getElem?_map, hx]
        have q1 : Go.IntKind.i64.wrap (↑i + 1) = ↑i + 1 := wrap_id (by omega)
        simp (maxDischargeDepth := 9) only [↓gB, gV, gT, reduceIte, reduceCtorEq, Nat.reduceEqDiff, Nat.reduceAdd, Nat.reduceSub, Nat.reduceLeDiff, Nat.reduceLT, Int.reduceEq, Nat.reduceMul, hr, f8, f3, f6, f7, c1, q1, List.getElem?_map, hx]
        rw [N_lp]
        refine ⟨_, ?_, _, ?_, i + 1, rfl, ?_, ?_, rfl, by simp (maxDischargeDepth := 9) only [↓gB, gV, gT, reduceIte, reduceCtorEq, Nat.reduceEqDiff, Nat.reduceAdd, Nat.reduceSub, Nat.reduceLeDiff, Nat.reduceLT, Int.reduceEq, Nat.reduceMul, hr, f8, f3, f6, f7, c1, q1, List.getElem?_map, hx, nat_succ, and_self]⟩
        · omega
        · exact sub_refl _
        · omega
        · (rw [h, hd]; simp [orOf, *]; done)
      rotate_right 1
      simp (maxDischargeDepth := 9) only [↓gB, gV, gT, reduceIte, reduceCtorEq, Nat.reduceEqDiff, Nat.reduceAdd, Nat.reduceSub, Nat.reduceLeDiff, Nat.reduceLT, Int.reduceEq, Nat.reduceMul, hr, f8, f3, f6, f7, c1, List.getElem?_map, hx]
      refine Kup_val (le_refl _) ?_
      focus (rw [h, hd]; simp [orOf, *]; done)
  · simp (maxDischargeDepth := 9) only [↓gB, gV, gT, reduceIte, reduceCtorEq, Nat.reduceEqDiff, Nat.reduceAdd, Nat.reduceSub, Nat.reduceLeDiff, Nat.reduceLT, Int.reduceEq, Nat.reduceMul, hr, f8, f3, f6, f7]
    refine Kup_val (le_refl _) ?_
    focus (rw [h, List.drop_eq_nil_of_le (by omega)]; rfl; done)
theorem orI_gen {G0 : GH} {l : List Int} {r : Nat} {e : TypeId} {t : Bool} {fr : Nat × Nat} (hn : (l.length : Int) ≤ 9223372036854775807) (hr : G0 r = some (.cells (l.map V).toArray e fr, t)) : Pure Tryd.prog G0 129 [.slice (some ⟨r, 0, none⟩) l.length l.length] (V (orOf l)) := by
  intro G hG; replace hr := hG _ _ hr; clear hG G0
  refine enter Tryd.func129 18 #[.tmp 2] rfl Tryd.ntmps129 rfl (by decide +kernel) rfl ?_
  simp (maxDischargeDepth := 9) only [↓gB, gV, gT, reduceIte, reduceCtorEq, Nat.reduceEqDiff, Nat.reduceAdd, Nat.reduceSub, Nat.reduceLeDiff, Nat.reduceLT, Int.reduceEq, Nat.reduceMul, hr]
  focus
    refine Xloop_intro _ _ _ _ _ (fun k f G' => ∃ (i : Nat), k = l.length - i ∧ (i ≤ l.length) ∧ (orOf l = orOf (l.drop i)) ∧ (G = G') ∧ f 8 = V i ∧ f 3 = Go.Value.int Go.IntKind.i64 0 ∧ f 6 = Go.Value.slice (Option.some { block := r, off := 0 }) l.length l.length ∧ f 7 = Go.Value.int Go.IntKind.i64 ↑l.length) _ ⟨0, rfl, ?_, ?_, rfl, by simp (maxDischargeDepth := 9) only [↓gB, gV, gT, reduceIte, reduceCtorEq, Nat.reduceEqDiff, Nat.reduceAdd, Nat.reduceSub, Nat.reduceLeDiff, Nat.reduceLT, Int.reduceEq, Nat.reduceMul, hr, and_self]⟩ ?_
    · omega
    · rfl
    rintro k f G' ⟨i, rfl, hi, h, rfl, f8, f3, f6, f7⟩
  simp (maxDischargeDepth := 9) only [↓gB, gV, gT, reduceIte, reduceCtorEq, Nat.reduceEqDiff, Nat.reduceAdd, Nat.reduceSub, Nat.reduceLeDiff, Nat.reduceLT, Int.reduceEq, Nat.reduceMul, hr, f8, f3, f6, f7]
  refine Xc_split _ _ _ _ _ (fun hlt => ?_) (fun hlt => ?_)
  · obtain ⟨x, hx⟩ : ∃ x, l[i]? = some x := ⟨l[i]'(by omega), List.getElem?_eq_getElem (by omega)⟩
    have hd := drop_at hx
    focus
      simp (maxDischargeDepth := 9) only [↓gB, gV, gT, reduceIte, reduceCtorEq, Nat.reduceEqDiff, Nat.reduceAdd, Nat.reduceSub, Nat.reduceLeDiff, Nat.reduceLT, Int.reduceEq, Nat.reduceMul, hr, f8, f3, f6, f7, List.getElem?_map, hx]
      refine vguard_intro (by omega) ?_
      refine Xc_split _ _ _ _ _ (fun c1 => ?_) (fun c1 => ?_)
      rotate_left 1
      focus
        simp (maxDischargeDepth := 9) only [↓gB, gV, gT, reduceIte, reduceCtorEq, Nat.reduceEqDiff, Nat.reduceAdd, Nat.reduceSub, Nat.reduceLeDiff, Nat.reduceLT, Int.reduceEq, Nat.reduceMul, hr, f8, f3, f6, f7, c1, List.getElem?_map, hx]
        have q1 : Go.IntKind.i64.wrap (↑i + 1) = ↑i + 1 := wrap_id (by omega)
        simp (maxDischargeDepth := 9) only [↓gB, gV, gT, reduceIte, reduceCtorEq, Nat.reduceEqDiff, Nat.reduceAdd, Nat.reduceSub, Nat.reduceLeDiff, Nat.reduceLT, Int.reduceEq, Nat.reduceMul, hr, f8, f3, f6, f7, c1, q1, List.getElem?_map, hx]
        rw [N_lp]
        refine ⟨_, ?_, _, ?_, i + 1, rfl, ?_, ?_, rfl, by simp (maxDischargeDepth := 9) only [↓gB, gV, gT, reduceIte, reduceCtorEq, Nat.reduceEqDiff, Nat.reduceAdd, Nat.reduceSub, Nat.reduceLeDiff, Nat.reduceLT, Int.reduceEq, Nat.reduceMul, hr, f8, f3, f6, f7, c1, q1, List.getElem?_map, hx, nat_succ, and_self]⟩
        · omega
        · exact sub_refl _
        · omega
        · (rw [h, hd]; simp [orOf, *]; done)
      rotate_right 1
      simp (maxDischargeDepth := 9) only [↓gB, gV, gT, reduceIte, reduceCtorEq, Nat.reduceEqDiff, Nat.reduceAdd, Nat.reduceSub, Nat.reduceLeDiff, Nat.reduceLT, Int.reduceEq, Nat.reduceMul, hr, f8, f3, f6, f7, c1, List.getElem?_map, hx]
      refine Kup_val (le_refl _) ?_
      focus (rw [h, hd]; simp [orOf, *]; done)
  · simp (maxDischargeDepth := 9) only [↓gB, gV, gT, reduceIte, reduceCtorEq, Nat.reduceEqDiff, Nat.reduceAdd, Nat.reduceSub, Nat.reduceLeDiff, Nat.reduceLT, Int.reduceEq, Nat.reduceMul, hr, f8, f3, f6, f7]
    refine Kup_val (le_refl _) ?_
    focus (rw [h, List.drop_eq_nil_of_le (by omega)]; rfl; done)
theorem p16 {G0 : GH} {x y : Int} {r : Nat} {e : TypeId} {t : Bool} {fr : Nat × Nat} (hr : G0 r = some (.cells [V x, V y].toArray e fr, t)) : Pure Tryd.prog G0 16 [.slice (some ⟨r, 0, none⟩) 2 2] (V (orOf [x, y])) := orE_gen (l := [x, y]) (by simp) hr
theorem p16b {G0 : GH} {x y z : Int} {r : Nat} {e : TypeId} {t : Bool} {fr : Nat × Nat} (hr : G0 r = some (.cells [V x, V y, V z].toArray e fr, t)) : Pure Tryd.prog G0 16 [.slice (some ⟨r, 0, none⟩) 3 3] (V (orOf [x, y, z])) := orE_gen (l := [x, y, z]) (by simp) hr
theorem p16c {G0 : GH} {x y z u : Int} {r : Nat} {e : TypeId} {t : Bool} {fr : Nat × Nat} (hr : G0 r = some (.cells [V x, V y, V z, V u].toArray e fr, t)) : Pure Tryd.prog G0 16 [.slice (some ⟨r, 0, none⟩) 4 4] (V (orOf [x, y, z, u])) := orE_gen (l := [x, y, z, u]) (by simp) hr
theorem p16d {G0 : GH} {x y z u w : Int} {r : Nat} {e : TypeId} {t : Bool} {fr : Nat × Nat} (hr : G0 r = some (.cells [V x, V y, V z, V u, V w].toArray e fr, t)) : Pure Tryd.prog G0 16 [.slice (some ⟨r, 0, none⟩) 5 5] (V (orOf [x, y, z, u, w])) := orE_gen (l := [x, y, z, u, w]) (by simp) hr
theorem p129 {G0 : GH} {x y : Int} {r : Nat} {e : TypeId} {t : Bool} {fr : Nat × Nat} (hr : G0 r = some (.cells [V x, V y].toArray e fr, t)) : Pure Tryd.prog G0 129 [.slice (some ⟨r, 0, none⟩) 2 2] (V (orOf [x, y])) := orI_gen (l := [x, y]) (by simp) hr
theorem orOf2 (x y : Int) : orOf [x, y] = if x = 0 then y else x := by
  unfold orOf; by_cases h : x = 0
  · subst h; simp [orOf]; omega
  · simp [h]
def tallyCmp (a b h c d k : Int) : Int := if cellCmp a b c d = 0 then cmp3 h k else cellCmp a b c d
end Go.Proofs.YtnlbapfbdabjaaaDoor
namespace Go.Proofs.YtnlbapfbdabjaaaDoor
open Go Go.GL
attribute [local irreducible] Ycall GCalls
set_option maxRecDepth 10000
set_option maxHeartbeats 0
theorem first_gen {G0 : GH} {l : List Int} {r : Nat} {e : TypeId} {t : Bool} {fr : Nat × Nat} (hn : (l.length : Int) ≤ 9223372036854775807) (hr : G0 r = some (.cells (l.map V).toArray e fr, t)) : Pure Tryd.prog G0 81 [.slice (some ⟨r, 0, none⟩) l.length l.length] (V (orOf l)) := by
  intro G hG; replace hr := hG _ _ hr; clear hG G0
  refine enter Tryd.func81 15 #[.tmp 2] rfl Tryd.ntmps81 rfl (by decide +kernel) rfl ?_
  simp (maxDischargeDepth := 9) only [↓gB, gV, gT, reduceIte, reduceCtorEq, Nat.reduceEqDiff, Nat.reduceAdd, Nat.reduceSub, Nat.reduceLeDiff, Nat.reduceLT, Int.reduceEq, Nat.reduceMul, hr]
  focus
    refine Xloop_intro _ _ _ _ _ (fun k f G' => ∃ (i : Nat), k = l.length - i ∧ (i ≤ l.length) ∧ (orOf l = orOf (l.drop i)) ∧ (G = G') ∧ f 7 = V i ∧ f 5 = Go.Value.slice (Option.some { block := r, off := 0 }) l.length l.length ∧ f 6 = Go.Value.int Go.IntKind.i64 ↑l.length) _ ⟨0, rfl, ?_, ?_, rfl, by simp (maxDischargeDepth := 9) only [↓gB, gV, gT, reduceIte, reduceCtorEq, Nat.reduceEqDiff, Nat.reduceAdd, Nat.reduceSub, Nat.reduceLeDiff, Nat.reduceLT, Int.reduceEq, Nat.reduceMul, hr, and_self]⟩ ?_
    · omega
    · rfl
    rintro k f G' ⟨i, rfl, hi, h, rfl, f7, f5, f6⟩
  simp (maxDischargeDepth := 9) only [↓gB, gV, gT, reduceIte, reduceCtorEq, Nat.reduceEqDiff, Nat.reduceAdd, Nat.reduceSub, Nat.reduceLeDiff, Nat.reduceLT, Int.reduceEq, Nat.reduceMul, hr, f7, f5, f6]
  refine Xc_split _ _ _ _ _ (fun hlt => ?_) (fun hlt => ?_)
  · obtain ⟨x, hx⟩ : ∃ x, l[i]? = some x := ⟨l[i]'(by omega), List.getElem?_eq_getElem (by omega)⟩
    have hd := drop_at hx
    focus
      simp (maxDischargeDepth := 9) only [↓gB, gV, gT, reduceIte, reduceCtorEq, Nat.reduceEqDiff, Nat.reduceAdd, Nat.reduceSub, Nat.reduceLeDiff, Nat.reduceLT, Int.reduceEq, Nat.reduceMul, hr, f7, f5, f6, List.getElem?_map, hx]
      refine vguard_intro (by omega) ?_
      refine Xc_split _ _ _ _ _ (fun c1 => ?_) (fun c1 => ?_)
      rotate_left 1
      focus
        simp (maxDischargeDepth := 9) only [↓gB, gV, gT, reduceIte, reduceCtorEq, Nat.reduceEqDiff, Nat.reduceAdd, Nat.reduceSub, Nat.reduceLeDiff, Nat.reduceLT, Int.reduceEq, Nat.reduceMul, hr, f7, f5, f6, c1, List.getElem?_map, hx]
        have q1 : Go.IntKind.i64.wrap (↑i + 1) = ↑i + 1 := wrap_id (by omega)
        simp (maxDischargeDepth := 9) only [↓gB, gV, gT, reduceIte, reduceCtorEq, Nat.reduceEqDiff, Nat.reduceAdd, Nat.reduceSub, Nat.reduceLeDiff, Nat.reduceLT, Int.reduceEq, Nat.reduceMul, hr, f7, f5, f6, c1, q1, List.getElem?_map, hx]
        rw [N_lp]
        refine ⟨_, ?_, _, ?_, i + 1, rfl, ?_, ?_, rfl, by simp (maxDischargeDepth := 9) only [↓gB, gV, gT, reduceIte, reduceCtorEq, Nat.reduceEqDiff, Nat.reduceAdd, Nat.reduceSub, Nat.reduceLeDiff, Nat.reduceLT, Int.reduceEq, Nat.reduceMul, hr, f7, f5, f6, c1, q1, List.getElem?_map, hx, nat_succ, and_self]⟩
        · omega
        · exact sub_refl _
        · omega
        · (rw [h, hd]; simp [orOf, *]; done)
      rotate_right 1
      simp (maxDischargeDepth := 9) only [↓gB, gV, gT, reduceIte, reduceCtorEq, Nat.reduceEqDiff, Nat.reduceAdd, Nat.reduceSub, Nat.reduceLeDiff, Nat.reduceLT, Int.reduceEq, Nat.reduceMul, hr, f7, f5, f6, c1, List.getElem?_map, hx]
      refine Kup_val (le_refl _) ?_
      focus (rw [h, hd]; simp [orOf, *]; done)
  · simp (maxDischargeDepth := 9) only [↓gB, gV, gT, reduceIte, reduceCtorEq, Nat.reduceEqDiff, Nat.reduceAdd, Nat.reduceSub, Nat.reduceLeDiff, Nat.reduceLT, Int.reduceEq, Nat.reduceMul, hr, f7, f5, f6]
    refine Kup_val (le_refl _) ?_
    focus (rw [h, List.drop_eq_nil_of_le (by omega)]; rfl; done)
theorem p81 {G0 : GH} {x y : Int} {r : Nat} {e : TypeId} {t : Bool} {fr : Nat × Nat} (hr : G0 r = some (.cells [V x, V y].toArray e fr, t)) : Pure Tryd.prog G0 81 [.slice (some ⟨r, 0, none⟩) 2 2] (V (orOf [x, y])) := first_gen (l := [x, y]) (by simp) hr
theorem p81b {G0 : GH} {x y z : Int} {r : Nat} {e : TypeId} {t : Bool} {fr : Nat × Nat} (hr : G0 r = some (.cells [V x, V y, V z].toArray e fr, t)) : Pure Tryd.prog G0 81 [.slice (some ⟨r, 0, none⟩) 3 3] (V (orOf [x, y, z])) := first_gen (l := [x, y, z]) (by simp) hr
def prevOf {α : Type} (l : List α) (i : Nat) : Option α := if i = 0 then none else l[i-1]?
theorem prevOf_s {α : Type} (l : List α) (i : Nat) : prevOf l (i + 1) = l[i]? := by simp [prevOf]
theorem prevOf_0 {α : Type} (l : List α) : prevOf l 0 = none := rfl
theorem prevOf_z {α : Type} {l : List α} {i : Nat} (h : ¬ (0:Int) < i) : prevOf l i = none := by simp [prevOf]; omega
theorem prevOf_p {α : Type} {l : List α} {i : Nat} (h : (0:Int) < i) : prevOf l i = l[i-1]? := by simp [prevOf]; omega
def kb (b : UInt8) : Bool := (decide (97 ≤ b.toNat) && decide (b.toNat ≤ 122)) || (decide (48 ≤ b.toNat) && decide (b.toNat ≤ 57)) || decide (b.toNat = 45) || decide (b.toNat = 95)
def isKey (s : ByteArray) : Bool := match s.data.toList with
  | [] => false
  | c :: l => decide (s.size ≤ 40) && decide (97 ≤ c.toNat) && decide (c.toNat ≤ 122) && (c :: l).all kb
theorem getD_at {l : List UInt8} {i : Nat} (h : i < l.length) : ∃ b, l[i]? = some b ∧ l.getD i 0 = b := ⟨l[i], List.getElem?_eq_getElem h, by simp [List.getD_eq_getElem?_getD, List.getElem?_eq_getElem h]⟩
theorem p78 {G0 : GH} {s : ByteArray}  : Pure Tryd.prog G0 78 [.string s] (.bool (isKey s)) := by
  intro G hG
  clear hG G0
  refine enter Tryd.func78 54 #[.tmp 2] rfl Tryd.ntmps78 rfl (by decide +kernel) rfl ?_
  by_cases he : s = ⟨#[]⟩
  · subst he
    simp (maxDischargeDepth := 9) only [↓gB, gV, gT, reduceIte, reduceCtorEq, Nat.reduceEqDiff, Nat.reduceAdd, Nat.reduceSub, Nat.reduceLeDiff, Nat.reduceLT, Int.reduceEq, Nat.reduceMul]
    exact Kup_val (le_refl _) rfl
  · have hs : 0 < s.size := by
      rcases Nat.eq_zero_or_pos s.size with h | h
      · exact absurd ((empty_iff s).2 h) he
      · exact h
    obtain ⟨c, l, hl⟩ := bytes_cons s hs
    have h0 : s.data.toList.getD (Int.toNat 0) 0 = c := by rw [hl]; rfl
    have hk : isKey s = (decide (s.size ≤ 40) && decide (97 ≤ c.toNat) && decide (c.toNat ≤ 122) && s.data.toList.all kb) := by unfold isKey; rw [hl]
    by_cases c1 : (40 : Int) < s.size
    · simp (maxDischargeDepth := 9) only [↓gB, gV, gT, reduceIte, reduceCtorEq, Nat.reduceEqDiff, Nat.reduceAdd, Nat.reduceSub, Nat.reduceLeDiff, Nat.reduceLT, Int.reduceEq, Nat.reduceMul, hk, c1, he, h0]
      exact Kup_val (le_refl _) (by simp [*, he, h0]; omega)
    · focus
        simp (maxDischargeDepth := 9) only [↓gB, gV, gT, reduceIte, reduceCtorEq, Nat.reduceEqDiff, Nat.reduceAdd, Nat.reduceSub, Nat.reduceLeDiff, Nat.reduceLT, Int.reduceEq, Nat.reduceMul, hk, c1, he, h0]
        refine vguard_intro (by omega) ?_
        by_cases c2 : (↑c.toNat : Int) < 97
        rotate_left 1
        focus
          simp (maxDischargeDepth := 9) only [↓gB, gV, gT, reduceIte, reduceCtorEq, Nat.reduceEqDiff, Nat.reduceAdd, Nat.reduceSub, Nat.reduceLeDiff, Nat.reduceLT, Int.reduceEq, Nat.reduceMul, hk, c1, c2, he, h0]
          refine vguard_intro (by omega) ?_
          refine Xc_split _ _ _ _ _ (fun c3 => ?_) (fun c3 => ?_)
          rotate_left 1
          focus
            simp (maxDischargeDepth := 9) only [↓gB, gV, gT, reduceIte, reduceCtorEq, Nat.reduceEqDiff, Nat.reduceAdd, Nat.reduceSub, Nat.reduceLeDiff, Nat.reduceLT, Int.reduceEq, Nat.reduceMul, hk, c1, c2, c3, he, h0]
          rotate_right 1
          simp (maxDischargeDepth := 9) only [↓gB, gV, gT, reduceIte, reduceCtorEq, Nat.reduceEqDiff, Nat.reduceAdd, Nat.reduceSub, Nat.reduceLeDiff, Nat.reduceLT, Int.reduceEq, Nat.reduceMul, hk, c1, c2, c3, he, h0]
          exact Kup_val (le_refl _) (by simp [*, he, h0]; omega)
        rotate_right 1
        simp (maxDischargeDepth := 9) only [↓gB, gV, gT, reduceIte, reduceCtorEq, Nat.reduceEqDiff, Nat.reduceAdd, Nat.reduceSub, Nat.reduceLeDiff, Nat.reduceLT, Int.reduceEq, Nat.reduceMul, hk, c1, c2, he, h0]
        exact Kup_val (le_refl _) (by simp [*, he, h0]; omega)
      have hsz : (s.size : Int) ≤ 40 := by omega
      focus
        refine Xloop_intro _ _ _ _ _ (fun k f G' => ∃ (i : Nat), k = s.size - i ∧ (i ≤ s.size) ∧ ((s.data.toList.take i).all kb = true) ∧ (G = G') ∧ f 24 = V i ∧ f 0 = Go.Value.string s ∧ f 23 = Go.Value.int Go.IntKind.i64 ↑s.size) _ ⟨0, rfl, ?_, ?_, rfl, by simp (maxDischargeDepth := 9) only [↓gB, gV, gT, reduceIte, reduceCtorEq, Nat.reduceEqDiff, Nat.reduceAdd, Nat.reduceSub, Nat.reduceLeDiff, Nat.reduceLT, Int.reduceEq, Nat.reduceMul, hk, c1, c2, c3, and_self]⟩ ?_
        · omega
        · rfl
        rintro k f G' ⟨i, rfl, hi, h, rfl, f24, f0, f23⟩
      rcases Nat.lt_or_ge i s.size with hlt | hge
      · obtain ⟨b, hb, hd⟩ := getD_at (l := s.data.toList) (i := i) (by rw [← size_len]; exact hlt)
        have hall : kb b = false → s.data.toList.all kb = false := fun q => by
          rw [List.all_eq_false]; exact ⟨b, List.mem_of_getElem? hb, by simp [q]⟩
        have hnext : kb b = true → (s.data.toList.take (i + 1)).all kb = true := fun q => by
          rw [take_at hb, List.all_append, h]; simp [q]
        focus
          simp (maxDischargeDepth := 9) only [↓gB, gV, gT, reduceIte, reduceCtorEq, Nat.reduceEqDiff, Nat.reduceAdd, Nat.reduceSub, Nat.reduceLeDiff, Nat.reduceLT, Int.reduceEq, Nat.reduceMul, hk, c1, c2, c3, h, f24, f0, f23, hd]
          refine Xc_pos _ _ _ _ _ (by omega) ?_
          simp (maxDischargeDepth := 9) only [↓gB, gV, gT, reduceIte, reduceCtorEq, Nat.reduceEqDiff, Nat.reduceAdd, Nat.reduceSub, Nat.reduceLeDiff, Nat.reduceLT, Int.reduceEq, Nat.reduceMul, hk, c1, c2, c3, h, f24, f0, f23, hd]
          refine vguard_intro (by omega) ?_
          by_cases c4 : (97 : Int) ≤ ↑b.toNat
          rotate_left 1
          focus
            simp (maxDischargeDepth := 9) only [↓gB, gV, gT, reduceIte, reduceCtorEq, Nat.reduceEqDiff, Nat.reduceAdd, Nat.reduceSub, Nat.reduceLeDiff, Nat.reduceLT, Int.reduceEq, Nat.reduceMul, hk, c1, c2, c3, h, f24, f0, f23, c4, hd]
            by_cases c5 : (48 : Int) ≤ ↑b.toNat
            rotate_left 1
            focus
              simp (maxDischargeDepth := 9) only [↓gB, gV, gT, reduceIte, reduceCtorEq, Nat.reduceEqDiff, Nat.reduceAdd, Nat.reduceSub, Nat.reduceLeDiff, Nat.reduceLT, Int.reduceEq, Nat.reduceMul, hk, c1, c2, c3, h, f24, f0, f23, c4, c5, hd]
              by_cases c6 : (↑b.toNat : Int) = 45
              rotate_left 1
              focus
                simp (maxDischargeDepth := 9) only [↓gB, gV, gT, reduceIte, reduceCtorEq, Nat.reduceEqDiff, Nat.reduceAdd, Nat.reduceSub, Nat.reduceLeDiff, Nat.reduceLT, Int.reduceEq, Nat.reduceMul, hk, c1, c2, c3, h, f24, f0, f23, c4, c5, c6, hd]
                by_cases c7 : (↑b.toNat : Int) = 95
                rotate_left 1
                focus
                  simp (maxDischargeDepth := 9) only [↓gB, gV, gT, reduceIte, reduceCtorEq, Nat.reduceEqDiff, Nat.reduceAdd, Nat.reduceSub, Nat.reduceLeDiff, Nat.reduceLT, Int.reduceEq, Nat.reduceMul, hk, c1, c2, c3, h, f24, f0, f23, c4, c5, c6, c7, hd]
                  refine Kup_val (le_refl _) ?_
                  focus (rw [hall (by simp [kb]; omega)]; simp; done)
                rotate_right 1
                simp (maxDischargeDepth := 9) only [↓gB, gV, gT, reduceIte, reduceCtorEq, Nat.reduceEqDiff, Nat.reduceAdd, Nat.reduceSub, Nat.reduceLeDiff, Nat.reduceLT, Int.reduceEq, Nat.reduceMul, hk, c1, c2, c3, h, f24, f0, f23, c4, c5, c6, c7, hd]
                have q1 : Go.IntKind.i64.wrap (↑i + 1) = ↑i + 1 := wrap_id (by omega)
                simp (maxDischargeDepth := 9) only [↓gB, gV, gT, reduceIte, reduceCtorEq, Nat.reduceEqDiff, Nat.reduceAdd, Nat.reduceSub, Nat.reduceLeDiff, Nat.reduceLT, Int.reduceEq, Nat.reduceMul, hk, c1, c2, c3, h, f24, f0, f23, c4, c5, c6, c7, q1, hd]
                rw [N_lp]
                refine ⟨_, ?_, _, ?_, i + 1, rfl, ?_, ?_, rfl, by simp (maxDischargeDepth := 9) only [↓gB, gV, gT, reduceIte, reduceCtorEq, Nat.reduceEqDiff, Nat.reduceAdd, Nat.reduceSub, Nat.reduceLeDiff, Nat.reduceLT, Int.reduceEq, Nat.reduceMul, hk, c1, c2, c3, h, f24, f0, f23, c4, c5, c6, c7, q1, hd, nat_succ, and_self]⟩
                · omega
                · omega
                · assumption
                · omega
              rotate_right 1
              simp (maxDischargeDepth := 9) only [↓gB, gV, gT, reduceIte, reduceCtorEq, Nat.reduceEqDiff, Nat.reduceAdd, Nat.reduceSub, Nat.reduceLeDiff, Nat.reduceLT, Int.reduceEq, Nat.reduceMul, hk, c1, c2, c3, h, f24, f0, f23, c4, c5, c6, hd]
              have q1 : Go.IntKind.i64.wrap (↑i + 1) = ↑i + 1 := wrap_id (by omega)
              simp (maxDischargeDepth := 9) only [↓gB, gV, gT, reduceIte, reduceCtorEq, Nat.reduceEqDiff, Nat.reduceAdd, Nat.reduceSub, Nat.reduceLeDiff, Nat.reduceLT, Int.reduceEq, Nat.reduceMul, hk, c1, c2, c3, h, f24, f0, f23, c4, c5, c6, q1, hd]
              rw [N_lp]
              refine ⟨_, ?_, _, ?_, i + 1, rfl, ?_, ?_, rfl, by simp (maxDischargeDepth := 9) only [↓gB, gV, gT, reduceIte, reduceCtorEq, Nat.reduceEqDiff, Nat.reduceAdd, Nat.reduceSub, Nat.reduceLeDiff, Nat.reduceLT, Int.reduceEq, Nat.reduceMul, hk, c1, c2, c3, h, f24, f0, f23, c4, c5, c6, q1, hd, nat_succ, and_self]⟩
              · omega
              · exact sub_refl _
              · assumption
              · (exact hnext (by simp [kb]; omega); done)
            rotate_right 1
            simp (maxDischargeDepth := 9) only [↓gB, gV, gT, reduceIte, reduceCtorEq, Nat.reduceEqDiff, Nat.reduceAdd, Nat.reduceSub, Nat.reduceLeDiff, Nat.reduceLT, Int.reduceEq, Nat.reduceMul, hk, c1, c2, c3, h, f24, f0, f23, c4, c5, hd]
            by_cases c6 : (↑b.toNat : Int) ≤ 57
            rotate_left 1
            focus
              simp (maxDischargeDepth := 9) only [↓gB, gV, gT, reduceIte, reduceCtorEq, Nat.reduceEqDiff, Nat.reduceAdd, Nat.reduceSub, Nat.reduceLeDiff, Nat.reduceLT, Int.reduceEq, Nat.reduceMul, hk, c1, c2, c3, h, f24, f0, f23, c4, c5, c6, hd]
              by_cases c7 : (↑b.toNat : Int) = 45
              rotate_left 1
              focus
                simp (maxDischargeDepth := 9) only [↓gB, gV, gT, reduceIte, reduceCtorEq, Nat.reduceEqDiff, Nat.reduceAdd, Nat.reduceSub, Nat.reduceLeDiff, Nat.reduceLT, Int.reduceEq, Nat.reduceMul, hk, c1, c2, c3, h, f24, f0, f23, c4, c5, c6, c7, hd]
                by_cases c8 : (↑b.toNat : Int) = 95
                rotate_left 1
                focus
                  simp (maxDischargeDepth := 9) only [↓gB, gV, gT, reduceIte, reduceCtorEq, Nat.reduceEqDiff, Nat.reduceAdd, Nat.reduceSub, Nat.reduceLeDiff, Nat.reduceLT, Int.reduceEq, Nat.reduceMul, hk, c1, c2, c3, h, f24, f0, f23, c4, c5, c6, c7, c8, hd]
                  refine Kup_val (le_refl _) ?_
                  focus (rw [hall (by simp [kb]; omega)]; simp; done)
                rotate_right 1
                simp (maxDischargeDepth := 9) only [↓gB, gV, gT, reduceIte, reduceCtorEq, Nat.reduceEqDiff, Nat.reduceAdd, Nat.reduceSub, Nat.reduceLeDiff, Nat.reduceLT, Int.reduceEq, Nat.reduceMul, hk, c1, c2, c3, h, f24, f0, f23, c4, c5, c6, c7, c8, hd]
                have q1 : Go.IntKind.i64.wrap (↑i + 1) = ↑i + 1 := wrap_id (by omega)
                simp (maxDischargeDepth := 9) only [↓gB, gV, gT, reduceIte, reduceCtorEq, Nat.reduceEqDiff, Nat.reduceAdd, Nat.reduceSub, Nat.reduceLeDiff, Nat.reduceLT, Int.reduceEq, Nat.reduceMul, hk, c1, c2, c3, h, f24, f0, f23, c4, c5, c6, c7, c8, q1, hd]
                rw [N_lp]
                refine ⟨_, ?_, _, ?_, i + 1, rfl, ?_, ?_, rfl, by simp (maxDischargeDepth := 9) only [↓gB, gV, gT, reduceIte, reduceCtorEq, Nat.reduceEqDiff, Nat.reduceAdd, Nat.reduceSub, Nat.reduceLeDiff, Nat.reduceLT, Int.reduceEq, Nat.reduceMul, hk, c1, c2, c3, h, f24, f0, f23, c4, c5, c6, c7, c8, q1, hd, nat_succ, and_self]⟩
                · omega
                · exact sub_refl _
                · assumption
                · (exact hnext (by simp [kb]; omega); done)
              rotate_right 1
              simp (maxDischargeDepth := 9) only [↓gB, gV, gT, reduceIte, reduceCtorEq, Nat.reduceEqDiff, Nat.reduceAdd, Nat.reduceSub, Nat.reduceLeDiff, Nat.reduceLT, Int.reduceEq, Nat.reduceMul, hk, c1, c2, c3, h, f24, f0, f23, c4, c5, c6, c7, hd]
              have q1 : Go.IntKind.i64.wrap (↑i + 1) = ↑i + 1 := wrap_id (by omega)
              simp (maxDischargeDepth := 9) only [↓gB, gV, gT, reduceIte, reduceCtorEq, Nat.reduceEqDiff, Nat.reduceAdd, Nat.reduceSub, Nat.reduceLeDiff, Nat.reduceLT, Int.reduceEq, Nat.reduceMul, hk, c1, c2, c3, h, f24, f0, f23, c4, c5, c6, c7, q1, hd]
              rw [N_lp]
              refine ⟨_, ?_, _, ?_, i + 1, rfl, ?_, ?_, rfl, by simp (maxDischargeDepth := 9) only [↓gB, gV, gT, reduceIte, reduceCtorEq, Nat.reduceEqDiff, Nat.reduceAdd, Nat.reduceSub, Nat.reduceLeDiff, Nat.reduceLT, Int.reduceEq, Nat.reduceMul, hk, c1, c2, c3, h, f24, f0, f23, c4, c5, c6, c7, q1, hd, nat_succ, and_self]⟩
              · omega
              · omega
              · assumption
              · omega
            rotate_right 1
            simp (maxDischargeDepth := 9) only [↓gB, gV, gT, reduceIte, reduceCtorEq, Nat.reduceEqDiff, Nat.reduceAdd, Nat.reduceSub, Nat.reduceLeDiff, Nat.reduceLT, Int.reduceEq, Nat.reduceMul, hk, c1, c2, c3, h, f24, f0, f23, c4, c5, c6, hd]
            have q1 : Go.IntKind.i64.wrap (↑i + 1) = ↑i + 1 := wrap_id (by omega)
            simp (maxDischargeDepth := 9) only [↓gB, gV, gT, reduceIte, reduceCtorEq, Nat.reduceEqDiff, Nat.reduceAdd, Nat.reduceSub, Nat.reduceLeDiff, Nat.reduceLT, Int.reduceEq, Nat.reduceMul, hk, c1, c2, c3, h, f24, f0, f23, c4, c5, c6, q1, hd]
            rw [N_lp]
            refine ⟨_, ?_, _, ?_, i + 1, rfl, ?_, ?_, rfl, by simp (maxDischargeDepth := 9) only [↓gB, gV, gT, reduceIte, reduceCtorEq, Nat.reduceEqDiff, Nat.reduceAdd, Nat.reduceSub, Nat.reduceLeDiff, Nat.reduceLT, Int.reduceEq, Nat.reduceMul, hk, c1, c2, c3, h, f24, f0, f23, c4, c5, c6, q1, hd, nat_succ, and_self]⟩
            · omega
            · exact sub_refl _
            · assumption
            · (exact hnext (by simp [kb]; omega); done)
          rotate_right 1
          simp (maxDischargeDepth := 9) only [↓gB, gV, gT, reduceIte, reduceCtorEq, Nat.reduceEqDiff, Nat.reduceAdd, Nat.reduceSub, Nat.reduceLeDiff, Nat.reduceLT, Int.reduceEq, Nat.reduceMul, hk, c1, c2, c3, h, f24, f0, f23, c4, hd]
          by_cases c5 : (↑b.toNat : Int) ≤ 122
          rotate_left 1
          focus
            simp (maxDischargeDepth := 9) only [↓gB, gV, gT, reduceIte, reduceCtorEq, Nat.reduceEqDiff, Nat.reduceAdd, Nat.reduceSub, Nat.reduceLeDiff, Nat.reduceLT, Int.reduceEq, Nat.reduceMul, hk, c1, c2, c3, h, f24, f0, f23, c4, c5, hd]
            by_cases c6 : (48 : Int) ≤ ↑b.toNat
            rotate_left 1
            focus
              simp (maxDischargeDepth := 9) only [↓gB, gV, gT, reduceIte, reduceCtorEq, Nat.reduceEqDiff, Nat.reduceAdd, Nat.reduceSub, Nat.reduceLeDiff, Nat.reduceLT, Int.reduceEq, Nat.reduceMul, hk, c1, c2, c3, h, f24, f0, f23, c4, c5, c6, hd]
              by_cases c7 : (↑b.toNat : Int) = 45
              rotate_left 1
              focus
                simp (maxDischargeDepth := 9) only [↓gB, gV, gT, reduceIte, reduceCtorEq, Nat.reduceEqDiff, Nat.reduceAdd, Nat.reduceSub, Nat.reduceLeDiff, Nat.reduceLT, Int.reduceEq, Nat.reduceMul, hk, c1, c2, c3, h, f24, f0, f23, c4, c5, c6, c7, hd]
                by_cases c8 : (↑b.toNat : Int) = 95
                rotate_left 1
                focus
                  simp (maxDischargeDepth := 9) only [↓gB, gV, gT, reduceIte, reduceCtorEq, Nat.reduceEqDiff, Nat.reduceAdd, Nat.reduceSub, Nat.reduceLeDiff, Nat.reduceLT, Int.reduceEq, Nat.reduceMul, hk, c1, c2, c3, h, f24, f0, f23, c4, c5, c6, c7, c8, hd]
                  exact Kup_val (le_refl _) (by simp [*, hd]; omega)
                rotate_right 1
                simp (maxDischargeDepth := 9) only [↓gB, gV, gT, reduceIte, reduceCtorEq, Nat.reduceEqDiff, Nat.reduceAdd, Nat.reduceSub, Nat.reduceLeDiff, Nat.reduceLT, Int.reduceEq, Nat.reduceMul, hk, c1, c2, c3, h, f24, f0, f23, c4, c5, c6, c7, c8, hd]
                have q1 : Go.IntKind.i64.wrap (↑i + 1) = ↑i + 1 := wrap_id (by omega)
                simp (maxDischargeDepth := 9) only [↓gB, gV, gT, reduceIte, reduceCtorEq, Nat.reduceEqDiff, Nat.reduceAdd, Nat.reduceSub, Nat.reduceLeDiff, Nat.reduceLT, Int.reduceEq, Nat.reduceMul, hk, c1, c2, c3, h, f24, f0, f23, c4, c5, c6, c7, c8, q1, hd]
                rw [N_lp]
                refine ⟨_, ?_, _, ?_, i + 1, rfl, ?_, ?_, rfl, by simp (maxDischargeDepth := 9) only [↓gB, gV, gT, reduceIte, reduceCtorEq, Nat.reduceEqDiff, Nat.reduceAdd, Nat.reduceSub, Nat.reduceLeDiff, Nat.reduceLT, Int.reduceEq, Nat.reduceMul, hk, c1, c2, c3, h, f24, f0, f23, c4, c5, c6, c7, c8, q1, hd, nat_succ, and_self]⟩
                · omega
                · omega
                · assumption
                · omega
              rotate_right 1
              simp (maxDischargeDepth := 9) only [↓gB, gV, gT, reduceIte, reduceCtorEq, Nat.reduceEqDiff, Nat.reduceAdd, Nat.reduceSub, Nat.reduceLeDiff, Nat.reduceLT, Int.reduceEq, Nat.reduceMul, hk, c1, c2, c3, h, f24, f0, f23, c4, c5, c6, c7, hd]
              have q1 : Go.IntKind.i64.wrap (↑i + 1) = ↑i + 1 := wrap_id (by omega)
              simp (maxDischargeDepth := 9) only [↓gB, gV, gT, reduceIte, reduceCtorEq, Nat.reduceEqDiff, Nat.reduceAdd, Nat.reduceSub, Nat.reduceLeDiff, Nat.reduceLT, Int.reduceEq, Nat.reduceMul, hk, c1, c2, c3, h, f24, f0, f23, c4, c5, c6, c7, q1, hd]
              rw [N_lp]
              refine ⟨_, ?_, _, ?_, i + 1, rfl, ?_, ?_, rfl, by simp (maxDischargeDepth := 9) only [↓gB, gV, gT, reduceIte, reduceCtorEq, Nat.reduceEqDiff, Nat.reduceAdd, Nat.reduceSub, Nat.reduceLeDiff, Nat.reduceLT, Int.reduceEq, Nat.reduceMul, hk, c1, c2, c3, h, f24, f0, f23, c4, c5, c6, c7, q1, hd, nat_succ, and_self]⟩
              · omega
              · omega
              · assumption
              · omega
            rotate_right 1
            simp (maxDischargeDepth := 9) only [↓gB, gV, gT, reduceIte, reduceCtorEq, Nat.reduceEqDiff, Nat.reduceAdd, Nat.reduceSub, Nat.reduceLeDiff, Nat.reduceLT, Int.reduceEq, Nat.reduceMul, hk, c1, c2, c3, h, f24, f0, f23, c4, c5, c6, hd]
            by_cases c7 : (↑b.toNat : Int) ≤ 57
            rotate_left 1
            focus
              simp (maxDischargeDepth := 9) only [↓gB, gV, gT, reduceIte, reduceCtorEq, Nat.reduceEqDiff, Nat.reduceAdd, Nat.reduceSub, Nat.reduceLeDiff, Nat.reduceLT, Int.reduceEq, Nat.reduceMul, hk, c1, c2, c3, h, f24, f0, f23, c4, c5, c6, c7, hd]
              by_cases c8 : (↑b.toNat : Int) = 45
              rotate_left 1
              focus
                simp (maxDischargeDepth := 9) only [↓gB, gV, gT, reduceIte, reduceCtorEq, Nat.reduceEqDiff, Nat.reduceAdd, Nat.reduceSub, Nat.reduceLeDiff, Nat.reduceLT, Int.reduceEq, Nat.reduceMul, hk, c1, c2, c3, h, f24, f0, f23, c4, c5, c6, c7, c8, hd]
                by_cases c9 : (↑b.toNat : Int) = 95
                rotate_left 1
                focus
                  simp (maxDischargeDepth := 9) only [↓gB, gV, gT, reduceIte, reduceCtorEq, Nat.reduceEqDiff, Nat.reduceAdd, Nat.reduceSub, Nat.reduceLeDiff, Nat.reduceLT, Int.reduceEq, Nat.reduceMul, hk, c1, c2, c3, h, f24, f0, f23, c4, c5, c6, c7, c8, c9, hd]
                  refine Kup_val (le_refl _) ?_
                  focus (rw [hall (by simp [kb]; omega)]; simp; done)
                rotate_right 1
                simp (maxDischargeDepth := 9) only [↓gB, gV, gT, reduceIte, reduceCtorEq, Nat.reduceEqDiff, Nat.reduceAdd, Nat.reduceSub, Nat.reduceLeDiff, Nat.reduceLT, Int.reduceEq, Nat.reduceMul, hk, c1, c2, c3, h, f24, f0, f23, c4, c5, c6, c7, c8, c9, hd]
                have q1 : Go.IntKind.i64.wrap (↑i + 1) = ↑i + 1 := wrap_id (by omega)
                simp (maxDischargeDepth := 9) only [↓gB, gV, gT, reduceIte, reduceCtorEq, Nat.reduceEqDiff, Nat.reduceAdd, Nat.reduceSub, Nat.reduceLeDiff, Nat.reduceLT, Int.reduceEq, Nat.reduceMul, hk, c1, c2, c3, h, f24, f0, f23, c4, c5, c6, c7, c8, c9, q1, hd]
                rw [N_lp]
                refine ⟨_, ?_, _, ?_, i + 1, rfl, ?_, ?_, rfl, by simp (maxDischargeDepth := 9) only [↓gB, gV, gT, reduceIte, reduceCtorEq, Nat.reduceEqDiff, Nat.reduceAdd, Nat.reduceSub, Nat.reduceLeDiff, Nat.reduceLT, Int.reduceEq, Nat.reduceMul, hk, c1, c2, c3, h, f24, f0, f23, c4, c5, c6, c7, c8, c9, q1, hd, nat_succ, and_self]⟩
                · omega
                · omega
                · assumption
                · omega
              rotate_right 1
              simp (maxDischargeDepth := 9) only [↓gB, gV, gT, reduceIte, reduceCtorEq, Nat.reduceEqDiff, Nat.reduceAdd, Nat.reduceSub, Nat.reduceLeDiff, Nat.reduceLT, Int.reduceEq, Nat.reduceMul, hk, c1, c2, c3, h, f24, f0, f23, c4, c5, c6, c7, c8, hd]
              have q1 : Go.IntKind.i64.wrap (↑i + 1) = ↑i + 1 := wrap_id (by omega)
              simp (maxDischargeDepth := 9) only [↓gB, gV, gT, reduceIte, reduceCtorEq, Nat.reduceEqDiff, Nat.reduceAdd, Nat.reduceSub, Nat.reduceLeDiff, Nat.reduceLT, Int.reduceEq, Nat.reduceMul, hk, c1, c2, c3, h, f24, f0, f23, c4, c5, c6, c7, c8, q1, hd]
              rw [N_lp]
              refine ⟨_, ?_, _, ?_, i + 1, rfl, ?_, ?_, rfl, by simp (maxDischargeDepth := 9) only [↓gB, gV, gT, reduceIte, reduceCtorEq, Nat.reduceEqDiff, Nat.reduceAdd, Nat.reduceSub, Nat.reduceLeDiff, Nat.reduceLT, Int.reduceEq, Nat.reduceMul, hk, c1, c2, c3, h, f24, f0, f23, c4, c5, c6, c7, c8, q1, hd, nat_succ, and_self]⟩
              · omega
              · omega
              · assumption
              · omega
            rotate_right 1
            simp (maxDischargeDepth := 9) only [↓gB, gV, gT, reduceIte, reduceCtorEq, Nat.reduceEqDiff, Nat.reduceAdd, Nat.reduceSub, Nat.reduceLeDiff, Nat.reduceLT, Int.reduceEq, Nat.reduceMul, hk, c1, c2, c3, h, f24, f0, f23, c4, c5, c6, c7, hd]
            have q1 : Go.IntKind.i64.wrap (↑i + 1) = ↑i + 1 := wrap_id (by omega)
            simp (maxDischargeDepth := 9) only [↓gB, gV, gT, reduceIte, reduceCtorEq, Nat.reduceEqDiff, Nat.reduceAdd, Nat.reduceSub, Nat.reduceLeDiff, Nat.reduceLT, Int.reduceEq, Nat.reduceMul, hk, c1, c2, c3, h, f24, f0, f23, c4, c5, c6, c7, q1, hd]
            rw [N_lp]
            refine ⟨_, ?_, _, ?_, i + 1, rfl, ?_, ?_, rfl, by simp (maxDischargeDepth := 9) only [↓gB, gV, gT, reduceIte, reduceCtorEq, Nat.reduceEqDiff, Nat.reduceAdd, Nat.reduceSub, Nat.reduceLeDiff, Nat.reduceLT, Int.reduceEq, Nat.reduceMul, hk, c1, c2, c3, h, f24, f0, f23, c4, c5, c6, c7, q1, hd, nat_succ, and_self]⟩
            · omega
            · omega
            · assumption
            · omega
          rotate_right 1
          simp (maxDischargeDepth := 9) only [↓gB, gV, gT, reduceIte, reduceCtorEq, Nat.reduceEqDiff, Nat.reduceAdd, Nat.reduceSub, Nat.reduceLeDiff, Nat.reduceLT, Int.reduceEq, Nat.reduceMul, hk, c1, c2, c3, h, f24, f0, f23, c4, c5, hd]
          have q1 : Go.IntKind.i64.wrap (↑i + 1) = ↑i + 1 := wrap_id (by omega)
          simp (maxDischargeDepth := 9) only [↓gB, gV, gT, reduceIte, reduceCtorEq, Nat.reduceEqDiff, Nat.reduceAdd, Nat.reduceSub, Nat.reduceLeDiff, Nat.reduceLT, Int.reduceEq, Nat.reduceMul, hk, c1, c2, c3, h, f24, f0, f23, c4, c5, q1, hd]
          rw [N_lp]
          refine ⟨_, ?_, _, ?_, i + 1, rfl, ?_, ?_, rfl, by simp (maxDischargeDepth := 9) only [↓gB, gV, gT, reduceIte, reduceCtorEq, Nat.reduceEqDiff, Nat.reduceAdd, Nat.reduceSub, Nat.reduceLeDiff, Nat.reduceLT, Int.reduceEq, Nat.reduceMul, hk, c1, c2, c3, h, f24, f0, f23, c4, c5, q1, hd, nat_succ, and_self]⟩
          · omega
          · exact sub_refl _
          · assumption
          · (exact hnext (by simp [kb]; omega); done)
      · have hf : s.data.toList.all kb = true := by rw [List.take_of_length_le (by rw [← size_len]; omega)] at h; exact h
        simp (maxDischargeDepth := 9) only [↓gB, gV, gT, reduceIte, reduceCtorEq, Nat.reduceEqDiff, Nat.reduceAdd, Nat.reduceSub, Nat.reduceLeDiff, Nat.reduceLT, Int.reduceEq, Nat.reduceMul, hk, c1, c2, c3, h, f24, f0, f23, hf]
        refine Xc_neg _ _ _ _ _ (by omega) ?_
        simp (maxDischargeDepth := 9) only [↓gB, gV, gT, reduceIte, reduceCtorEq, Nat.reduceEqDiff, Nat.reduceAdd, Nat.reduceSub, Nat.reduceLeDiff, Nat.reduceLT, Int.reduceEq, Nat.reduceMul, hk, c1, c2, c3, h, f24, f0, f23, hf]
        exact Kup_val (le_refl _) (by simp [*]; omega)
end Go.Proofs.YtnlbapfbdabjaaaDoor
namespace Go.Proofs.YtnlbapfbdabjaaaDoor
open Go Go.GL
attribute [local irreducible] Ycall GCalls
set_option maxRecDepth 10000
set_option maxHeartbeats 0
theorem h256 : (Tryd.prog.info? (Tryd.layTrim_ren.t 116)).map (fun i => (i.zero, i.size)) = some (some (.agg (Array.replicate 256 (.bool false))), 256) := by kernel_rfl
def keySet : ByteArray := ⟨#[97, 98, 99, 100, 101, 102, 103, 104, 105, 106, 107, 108, 109, 110, 111, 112, 113, 114, 115, 116, 117, 118, 119, 120, 121, 122, 48, 49, 50, 51, 52, 53, 54, 55, 56, 57, 45, 95]⟩
def smalls : ByteArray := ⟨#[97, 98, 99, 100, 101, 102, 103, 104, 105, 106, 107, 108, 109, 110, 111, 112, 113, 114, 115, 116, 117, 118, 119, 120, 121, 122]⟩
theorem trim_calls (s : ByteArray) (h0 : 0 < s.size) (hs : s.size ≤ 9223372036854775807) (w : World) : Calls Tryd.prog 116 #[.string s, .string keySet] w fun e w' => e = .returned (.string ⟨(Lib.trimS s.data.toList keySet.data.toList).toArray⟩) ∧ ∀ w0 G, Holds w0 G w → Holds w0 G w' := by
  have h := Any.strings_Trim_set Tryd.layTrim (zero_of_info h256).1 (zero_of_info h256).2 s keySet w (by decide) h0 hs (by decide) (ascii_of_all (by decide))
  refine Calls.mono (show Calls Tryd.prog 116 _ _ _ from h) ?_
  rintro e w' ⟨h1, q, rfl⟩
  exact ⟨h1, fun w0 G hw => ((hw.alloc _).alloc _).drewN q⟩
theorem trim_nil {l cs : List UInt8} : Lib.trimS l cs = [] ↔ l.all (cs.contains ·) = true := by
  have key : ∀ (p : UInt8 → Bool) (l : List UInt8), l.dropWhile p = [] ↔ l.all p = true := by
    intro p l
    induction l with
    | nil => simp
    | cons x l ih => by_cases h : p x = true <;> simp [List.dropWhile_cons, h, ih]
  unfold Lib.trimS Lib.trimRightS Lib.trimLeftS
  rw [key, List.all_reverse]
  constructor
  · intro h
    rw [List.all_eq_true] at *
    intro x hx
    rcases Bool.eq_false_or_eq_true (cs.contains x) with q | q
    · exact q
    · have hm : x ∈ l.reverse.dropWhile (cs.contains ·) := by
        have : ∀ (l : List UInt8), x ∈ l → x ∈ l.dropWhile (cs.contains ·) := by
          intro l hl
          induction l with
          | nil => cases hl
          | cons y l ih =>
            rw [List.dropWhile_cons]
            split
            · rename_i hy
              rcases List.mem_cons.1 hl with rfl | hl
              · rw [q] at hy; cases hy
              · exact ih hl
            · exact hl
        exact this _ (List.mem_reverse.2 hx)
      exact h x hm
  · intro h
    rw [List.all_eq_true] at *
    intro x hx
    exact h x (List.mem_reverse.1 ((List.dropWhile_sublist _).mem hx))
theorem u8_all {q r : UInt8 → Bool} (h : (List.range 256).all (fun n => q (UInt8.ofNat n) == r (UInt8.ofNat n)) = true) (b : UInt8) : q b = r b := by
  rw [List.all_eq_true] at h
  have := h b.toNat (List.mem_range.2 (UInt8.toNat_lt b))
  simpa using this
theorem set_kb (b : UInt8) : keySet.data.toList.contains b = kb b := u8_all (q := fun b => keySet.data.toList.contains b) (r := kb) (by decide +kernel) b
theorem idx_small (b : UInt8) : decide (0 ≤ Lib.indexByte smalls.data.toList b) = (decide (97 ≤ b.toNat) && decide (b.toNat ≤ 122)) := u8_all (q := fun b => decide (0 ≤ Lib.indexByte smalls.data.toList b)) (r := fun b => decide (97 ≤ b.toNat) && decide (b.toNat ≤ 122)) (by decide +kernel) b
theorem p116 {G0 : GH} {s : ByteArray} (h0 : 0 < s.size) (hs : s.size ≤ 40) : Pure Tryd.prog G0 116 [.string s, .string ⟨#[97, 98, 99, 100, 101, 102, 103, 104, 105, 106, 107, 108, 109, 110, 111, 112, 113, 114, 115, 116, 117, 118, 119, 120, 121, 122, 48, 49, 50, 51, 52, 53, 54, 55, 56, 57, 45, 95]⟩] (.string ⟨(Lib.trimS s.data.toList keySet.data.toList).toArray⟩) :=
  pure_of_calls2 G0 (fun w => trim_calls s h0 (by omega) w)
theorem p117 {G0 : GH} {s : ByteArray} {c : Int} : Pure Tryd.prog G0 117 [.string s, .int .u8 c] (V (Lib.indexByte s.data.toList c.toNat.toUInt8)) :=
  pure_of_calls G0 (fun w => Any.strings_IndexByte Tryd.layIdx s c w)
theorem trim_eq (s : ByteArray) : decide ((⟨(Lib.trimS s.data.toList keySet.data.toList).toArray⟩ : ByteArray) = ⟨#[]⟩) = s.data.toList.all kb := by
  have e : s.data.toList.all kb = s.data.toList.all (keySet.data.toList.contains ·) := by
    congr 1; funext b; exact (set_kb b).symm
  rw [e, Bool.eq_iff_iff, decide_eq_true_iff, ← trim_nil]
  simp
theorem p77 {G0 : GH} {s : ByteArray}  : Pure Tryd.prog G0 77 [.string s] (.bool (isKey s)) := by
  intro G hG
  clear hG G0
  refine enter Tryd.func77 17 #[.tmp 2] rfl Tryd.ntmps77 rfl (by decide +kernel) rfl ?_
  by_cases hin : 1 ≤ s.size ∧ s.size ≤ 40
  · obtain ⟨c, l, hl⟩ := bytes_cons s hin.1
    have hk : isKey s = (decide (s.size ≤ 40) && decide (97 ≤ c.toNat) && decide (c.toNat ≤ 122) && s.data.toList.all kb) := by unfold isKey; rw [hl]
    have hw : within (s.size : Int) 1 40 = true := within_iff.2 (by omega)
    have h0 : s.data.toList.getD (Int.toNat 0) 0 = c := by rw [hl]; rfl
    have h40 : decide (s.size ≤ 40) = true := decide_eq_true hin.2
    have hi := idx_small c
    have hc : c.toNat.toUInt8 = c := by simp
    have ht := trim_eq s
    cases ha : s.data.toList.all kb
    · simp (maxDischargeDepth := 9) only [↓gB, gV, gT, reduceIte, reduceCtorEq, Nat.reduceEqDiff, Nat.reduceAdd, Nat.reduceSub, Nat.reduceLeDiff, Nat.reduceLT, Int.reduceEq, Nat.reduceMul, hk, hw, h40, hi, ht, ha]
      refine Ycp (p68) ?_
      simp (maxDischargeDepth := 9) only [↓gB, gV, gT, reduceIte, reduceCtorEq, Nat.reduceEqDiff, Nat.reduceAdd, Nat.reduceSub, Nat.reduceLeDiff, Nat.reduceLT, Int.reduceEq, Nat.reduceMul, hk, hw, h40, hi, ht, ha]
      refine Ycp (p116 (by omega) (by omega)) ?_
      simp (maxDischargeDepth := 9) only [↓gB, gV, gT, reduceIte, reduceCtorEq, Nat.reduceEqDiff, Nat.reduceAdd, Nat.reduceSub, Nat.reduceLeDiff, Nat.reduceLT, Int.reduceEq, Nat.reduceMul, hk, hw, h40, hi, ht, ha]
      exact Kup_val (le_refl _) rfl
    · simp (maxDischargeDepth := 9) only [↓gB, gV, gT, reduceIte, reduceCtorEq, Nat.reduceEqDiff, Nat.reduceAdd, Nat.reduceSub, Nat.reduceLeDiff, Nat.reduceLT, Int.reduceEq, Nat.reduceMul, hk, hw, h40, hi, ht, ha, h0, hc]
      refine Ycp (p68) ?_
      simp (maxDischargeDepth := 9) only [↓gB, gV, gT, reduceIte, reduceCtorEq, Nat.reduceEqDiff, Nat.reduceAdd, Nat.reduceSub, Nat.reduceLeDiff, Nat.reduceLT, Int.reduceEq, Nat.reduceMul, hk, hw, h40, hi, ht, ha, h0, hc]
      refine Ycp (p116 (by omega) (by omega)) ?_
      simp (maxDischargeDepth := 9) only [↓gB, gV, gT, reduceIte, reduceCtorEq, Nat.reduceEqDiff, Nat.reduceAdd, Nat.reduceSub, Nat.reduceLeDiff, Nat.reduceLT, Int.reduceEq, Nat.reduceMul, hk, hw, h40, hi, ht, ha, h0, hc]
      refine vguard_intro (by omega) ?_
      refine Ycp (p117) ?_
      simp (maxDischargeDepth := 9) only [↓gB, gV, gT, reduceIte, reduceCtorEq, Nat.reduceEqDiff, Nat.reduceAdd, Nat.reduceSub, Nat.reduceLeDiff, Nat.reduceLT, Int.reduceEq, Nat.reduceMul, hk, hw, h40, hi, ht, ha, h0, hc]
      refine Kup_val (le_refl _) ?_
      focus (exact congrArg Value.bool hi; done)
  · have hw : within (s.size : Int) 1 40 = false := by
      rw [← Bool.not_eq_true, within_iff]; omega
    have hk : isKey s = false := by
      unfold isKey
      split
      · rfl
      · rename_i c l hl
        have : s.size = (c :: l).length := by rw [size_len, hl]
        simp only [List.length_cons] at this
        rw [decide_eq_false (by omega)]; simp
    simp (maxDischargeDepth := 9) only [↓gB, gV, gT, reduceIte, reduceCtorEq, Nat.reduceEqDiff, Nat.reduceAdd, Nat.reduceSub, Nat.reduceLeDiff, Nat.reduceLT, Int.reduceEq, Nat.reduceMul, hw, hk]
    refine Ycp (p68) ?_
    simp (maxDischargeDepth := 9) only [↓gB, gV, gT, reduceIte, reduceCtorEq, Nat.reduceEqDiff, Nat.reduceAdd, Nat.reduceSub, Nat.reduceLeDiff, Nat.reduceLT, Int.reduceEq, Nat.reduceMul, hw, hk]
    exact Kup_val (le_refl _) rfl
end Go.Proofs.YtnlbapfbdabjaaaDoor
namespace Go.Proofs.YtnlbapfbdabjaaaDoor
open Go Go.GL
attribute [local irreducible] Ycall GCalls
set_option maxRecDepth 10000
set_option maxHeartbeats 0
theorem g9 {G0 : GH} {v : Value} {l : List ByteArray} (hv : RSl Rp.str G0 v l) (hn : l.length ≤ 1000000000) : Gives Tryd.prog G0 9 [v] (fun u G' => RSl Rp.str G' u l) := by
  intro G hG; replace hv := hv.le hG
  clear hG G0
  refine enter Tryd.func9 8 #[.tmp 2] rfl Tryd.ntmps9 rfl (by decide +kernel) rfl ?_
  obtain ⟨a, c, rfl⟩ := hv.val
  simp (maxDischargeDepth := 9) only [↓gB, gV, gT, reduceIte, reduceCtorEq, Nat.reduceEqDiff, Nat.reduceAdd, Nat.reduceSub, Nat.reduceLeDiff, Nat.reduceLT, Int.reduceEq, Nat.reduceMul]
  cases a with
  | none =>
    simp (maxDischargeDepth := 9) only [↓gB, gV, gT, reduceIte, reduceCtorEq, Nat.reduceEqDiff, Nat.reduceAdd, Nat.reduceSub, Nat.reduceLeDiff, Nat.reduceLT, Int.reduceEq, Nat.reduceMul, Option.isNone_none]
    have : l = [] := by
      cases l with
      | nil => rfl
      | cons x l => obtain ⟨ad, _, e, _⟩ := hv.get (i := 0) (x := x) rfl; cases e
    subst this
    exact Kup_gives (sub_refl _) (le_refl _) (RSl.nil _ _)
  | some ad =>
    simp (maxDischargeDepth := 9) only [↓gB, gV, gT, reduceIte, reduceCtorEq, Nat.reduceEqDiff, Nat.reduceAdd, Nat.reduceSub, Nat.reduceLeDiff, Nat.reduceLT, Int.reduceEq, Nat.reduceMul, Option.isNone_some]
    refine Yn1 fun r1 h1 => ?_
    simp (maxDischargeDepth := 9) only [↓gB, gV, gT, reduceIte, reduceCtorEq, Nat.reduceEqDiff, Nat.reduceAdd, Nat.reduceSub, Nat.reduceLeDiff, Nat.reduceLT, Int.reduceEq, Nat.reduceMul, h1, Option.isNone_some]
    obtain ⟨ds, h1, h2⟩ := (hv.le (le_put h1 (.cells #[] 9 (0, 0), true))).read
    refine Row.append sl22 (ρ := Rp.str) (G0 := G) (xs := []) (ys := l) ⟨[], ⟨rfl, .inr ⟨r1, 0, #[], rfl, by assumption, put_self _ _ _, rfl, Nat.le_refl _, rfl⟩⟩, Cellsof.nil _ _⟩ h1 h2 (by simp; omega) (le_put (by assumption) _) ?_
    intro v' G' hrow hk hle
    simp (maxDischargeDepth := 9) only [↓gB, gV, gT, reduceIte, reduceCtorEq, Nat.reduceEqDiff, Nat.reduceAdd, Nat.reduceSub, Nat.reduceLeDiff, Nat.reduceLT, Int.reduceEq, Nat.reduceMul, h1, hk]
    obtain ⟨G2, hs, hl, hr⟩ := hrow.fin hle
    exact Kup_gives hs hl (by simpa using hr)
theorem p121 {G0 : GH} {v : Value} {l : List ByteArray} {q : ByteArray → Bool} {g : Nat} {fa fb : List Value} (hv : RSl Rp.str G0 v l) (hg : GL.Enters Tryd.prog g) (hn : (l.length : Int) ≤ 9223372036854775807) (hf : ∀ (G0' : GH), G0.le G0' → ∀ x cs, (Rp.str).R G0' x cs → Pure Tryd.prog G0' g (fa ++ [.string x] ++ fb) (.bool (q x))) : Pure Tryd.prog G0 121 [v, .func (.func g) fa.toArray fb.toArray] (V (match l.findIdx? q with | some i => (i : Int) | none => -1)) := by
  intro G hG; replace hv := hv.le hG; replace hf := fun (G' : GH) (h : G.le G') => hf G' (hG.trans h)
  clear hG G0
  refine enter Tryd.func121 19 #[.tmp 4] rfl Tryd.ntmps121 rfl (by decide +kernel) rfl ?_
  obtain ⟨a, c, rfl⟩ := hv.val
  have hg' := eq_true hg
  simp (maxDischargeDepth := 9) only [↓gB, gV, gT, reduceIte, reduceCtorEq, Nat.reduceEqDiff, Nat.reduceAdd, Nat.reduceSub, Nat.reduceLeDiff, Nat.reduceLT, Int.reduceEq, Nat.reduceMul]
  focus
    refine Xloop_intro _ _ _ _ _ (fun k f G' => ∃ (i : Nat), k = l.length - i ∧ (i ≤ l.length) ∧ ((l.take i).findIdx? q = none) ∧ (G = G') ∧ f 8 = V i ∧ f 0 = Go.Value.slice a l.length c ∧ f 1 = Go.Value.func (Go.Fn.func g) fa.toArray fb.toArray ∧ f 7 = Go.Value.int Go.IntKind.i64 ↑l.length) _ ⟨0, rfl, ?_, ?_, rfl, by simp (maxDischargeDepth := 9) only [↓gB, gV, gT, reduceIte, reduceCtorEq, Nat.reduceEqDiff, Nat.reduceAdd, Nat.reduceSub, Nat.reduceLeDiff, Nat.reduceLT, Int.reduceEq, Nat.reduceMul, and_self]⟩ ?_
    · omega
    · rfl
    rintro k f G' ⟨i, rfl, hi, h, rfl, f8, f0, f1, f7⟩
  simp (maxDischargeDepth := 9) only [↓gB, gV, gT, reduceIte, reduceCtorEq, Nat.reduceEqDiff, Nat.reduceAdd, Nat.reduceSub, Nat.reduceLeDiff, Nat.reduceLT, Int.reduceEq, Nat.reduceMul, f8, f0, f1, f7]
  refine Xc_split _ _ _ _ _ (fun c1 => ?_) (fun c1 => ?_)
  · simp (maxDischargeDepth := 9) only [↓gB, gV, gT, reduceIte, reduceCtorEq, Nat.reduceEqDiff, Nat.reduceAdd, Nat.reduceSub, Nat.reduceLeDiff, Nat.reduceLT, Int.reduceEq, Nat.reduceMul, f8, f0, f1, f7, c1, hg']
    obtain ⟨x1, a1, s1, m1, rfl, rfl, e1⟩ := hv.at1 (i) (by omega) rfl
    simp (maxDischargeDepth := 9) only [↓gB, gV, gT, reduceIte, reduceCtorEq, Nat.reduceEqDiff, Nat.reduceAdd, Nat.reduceSub, Nat.reduceLeDiff, Nat.reduceLT, Int.reduceEq, Nat.reduceMul, f8, f1, f7, c1, f0, e1, hg']
    refine vguard_intro (by simp) ?_
    refine Ycp (hf _ (le_refl _) x1 _ rfl) ?_
    cases hq : q x1
    · focus
        simp (maxDischargeDepth := 9) only [↓gB, gV, gT, reduceIte, reduceCtorEq, Nat.reduceEqDiff, Nat.reduceAdd, Nat.reduceSub, Nat.reduceLeDiff, Nat.reduceLT, Int.reduceEq, Nat.reduceMul, f8, f1, f7, c1, f0, e1, hq]
        have q1 : Go.IntKind.i64.wrap (↑i + 1) = ↑i + 1 := wrap_id (by omega)
        simp (maxDischargeDepth := 9) only [↓gB, gV, gT, reduceIte, reduceCtorEq, Nat.reduceEqDiff, Nat.reduceAdd, Nat.reduceSub, Nat.reduceLeDiff, Nat.reduceLT, Int.reduceEq, Nat.reduceMul, f8, f1, f7, c1, f0, e1, hq, q1]
        rw [N_lp]
        refine ⟨_, ?_, _, ?_, i + 1, rfl, ?_, ?_, rfl, by simp (maxDischargeDepth := 9) only [↓gB, gV, gT, reduceIte, reduceCtorEq, Nat.reduceEqDiff, Nat.reduceAdd, Nat.reduceSub, Nat.reduceLeDiff, Nat.reduceLT, Int.reduceEq, Nat.reduceMul, f8, f1, f7, c1, f0, e1, hq, q1, nat_succ, and_self]⟩
        · omega
        · exact sub_refl _
        · omega
        · ((rw [take_at m1, List.findIdx?_append, h]; simp [hq]); done)
    · have e := drop_at m1
      have e2 : l.findIdx? q = some i := by
        rw [← List.take_append_drop i l, List.findIdx?_append, h, e, List.findIdx?_cons, hq]; simp; omega
      simp (maxDischargeDepth := 9) only [↓gB, gV, gT, reduceIte, reduceCtorEq, Nat.reduceEqDiff, Nat.reduceAdd, Nat.reduceSub, Nat.reduceLeDiff, Nat.reduceLT, Int.reduceEq, Nat.reduceMul, f8, f1, f7, c1, f0, e1, hq]
      exact Kup_val (le_refl _) (by simp [*])
  · have e : l.findIdx? q = none := by rw [← List.take_of_length_le (l := l) (i := i) (by omega), h]
    simp (maxDischargeDepth := 9) only [↓gB, gV, gT, reduceIte, reduceCtorEq, Nat.reduceEqDiff, Nat.reduceAdd, Nat.reduceSub, Nat.reduceLeDiff, Nat.reduceLT, Int.reduceEq, Nat.reduceMul, f8, f0, f1, f7, c1]
    exact Kup_val (le_refl _) (by simp [*])
theorem p84 {G0 : GH} {v : Value} {l : List ByteArray} {q : ByteArray → Bool} {g : Nat} {fa fb : List Value} (hv : RSl Rp.str G0 v l) (hg : GL.Enters Tryd.prog g) (hn : (l.length : Int) ≤ 9223372036854775807) (hf : ∀ (G0' : GH), G0.le G0' → ∀ x cs, (Rp.str).R G0' x cs → Pure Tryd.prog G0' g (fa ++ [.string x] ++ fb) (.bool (q x))) : Pure Tryd.prog G0 84 [v, .func (.func g) fa.toArray fb.toArray] (.bool (l.any q)) := by
  intro G hG; replace hv := hv.le hG; replace hf := fun (G' : GH) (h : G.le G') => hf G' (hG.trans h)
  clear hG G0
  refine enter Tryd.func84 9 #[.tmp 4] rfl Tryd.ntmps84 rfl (by decide +kernel) rfl ?_
  have e : decide (0 ≤ (match l.findIdx? q with | some i => (i : Int) | none => -1)) = l.any q := by
    cases h : l.findIdx? q with
    | none =>
      rw [List.findIdx?_eq_none_iff] at h
      simp; exact h
    | some i =>
      rw [List.findIdx?_eq_some_iff_getElem] at h
      obtain ⟨hi, h1, _⟩ := h
      have : l.any q = true := List.any_eq_true.2 ⟨l[i], by simp, h1⟩
      rw [this]; simp
  simp (maxDischargeDepth := 9) only [↓gB, gV, gT, reduceIte, reduceCtorEq, Nat.reduceEqDiff, Nat.reduceAdd, Nat.reduceSub, Nat.reduceLeDiff, Nat.reduceLT, Int.reduceEq, Nat.reduceMul, e]
  refine Ycp (p121 (by assumption) (by assumption) (by assumption) (by assumption)) ?_
  simp (maxDischargeDepth := 9) only [↓gB, gV, gT, reduceIte, reduceCtorEq, Nat.reduceEqDiff, Nat.reduceAdd, Nat.reduceSub, Nat.reduceLeDiff, Nat.reduceLT, Int.reduceEq, Nat.reduceMul, e]
  exact Kup_val (le_refl _) rfl
theorem p18 {G0 : GH} {v w : Value} {l m : List ByteArray} (hv : RSl Rp.str G0 v l) (hw : RSl Rp.str G0 w m) (hn : (l.length : Int) ≤ 9223372036854775807) : Pure Tryd.prog G0 18 [v, w] (.bool (decide (l = m))) := by
  intro G hG; replace hv := hv.le hG; replace hw := hw.le hG
  clear hG G0
  refine enter Tryd.func18 26 #[.tmp 4] rfl Tryd.ntmps18 rfl (by decide +kernel) rfl ?_
  obtain ⟨a, c, rfl⟩ := hv.val
  obtain ⟨b, d, rfl⟩ := hw.val
  simp (maxDischargeDepth := 9) only [↓gB, gV, gT, reduceIte, reduceCtorEq, Nat.reduceEqDiff, Nat.reduceAdd, Nat.reduceSub, Nat.reduceLeDiff, Nat.reduceLT, Int.reduceEq, Nat.reduceMul]
  refine Xc_split _ _ _ _ _ (fun hlen => ?_) (fun hlen => ?_)
  · simp (maxDischargeDepth := 9) only [↓gB, gV, gT, reduceIte, reduceCtorEq, Nat.reduceEqDiff, Nat.reduceAdd, Nat.reduceSub, Nat.reduceLeDiff, Nat.reduceLT, Int.reduceEq, Nat.reduceMul]
    refine Kup_val (le_refl _) ?_
    have hne : l ≠ m := by (rintro rfl; exact hlen rfl)
    simp [hne]
  · simp (maxDischargeDepth := 9) only [↓gB, gV, gT, reduceIte, reduceCtorEq, Nat.reduceEqDiff, Nat.reduceAdd, Nat.reduceSub, Nat.reduceLeDiff, Nat.reduceLT, Int.reduceEq, Nat.reduceMul]
    focus
      refine Xloop_intro _ _ _ _ _ (fun k f G' => ∃ (i : Nat), k = l.length - i ∧ (i ≤ l.length) ∧ (l.take i = m.take i) ∧ (G = G') ∧ f 13 = V i ∧ f 0 = Go.Value.slice a l.length c ∧ f 1 = Go.Value.slice b m.length d ∧ f 12 = Go.Value.int Go.IntKind.i64 ↑l.length) _ ⟨0, rfl, ?_, ?_, rfl, by simp (maxDischargeDepth := 9) only [↓gB, gV, gT, reduceIte, reduceCtorEq, Nat.reduceEqDiff, Nat.reduceAdd, Nat.reduceSub, Nat.reduceLeDiff, Nat.reduceLT, Int.reduceEq, Nat.reduceMul, and_self]⟩ ?_
      · omega
      · rfl
      rintro k f G' ⟨i, rfl, hi, h, rfl, f13, f0, f1, f12⟩
    focus
      simp (maxDischargeDepth := 9) only [↓gB, gV, gT, reduceIte, reduceCtorEq, Nat.reduceEqDiff, Nat.reduceAdd, Nat.reduceSub, Nat.reduceLeDiff, Nat.reduceLT, Int.reduceEq, Nat.reduceMul, f13, f0, f1, f12]
      refine Xc_split _ _ _ _ _ (fun c1 => ?_) (fun c1 => ?_)
      rotate_left 1
      focus
        simp (maxDischargeDepth := 9) only [↓gB, gV, gT, reduceIte, reduceCtorEq, Nat.reduceEqDiff, Nat.reduceAdd, Nat.reduceSub, Nat.reduceLeDiff, Nat.reduceLT, Int.reduceEq, Nat.reduceMul, f13, f0, f1, f12, c1]
        refine Kup_val (le_refl _) ?_
        focus ((have e : l = m := by (rw [← List.take_of_length_le (l := l) (i := i) (by omega), h, List.take_of_length_le (by omega)])); simp [e]; done)
      rotate_right 1
      simp (maxDischargeDepth := 9) only [↓gB, gV, gT, reduceIte, reduceCtorEq, Nat.reduceEqDiff, Nat.reduceAdd, Nat.reduceSub, Nat.reduceLeDiff, Nat.reduceLT, Int.reduceEq, Nat.reduceMul, f13, f0, f1, f12, c1]
      refine Xdraw_intro [0, 1, 2, 3, 4, 5, 6, 7, 8] mixed (by kernel_rfl) (by decide +kernel) ?_
      simp (maxDischargeDepth := 9) only [↓gB, gV, gT, reduceIte, reduceCtorEq, Nat.reduceEqDiff, Nat.reduceAdd, Nat.reduceSub, Nat.reduceLeDiff, Nat.reduceLT, Int.reduceEq, Nat.reduceMul, f13, f0, f1, f12, c1]
      obtain ⟨x1, a1, s1, m1, rfl, rfl, e1⟩ := hv.at1 (i) (by omega) rfl
      simp (maxDischargeDepth := 9) only [↓gB, gV, gT, reduceIte, reduceCtorEq, Nat.reduceEqDiff, Nat.reduceAdd, Nat.reduceSub, Nat.reduceLeDiff, Nat.reduceLT, Int.reduceEq, Nat.reduceMul, f13, f1, f12, c1, f0, e1]
      refine vguard_intro (by simp) ?_
      obtain ⟨x2, a2, s2, m2, rfl, rfl, e2⟩ := hw.at1 (i) (by omega) rfl
      simp (maxDischargeDepth := 9) only [↓gB, gV, gT, reduceIte, reduceCtorEq, Nat.reduceEqDiff, Nat.reduceAdd, Nat.reduceSub, Nat.reduceLeDiff, Nat.reduceLT, Int.reduceEq, Nat.reduceMul, f13, f12, c1, f0, e1, f1, e2]
      refine vguard_intro (by omega) ?_
      by_cases c2 : (x1 : ByteArray) = x2
      rotate_left 1
      focus
        simp (maxDischargeDepth := 9) only [↓gB, gV, gT, reduceIte, reduceCtorEq, Nat.reduceEqDiff, Nat.reduceAdd, Nat.reduceSub, Nat.reduceLeDiff, Nat.reduceLT, Int.reduceEq, Nat.reduceMul, f13, f12, c1, f0, e1, f1, e2, c2]
        refine Kup_val (le_refl _) ?_
        focus ((have e : l ≠ m := by (rintro rfl; rw [m1] at m2; cases m2; simp_all)); simp [e]; done)
      rotate_right 1
      simp (maxDischargeDepth := 9) only [↓gB, gV, gT, reduceIte, reduceCtorEq, Nat.reduceEqDiff, Nat.reduceAdd, Nat.reduceSub, Nat.reduceLeDiff, Nat.reduceLT, Int.reduceEq, Nat.reduceMul, f13, f12, c1, f0, e1, f1, e2, c2]
      have q1 : Go.IntKind.i64.wrap (↑i + 1) = ↑i + 1 := wrap_id (by omega)
      simp (maxDischargeDepth := 9) only [↓gB, gV, gT, reduceIte, reduceCtorEq, Nat.reduceEqDiff, Nat.reduceAdd, Nat.reduceSub, Nat.reduceLeDiff, Nat.reduceLT, Int.reduceEq, Nat.reduceMul, f13, f12, c1, f0, e1, f1, e2, c2, q1]
      rw [N_lp]
      refine ⟨_, ?_, _, ?_, i + 1, rfl, ?_, ?_, rfl, by simp (maxDischargeDepth := 9) only [↓gB, gV, gT, reduceIte, reduceCtorEq, Nat.reduceEqDiff, Nat.reduceAdd, Nat.reduceSub, Nat.reduceLeDiff, Nat.reduceLT, Int.reduceEq, Nat.reduceMul, f13, f12, c1, f0, e1, f1, e2, c2, q1, nat_succ, and_self]⟩
      · omega
      · exact sub_refl _
      · omega
      · (rw [take_at m1, take_at m2, h, show x1 = x2 by first | assumption | omega]; done)
def sCmp (s t : ByteArray) : Int := if sLt s t then -1 else if sLt t s then 1 else 0
theorem sCmp_lt (s t : ByteArray) : sCmp s t < 0 ↔ sLt s t = true := by
  unfold sCmp; split
  · rename_i h; simp [h]
  · rename_i h; split <;> simp [h]
theorem sCmp_eq (s t : ByteArray) : sCmp s t = 0 ↔ s = t := by
  unfold sCmp
  cases h1 : sLt s t <;> cases h2 : sLt t s
  · simp [sLt_tri h1 h2]
  · simp; rintro rfl; rw [sLt_irrefl] at h2; cases h2
  · simp; rintro rfl; rw [sLt_irrefl] at h1; cases h1
  · simp; rintro rfl; rw [sLt_irrefl] at h1; cases h1
def has (t : ByteArray) (l : List ByteArray) : Bool := l.any (fun x => decide (x = t))
theorem has_iff {t : ByteArray} {l : List ByteArray} : has t l = true ↔ t ∈ l := by simp [has]
theorem has_not {t : ByteArray} {l : List ByteArray} : has t l = false ↔ t ∉ l := by rw [← Bool.not_eq_true, has_iff]
def sorted (l : List ByteArray) : Prop := l.Pairwise (fun x y => sLt x y = true)
theorem pos_at {l : List ByteArray} {t : ByteArray} {i : Nat} (hi : i ≤ l.length) (h1 : ∀ (k : Nat) x, k < i → l[k]? = some x → sLt x t = true) (h2 : ∀ (k : Nat) x, i ≤ k → l[k]? = some x → sLt x t = false) : bsPos (fun x => sCmp x t) l = i :=
  bsPos_at hi (fun k x hk hx => (sCmp_lt x t).2 (h1 k x hk hx)) (fun k x hk hx => by rw [sCmp_lt, h2 k x hk hx]; simp)
theorem mem_at {l : List ByteArray} {t : ByteArray} {i : Nat} (h1 : ∀ (k : Nat) x, k < i → l[k]? = some x → sLt x t = true) (hs : sorted l) : (t ∈ l) ↔ l[i]? = some t ∨ ∃ k, i < k ∧ l[k]? = some t := by
  constructor
  · intro h
    obtain ⟨k, hk⟩ := List.mem_iff_getElem?.1 h
    rcases Nat.lt_trichotomy k i with q | q | q
    · have := h1 k t q hk; rw [sLt_irrefl] at this; cases this
    · exact .inl (q ▸ hk)
    · exact .inr ⟨k, q, hk⟩
  · rintro (h | ⟨k, _, h⟩) <;> exact List.mem_of_getElem? h
theorem sorted_at {l : List ByteArray} (hs : sorted l) {i j : Nat} {x y : ByteArray} (hij : i < j) (hx : l[i]? = some x) (hy : l[j]? = some y) : sLt x y = true := by
  obtain ⟨hi, rfl⟩ := List.getElem?_eq_some_iff.1 hx
  obtain ⟨hj, rfl⟩ := List.getElem?_eq_some_iff.1 hy
  exact List.pairwise_iff_getElem.1 hs i j hi hj hij
theorem has_pos {l : List ByteArray} {t : ByteArray} {i : Nat} (hs : sorted l) (h1 : ∀ (k : Nat) x, k < i → l[k]? = some x → sLt x t = true) (h2 : ∀ (k : Nat) x, i ≤ k → l[k]? = some x → sLt x t = false) : has t l = match l[i]? with | some x => decide (x = t) | none => false := by
  cases hx : l[i]? with
  | none =>
    rw [has_not, mem_at h1 hs, hx]
    rintro (h | ⟨k, hk, h⟩)
    · cases h
    · rw [List.getElem?_eq_none_iff] at hx
      rw [List.getElem?_eq_none (by omega)] at h; cases h
  | some x =>
    by_cases e : x = t
    · subst e; simp only [decide_true]; exact has_iff.2 (List.mem_of_getElem? hx)
    · simp only [e, decide_false]
      rw [has_not, mem_at h1 hs, hx]
      rintro (h | ⟨k, hk, h⟩)
      · cases h; exact e rfl
      · have := sorted_at hs hk hx h
        rw [h2 i x (Nat.le_refl _) hx] at this; cases this
theorem p182 {G0 : GH} {a : ByteArray}  : Pure Tryd.prog G0 182 [.string a] (.bool false) := by
  intro G hG
  clear hG G0
  refine enter Tryd.func182 6 #[.tmp 2] rfl Tryd.ntmps182 rfl (by decide +kernel) rfl ?_
  simp (maxDischargeDepth := 9) only [↓gB, gV, gT, reduceIte, reduceCtorEq, Nat.reduceEqDiff, Nat.reduceAdd, Nat.reduceSub, Nat.reduceLeDiff, Nat.reduceLT, Int.reduceEq, Nat.reduceMul]
  exact Kup_val (le_refl _) rfl
theorem p157 {G0 : GH} {a : ByteArray}  : Pure Tryd.prog G0 157 [.string a] (.bool false) := by
  intro G hG
  clear hG G0
  refine enter Tryd.func157 6 #[.tmp 2] rfl Tryd.ntmps157 rfl (by decide +kernel) rfl ?_
  simp (maxDischargeDepth := 9) only [↓gB, gV, gT, reduceIte, reduceCtorEq, Nat.reduceEqDiff, Nat.reduceAdd, Nat.reduceSub, Nat.reduceLeDiff, Nat.reduceLT, Int.reduceEq, Nat.reduceMul]
  exact Kup_val (le_refl _) rfl
theorem p156 {G0 : GH} {a b : ByteArray}  : Pure Tryd.prog G0 156 [.string a, .string b] (.bool (sLt a b)) := by
  intro G hG
  clear hG G0
  refine enter Tryd.func156 17 #[.tmp 4] rfl Tryd.ntmps156 rfl (by decide +kernel) rfl ?_
  simp (maxDischargeDepth := 9) only [↓gB, gV, gT, reduceIte, reduceCtorEq, Nat.reduceEqDiff, Nat.reduceAdd, Nat.reduceSub, Nat.reduceLeDiff, Nat.reduceLT, Int.reduceEq, Nat.reduceMul]
  refine Ycp (p182) ?_
  simp (maxDischargeDepth := 9) only [↓gB, gV, gT, reduceIte, reduceCtorEq, Nat.reduceEqDiff, Nat.reduceAdd, Nat.reduceSub, Nat.reduceLeDiff, Nat.reduceLT, Int.reduceEq, Nat.reduceMul]
  exact Kup_val (le_refl _) rfl
theorem p118 {G0 : GH} {v : Value} {l : List ByteArray} {t : ByteArray} (hv : RSl Rp.str G0 v l) (hn : (l.length : Int) ≤ 4611686018427387903) (hs : sorted l) : Pure Tryd.prog G0 118 [v, .string t] (.tuple #[V (bsPos (fun x => sCmp x t) l), .bool (has t l)]) := by
  intro G hG; replace hv := hv.le hG
  clear hG G0
  refine enter Tryd.func118 54 #[.tmp 4, .tmp 5] rfl Tryd.ntmps118 rfl (by decide +kernel) rfl ?_
  obtain ⟨a, c, rfl⟩ := hv.val
  simp (maxDischargeDepth := 9) only [↓gB, gV, gT, reduceIte, reduceCtorEq, Nat.reduceEqDiff, Nat.reduceAdd, Nat.reduceSub, Nat.reduceLeDiff, Nat.reduceLT, Int.reduceEq, Nat.reduceMul]
  focus
    refine Xloop_intro _ _ _ _ _ (fun k f G' => ∃ (i : Nat) (j : Nat), k = j - i ∧ (i ≤ j) ∧ (j ≤ l.length) ∧ (∀ (k : Nat) x, k < i → l[k]? = some x → sLt x t = true) ∧ (∀ (k : Nat) x, j ≤ k → l[k]? = some x → sLt x t = false) ∧ (G = G') ∧ f 7 = V i ∧ f 8 = V j ∧ f 0 = Go.Value.slice a l.length c ∧ f 1 = Go.Value.string t ∧ f 6 = Go.Value.int Go.IntKind.i64 ↑l.length) _ ⟨0, l.length, rfl, ?_, ?_, ?_, ?_, rfl, by simp (maxDischargeDepth := 9) only [↓gB, gV, gT, reduceIte, reduceCtorEq, Nat.reduceEqDiff, Nat.reduceAdd, Nat.reduceSub, Nat.reduceLeDiff, Nat.reduceLT, Int.reduceEq, Nat.reduceMul, and_self]⟩ ?_
    · omega
    · omega
    · omega
    · (intro k x hk hx; rw [List.getElem?_eq_none hk] at hx; cases hx; done)
    rintro k f G' ⟨i, j, rfl, hij, hj, hb1, hb2, rfl, f7, f8, f0, f1, f6⟩
  have hm := @mid_eq i j (by omega)
  simp (maxDischargeDepth := 9) only [↓gB, gV, gT, reduceIte, reduceCtorEq, Nat.reduceEqDiff, Nat.reduceAdd, Nat.reduceSub, Nat.reduceLeDiff, Nat.reduceLT, Int.reduceEq, Nat.reduceMul, f7, f8, f0, f1, f6, hm]
  refine Xc_split _ _ _ _ _ (fun c1 => ?_) (fun c1 => ?_)
  · focus
      simp (maxDischargeDepth := 9) only [↓gB, gV, gT, reduceIte, reduceCtorEq, Nat.reduceEqDiff, Nat.reduceAdd, Nat.reduceSub, Nat.reduceLeDiff, Nat.reduceLT, Int.reduceEq, Nat.reduceMul, f7, f8, f0, f1, f6, hm, c1]
      refine vguard_intro (by omega) ?_
      obtain ⟨x1, a1, s1, m1, rfl, rfl, e1⟩ := hv.at1 ((i + j) / 2) (by omega) rfl
      simp (maxDischargeDepth := 9) only [↓gB, gV, gT, reduceIte, reduceCtorEq, Nat.reduceEqDiff, Nat.reduceAdd, Nat.reduceSub, Nat.reduceLeDiff, Nat.reduceLT, Int.reduceEq, Nat.reduceMul, f7, f8, f1, f6, hm, c1, f0, e1]
      refine vguard_intro (by omega) ?_
      refine Ycp (p156) ?_
      simp (maxDischargeDepth := 9) only [↓gB, gV, gT, reduceIte, reduceCtorEq, Nat.reduceEqDiff, Nat.reduceAdd, Nat.reduceSub, Nat.reduceLeDiff, Nat.reduceLT, Int.reduceEq, Nat.reduceMul, f7, f8, f1, f6, hm, c1, f0, e1]
      rcases bool_tf (Go.GL.sLt x1 t) with c2 | c2
      rotate_left 1
      focus
        simp (maxDischargeDepth := 9) only [↓gB, gV, gT, reduceIte, reduceCtorEq, Nat.reduceEqDiff, Nat.reduceAdd, Nat.reduceSub, Nat.reduceLeDiff, Nat.reduceLT, Int.reduceEq, Nat.reduceMul, f7, f8, f1, f6, hm, c1, f0, e1, c2]
        have q1 : Go.IntKind.i64.wrap (↑i + ↑j) = ↑i + ↑j := wrap_id (by omega)
        simp (maxDischargeDepth := 9) only [↓gB, gV, gT, reduceIte, reduceCtorEq, Nat.reduceEqDiff, Nat.reduceAdd, Nat.reduceSub, Nat.reduceLeDiff, Nat.reduceLT, Int.reduceEq, Nat.reduceMul, f7, f8, f1, f6, hm, c1, f0, e1, c2, q1]
        rw [N_lp]
        refine ⟨_, ?_, _, ?_, i, (i + j) / 2, rfl, ?_, ?_, ?_, ?_, rfl, by simp (maxDischargeDepth := 9) only [↓gB, gV, gT, reduceIte, reduceCtorEq, Nat.reduceEqDiff, Nat.reduceAdd, Nat.reduceSub, Nat.reduceLeDiff, Nat.reduceLT, Int.reduceEq, Nat.reduceMul, f7, f8, f1, f6, hm, c1, f0, e1, c2, q1, nat_succ, and_self]⟩
        · omega
        · exact sub_refl _
        · omega
        · omega
        · assumption
        · (intro k x hk hx; by_cases e : k = (i + j) / 2; (subst e; rw [m1] at hx; cases hx; exact c2); cases q : sLt x t with | false => rfl | true => rw [sLt_trans (sorted_at hs (by omega) m1 hx) q] at c2; cases c2; done)
      rotate_right 1
      simp (maxDischargeDepth := 9) only [↓gB, gV, gT, reduceIte, reduceCtorEq, Nat.reduceEqDiff, Nat.reduceAdd, Nat.reduceSub, Nat.reduceLeDiff, Nat.reduceLT, Int.reduceEq, Nat.reduceMul, f7, f8, f1, f6, hm, c1, f0, e1, c2]
      have q1 : Go.IntKind.i64.wrap (↑i + ↑j) = ↑i + ↑j := wrap_id (by omega)
      simp (maxDischargeDepth := 9) only [↓gB, gV, gT, reduceIte, reduceCtorEq, Nat.reduceEqDiff, Nat.reduceAdd, Nat.reduceSub, Nat.reduceLeDiff, Nat.reduceLT, Int.reduceEq, Nat.reduceMul, f7, f8, f1, f6, hm, c1, f0, e1, c2, q1]
      have q2 : Go.IntKind.i64.wrap (↑((i + j) / 2) + 1) = ↑((i + j) / 2) + 1 := wrap_id (by omega)
      simp (maxDischargeDepth := 9) only [↓gB, gV, gT, reduceIte, reduceCtorEq, Nat.reduceEqDiff, Nat.reduceAdd, Nat.reduceSub, Nat.reduceLeDiff, Nat.reduceLT, Int.reduceEq, Nat.reduceMul, f7, f8, f1, f6, hm, c1, f0, e1, c2, q1, q2]
      rw [N_lp]
      refine ⟨_, ?_, _, ?_, (i + j) / 2 + 1, j, rfl, ?_, ?_, ?_, ?_, rfl, by simp (maxDischargeDepth := 9) only [↓gB, gV, gT, reduceIte, reduceCtorEq, Nat.reduceEqDiff, Nat.reduceAdd, Nat.reduceSub, Nat.reduceLeDiff, Nat.reduceLT, Int.reduceEq, Nat.reduceMul, f7, f8, f1, f6, hm, c1, f0, e1, c2, q1, q2, nat_succ, and_self]⟩
      · omega
      · exact sub_refl _
      · omega
      · assumption
      · (intro k x hk hx; by_cases e : k = (i + j) / 2; (subst e; rw [m1] at hx; cases hx; exact c2); exact sLt_trans (sorted_at hs (by omega) hx m1) c2; done)
      · assumption
  · have hp : bsPos (fun x => sCmp x t) l = i := pos_at (by omega) hb1 (fun k x hk => hb2 k x (by omega))
    have hh := has_pos hs hb1 (fun k x hk => hb2 k x (by omega))
    focus
      simp (maxDischargeDepth := 9) only [↓gB, gV, gT, reduceIte, reduceCtorEq, Nat.reduceEqDiff, Nat.reduceAdd, Nat.reduceSub, Nat.reduceLeDiff, Nat.reduceLT, Int.reduceEq, Nat.reduceMul, f7, f8, f0, f1, f6, hm, c1, hh]
      by_cases c2 : (↑i : Int) < ↑l.length
      rotate_left 1
      focus
        simp (maxDischargeDepth := 9) only [↓gB, gV, gT, reduceIte, reduceCtorEq, Nat.reduceEqDiff, Nat.reduceAdd, Nat.reduceSub, Nat.reduceLeDiff, Nat.reduceLT, Int.reduceEq, Nat.reduceMul, f7, f8, f0, f1, f6, hm, c1, hh, c2]
        refine Kup_val (le_refl _) ?_
        focus (rw [hp, List.getElem?_eq_none (by omega)]; done)
      rotate_right 1
      simp (maxDischargeDepth := 9) only [↓gB, gV, gT, reduceIte, reduceCtorEq, Nat.reduceEqDiff, Nat.reduceAdd, Nat.reduceSub, Nat.reduceLeDiff, Nat.reduceLT, Int.reduceEq, Nat.reduceMul, f7, f8, f0, f1, f6, hm, c1, hh, c2]
      obtain ⟨x1, a1, s1, m1, rfl, rfl, e1⟩ := hv.at1 (i) (by omega) rfl
      simp (maxDischargeDepth := 9) only [↓gB, gV, gT, reduceIte, reduceCtorEq, Nat.reduceEqDiff, Nat.reduceAdd, Nat.reduceSub, Nat.reduceLeDiff, Nat.reduceLT, Int.reduceEq, Nat.reduceMul, f7, f8, f1, f6, hm, c1, hh, c2, f0, e1]
      refine vguard_intro (by simp) ?_
      by_cases c3 : (x1 : ByteArray) = t
      rotate_left 1
      focus
        simp (maxDischargeDepth := 9) only [↓gB, gV, gT, reduceIte, reduceCtorEq, Nat.reduceEqDiff, Nat.reduceAdd, Nat.reduceSub, Nat.reduceLeDiff, Nat.reduceLT, Int.reduceEq, Nat.reduceMul, f7, f8, f1, f6, hm, c1, hh, c2, f0, e1, c3]
        refine vguard_intro (by simp) ?_
        refine Ycp (p157) ?_
        simp (maxDischargeDepth := 9) only [↓gB, gV, gT, reduceIte, reduceCtorEq, Nat.reduceEqDiff, Nat.reduceAdd, Nat.reduceSub, Nat.reduceLeDiff, Nat.reduceLT, Int.reduceEq, Nat.reduceMul, f7, f8, f1, f6, hm, c1, hh, c2, f0, e1, c3]
        exact Kup_val (le_refl _) (by simp [*, hm])
      rotate_right 1
      simp (maxDischargeDepth := 9) only [↓gB, gV, gT, reduceIte, reduceCtorEq, Nat.reduceEqDiff, Nat.reduceAdd, Nat.reduceSub, Nat.reduceLeDiff, Nat.reduceLT, Int.reduceEq, Nat.reduceMul, f7, f8, f1, f6, hm, c1, hh, c2, f0, e1, c3]
      exact Kup_val (le_refl _) (by simp [*, hm])
end Go.Proofs.YtnlbapfbdabjaaaDoor
namespace Go.Proofs.YtnlbapfbdabjaaaDoor
open Go Go.GL
attribute [local irreducible] Ycall GCalls
set_option maxRecDepth 10000
set_option maxHeartbeats 0
structure SNode where
  Key : ByteArray
  X : Int
  Y : Int
deriving DecidableEq
def rNode : Rp SNode where
  sz := 3
  R G x cs := cs = [.string x.Key, .int .i64 x.X, .int .i64 x.Y]
  len := by rintro G x cs rfl; rfl
  ile := by rintro G G' x cs hl hv; exact hv
  one := by rintro G x cs rfl; rfl
structure SKnot where
  At : Int
  Time : Int
deriving DecidableEq
def rKnot : Rp SKnot where
  sz := 2
  R G x cs := cs = [.int .i64 x.At, .int .i64 x.Time]
  len := by rintro G x cs rfl; rfl
  ile := by rintro G G' x cs hl hv; exact hv
  one := by rintro G x cs rfl; rfl
structure SArc where
  Key : ByteArray
  From : ByteArray
  To : ByteArray
  Long : Int
  Knots : List SKnot
deriving DecidableEq
def rArc : Rp SArc where
  sz := 5
  R G x cs := ∃ v4, cs = [.string x.Key, .string x.From, .string x.To, .int .i64 x.Long, v4] ∧ RSl rKnot G v4 x.Knots
  len := by rintro G x cs ⟨v4, rfl, h0⟩; rfl
  ile := by rintro G G' x cs hl ⟨v4, rfl, h0⟩; exact ⟨v4, rfl, h0.ile hl⟩
  one := by rintro G x cs ⟨v4, rfl, h0⟩; obtain ⟨a0, c0, rfl⟩ := h0.val; rfl
structure SBan where
  From : ByteArray
  To : ByteArray
deriving DecidableEq
def rBan : Rp SBan where
  sz := 2
  R G x cs := cs = [.string x.From, .string x.To]
  len := by rintro G x cs rfl; rfl
  ile := by rintro G G' x cs hl hv; exact hv
  one := by rintro G x cs rfl; rfl
theorem cmpL_s : ∀ (a b : List UInt8), Lib.compareBytes a b = if a < b then -1 else if b < a then 1 else 0
  | [], [] => by simp [Lib.compareBytes]
  | [], _ :: _ => by simp [Lib.compareBytes]
  | _ :: _, [] => by simp [Lib.compareBytes]
  | x :: xs, y :: ys => by
    have ih := cmpL_s xs ys
    simp only [Lib.compareBytes, List.cons_lt_cons_iff, ih]
    by_cases h1 : x < y
    · simp [h1]
    · by_cases h2 : y < x
      · have e1 : ¬ x = y := by rintro rfl; exact h1 h2
        have e2 : ¬ y = x := fun q => e1 q.symm
        simp [h1, h2, e1, e2]
      · have e : x = y := by
          rw [UInt8.lt_iff_toNat_lt] at h1 h2
          exact UInt8.toNat_inj.1 (by omega)
        subst e; simp [h1]
theorem cmpB (a b : ByteArray) : Lib.compareBytes a.data.toList b.data.toList = sCmp a b := by
  unfold sCmp sLt; rw [cmpL_s]; simp
theorem p125 {G0 : GH} {a b : ByteArray} : Pure Tryd.prog G0 125 [.string a, .string b] (V (sCmp a b)) := by
  rw [← cmpB]; exact pure_of_calls G0 (fun w => Any.strings_Compare Tryd.layCmp a b w)
def onMap (a b : Int) : Bool := within a (-10000) 10000 && within b (-10000) 10000
theorem p122 {G0 : GH} {a b : Int}  : Pure Tryd.prog G0 122 [V a, V b] (.bool (onMap a b)) := by
  intro G hG
  clear hG G0
  refine enter Tryd.func122 13 #[.tmp 4] rfl Tryd.ntmps122 rfl (by decide +kernel) rfl ?_
  unfold onMap
  focus
    simp (maxDischargeDepth := 9) only [↓gB, gV, gT, reduceIte, reduceCtorEq, Nat.reduceEqDiff, Nat.reduceAdd, Nat.reduceSub, Nat.reduceLeDiff, Nat.reduceLT, Int.reduceEq, Nat.reduceMul]
    refine Ycp (p74) ?_
    simp (maxDischargeDepth := 9) only [↓gB, gV, gT, reduceIte, reduceCtorEq, Nat.reduceEqDiff, Nat.reduceAdd, Nat.reduceSub, Nat.reduceLeDiff, Nat.reduceLT, Int.reduceEq, Nat.reduceMul]
    rcases bool_tf (Go.Proofs.YtnlbapfbdabjaaaDoor.within a (-10000) 10000) with c1 | c1
    rotate_left 1
    focus
      simp (maxDischargeDepth := 9) only [↓gB, gV, gT, reduceIte, reduceCtorEq, Nat.reduceEqDiff, Nat.reduceAdd, Nat.reduceSub, Nat.reduceLeDiff, Nat.reduceLT, Int.reduceEq, Nat.reduceMul, c1]
      exact Kup_val (le_refl _) rfl
    rotate_right 1
    simp (maxDischargeDepth := 9) only [↓gB, gV, gT, reduceIte, reduceCtorEq, Nat.reduceEqDiff, Nat.reduceAdd, Nat.reduceSub, Nat.reduceLeDiff, Nat.reduceLT, Int.reduceEq, Nat.reduceMul, c1]
    refine Ycp (p74) ?_
    simp (maxDischargeDepth := 9) only [↓gB, gV, gT, reduceIte, reduceCtorEq, Nat.reduceEqDiff, Nat.reduceAdd, Nat.reduceSub, Nat.reduceLeDiff, Nat.reduceLT, Int.reduceEq, Nat.reduceMul, c1]
    exact Kup_val (le_refl _) rfl
def banCmp (a b c d : ByteArray) : Int := orOf [sCmp a c, sCmp b d]
theorem p95 {G0 : GH} {a b c d : ByteArray}  : Pure Tryd.prog G0 95 [.agg #[.string a, .string b], .agg #[.string c, .string d]] (V (banCmp a b c d)) := by
  intro G hG
  clear hG G0
  refine enter Tryd.func95 17 #[.tmp 4] rfl Tryd.ntmps95 rfl (by decide +kernel) rfl ?_
  simp (maxDischargeDepth := 9) only [↓gB, gV, gT, reduceIte, reduceCtorEq, Nat.reduceEqDiff, Nat.reduceAdd, Nat.reduceSub, Nat.reduceLeDiff, Nat.reduceLT, Int.reduceEq, Nat.reduceMul]
  refine Yn2 fun r1 h1 => ?_
  simp (maxDischargeDepth := 9) only [↓gB, gV, gT, reduceIte, reduceCtorEq, Nat.reduceEqDiff, Nat.reduceAdd, Nat.reduceSub, Nat.reduceLeDiff, Nat.reduceLT, Int.reduceEq, Nat.reduceMul, h1]
  refine Yn2 fun r2 h2 => ?_
  have n2 := h2
  simp only [put_none_eq, ne_eq] at n2
  simp (maxDischargeDepth := 9) only [↓gB, gV, gT, reduceIte, reduceCtorEq, Nat.reduceEqDiff, Nat.reduceAdd, Nat.reduceSub, Nat.reduceLeDiff, Nat.reduceLT, Int.reduceEq, Nat.reduceMul, h1, h2, n2]
  refine Xdraw_intro [0, 1, 2, 3, 5, 6, 7, 8, 4, 9, 10, 11, 12] mixed (by kernel_rfl) (by decide +kernel) ?_
  simp (maxDischargeDepth := 9) only [↓gB, gV, gT, reduceIte, reduceCtorEq, Nat.reduceEqDiff, Nat.reduceAdd, Nat.reduceSub, Nat.reduceLeDiff, Nat.reduceLT, Int.reduceEq, Nat.reduceMul, h1, h2, n2]
  refine Ycp (p125) ?_
  simp (maxDischargeDepth := 9) only [↓gB, gV, gT, reduceIte, reduceCtorEq, Nat.reduceEqDiff, Nat.reduceAdd, Nat.reduceSub, Nat.reduceLeDiff, Nat.reduceLT, Int.reduceEq, Nat.reduceMul, h1, h2, n2]
  refine Ycp (p125) ?_
  simp (maxDischargeDepth := 9) only [↓gB, gV, gT, reduceIte, reduceCtorEq, Nat.reduceEqDiff, Nat.reduceAdd, Nat.reduceSub, Nat.reduceLeDiff, Nat.reduceLT, Int.reduceEq, Nat.reduceMul, h1, h2, n2]
  refine Yn1 fun r3 h3 => ?_
  have n3 := h3
  simp only [put_none_eq, ne_eq] at n3
  have n30 := h3
  simp only [put_none_eq, ne_eq, @eq_comm Nat r3] at n30
  simp (maxDischargeDepth := 9) only [↓gB, gV, gT, reduceIte, reduceCtorEq, Nat.reduceEqDiff, Nat.reduceAdd, Nat.reduceSub, Nat.reduceLeDiff, Nat.reduceLT, Int.reduceEq, Nat.reduceMul, h1, h2, n2, h3, n3, n30]
  refine Ycp (p129 (by exact put_self _ _ _)) ?_
  simp (maxDischargeDepth := 9) only [↓gB, gV, gT, reduceIte, reduceCtorEq, Nat.reduceEqDiff, Nat.reduceAdd, Nat.reduceSub, Nat.reduceLeDiff, Nat.reduceLT, Int.reduceEq, Nat.reduceMul, h1, h2, n2, h3, n3, n30]
  exact Kup_val (by simp (maxDischargeDepth := 9) only [le_self, le_puts, le_put0, h1, h2, n2, h3, n3, n30]) rfl
theorem p124 {G0 : GH} {x : SNode} {k : ByteArray}  : Pure Tryd.prog G0 124 [.agg #[.string x.Key, V x.X, V x.Y], .string k] (V (sCmp x.Key k)) := by
  intro G hG
  clear hG G0
  refine enter Tryd.func124 9 #[.tmp 4] rfl Tryd.ntmps124 rfl (by decide +kernel) rfl ?_
  simp (maxDischargeDepth := 9) only [↓gB, gV, gT, reduceIte, reduceCtorEq, Nat.reduceEqDiff, Nat.reduceAdd, Nat.reduceSub, Nat.reduceLeDiff, Nat.reduceLT, Int.reduceEq, Nat.reduceMul]
  refine Yn2 fun r1 h1 => ?_
  simp (maxDischargeDepth := 9) only [↓gB, gV, gT, reduceIte, reduceCtorEq, Nat.reduceEqDiff, Nat.reduceAdd, Nat.reduceSub, Nat.reduceLeDiff, Nat.reduceLT, Int.reduceEq, Nat.reduceMul, h1]
  refine Ycp (p125) ?_
  simp (maxDischargeDepth := 9) only [↓gB, gV, gT, reduceIte, reduceCtorEq, Nat.reduceEqDiff, Nat.reduceAdd, Nat.reduceSub, Nat.reduceLeDiff, Nat.reduceLT, Int.reduceEq, Nat.reduceMul, h1]
  exact Kup_val (by simp (maxDischargeDepth := 9) only [le_self, le_puts, le_put0, h1]) rfl
theorem p128 {G0 : GH} {x : SArc} {k : ByteArray} {a : Option Addr} {n c : Nat}  : Pure Tryd.prog G0 128 [.agg #[.string x.Key, .string x.From, .string x.To, V x.Long, .slice a n c], .string k] (V (sCmp x.Key k)) := by
  intro G hG
  clear hG G0
  refine enter Tryd.func128 9 #[.tmp 4] rfl Tryd.ntmps128 rfl (by decide +kernel) rfl ?_
  simp (maxDischargeDepth := 9) only [↓gB, gV, gT, reduceIte, reduceCtorEq, Nat.reduceEqDiff, Nat.reduceAdd, Nat.reduceSub, Nat.reduceLeDiff, Nat.reduceLT, Int.reduceEq, Nat.reduceMul]
  refine Yn2 fun r1 h1 => ?_
  simp (maxDischargeDepth := 9) only [↓gB, gV, gT, reduceIte, reduceCtorEq, Nat.reduceEqDiff, Nat.reduceAdd, Nat.reduceSub, Nat.reduceLeDiff, Nat.reduceLT, Int.reduceEq, Nat.reduceMul, h1]
  refine Ycp (p125) ?_
  simp (maxDischargeDepth := 9) only [↓gB, gV, gT, reduceIte, reduceCtorEq, Nat.reduceEqDiff, Nat.reduceAdd, Nat.reduceSub, Nat.reduceLeDiff, Nat.reduceLT, Int.reduceEq, Nat.reduceMul, h1]
  exact Kup_val (by simp (maxDischargeDepth := 9) only [le_self, le_puts, le_put0, h1]) rfl
theorem p131 {G0 : GH} {x : SNode} {k : ByteArray} {r : Nat} (hr : G0 r = some (.cells [.string k].toArray 9 (0, 0), true)) : Pure Tryd.prog G0 131 [.agg #[.string x.Key, V x.X, V x.Y], .pointer (some ⟨r, 0, none⟩)] (.bool (decide (x.Key = k))) := by
  intro G hG; replace hr := hG _ _ hr
  clear hG G0
  refine enter Tryd.func131 8 #[.tmp 3] rfl Tryd.ntmps131 rfl (by decide +kernel) rfl ?_
  have kr := kn_of hr
  simp (maxDischargeDepth := 9) only [↓gB, gV, gT, reduceIte, reduceCtorEq, Nat.reduceEqDiff, Nat.reduceAdd, Nat.reduceSub, Nat.reduceLeDiff, Nat.reduceLT, Int.reduceEq, Nat.reduceMul, hr, kr]
  refine Yn2 fun r1 h1 => ?_
  simp (maxDischargeDepth := 9) only [↓gB, gV, gT, reduceIte, reduceCtorEq, Nat.reduceEqDiff, Nat.reduceAdd, Nat.reduceSub, Nat.reduceLeDiff, Nat.reduceLT, Int.reduceEq, Nat.reduceMul, hr, kr, h1]
  exact Kup_val (by simp (maxDischargeDepth := 9) only [le_self, le_puts, le_put0, h1]) rfl
theorem p160 {G0 : GH} {x : SArc} {k : ByteArray} {a : Option Addr} {n c : Nat} {r : Nat} (hr : G0 r = some (.cells [.string k].toArray 9 (0, 0), true)) : Pure Tryd.prog G0 160 [.agg #[.string x.Key, .string x.From, .string x.To, V x.Long, .slice a n c], .pointer (some ⟨r, 0, none⟩)] (.bool (decide (x.Key = k))) := by
  intro G hG; replace hr := hG _ _ hr
  clear hG G0
  refine enter Tryd.func160 8 #[.tmp 3] rfl Tryd.ntmps160 rfl (by decide +kernel) rfl ?_
  have kr := kn_of hr
  simp (maxDischargeDepth := 9) only [↓gB, gV, gT, reduceIte, reduceCtorEq, Nat.reduceEqDiff, Nat.reduceAdd, Nat.reduceSub, Nat.reduceLeDiff, Nat.reduceLT, Int.reduceEq, Nat.reduceMul, hr, kr]
  refine Yn2 fun r1 h1 => ?_
  simp (maxDischargeDepth := 9) only [↓gB, gV, gT, reduceIte, reduceCtorEq, Nat.reduceEqDiff, Nat.reduceAdd, Nat.reduceSub, Nat.reduceLeDiff, Nat.reduceLT, Int.reduceEq, Nat.reduceMul, hr, kr, h1]
  exact Kup_val (by simp (maxDischargeDepth := 9) only [le_self, le_puts, le_put0, h1]) rfl
theorem p136 {G0 : GH} {k : SKnot} {t : Int}  : Pure Tryd.prog G0 136 [.agg #[V k.At, V k.Time], V t] (V (cmp3 k.At t)) := by
  intro G hG
  clear hG G0
  refine enter Tryd.func136 9 #[.tmp 4] rfl Tryd.ntmps136 rfl (by decide +kernel) rfl ?_
  simp (maxDischargeDepth := 9) only [↓gB, gV, gT, reduceIte, reduceCtorEq, Nat.reduceEqDiff, Nat.reduceAdd, Nat.reduceSub, Nat.reduceLeDiff, Nat.reduceLT, Int.reduceEq, Nat.reduceMul]
  refine Yn2 fun r1 h1 => ?_
  simp (maxDischargeDepth := 9) only [↓gB, gV, gT, reduceIte, reduceCtorEq, Nat.reduceEqDiff, Nat.reduceAdd, Nat.reduceSub, Nat.reduceLeDiff, Nat.reduceLT, Int.reduceEq, Nat.reduceMul, h1]
  refine Ycp (p64) ?_
  simp (maxDischargeDepth := 9) only [↓gB, gV, gT, reduceIte, reduceCtorEq, Nat.reduceEqDiff, Nat.reduceAdd, Nat.reduceSub, Nat.reduceLeDiff, Nat.reduceLT, Int.reduceEq, Nat.reduceMul, h1]
  exact Kup_val (by simp (maxDischargeDepth := 9) only [le_self, le_puts, le_put0, h1]) rfl
end Go.Proofs.YtnlbapfbdabjaaaDoor
namespace Go.Proofs.YtnlbapfbdabjaaaDoor
open Go Go.GL
attribute [local irreducible] Ycall GCalls
set_option maxRecDepth 10000
set_option maxHeartbeats 0
theorem p123 {G0 : GH} {v : Value} {ky : ByteArray} {l : List SNode} {cf : SNode → Int} {g : Nat} (hv : RSl rNode G0 v l) (hg : GL.Enters Tryd.prog g) (hn : (l.length : Int) ≤ 4611686018427387903) (hmono : ∀ (i j : Nat) x y, i < j → l[i]? = some x → l[j]? = some y → cf y < 0 → cf x < 0) (hf : ∀ (G0' : GH), G0.le G0' → ∀ x cs, (rNode).R G0' x cs → Pure Tryd.prog G0' g [.agg cs.toArray, .string ky] (V (cf x))) : Pure Tryd.prog G0 123 [v, .string ky, .func (.func g) #[] #[]] (.tuple #[V (bsPos cf l), .bool (bsHas cf l)]) := by
  intro G hG; replace hv := hv.le hG; replace hf := fun (G' : GH) (h : G.le G') => hf G' (hG.trans h)
  clear hG G0
  refine enter Tryd.func123 49 #[.tmp 6, .tmp 7] rfl Tryd.ntmps123 rfl (by decide +kernel) rfl ?_
  obtain ⟨a, c, rfl⟩ := hv.val
  have hg' := eq_true hg
  simp (maxDischargeDepth := 9) only [↓gB, gV, gT, reduceIte, reduceCtorEq, Nat.reduceEqDiff, Nat.reduceAdd, Nat.reduceSub, Nat.reduceLeDiff, Nat.reduceLT, Int.reduceEq, Nat.reduceMul]
  focus
    refine Xloop_intro _ _ _ _ _ (fun k f G' => ∃ (i : Nat) (j : Nat), k = j - i ∧ (i ≤ j) ∧ (j ≤ l.length) ∧ (∀ (k : Nat) x, k < i → l[k]? = some x → cf x < 0) ∧ (∀ (k : Nat) x, j ≤ k → l[k]? = some x → ¬ cf x < 0) ∧ (G = G') ∧ f 9 = V i ∧ f 10 = V j ∧ f 0 = Go.Value.slice a l.length c ∧ f 1 = Go.Value.string ky ∧ f 2 = Go.Value.func (Go.Fn.func g) #[] #[] ∧ f 8 = Go.Value.int Go.IntKind.i64 ↑l.length) _ ⟨0, l.length, rfl, ?_, ?_, ?_, ?_, rfl, by simp (maxDischargeDepth := 9) only [↓gB, gV, gT, reduceIte, reduceCtorEq, Nat.reduceEqDiff, Nat.reduceAdd, Nat.reduceSub, Nat.reduceLeDiff, Nat.reduceLT, Int.reduceEq, Nat.reduceMul, and_self]⟩ ?_
    · omega
    · omega
    · omega
    · (intro k x hk hx; rw [List.getElem?_eq_none hk] at hx; cases hx; done)
    rintro k f G' ⟨i, j, rfl, hij, hj, hb1, hb2, rfl, f9, f10, f0, f1, f2, f8⟩
  have hm := @mid_eq i j (by omega)
  simp (maxDischargeDepth := 9) only [↓gB, gV, gT, reduceIte, reduceCtorEq, Nat.reduceEqDiff, Nat.reduceAdd, Nat.reduceSub, Nat.reduceLeDiff, Nat.reduceLT, Int.reduceEq, Nat.reduceMul, f9, f10, f0, f1, f2, f8, hm]
  refine Xc_split _ _ _ _ _ (fun c1 => ?_) (fun c1 => ?_)
  · simp (maxDischargeDepth := 9) only [↓gB, gV, gT, reduceIte, reduceCtorEq, Nat.reduceEqDiff, Nat.reduceAdd, Nat.reduceSub, Nat.reduceLeDiff, Nat.reduceLT, Int.reduceEq, Nat.reduceMul, f9, f10, f0, f1, f2, f8, hm, c1, hg']
    refine vguard_intro (by omega) ?_
    obtain ⟨x1, a1, s1, m1, rfl, rfl, e1⟩ := hv.at ((i + j) / 2) (by omega) 3 rfl
    simp (maxDischargeDepth := 9) only [↓gB, gV, gT, reduceIte, reduceCtorEq, Nat.reduceEqDiff, Nat.reduceAdd, Nat.reduceSub, Nat.reduceLeDiff, Nat.reduceLT, Int.reduceEq, Nat.reduceMul, f9, f10, f1, f2, f8, hm, c1, f0, e1, hg']
    refine vguard_intro (by omega) ?_
    refine Ycp (hf _ (le_refl _) x1 _ rfl) ?_
    focus
      simp (maxDischargeDepth := 9) only [↓gB, gV, gT, reduceIte, reduceCtorEq, Nat.reduceEqDiff, Nat.reduceAdd, Nat.reduceSub, Nat.reduceLeDiff, Nat.reduceLT, Int.reduceEq, Nat.reduceMul, f9, f10, f1, f2, f8, hm, c1, f0, e1, hg']
      refine Xc_split _ _ _ _ _ (fun c2 => ?_) (fun c2 => ?_)
      rotate_left 1
      focus
        simp (maxDischargeDepth := 9) only [↓gB, gV, gT, reduceIte, reduceCtorEq, Nat.reduceEqDiff, Nat.reduceAdd, Nat.reduceSub, Nat.reduceLeDiff, Nat.reduceLT, Int.reduceEq, Nat.reduceMul, f9, f10, f1, f2, f8, hm, c1, f0, e1, c2, hg']
        have q1 : Go.IntKind.i64.wrap (↑i + ↑j) = ↑i + ↑j := wrap_id (by omega)
        simp (maxDischargeDepth := 9) only [↓gB, gV, gT, reduceIte, reduceCtorEq, Nat.reduceEqDiff, Nat.reduceAdd, Nat.reduceSub, Nat.reduceLeDiff, Nat.reduceLT, Int.reduceEq, Nat.reduceMul, f9, f10, f1, f2, f8, hm, c1, f0, e1, c2, q1, hg']
        rw [N_lp]
        refine ⟨_, ?_, _, ?_, i, (i + j) / 2, rfl, ?_, ?_, ?_, ?_, rfl, by simp (maxDischargeDepth := 9) only [↓gB, gV, gT, reduceIte, reduceCtorEq, Nat.reduceEqDiff, Nat.reduceAdd, Nat.reduceSub, Nat.reduceLeDiff, Nat.reduceLT, Int.reduceEq, Nat.reduceMul, f9, f10, f1, f2, f8, hm, c1, f0, e1, c2, q1, hg', nat_succ, and_self]⟩
        · omega
        · exact sub_refl _
        · omega
        · omega
        · assumption
        · (intro k x hk hx hlt; by_cases e : k = (i + j) / 2; (subst e; rw [m1] at hx; cases hx; exact c2 hlt); exact c2 (hmono ((i + j) / 2) k x1 x (by omega) m1 hx hlt); done)
      rotate_right 1
      simp (maxDischargeDepth := 9) only [↓gB, gV, gT, reduceIte, reduceCtorEq, Nat.reduceEqDiff, Nat.reduceAdd, Nat.reduceSub, Nat.reduceLeDiff, Nat.reduceLT, Int.reduceEq, Nat.reduceMul, f9, f10, f1, f2, f8, hm, c1, f0, e1, c2, hg']
      have q1 : Go.IntKind.i64.wrap (↑i + ↑j) = ↑i + ↑j := wrap_id (by omega)
      simp (maxDischargeDepth := 9) only [↓gB, gV, gT, reduceIte, reduceCtorEq, Nat.reduceEqDiff, Nat.reduceAdd, Nat.reduceSub, Nat.reduceLeDiff, Nat.reduceLT, Int.reduceEq, Nat.reduceMul, f9, f10, f1, f2, f8, hm, c1, f0, e1, c2, q1, hg']
      have q2 : Go.IntKind.i64.wrap (↑((i + j) / 2) + 1) = ↑((i + j) / 2) + 1 := wrap_id (by omega)
      simp (maxDischargeDepth := 9) only [↓gB, gV, gT, reduceIte, reduceCtorEq, Nat.reduceEqDiff, Nat.reduceAdd, Nat.reduceSub, Nat.reduceLeDiff, Nat.reduceLT, Int.reduceEq, Nat.reduceMul, f9, f10, f1, f2, f8, hm, c1, f0, e1, c2, q1, q2, hg']
      rw [N_lp]
      refine ⟨_, ?_, _, ?_, (i + j) / 2 + 1, j, rfl, ?_, ?_, ?_, ?_, rfl, by simp (maxDischargeDepth := 9) only [↓gB, gV, gT, reduceIte, reduceCtorEq, Nat.reduceEqDiff, Nat.reduceAdd, Nat.reduceSub, Nat.reduceLeDiff, Nat.reduceLT, Int.reduceEq, Nat.reduceMul, f9, f10, f1, f2, f8, hm, c1, f0, e1, c2, q1, q2, hg', nat_succ, and_self]⟩
      · omega
      · exact sub_refl _
      · omega
      · assumption
      · (intro k x hk hx; by_cases e : k = (i + j) / 2; (subst e; rw [m1] at hx; cases hx; exact c2); exact hmono k ((i + j) / 2) x x1 (by omega) hx m1 c2; done)
      · assumption
  · have hp : bsPos cf l = i := bsPos_at (by omega) hb1 (fun k x hk => hb2 k x (by omega))
    simp (maxDischargeDepth := 9) only [↓gB, gV, gT, reduceIte, reduceCtorEq, Nat.reduceEqDiff, Nat.reduceAdd, Nat.reduceSub, Nat.reduceLeDiff, Nat.reduceLT, Int.reduceEq, Nat.reduceMul, f9, f10, f0, f1, f2, f8, hm, c1, hg']
    by_cases c2 : (i : Int) < l.length
    · simp (maxDischargeDepth := 9) only [↓gB, gV, gT, reduceIte, reduceCtorEq, Nat.reduceEqDiff, Nat.reduceAdd, Nat.reduceSub, Nat.reduceLeDiff, Nat.reduceLT, Int.reduceEq, Nat.reduceMul, f9, f10, f0, f1, f2, f8, hm, c1, c2, hg']
      obtain ⟨x1, a1, s1, m1, rfl, rfl, e1⟩ := hv.at (i) (by omega) 3 rfl
      simp (maxDischargeDepth := 9) only [↓gB, gV, gT, reduceIte, reduceCtorEq, Nat.reduceEqDiff, Nat.reduceAdd, Nat.reduceSub, Nat.reduceLeDiff, Nat.reduceLT, Int.reduceEq, Nat.reduceMul, f9, f10, f1, f2, f8, hm, c1, c2, f0, e1, hg']
      refine vguard_intro (by simp) ?_
      refine Ycp (hf _ (le_refl _) x1 _ rfl) ?_
      simp (maxDischargeDepth := 9) only [↓gB, gV, gT, reduceIte, reduceCtorEq, Nat.reduceEqDiff, Nat.reduceAdd, Nat.reduceSub, Nat.reduceLeDiff, Nat.reduceLT, Int.reduceEq, Nat.reduceMul, f9, f10, f1, f2, f8, hm, c1, c2, f0, e1]
      refine Kup_val (le_refl _) ?_
      focus (simp [hp, bsHas, m1]; done)
    · have hnone : l[i]? = none := List.getElem?_eq_none (by omega)
      simp (maxDischargeDepth := 9) only [↓gB, gV, gT, reduceIte, reduceCtorEq, Nat.reduceEqDiff, Nat.reduceAdd, Nat.reduceSub, Nat.reduceLeDiff, Nat.reduceLT, Int.reduceEq, Nat.reduceMul, f9, f10, f0, f1, f2, f8, hm, c1, c2, hg']
      refine Kup_val (le_refl _) ?_
      focus (simp [hp, bsHas, hnone]; done)
theorem p127 {G0 : GH} {v : Value} {ky : ByteArray} {l : List SArc} {cf : SArc → Int} {g : Nat} (hv : RSl rArc G0 v l) (hg : GL.Enters Tryd.prog g) (hn : (l.length : Int) ≤ 4611686018427387903) (hmono : ∀ (i j : Nat) x y, i < j → l[i]? = some x → l[j]? = some y → cf y < 0 → cf x < 0) (hf : ∀ (G0' : GH), G0.le G0' → ∀ x cs, (rArc).R G0' x cs → Pure Tryd.prog G0' g [.agg cs.toArray, .string ky] (V (cf x))) : Pure Tryd.prog G0 127 [v, .string ky, .func (.func g) #[] #[]] (.tuple #[V (bsPos cf l), .bool (bsHas cf l)]) := by
  intro G hG; replace hv := hv.le hG; replace hf := fun (G' : GH) (h : G.le G') => hf G' (hG.trans h)
  clear hG G0
  refine enter Tryd.func127 49 #[.tmp 6, .tmp 7] rfl Tryd.ntmps127 rfl (by decide +kernel) rfl ?_
  obtain ⟨a, c, rfl⟩ := hv.val
  have hg' := eq_true hg
  simp (maxDischargeDepth := 9) only [↓gB, gV, gT, reduceIte, reduceCtorEq, Nat.reduceEqDiff, Nat.reduceAdd, Nat.reduceSub, Nat.reduceLeDiff, Nat.reduceLT, Int.reduceEq, Nat.reduceMul]
  focus
    refine Xloop_intro _ _ _ _ _ (fun k f G' => ∃ (i : Nat) (j : Nat), k = j - i ∧ (i ≤ j) ∧ (j ≤ l.length) ∧ (∀ (k : Nat) x, k < i → l[k]? = some x → cf x < 0) ∧ (∀ (k : Nat) x, j ≤ k → l[k]? = some x → ¬ cf x < 0) ∧ (G = G') ∧ f 9 = V i ∧ f 10 = V j ∧ f 0 = Go.Value.slice a l.length c ∧ f 1 = Go.Value.string ky ∧ f 2 = Go.Value.func (Go.Fn.func g) #[] #[] ∧ f 8 = Go.Value.int Go.IntKind.i64 ↑l.length) _ ⟨0, l.length, rfl, ?_, ?_, ?_, ?_, rfl, by simp (maxDischargeDepth := 9) only [↓gB, gV, gT, reduceIte, reduceCtorEq, Nat.reduceEqDiff, Nat.reduceAdd, Nat.reduceSub, Nat.reduceLeDiff, Nat.reduceLT, Int.reduceEq, Nat.reduceMul, and_self]⟩ ?_
    · omega
    · omega
    · omega
    · (intro k x hk hx; rw [List.getElem?_eq_none hk] at hx; cases hx; done)
    rintro k f G' ⟨i, j, rfl, hij, hj, hb1, hb2, rfl, f9, f10, f0, f1, f2, f8⟩
  have hm := @mid_eq i j (by omega)
  simp (maxDischargeDepth := 9) only [↓gB, gV, gT, reduceIte, reduceCtorEq, Nat.reduceEqDiff, Nat.reduceAdd, Nat.reduceSub, Nat.reduceLeDiff, Nat.reduceLT, Int.reduceEq, Nat.reduceMul, f9, f10, f0, f1, f2, f8, hm]
  refine Xc_split _ _ _ _ _ (fun c1 => ?_) (fun c1 => ?_)
  · simp (maxDischargeDepth := 9) only [↓gB, gV, gT, reduceIte, reduceCtorEq, Nat.reduceEqDiff, Nat.reduceAdd, Nat.reduceSub, Nat.reduceLeDiff, Nat.reduceLT, Int.reduceEq, Nat.reduceMul, f9, f10, f0, f1, f2, f8, hm, c1, hg']
    refine vguard_intro (by omega) ?_
    obtain ⟨x1, a1, s1, m1, rfl, ⟨v1, rfl, w1⟩, e1⟩ := hv.at ((i + j) / 2) (by omega) 5 rfl
    obtain ⟨aw1, cw1, rfl⟩ := RSl.val w1
    simp (maxDischargeDepth := 9) only [↓gB, gV, gT, reduceIte, reduceCtorEq, Nat.reduceEqDiff, Nat.reduceAdd, Nat.reduceSub, Nat.reduceLeDiff, Nat.reduceLT, Int.reduceEq, Nat.reduceMul, f9, f10, f1, f2, f8, hm, c1, f0, e1, hg']
    refine vguard_intro (by omega) ?_
    refine Ycp (hf _ (le_refl _) x1 _ ⟨_, rfl, w1⟩) ?_
    focus
      simp (maxDischargeDepth := 9) only [↓gB, gV, gT, reduceIte, reduceCtorEq, Nat.reduceEqDiff, Nat.reduceAdd, Nat.reduceSub, Nat.reduceLeDiff, Nat.reduceLT, Int.reduceEq, Nat.reduceMul, f9, f10, f1, f2, f8, hm, c1, f0, e1, hg']
      refine Xc_split _ _ _ _ _ (fun c2 => ?_) (fun c2 => ?_)
      rotate_left 1
      focus
        simp (maxDischargeDepth := 9) only [↓gB, gV, gT, reduceIte, reduceCtorEq, Nat.reduceEqDiff, Nat.reduceAdd, Nat.reduceSub, Nat.reduceLeDiff, Nat.reduceLT, Int.reduceEq, Nat.reduceMul, f9, f10, f1, f2, f8, hm, c1, f0, e1, c2, hg']
        have q1 : Go.IntKind.i64.wrap (↑i + ↑j) = ↑i + ↑j := wrap_id (by omega)
        simp (maxDischargeDepth := 9) only [↓gB, gV, gT, reduceIte, reduceCtorEq, Nat.reduceEqDiff, Nat.reduceAdd, Nat.reduceSub, Nat.reduceLeDiff, Nat.reduceLT, Int.reduceEq, Nat.reduceMul, f9, f10, f1, f2, f8, hm, c1, f0, e1, c2, q1, hg']
        rw [N_lp]
        refine ⟨_, ?_, _, ?_, i, (i + j) / 2, rfl, ?_, ?_, ?_, ?_, rfl, by simp (maxDischargeDepth := 9) only [↓gB, gV, gT, reduceIte, reduceCtorEq, Nat.reduceEqDiff, Nat.reduceAdd, Nat.reduceSub, Nat.reduceLeDiff, Nat.reduceLT, Int.reduceEq, Nat.reduceMul, f9, f10, f1, f2, f8, hm, c1, f0, e1, c2, q1, hg', nat_succ, and_self]⟩
        · omega
        · exact sub_refl _
        · omega
        · omega
        · assumption
        · (intro k x hk hx hlt; by_cases e : k = (i + j) / 2; (subst e; rw [m1] at hx; cases hx; exact c2 hlt); exact c2 (hmono ((i + j) / 2) k x1 x (by omega) m1 hx hlt); done)
      rotate_right 1
      simp (maxDischargeDepth := 9) only [↓gB, gV, gT, reduceIte, reduceCtorEq, Nat.reduceEqDiff, Nat.reduceAdd, Nat.reduceSub, Nat.reduceLeDiff, Nat.reduceLT, Int.reduceEq, Nat.reduceMul, f9, f10, f1, f2, f8, hm, c1, f0, e1, c2, hg']
      have q1 : Go.IntKind.i64.wrap (↑i + ↑j) = ↑i + ↑j := wrap_id (by omega)
      simp (maxDischargeDepth := 9) only [↓gB, gV, gT, reduceIte, reduceCtorEq, Nat.reduceEqDiff, Nat.reduceAdd, Nat.reduceSub, Nat.reduceLeDiff, Nat.reduceLT, Int.reduceEq, Nat.reduceMul, f9, f10, f1, f2, f8, hm, c1, f0, e1, c2, q1, hg']
      have q2 : Go.IntKind.i64.wrap (↑((i + j) / 2) + 1) = ↑((i + j) / 2) + 1 := wrap_id (by omega)
      simp (maxDischargeDepth := 9) only [↓gB, gV, gT, reduceIte, reduceCtorEq, Nat.reduceEqDiff, Nat.reduceAdd, Nat.reduceSub, Nat.reduceLeDiff, Nat.reduceLT, Int.reduceEq, Nat.reduceMul, f9, f10, f1, f2, f8, hm, c1, f0, e1, c2, q1, q2, hg']
      rw [N_lp]
      refine ⟨_, ?_, _, ?_, (i + j) / 2 + 1, j, rfl, ?_, ?_, ?_, ?_, rfl, by simp (maxDischargeDepth := 9) only [↓gB, gV, gT, reduceIte, reduceCtorEq, Nat.reduceEqDiff, Nat.reduceAdd, Nat.reduceSub, Nat.reduceLeDiff, Nat.reduceLT, Int.reduceEq, Nat.reduceMul, f9, f10, f1, f2, f8, hm, c1, f0, e1, c2, q1, q2, hg', nat_succ, and_self]⟩
      · omega
      · exact sub_refl _
      · omega
      · assumption
      · (intro k x hk hx; by_cases e : k = (i + j) / 2; (subst e; rw [m1] at hx; cases hx; exact c2); exact hmono k ((i + j) / 2) x x1 (by omega) hx m1 c2; done)
      · assumption
  · have hp : bsPos cf l = i := bsPos_at (by omega) hb1 (fun k x hk => hb2 k x (by omega))
    simp (maxDischargeDepth := 9) only [↓gB, gV, gT, reduceIte, reduceCtorEq, Nat.reduceEqDiff, Nat.reduceAdd, Nat.reduceSub, Nat.reduceLeDiff, Nat.reduceLT, Int.reduceEq, Nat.reduceMul, f9, f10, f0, f1, f2, f8, hm, c1, hg']
    by_cases c2 : (i : Int) < l.length
    · simp (maxDischargeDepth := 9) only [↓gB, gV, gT, reduceIte, reduceCtorEq, Nat.reduceEqDiff, Nat.reduceAdd, Nat.reduceSub, Nat.reduceLeDiff, Nat.reduceLT, Int.reduceEq, Nat.reduceMul, f9, f10, f0, f1, f2, f8, hm, c1, c2, hg']
      obtain ⟨x1, a1, s1, m1, rfl, ⟨v1, rfl, w1⟩, e1⟩ := hv.at (i) (by omega) 5 rfl
      obtain ⟨aw1, cw1, rfl⟩ := RSl.val w1
      simp (maxDischargeDepth := 9) only [↓gB, gV, gT, reduceIte, reduceCtorEq, Nat.reduceEqDiff, Nat.reduceAdd, Nat.reduceSub, Nat.reduceLeDiff, Nat.reduceLT, Int.reduceEq, Nat.reduceMul, f9, f10, f1, f2, f8, hm, c1, c2, f0, e1, hg']
      refine vguard_intro (by simp) ?_
      refine Ycp (hf _ (le_refl _) x1 _ ⟨_, rfl, w1⟩) ?_
      simp (maxDischargeDepth := 9) only [↓gB, gV, gT, reduceIte, reduceCtorEq, Nat.reduceEqDiff, Nat.reduceAdd, Nat.reduceSub, Nat.reduceLeDiff, Nat.reduceLT, Int.reduceEq, Nat.reduceMul, f9, f10, f1, f2, f8, hm, c1, c2, f0, e1]
      refine Kup_val (le_refl _) ?_
      focus (simp [hp, bsHas, m1]; done)
    · have hnone : l[i]? = none := List.getElem?_eq_none (by omega)
      simp (maxDischargeDepth := 9) only [↓gB, gV, gT, reduceIte, reduceCtorEq, Nat.reduceEqDiff, Nat.reduceAdd, Nat.reduceSub, Nat.reduceLeDiff, Nat.reduceLT, Int.reduceEq, Nat.reduceMul, f9, f10, f0, f1, f2, f8, hm, c1, c2, hg']
      refine Kup_val (le_refl _) ?_
      focus (simp [hp, bsHas, hnone]; done)
theorem p135 {G0 : GH} {v : Value} {ky : Int} {l : List SKnot} {cf : SKnot → Int} {g : Nat} (hv : RSl rKnot G0 v l) (hg : GL.Enters Tryd.prog g) (hn : (l.length : Int) ≤ 4611686018427387903) (hmono : ∀ (i j : Nat) x y, i < j → l[i]? = some x → l[j]? = some y → cf y < 0 → cf x < 0) (hf : ∀ (G0' : GH), G0.le G0' → ∀ x cs, (rKnot).R G0' x cs → Pure Tryd.prog G0' g [.agg cs.toArray, V ky] (V (cf x))) : Pure Tryd.prog G0 135 [v, V ky, .func (.func g) #[] #[]] (.tuple #[V (bsPos cf l), .bool (bsHas cf l)]) := by
  intro G hG; replace hv := hv.le hG; replace hf := fun (G' : GH) (h : G.le G') => hf G' (hG.trans h)
  clear hG G0
  refine enter Tryd.func135 49 #[.tmp 6, .tmp 7] rfl Tryd.ntmps135 rfl (by decide +kernel) rfl ?_
  obtain ⟨a, c, rfl⟩ := hv.val
  have hg' := eq_true hg
  simp (maxDischargeDepth := 9) only [↓gB, gV, gT, reduceIte, reduceCtorEq, Nat.reduceEqDiff, Nat.reduceAdd, Nat.reduceSub, Nat.reduceLeDiff, Nat.reduceLT, Int.reduceEq, Nat.reduceMul]
  focus
    refine Xloop_intro _ _ _ _ _ (fun k f G' => ∃ (i : Nat) (j : Nat), k = j - i ∧ (i ≤ j) ∧ (j ≤ l.length) ∧ (∀ (k : Nat) x, k < i → l[k]? = some x → cf x < 0) ∧ (∀ (k : Nat) x, j ≤ k → l[k]? = some x → ¬ cf x < 0) ∧ (G = G') ∧ f 9 = V i ∧ f 10 = V j ∧ f 0 = Go.Value.slice a l.length c ∧ f 1 = Go.GL.V ky ∧ f 2 = Go.Value.func (Go.Fn.func g) #[] #[] ∧ f 8 = Go.Value.int Go.IntKind.i64 ↑l.length) _ ⟨0, l.length, rfl, ?_, ?_, ?_, ?_, rfl, by simp (maxDischargeDepth := 9) only [↓gB, gV, gT, reduceIte, reduceCtorEq, Nat.reduceEqDiff, Nat.reduceAdd, Nat.reduceSub, Nat.reduceLeDiff, Nat.reduceLT, Int.reduceEq, Nat.reduceMul, and_self]⟩ ?_
    · omega
    · omega
    · omega
    · (intro k x hk hx; rw [List.getElem?_eq_none hk] at hx; cases hx; done)
    rintro k f G' ⟨i, j, rfl, hij, hj, hb1, hb2, rfl, f9, f10, f0, f1, f2, f8⟩
  have hm := @mid_eq i j (by omega)
  simp (maxDischargeDepth := 9) only [↓gB, gV, gT, reduceIte, reduceCtorEq, Nat.reduceEqDiff, Nat.reduceAdd, Nat.reduceSub, Nat.reduceLeDiff, Nat.reduceLT, Int.reduceEq, Nat.reduceMul, f9, f10, f0, f1, f2, f8, hm]
  refine Xc_split _ _ _ _ _ (fun c1 => ?_) (fun c1 => ?_)
  · simp (maxDischargeDepth := 9) only [↓gB, gV, gT, reduceIte, reduceCtorEq, Nat.reduceEqDiff, Nat.reduceAdd, Nat.reduceSub, Nat.reduceLeDiff, Nat.reduceLT, Int.reduceEq, Nat.reduceMul, f9, f10, f0, f1, f2, f8, hm, c1, hg']
    refine vguard_intro (by omega) ?_
    obtain ⟨x1, a1, s1, m1, rfl, rfl, e1⟩ := hv.at ((i + j) / 2) (by omega) 2 rfl
    simp (maxDischargeDepth := 9) only [↓gB, gV, gT, reduceIte, reduceCtorEq, Nat.reduceEqDiff, Nat.reduceAdd, Nat.reduceSub, Nat.reduceLeDiff, Nat.reduceLT, Int.reduceEq, Nat.reduceMul, f9, f10, f1, f2, f8, hm, c1, f0, e1, hg']
    refine vguard_intro (by omega) ?_
    refine Ycp (hf _ (le_refl _) x1 _ rfl) ?_
    focus
      simp (maxDischargeDepth := 9) only [↓gB, gV, gT, reduceIte, reduceCtorEq, Nat.reduceEqDiff, Nat.reduceAdd, Nat.reduceSub, Nat.reduceLeDiff, Nat.reduceLT, Int.reduceEq, Nat.reduceMul, f9, f10, f1, f2, f8, hm, c1, f0, e1, hg']
      refine Xc_split _ _ _ _ _ (fun c2 => ?_) (fun c2 => ?_)
      rotate_left 1
      focus
        simp (maxDischargeDepth := 9) only [↓gB, gV, gT, reduceIte, reduceCtorEq, Nat.reduceEqDiff, Nat.reduceAdd, Nat.reduceSub, Nat.reduceLeDiff, Nat.reduceLT, Int.reduceEq, Nat.reduceMul, f9, f10, f1, f2, f8, hm, c1, f0, e1, c2, hg']
        have q1 : Go.IntKind.i64.wrap (↑i + ↑j) = ↑i + ↑j := wrap_id (by omega)
        simp (maxDischargeDepth := 9) only [↓gB, gV, gT, reduceIte, reduceCtorEq, Nat.reduceEqDiff, Nat.reduceAdd, Nat.reduceSub, Nat.reduceLeDiff, Nat.reduceLT, Int.reduceEq, Nat.reduceMul, f9, f10, f1, f2, f8, hm, c1, f0, e1, c2, q1, hg']
        rw [N_lp]
        refine ⟨_, ?_, _, ?_, i, (i + j) / 2, rfl, ?_, ?_, ?_, ?_, rfl, by simp (maxDischargeDepth := 9) only [↓gB, gV, gT, reduceIte, reduceCtorEq, Nat.reduceEqDiff, Nat.reduceAdd, Nat.reduceSub, Nat.reduceLeDiff, Nat.reduceLT, Int.reduceEq, Nat.reduceMul, f9, f10, f1, f2, f8, hm, c1, f0, e1, c2, q1, hg', nat_succ, and_self]⟩
        · omega
        · exact sub_refl _
        · omega
        · omega
        · assumption
        · (intro k x hk hx hlt; by_cases e : k = (i + j) / 2; (subst e; rw [m1] at hx; cases hx; exact c2 hlt); exact c2 (hmono ((i + j) / 2) k x1 x (by omega) m1 hx hlt); done)
      rotate_right 1
      simp (maxDischargeDepth := 9) only [↓gB, gV, gT, reduceIte, reduceCtorEq, Nat.reduceEqDiff, Nat.reduceAdd, Nat.reduceSub, Nat.reduceLeDiff, Nat.reduceLT, Int.reduceEq, Nat.reduceMul, f9, f10, f1, f2, f8, hm, c1, f0, e1, c2, hg']
      have q1 : Go.IntKind.i64.wrap (↑i + ↑j) = ↑i + ↑j := wrap_id (by omega)
      simp (maxDischargeDepth := 9) only [↓gB, gV, gT, reduceIte, reduceCtorEq, Nat.reduceEqDiff, Nat.reduceAdd, Nat.reduceSub, Nat.reduceLeDiff, Nat.reduceLT, Int.reduceEq, Nat.reduceMul, f9, f10, f1, f2, f8, hm, c1, f0, e1, c2, q1, hg']
      have q2 : Go.IntKind.i64.wrap (↑((i + j) / 2) + 1) = ↑((i + j) / 2) + 1 := wrap_id (by omega)
      simp (maxDischargeDepth := 9) only [↓gB, gV, gT, reduceIte, reduceCtorEq, Nat.reduceEqDiff, Nat.reduceAdd, Nat.reduceSub, Nat.reduceLeDiff, Nat.reduceLT, Int.reduceEq, Nat.reduceMul, f9, f10, f1, f2, f8, hm, c1, f0, e1, c2, q1, q2, hg']
      rw [N_lp]
      refine ⟨_, ?_, _, ?_, (i + j) / 2 + 1, j, rfl, ?_, ?_, ?_, ?_, rfl, by simp (maxDischargeDepth := 9) only [↓gB, gV, gT, reduceIte, reduceCtorEq, Nat.reduceEqDiff, Nat.reduceAdd, Nat.reduceSub, Nat.reduceLeDiff, Nat.reduceLT, Int.reduceEq, Nat.reduceMul, f9, f10, f1, f2, f8, hm, c1, f0, e1, c2, q1, q2, hg', nat_succ, and_self]⟩
      · omega
      · exact sub_refl _
      · omega
      · assumption
      · (intro k x hk hx; by_cases e : k = (i + j) / 2; (subst e; rw [m1] at hx; cases hx; exact c2); exact hmono k ((i + j) / 2) x x1 (by omega) hx m1 c2; done)
      · assumption
  · have hp : bsPos cf l = i := bsPos_at (by omega) hb1 (fun k x hk => hb2 k x (by omega))
    simp (maxDischargeDepth := 9) only [↓gB, gV, gT, reduceIte, reduceCtorEq, Nat.reduceEqDiff, Nat.reduceAdd, Nat.reduceSub, Nat.reduceLeDiff, Nat.reduceLT, Int.reduceEq, Nat.reduceMul, f9, f10, f0, f1, f2, f8, hm, c1, hg']
    by_cases c2 : (i : Int) < l.length
    · simp (maxDischargeDepth := 9) only [↓gB, gV, gT, reduceIte, reduceCtorEq, Nat.reduceEqDiff, Nat.reduceAdd, Nat.reduceSub, Nat.reduceLeDiff, Nat.reduceLT, Int.reduceEq, Nat.reduceMul, f9, f10, f0, f1, f2, f8, hm, c1, c2, hg']
      obtain ⟨x1, a1, s1, m1, rfl, rfl, e1⟩ := hv.at (i) (by omega) 2 rfl
      simp (maxDischargeDepth := 9) only [↓gB, gV, gT, reduceIte, reduceCtorEq, Nat.reduceEqDiff, Nat.reduceAdd, Nat.reduceSub, Nat.reduceLeDiff, Nat.reduceLT, Int.reduceEq, Nat.reduceMul, f9, f10, f1, f2, f8, hm, c1, c2, f0, e1, hg']
      refine vguard_intro (by simp) ?_
      refine Ycp (hf _ (le_refl _) x1 _ rfl) ?_
      simp (maxDischargeDepth := 9) only [↓gB, gV, gT, reduceIte, reduceCtorEq, Nat.reduceEqDiff, Nat.reduceAdd, Nat.reduceSub, Nat.reduceLeDiff, Nat.reduceLT, Int.reduceEq, Nat.reduceMul, f9, f10, f1, f2, f8, hm, c1, c2, f0, e1]
      refine Kup_val (le_refl _) ?_
      focus (simp [hp, bsHas, m1]; done)
    · have hnone : l[i]? = none := List.getElem?_eq_none (by omega)
      simp (maxDischargeDepth := 9) only [↓gB, gV, gT, reduceIte, reduceCtorEq, Nat.reduceEqDiff, Nat.reduceAdd, Nat.reduceSub, Nat.reduceLeDiff, Nat.reduceLT, Int.reduceEq, Nat.reduceMul, f9, f10, f0, f1, f2, f8, hm, c1, c2, hg']
      refine Kup_val (le_refl _) ?_
      focus (simp [hp, bsHas, hnone]; done)
theorem p130 {G0 : GH} {v : Value} {l : List SNode} {q : SNode → Bool} {g : Nat} {fa fb : List Value} (hv : RSl rNode G0 v l) (hg : GL.Enters Tryd.prog g) (hn : (l.length : Int) ≤ 9223372036854775807) (hf : ∀ (G0' : GH), G0.le G0' → ∀ x cs, (rNode).R G0' x cs → Pure Tryd.prog G0' g (fa ++ [.agg cs.toArray] ++ fb) (.bool (q x))) : Pure Tryd.prog G0 130 [v, .func (.func g) fa.toArray fb.toArray] (V (match l.findIdx? q with | some i => (i : Int) | none => -1)) := by
  intro G hG; replace hv := hv.le hG; replace hf := fun (G' : GH) (h : G.le G') => hf G' (hG.trans h)
  clear hG G0
  refine enter Tryd.func130 19 #[.tmp 4] rfl Tryd.ntmps130 rfl (by decide +kernel) rfl ?_
  obtain ⟨a, c, rfl⟩ := hv.val
  have hg' := eq_true hg
  simp (maxDischargeDepth := 9) only [↓gB, gV, gT, reduceIte, reduceCtorEq, Nat.reduceEqDiff, Nat.reduceAdd, Nat.reduceSub, Nat.reduceLeDiff, Nat.reduceLT, Int.reduceEq, Nat.reduceMul]
  focus
    refine Xloop_intro _ _ _ _ _ (fun k f G' => ∃ (i : Nat), k = l.length - i ∧ (i ≤ l.length) ∧ ((l.take i).findIdx? q = none) ∧ (G = G') ∧ f 8 = V i ∧ f 0 = Go.Value.slice a l.length c ∧ f 1 = Go.Value.func (Go.Fn.func g) fa.toArray fb.toArray ∧ f 7 = Go.Value.int Go.IntKind.i64 ↑l.length) _ ⟨0, rfl, ?_, ?_, rfl, by simp (maxDischargeDepth := 9) only [↓gB, gV, gT, reduceIte, reduceCtorEq, Nat.reduceEqDiff, Nat.reduceAdd, Nat.reduceSub, Nat.reduceLeDiff, Nat.reduceLT, Int.reduceEq, Nat.reduceMul, and_self]⟩ ?_
    · omega
    · rfl
    rintro k f G' ⟨i, rfl, hi, h, rfl, f8, f0, f1, f7⟩
  simp (maxDischargeDepth := 9) only [↓gB, gV, gT, reduceIte, reduceCtorEq, Nat.reduceEqDiff, Nat.reduceAdd, Nat.reduceSub, Nat.reduceLeDiff, Nat.reduceLT, Int.reduceEq, Nat.reduceMul, f8, f0, f1, f7]
  refine Xc_split _ _ _ _ _ (fun c1 => ?_) (fun c1 => ?_)
  · simp (maxDischargeDepth := 9) only [↓gB, gV, gT, reduceIte, reduceCtorEq, Nat.reduceEqDiff, Nat.reduceAdd, Nat.reduceSub, Nat.reduceLeDiff, Nat.reduceLT, Int.reduceEq, Nat.reduceMul, f8, f0, f1, f7, c1, hg']
    obtain ⟨x1, a1, s1, m1, rfl, rfl, e1⟩ := hv.at (i) (by omega) 3 rfl
    simp (maxDischargeDepth := 9) only [↓gB, gV, gT, reduceIte, reduceCtorEq, Nat.reduceEqDiff, Nat.reduceAdd, Nat.reduceSub, Nat.reduceLeDiff, Nat.reduceLT, Int.reduceEq, Nat.reduceMul, f8, f1, f7, c1, f0, e1, hg']
    refine vguard_intro (by simp) ?_
    refine Ycp (hf _ (le_refl _) x1 _ rfl) ?_
    cases hq : q x1
    · focus
        simp (maxDischargeDepth := 9) only [↓gB, gV, gT, reduceIte, reduceCtorEq, Nat.reduceEqDiff, Nat.reduceAdd, Nat.reduceSub, Nat.reduceLeDiff, Nat.reduceLT, Int.reduceEq, Nat.reduceMul, f8, f1, f7, c1, f0, e1, hq]
        have q1 : Go.IntKind.i64.wrap (↑i + 1) = ↑i + 1 := wrap_id (by omega)
        simp (maxDischargeDepth := 9) only [↓gB, gV, gT, reduceIte, reduceCtorEq, Nat.reduceEqDiff, Nat.reduceAdd, Nat.reduceSub, Nat.reduceLeDiff, Nat.reduceLT, Int.reduceEq, Nat.reduceMul, f8, f1, f7, c1, f0, e1, hq, q1]
        rw [N_lp]
        refine ⟨_, ?_, _, ?_, i + 1, rfl, ?_, ?_, rfl, by simp (maxDischargeDepth := 9) only [↓gB, gV, gT, reduceIte, reduceCtorEq, Nat.reduceEqDiff, Nat.reduceAdd, Nat.reduceSub, Nat.reduceLeDiff, Nat.reduceLT, Int.reduceEq, Nat.reduceMul, f8, f1, f7, c1, f0, e1, hq, q1, nat_succ, and_self]⟩
        · omega
        · exact sub_refl _
        · omega
        · ((rw [take_at m1, List.findIdx?_append, h]; simp [hq]); done)
    · have e := drop_at m1
      have e2 : l.findIdx? q = some i := by
        rw [← List.take_append_drop i l, List.findIdx?_append, h, e, List.findIdx?_cons, hq]; simp; omega
      simp (maxDischargeDepth := 9) only [↓gB, gV, gT, reduceIte, reduceCtorEq, Nat.reduceEqDiff, Nat.reduceAdd, Nat.reduceSub, Nat.reduceLeDiff, Nat.reduceLT, Int.reduceEq, Nat.reduceMul, f8, f1, f7, c1, f0, e1, hq]
      exact Kup_val (le_refl _) (by simp [*])
  · have e : l.findIdx? q = none := by rw [← List.take_of_length_le (l := l) (i := i) (by omega), h]
    simp (maxDischargeDepth := 9) only [↓gB, gV, gT, reduceIte, reduceCtorEq, Nat.reduceEqDiff, Nat.reduceAdd, Nat.reduceSub, Nat.reduceLeDiff, Nat.reduceLT, Int.reduceEq, Nat.reduceMul, f8, f0, f1, f7, c1]
    exact Kup_val (le_refl _) (by simp [*])
theorem p159 {G0 : GH} {v : Value} {l : List SArc} {q : SArc → Bool} {g : Nat} {fa fb : List Value} (hv : RSl rArc G0 v l) (hg : GL.Enters Tryd.prog g) (hn : (l.length : Int) ≤ 9223372036854775807) (hf : ∀ (G0' : GH), G0.le G0' → ∀ x cs, (rArc).R G0' x cs → Pure Tryd.prog G0' g (fa ++ [.agg cs.toArray] ++ fb) (.bool (q x))) : Pure Tryd.prog G0 159 [v, .func (.func g) fa.toArray fb.toArray] (V (match l.findIdx? q with | some i => (i : Int) | none => -1)) := by
  intro G hG; replace hv := hv.le hG; replace hf := fun (G' : GH) (h : G.le G') => hf G' (hG.trans h)
  clear hG G0
  refine enter Tryd.func159 19 #[.tmp 4] rfl Tryd.ntmps159 rfl (by decide +kernel) rfl ?_
  obtain ⟨a, c, rfl⟩ := hv.val
  have hg' := eq_true hg
  simp (maxDischargeDepth := 9) only [↓gB, gV, gT, reduceIte, reduceCtorEq, Nat.reduceEqDiff, Nat.reduceAdd, Nat.reduceSub, Nat.reduceLeDiff, Nat.reduceLT, Int.reduceEq, Nat.reduceMul]
  focus
    refine Xloop_intro _ _ _ _ _ (fun k f G' => ∃ (i : Nat), k = l.length - i ∧ (i ≤ l.length) ∧ ((l.take i).findIdx? q = none) ∧ (G = G') ∧ f 8 = V i ∧ f 0 = Go.Value.slice a l.length c ∧ f 1 = Go.Value.func (Go.Fn.func g) fa.toArray fb.toArray ∧ f 7 = Go.Value.int Go.IntKind.i64 ↑l.length) _ ⟨0, rfl, ?_, ?_, rfl, by simp (maxDischargeDepth := 9) only [↓gB, gV, gT, reduceIte, reduceCtorEq, Nat.reduceEqDiff, Nat.reduceAdd, Nat.reduceSub, Nat.reduceLeDiff, Nat.reduceLT, Int.reduceEq, Nat.reduceMul, and_self]⟩ ?_
    · omega
    · rfl
    rintro k f G' ⟨i, rfl, hi, h, rfl, f8, f0, f1, f7⟩
  simp (maxDischargeDepth := 9) only [↓gB, gV, gT, reduceIte, reduceCtorEq, Nat.reduceEqDiff, Nat.reduceAdd, Nat.reduceSub, Nat.reduceLeDiff, Nat.reduceLT, Int.reduceEq, Nat.reduceMul, f8, f0, f1, f7]
  refine Xc_split _ _ _ _ _ (fun c1 => ?_) (fun c1 => ?_)
  · simp (maxDischargeDepth := 9) only [↓gB, gV, gT, reduceIte, reduceCtorEq, Nat.reduceEqDiff, Nat.reduceAdd, Nat.reduceSub, Nat.reduceLeDiff, Nat.reduceLT, Int.reduceEq, Nat.reduceMul, f8, f0, f1, f7, c1, hg']
    obtain ⟨x1, a1, s1, m1, rfl, ⟨v1, rfl, w1⟩, e1⟩ := hv.at (i) (by omega) 5 rfl
    obtain ⟨aw1, cw1, rfl⟩ := RSl.val w1
    simp (maxDischargeDepth := 9) only [↓gB, gV, gT, reduceIte, reduceCtorEq, Nat.reduceEqDiff, Nat.reduceAdd, Nat.reduceSub, Nat.reduceLeDiff, Nat.reduceLT, Int.reduceEq, Nat.reduceMul, f8, f1, f7, c1, f0, e1, hg']
    refine vguard_intro (by simp) ?_
    refine Ycp (hf _ (le_refl _) x1 _ ⟨_, rfl, w1⟩) ?_
    cases hq : q x1
    · focus
        simp (maxDischargeDepth := 9) only [↓gB, gV, gT, reduceIte, reduceCtorEq, Nat.reduceEqDiff, Nat.reduceAdd, Nat.reduceSub, Nat.reduceLeDiff, Nat.reduceLT, Int.reduceEq, Nat.reduceMul, f8, f1, f7, c1, f0, e1, hq]
        have q1 : Go.IntKind.i64.wrap (↑i + 1) = ↑i + 1 := wrap_id (by omega)
        simp (maxDischargeDepth := 9) only [↓gB, gV, gT, reduceIte, reduceCtorEq, Nat.reduceEqDiff, Nat.reduceAdd, Nat.reduceSub, Nat.reduceLeDiff, Nat.reduceLT, Int.reduceEq, Nat.reduceMul, f8, f1, f7, c1, f0, e1, hq, q1]
        rw [N_lp]
        refine ⟨_, ?_, _, ?_, i + 1, rfl, ?_, ?_, rfl, by simp (maxDischargeDepth := 9) only [↓gB, gV, gT, reduceIte, reduceCtorEq, Nat.reduceEqDiff, Nat.reduceAdd, Nat.reduceSub, Nat.reduceLeDiff, Nat.reduceLT, Int.reduceEq, Nat.reduceMul, f8, f1, f7, c1, f0, e1, hq, q1, nat_succ, and_self]⟩
        · omega
        · exact sub_refl _
        · omega
        · ((rw [take_at m1, List.findIdx?_append, h]; simp [hq]); done)
    · have e := drop_at m1
      have e2 : l.findIdx? q = some i := by
        rw [← List.take_append_drop i l, List.findIdx?_append, h, e, List.findIdx?_cons, hq]; simp; omega
      simp (maxDischargeDepth := 9) only [↓gB, gV, gT, reduceIte, reduceCtorEq, Nat.reduceEqDiff, Nat.reduceAdd, Nat.reduceSub, Nat.reduceLeDiff, Nat.reduceLT, Int.reduceEq, Nat.reduceMul, f8, f1, f7, c1, f0, e1, hq]
      exact Kup_val (le_refl _) (by simp [*])
  · have e : l.findIdx? q = none := by rw [← List.take_of_length_le (l := l) (i := i) (by omega), h]
    simp (maxDischargeDepth := 9) only [↓gB, gV, gT, reduceIte, reduceCtorEq, Nat.reduceEqDiff, Nat.reduceAdd, Nat.reduceSub, Nat.reduceLeDiff, Nat.reduceLT, Int.reduceEq, Nat.reduceMul, f8, f0, f1, f7, c1]
    exact Kup_val (le_refl _) (by simp [*])
end Go.Proofs.YtnlbapfbdabjaaaDoor
namespace Go.Proofs.YtnlbapfbdabjaaaDoor
open Go Go.GL
attribute [local irreducible] Ycall GCalls
set_option maxRecDepth 10000
set_option maxHeartbeats 0
def keyAt {α : Type} (f : α → ByteArray) (l : List α) (k : ByteArray) : Int := match l.findIdx? (fun x => decide (f x = k)) with | some i => (i : Int) | none => -1
def rising {α : Type} (f : α → ByteArray) (l : List α) : Prop := l.Pairwise fun x y => sLt (f x) (f y) = true
theorem sCmp_trans {a b k : ByteArray} (h : sLt a b = true) (h2 : sCmp b k < 0) : sCmp a k < 0 := by rw [sCmp_lt] at *; exact sLt_trans h h2
theorem mono_key {α : Type} {f : α → ByteArray} {l : List α} (hs : rising f l) (k : ByteArray) : ∀ (i j : Nat) x y, i < j → l[i]? = some x → l[j]? = some y → sCmp (f y) k < 0 → sCmp (f x) k < 0 := by
  intro i j x y hij hx hy h
  obtain ⟨hi, rfl⟩ := List.getElem?_eq_some_iff.1 hx
  obtain ⟨hj, rfl⟩ := List.getElem?_eq_some_iff.1 hy
  exact sCmp_trans (List.pairwise_iff_getElem.1 hs i j hi hj hij) h
theorem keyAt_nil {α : Type} (f : α → ByteArray) (k : ByteArray) : keyAt f [] k = -1 := rfl
theorem keyAt_cons {α : Type} (f : α → ByteArray) (x : α) (l : List α) (k : ByteArray) : keyAt f (x :: l) k = if f x = k then 0 else if keyAt f l k = -1 then -1 else keyAt f l k + 1 := by
  unfold keyAt
  rw [List.findIdx?_cons]
  by_cases h : f x = k
  · simp [h]
  · simp only [h, decide_false, if_false]
    cases l.findIdx? (fun x => decide (f x = k)) with
    | none => simp
    | some i => simp; try omega
theorem keyAt_ge {α : Type} (f : α → ByteArray) (l : List α) (k : ByteArray) : -1 ≤ keyAt f l k := by unfold keyAt; split <;> omega
theorem keyAt_lt {α : Type} (f : α → ByteArray) (l : List α) (k : ByteArray) : keyAt f l k < l.length := by
  unfold keyAt; split
  · rename_i i h
    rw [List.findIdx?_eq_some_iff_getElem] at h
    obtain ⟨hi, _⟩ := h; omega
  · omega
theorem keyAt_get {α : Type} {f : α → ByteArray} {l : List α} {k : ByteArray} {i : Nat} (h : keyAt f l k = i) : ∃ x, l[i]? = some x ∧ f x = k := by
  unfold keyAt at h; split at h
  · rename_i j hj
    rw [List.findIdx?_eq_some_iff_getElem] at hj
    obtain ⟨hi, h1, _⟩ := hj
    obtain rfl : j = i := by omega
    exact ⟨l[j], List.getElem?_eq_getElem hi, by simpa using h1⟩
  · omega
theorem keyAt_none {α : Type} {f : α → ByteArray} {l : List α} {k : ByteArray} (h : ∀ x ∈ l, f x ≠ k) : keyAt f l k = -1 := by
  induction l with
  | nil => rfl
  | cons y l ih => rw [keyAt_cons, if_neg (h y (by simp)), ih (fun x hx => h x (by simp [hx]))]; rfl
theorem bs_key {α : Type} {f : α → ByteArray} : ∀ {l : List α} (hs : rising f l) (k : ByteArray), (if bsHas (fun x => sCmp (f x) k) l = true then (bsPos (fun x => sCmp (f x) k) l : Int) else -1) = keyAt f l k
  | [], _, k => by simp [bsHas, keyAt_nil]
  | x :: l, hs, k => by
    have hs2 : rising f l := (List.pairwise_cons.1 hs).2
    have hx := (List.pairwise_cons.1 hs).1
    have ih := bs_key hs2 k
    rw [keyAt_cons]
    by_cases h : sCmp (f x) k < 0
    · have hp : bsPos (fun x => sCmp (f x) k) (x :: l) = bsPos (fun x => sCmp (f x) k) l + 1 := by unfold bsPos; rw [List.takeWhile_cons_of_pos (by simpa using h)]; rfl
      have hh : bsHas (fun x => sCmp (f x) k) (x :: l) = bsHas (fun x => sCmp (f x) k) l := by unfold bsHas; rw [hp, List.getElem?_cons_succ]
      have hne : ¬ f x = k := by rw [← sCmp_eq]; omega
      rw [hp, hh, if_neg hne, ← ih]
      by_cases hb : bsHas (fun x => sCmp (f x) k) l = true
      · simp only [hb, if_true]; rw [if_neg (by omega)]; omega
      · simp only [hb]; simp
    · have hp : bsPos (fun x => sCmp (f x) k) (x :: l) = 0 := by unfold bsPos; rw [List.takeWhile_cons_of_neg (by simpa using h)]; rfl
      have hh : bsHas (fun x => sCmp (f x) k) (x :: l) = decide (sCmp (f x) k = 0) := by unfold bsHas; rw [hp]; rfl
      rw [hp, hh]
      by_cases he : f x = k
      · simp [he, (sCmp_eq k k).2 rfl]
      · have h0 : ¬ sCmp (f x) k = 0 := by rw [sCmp_eq]; exact he
        have hn : keyAt f l k = -1 := keyAt_none fun y hy e => by
          subst e
          exact h ((sCmp_lt _ _).2 (hx y hy))
        simp [he, h0, hn]
theorem p92 {G0 : GH} {v w u : Value} {l : List SNode} {k : ByteArray} {r : Nat} (hr : G0 r = some (.cells [v, w, u].toArray 84 (0, 0), true)) (hv : RSl rNode G0 v l) (hn : (l.length : Int) ≤ 4611686018427387903) (hs : rising SNode.Key l) : Pure Tryd.prog G0 92 [.pointer (some ⟨r, 0, none⟩), .string k] (V (keyAt SNode.Key l k)) := by
  intro G hG; replace hr := hG _ _ hr; replace hv := hv.le hG
  clear hG G0
  refine enter Tryd.func92 19 #[.tmp 4] rfl Tryd.ntmps92 rfl (by decide +kernel) rfl ?_
  obtain ⟨a, c, rfl⟩ := hv.val
  have e := bs_key hs k
  simp (maxDischargeDepth := 9) only [↓gB, gV, gT, reduceIte, reduceCtorEq, Nat.reduceEqDiff, Nat.reduceAdd, Nat.reduceSub, Nat.reduceLeDiff, Nat.reduceLT, Int.reduceEq, Nat.reduceMul, hr]
  refine Ycp (p123 (cf := fun x => sCmp x.Key k) hv (of_eq_true en124) hn (mono_key hs k) (fun G' _ x cs hx => by cases hx; exact p124)) ?_
  cases hb : bsHas (fun x : SNode => sCmp x.Key k) l
  · have e1 : keyAt SNode.Key l k = -1 := by rw [← e, hb]; rfl
    simp (maxDischargeDepth := 9) only [↓gB, gV, gT, reduceIte, reduceCtorEq, Nat.reduceEqDiff, Nat.reduceAdd, Nat.reduceSub, Nat.reduceLeDiff, Nat.reduceLT, Int.reduceEq, Nat.reduceMul, hr, hb, e1]
    exact Kup_val (le_refl _) rfl
  · have e1 : keyAt SNode.Key l k = (bsPos (fun x : SNode => sCmp x.Key k) l : Int) := by rw [← e, hb]; rfl
    simp (maxDischargeDepth := 9) only [↓gB, gV, gT, reduceIte, reduceCtorEq, Nat.reduceEqDiff, Nat.reduceAdd, Nat.reduceSub, Nat.reduceLeDiff, Nat.reduceLT, Int.reduceEq, Nat.reduceMul, hr, hb, e1]
    exact Kup_val (le_refl _) rfl
theorem p94 {G0 : GH} {v w u : Value} {l : List SArc} {k : ByteArray} {r : Nat} (hr : G0 r = some (.cells [v, w, u].toArray 84 (0, 0), true)) (hw : RSl rArc G0 w l) (hn : (l.length : Int) ≤ 4611686018427387903) (hs : rising SArc.Key l) : Pure Tryd.prog G0 94 [.pointer (some ⟨r, 0, none⟩), .string k] (V (keyAt SArc.Key l k)) := by
  intro G hG; replace hr := hG _ _ hr; replace hw := hw.le hG
  clear hG G0
  refine enter Tryd.func94 19 #[.tmp 4] rfl Tryd.ntmps94 rfl (by decide +kernel) rfl ?_
  obtain ⟨a, c, rfl⟩ := hw.val
  have e := bs_key hs k
  simp (maxDischargeDepth := 9) only [↓gB, gV, gT, reduceIte, reduceCtorEq, Nat.reduceEqDiff, Nat.reduceAdd, Nat.reduceSub, Nat.reduceLeDiff, Nat.reduceLT, Int.reduceEq, Nat.reduceMul, hr]
  refine Ycp (p127 (cf := fun x => sCmp x.Key k) hw (of_eq_true en128) hn (mono_key hs k) (fun G' _ x cs hx => by obtain ⟨_, rfl, hw⟩ := hx; obtain ⟨_, _, rfl⟩ := hw.val; exact p128)) ?_
  cases hb : bsHas (fun x : SArc => sCmp x.Key k) l
  · have e1 : keyAt SArc.Key l k = -1 := by rw [← e, hb]; rfl
    simp (maxDischargeDepth := 9) only [↓gB, gV, gT, reduceIte, reduceCtorEq, Nat.reduceEqDiff, Nat.reduceAdd, Nat.reduceSub, Nat.reduceLeDiff, Nat.reduceLT, Int.reduceEq, Nat.reduceMul, hr, hb, e1]
    exact Kup_val (le_refl _) rfl
  · have e1 : keyAt SArc.Key l k = (bsPos (fun x : SArc => sCmp x.Key k) l : Int) := by rw [← e, hb]; rfl
    simp (maxDischargeDepth := 9) only [↓gB, gV, gT, reduceIte, reduceCtorEq, Nat.reduceEqDiff, Nat.reduceAdd, Nat.reduceSub, Nat.reduceLeDiff, Nat.reduceLT, Int.reduceEq, Nat.reduceMul, hr, hb, e1]
    exact Kup_val (le_refl _) rfl
theorem p98 {G0 : GH} {v : Value} {l : List SNode} {k : ByteArray} {wa ua : Option Addr} {wn wc un uc : Nat} (hv : RSl rNode G0 v l) (hn : (l.length : Int) ≤ 9223372036854775807) : Pure Tryd.prog G0 98 [.agg #[v, .slice wa wn wc, .slice ua un uc], .string k] (V (keyAt SNode.Key l k)) := by
  intro G hG; replace hv := hv.le hG
  clear hG G0
  refine enter Tryd.func98 9 #[.tmp 4] rfl Tryd.ntmps98 rfl (by decide +kernel) rfl ?_
  obtain ⟨a, c, rfl⟩ := hv.val
  simp (maxDischargeDepth := 9) only [↓gB, gV, gT, reduceIte, reduceCtorEq, Nat.reduceEqDiff, Nat.reduceAdd, Nat.reduceSub, Nat.reduceLeDiff, Nat.reduceLT, Int.reduceEq, Nat.reduceMul, List.map_toArray, List.map_cons, List.map_nil, Value.cells]
  refine Yn2 fun r1 h1 => ?_
  simp (maxDischargeDepth := 9) only [↓gB, gV, gT, reduceIte, reduceCtorEq, Nat.reduceEqDiff, Nat.reduceAdd, Nat.reduceSub, Nat.reduceLeDiff, Nat.reduceLT, Int.reduceEq, Nat.reduceMul, h1, List.map_toArray, List.map_cons, List.map_nil, Value.cells]
  refine Yn2 fun r2 h2 => ?_
  have n2 := h2
  simp only [put_none_eq, ne_eq] at n2
  simp (maxDischargeDepth := 9) only [↓gB, gV, gT, reduceIte, reduceCtorEq, Nat.reduceEqDiff, Nat.reduceAdd, Nat.reduceSub, Nat.reduceLeDiff, Nat.reduceLT, Int.reduceEq, Nat.reduceMul, h1, h2, n2, List.map_toArray, List.map_cons, List.map_nil, Value.cells]
  refine Ycp (p130 (q := fun x => decide (x.Key = k)) (fa := []) (fb := [.pointer (some ⟨r2, 0, none⟩)]) (RSl.put _ h2 (RSl.put _ h1 hv)) (of_eq_true en131) hn (fun G' hle x cs hx => by cases hx; exact p131 (hle _ _ (put_self _ _ _)))) ?_
  simp (maxDischargeDepth := 9) only [↓gB, gV, gT, reduceIte, reduceCtorEq, Nat.reduceEqDiff, Nat.reduceAdd, Nat.reduceSub, Nat.reduceLeDiff, Nat.reduceLT, Int.reduceEq, Nat.reduceMul, h1, h2, n2]
  exact Kup_val (by simp (maxDischargeDepth := 9) only [le_self, le_puts, le_put0, h1, h2, n2]) rfl
theorem p132 {G0 : GH} {w : Value} {l : List SArc} {k : ByteArray} {va ua : Option Addr} {vn vc un uc : Nat} (hw : RSl rArc G0 w l) (hn : (l.length : Int) ≤ 9223372036854775807) : Pure Tryd.prog G0 132 [.agg #[.slice va vn vc, w, .slice ua un uc], .string k] (V (keyAt SArc.Key l k)) := by
  intro G hG; replace hw := hw.le hG
  clear hG G0
  refine enter Tryd.func132 9 #[.tmp 4] rfl Tryd.ntmps132 rfl (by decide +kernel) rfl ?_
  obtain ⟨a, c, rfl⟩ := hw.val
  simp (maxDischargeDepth := 9) only [↓gB, gV, gT, reduceIte, reduceCtorEq, Nat.reduceEqDiff, Nat.reduceAdd, Nat.reduceSub, Nat.reduceLeDiff, Nat.reduceLT, Int.reduceEq, Nat.reduceMul, List.map_toArray, List.map_cons, List.map_nil, Value.cells]
  refine Yn2 fun r1 h1 => ?_
  simp (maxDischargeDepth := 9) only [↓gB, gV, gT, reduceIte, reduceCtorEq, Nat.reduceEqDiff, Nat.reduceAdd, Nat.reduceSub, Nat.reduceLeDiff, Nat.reduceLT, Int.reduceEq, Nat.reduceMul, h1, List.map_toArray, List.map_cons, List.map_nil, Value.cells]
  refine Yn2 fun r2 h2 => ?_
  have n2 := h2
  simp only [put_none_eq, ne_eq] at n2
  simp (maxDischargeDepth := 9) only [↓gB, gV, gT, reduceIte, reduceCtorEq, Nat.reduceEqDiff, Nat.reduceAdd, Nat.reduceSub, Nat.reduceLeDiff, Nat.reduceLT, Int.reduceEq, Nat.reduceMul, h1, h2, n2, List.map_toArray, List.map_cons, List.map_nil, Value.cells]
  refine Ycp (p159 (q := fun x => decide (x.Key = k)) (fa := []) (fb := [.pointer (some ⟨r2, 0, none⟩)]) (RSl.put _ h2 (RSl.put _ h1 hw)) (of_eq_true en160) hn (fun G' hle x cs hx => by obtain ⟨_, rfl, hw⟩ := hx; obtain ⟨_, _, rfl⟩ := hw.val; exact p160 (hle _ _ (put_self _ _ _)))) ?_
  simp (maxDischargeDepth := 9) only [↓gB, gV, gT, reduceIte, reduceCtorEq, Nat.reduceEqDiff, Nat.reduceAdd, Nat.reduceSub, Nat.reduceLeDiff, Nat.reduceLT, Int.reduceEq, Nat.reduceMul, h1, h2, n2]
  exact Kup_val (by simp (maxDischargeDepth := 9) only [le_self, le_puts, le_put0, h1, h2, n2]) rfl
end Go.Proofs.YtnlbapfbdabjaaaDoor
namespace Go.Proofs.YtnlbapfbdabjaaaDoor
open Go Go.GL
attribute [local irreducible] Ycall GCalls
set_option maxRecDepth 10000
set_option maxHeartbeats 0
theorem pvp {α : Type} {l : List α} {k : Nat} {z : α} {f : α → Bool} {b : Bool} (h : (0:Int) < k) (hz : l[k-1]? = some z) (hf : f z = b) : (prevOf l k).any f = b := by rw [prevOf_p h, hz]; exact hf
theorem pvz {α : Type} {l : List α} {k : Nat} {f : α → Bool} (h : ¬ (0:Int) < k) : (prevOf l k).any f = false := by rw [prevOf_z h]; rfl
def chk {α : Type} (bad : Option α → α → Int) : Option α → List α → Int
  | _, [] => 0
  | q, x :: l => if bad q x = 0 then chk bad (some x) l else bad q x
section
variable {α : Type} {bad : Option α → α → Int} {l : List α} {i : Nat} {x : α}
theorem chk_bad {e : Int} (h : chk bad none l = chk bad (prevOf l i) (l.drop i)) (m : l[i]? = some x) (hb : bad (prevOf l i) x = e) (he : e ≠ 0) : chk bad none l = e := by
  rw [h, drop_at m]; simp only [chk, hb, if_neg he]
theorem chk_next (h : chk bad none l = chk bad (prevOf l i) (l.drop i)) (m : l[i]? = some x) (hb : bad (prevOf l i) x = 0) : chk bad none l = chk bad (prevOf l (i + 1)) (l.drop (i + 1)) := by
  rw [h, drop_at m, prevOf_s, m]; simp only [chk, hb, if_true]
theorem chk_end (h : chk bad none l = chk bad (prevOf l i) (l.drop i)) (c : ¬ (i : Int) < l.length) : chk bad none l = 0 := by
  rw [h, List.drop_eq_nil_of_le (by omega)]; rfl
end
theorem chk_ok {α : Type} {bad : Option α → α → Int} : ∀ {l : List α} {q : Option α}, chk bad q l = 0 → ∀ (i : Nat) x, l[i]? = some x → bad (if i = 0 then q else l[i - 1]?) x = 0
  | [], _, _, i, x, m => by simp at m
  | y :: l, q, h, i, x, m => by
    unfold chk at h
    split at h
    · rename_i h0
      cases i with
      | zero => simp at m; subst m; simpa using h0
      | succ i =>
        have := chk_ok h i x (by simpa using m)
        cases i with
        | zero => simpa using this
        | succ i => simpa using this
    · rename_i h0; exact absurd h h0
theorem chk_prev {α : Type} {bad : Option α → α → Int} {l : List α} (h : chk bad none l = 0) {i : Nat} {x : α} (m : l[i]? = some x) : bad (prevOf l i) x = 0 := chk_ok h i x m
theorem rising_of {α : Type} {f : α → ByteArray} : ∀ {l : List α}, (∀ (i : Nat) x y, l[i]? = some x → l[i + 1]? = some y → sLt (f x) (f y) = true) → rising f l
  | [], _ => List.Pairwise.nil
  | [x], _ => List.pairwise_singleton _ _
  | x :: y :: l, h => by
    have ih : rising f (y :: l) := rising_of fun i a b ha hb => h (i + 1) a b (by simpa using ha) (by simpa using hb)
    refine List.Pairwise.cons ?_ ih
    have h0 := h 0 x y rfl rfl
    intro z hz
    rcases List.mem_cons.1 hz with rfl | hz
    · exact h0
    · exact sLt_trans h0 ((List.pairwise_cons.1 ih).1 z hz)
theorem rising_chk {α : Type} {f : α → ByteArray} {bad : Option α → α → Int} {l : List α} (h : chk bad none l = 0) (hb : ∀ p x, bad (some p) x = 0 → sLt (f p) (f x) = true) : rising f l :=
  rising_of fun i x y hx hy => hb x y (by have := chk_prev h hy; rwa [prevOf_s, hx] at this)
def nodeBad (q : Option SNode) (x : SNode) : Int := if isKey x.Key = false then 5 else if q.any (fun q => !sLt q.Key x.Key) = true then 7 else if onMap x.X x.Y = false then 1 else 0
def nodesE (l : List SNode) : Int := if 500 < l.length then 2 else chk nodeBad none l
section
variable {q : Option SNode} {x : SNode}
theorem nb5 (c : isKey x.Key = false) : nodeBad q x = 5 := by simp [nodeBad, c]
theorem nb7 (c : isKey x.Key = true) (c2 : q.any (fun q => !sLt q.Key x.Key) = true) : nodeBad q x = 7 := by simp only [nodeBad, c, c2, if_true]; rfl
theorem nb1 (c : isKey x.Key = true) (c2 : q.any (fun q => !sLt q.Key x.Key) = false) (c3 : onMap x.X x.Y = false) : nodeBad q x = 1 := by simp only [nodeBad, c, c2, c3, if_true]; rfl
theorem nb0 (c : isKey x.Key = true) (c2 : q.any (fun q => !sLt q.Key x.Key) = false) (c3 : onMap x.X x.Y = true) : nodeBad q x = 0 := by simp only [nodeBad, c, c2, c3]; rfl
theorem nb_ok (h : nodeBad q x = 0) : isKey x.Key = true ∧ q.any (fun q => !sLt q.Key x.Key) = false ∧ onMap x.X x.Y = true := by
  unfold nodeBad at h
  split at h
  · cases h
  · split at h
    · cases h
    · split at h
      · cases h
      · simp_all
end
theorem nodes_rise {l : List SNode} (h : nodesE l = 0) : l.length ≤ 500 ∧ rising SNode.Key l := by
  unfold nodesE at h
  split at h
  · cases h
  · refine ⟨by omega, rising_chk h fun p x hp => ?_⟩
    have := (nb_ok hp).2.1
    simpa using this
theorem p91 {G0 : GH} {v : Value} {l : List SNode} (hv : RSl rNode G0 v l) (hn : (l.length : Int) ≤ 9223372036854775807) : Pure Tryd.prog G0 91 [v] (V (nodesE l)) := by
  intro G hG; replace hv := hv.le hG
  clear hG G0
  refine enter Tryd.func91 42 #[.tmp 2] rfl Tryd.ntmps91 rfl (by decide +kernel) rfl ?_
  obtain ⟨a, c, rfl⟩ := hv.val
  simp (maxDischargeDepth := 9) only [↓gB, gV, gT, reduceIte, reduceCtorEq, Nat.reduceEqDiff, Nat.reduceAdd, Nat.reduceSub, Nat.reduceLeDiff, Nat.reduceLT, Int.reduceEq, Nat.reduceMul]
  refine Xc_split _ _ _ _ _ (fun c0 => ?_) (fun c0 => ?_)
  · simp (maxDischargeDepth := 9) only [↓gB, gV, gT, reduceIte, reduceCtorEq, Nat.reduceEqDiff, Nat.reduceAdd, Nat.reduceSub, Nat.reduceLeDiff, Nat.reduceLT, Int.reduceEq, Nat.reduceMul, c0]
    refine Kup_val (le_refl _) ?_
    focus ((have : 500 < l.length := by omega); simp [nodesE, this]; done)
  · have h0' : nodesE l = chk nodeBad none l := if_neg (by omega)
    rw [h0']
    simp (maxDischargeDepth := 9) only [↓gB, gV, gT, reduceIte, reduceCtorEq, Nat.reduceEqDiff, Nat.reduceAdd, Nat.reduceSub, Nat.reduceLeDiff, Nat.reduceLT, Int.reduceEq, Nat.reduceMul, c0]
    focus
      refine Xloop_intro _ _ _ _ _ (fun k f G' => ∃ (i : Nat), k = l.length - i ∧ (i ≤ l.length) ∧ (chk nodeBad none l = chk nodeBad (prevOf l i) (l.drop i)) ∧ (RSl rNode G' (.slice a l.length c) l) ∧ (G.le G') ∧ f 10 = V i ∧ f 0 = Go.Value.slice a l.length c ∧ f 8 = Go.Value.slice a l.length c ∧ f 9 = Go.Value.int Go.IntKind.i64 ↑l.length) _ ⟨0, rfl, ?_, ?_, ?_, ?_, by simp (maxDischargeDepth := 9) only [↓gB, gV, gT, reduceIte, reduceCtorEq, Nat.reduceEqDiff, Nat.reduceAdd, Nat.reduceSub, Nat.reduceLeDiff, Nat.reduceLT, Int.reduceEq, Nat.reduceMul, c0, and_self]⟩ ?_
      · omega
      · rfl
      · assumption
      · exact le_refl _
      rintro k f G' ⟨i, rfl, hi, h, hv, hle, f10, f0, f8, f9⟩
    simp (maxDischargeDepth := 9) only [↓gB, gV, gT, reduceIte, reduceCtorEq, Nat.reduceEqDiff, Nat.reduceAdd, Nat.reduceSub, Nat.reduceLeDiff, Nat.reduceLT, Int.reduceEq, Nat.reduceMul, c0, f10, f0, f8, f9]
    refine Xc_split _ _ _ _ _ (fun c1 => ?_) (fun c1 => ?_)
    · focus
        simp (maxDischargeDepth := 9) only [↓gB, gV, gT, reduceIte, reduceCtorEq, Nat.reduceEqDiff, Nat.reduceAdd, Nat.reduceSub, Nat.reduceLeDiff, Nat.reduceLT, Int.reduceEq, Nat.reduceMul, c0, f10, f0, f8, f9, c1]
        obtain ⟨x1, a1, s1, m1, rfl, rfl, e1⟩ := hv.at (i) (by omega) 3 rfl
        simp (maxDischargeDepth := 9) only [↓gB, gV, gT, reduceIte, reduceCtorEq, Nat.reduceEqDiff, Nat.reduceAdd, Nat.reduceSub, Nat.reduceLeDiff, Nat.reduceLT, Int.reduceEq, Nat.reduceMul, c0, f10, f9, c1, f0, f8, e1]
        refine vguard_intro (by simp) ?_
        refine Yn2 fun r1 h1 => ?_
        simp (maxDischargeDepth := 9) only [↓gB, gV, gT, reduceIte, reduceCtorEq, Nat.reduceEqDiff, Nat.reduceAdd, Nat.reduceSub, Nat.reduceLeDiff, Nat.reduceLT, Int.reduceEq, Nat.reduceMul, c0, f10, f9, c1, f0, f8, e1, h1]
        refine Ycp (p78) ?_
        simp (maxDischargeDepth := 9) only [↓gB, gV, gT, reduceIte, reduceCtorEq, Nat.reduceEqDiff, Nat.reduceAdd, Nat.reduceSub, Nat.reduceLeDiff, Nat.reduceLT, Int.reduceEq, Nat.reduceMul, c0, f10, f9, c1, f0, f8, e1, h1]
        rcases bool_tf (Go.Proofs.YtnlbapfbdabjaaaDoor.isKey x1.Key) with c2 | c2
        rotate_left 1
        focus
          simp (maxDischargeDepth := 9) only [↓gB, gV, gT, reduceIte, reduceCtorEq, Nat.reduceEqDiff, Nat.reduceAdd, Nat.reduceSub, Nat.reduceLeDiff, Nat.reduceLT, Int.reduceEq, Nat.reduceMul, c0, f10, f9, c1, f0, f8, e1, h1, c2]
          refine Kup_val (by simp (maxDischargeDepth := 9) only [le_self, le_puts, le_put0, hle, h1]) ?_
          focus (rw [chk_bad h m1 (nb5 (by assumption)) (by decide)]; done)
        rotate_right 1
        simp (maxDischargeDepth := 9) only [↓gB, gV, gT, reduceIte, reduceCtorEq, Nat.reduceEqDiff, Nat.reduceAdd, Nat.reduceSub, Nat.reduceLeDiff, Nat.reduceLT, Int.reduceEq, Nat.reduceMul, c0, f10, f9, c1, f0, f8, e1, h1, c2]
        refine Xdraw_intro [0, 1, 2, 3, 4, 5, 6, 7, 8, 9, 10, 11, 12, 13] mixed (by kernel_rfl) (by decide +kernel) ?_
        simp (maxDischargeDepth := 9) only [↓gB, gV, gT, reduceIte, reduceCtorEq, Nat.reduceEqDiff, Nat.reduceAdd, Nat.reduceSub, Nat.reduceLeDiff, Nat.reduceLT, Int.reduceEq, Nat.reduceMul, c0, f10, f9, c1, f0, f8, e1, h1, c2]
        by_cases c3 : (0 : Int) < ↑i
        rotate_left 1
        focus
          simp (maxDischargeDepth := 9) only [↓gB, gV, gT, reduceIte, reduceCtorEq, Nat.reduceEqDiff, Nat.reduceAdd, Nat.reduceSub, Nat.reduceLeDiff, Nat.reduceLT, Int.reduceEq, Nat.reduceMul, c0, f10, f9, c1, f0, f8, e1, h1, c2, c3]
          refine Ycp (p122) ?_
          simp (maxDischargeDepth := 9) only [↓gB, gV, gT, reduceIte, reduceCtorEq, Nat.reduceEqDiff, Nat.reduceAdd, Nat.reduceSub, Nat.reduceLeDiff, Nat.reduceLT, Int.reduceEq, Nat.reduceMul, c0, f10, f9, c1, f0, f8, e1, h1, c2, c3]
          rcases bool_tf (Go.Proofs.YtnlbapfbdabjaaaDoor.onMap x1.X x1.Y) with c4 | c4
          rotate_left 1
          focus
            simp (maxDischargeDepth := 9) only [↓gB, gV, gT, reduceIte, reduceCtorEq, Nat.reduceEqDiff, Nat.reduceAdd, Nat.reduceSub, Nat.reduceLeDiff, Nat.reduceLT, Int.reduceEq, Nat.reduceMul, c0, f10, f9, c1, f0, f8, e1, h1, c2, c3, c4]
            refine Kup_val (by simp (maxDischargeDepth := 9) only [le_self, le_puts, le_put0, hle, h1]) ?_
            focus (rw [chk_bad h m1 (nb1 (by assumption) (by first | exact pvp (by assumption) m2 (by simp [*]) | exact pvz (by assumption)) (by assumption)) (by decide)]; done)
          rotate_right 1
          simp (maxDischargeDepth := 9) only [↓gB, gV, gT, reduceIte, reduceCtorEq, Nat.reduceEqDiff, Nat.reduceAdd, Nat.reduceSub, Nat.reduceLeDiff, Nat.reduceLT, Int.reduceEq, Nat.reduceMul, c0, f10, f9, c1, f0, f8, e1, h1, c2, c3, c4]
          have q1 : Go.IntKind.i64.wrap (↑i + 1) = ↑i + 1 := wrap_id (by omega)
          simp (maxDischargeDepth := 9) only [↓gB, gV, gT, reduceIte, reduceCtorEq, Nat.reduceEqDiff, Nat.reduceAdd, Nat.reduceSub, Nat.reduceLeDiff, Nat.reduceLT, Int.reduceEq, Nat.reduceMul, c0, f10, f9, c1, f0, f8, e1, h1, c2, c3, c4, q1]
          rw [N_lp]
          refine ⟨_, ?_, _, sub_refl _, i + 1, rfl, ?_, ?_, ?_, ?_, by simp (maxDischargeDepth := 9) only [↓gB, gV, gT, reduceIte, reduceCtorEq, Nat.reduceEqDiff, Nat.reduceAdd, Nat.reduceSub, Nat.reduceLeDiff, Nat.reduceLT, Int.reduceEq, Nat.reduceMul, c0, f10, f9, c1, f0, f8, e1, h1, c2, c3, c4, q1, nat_succ, and_self]⟩
          · omega
          · omega
          · (exact chk_next h m1 (nb0 (by assumption) (by first | exact pvp (by assumption) m2 (by simp [*]) | exact pvz (by assumption)) (by assumption)); done)
          · exact RSl.put _ (by assumption) (by assumption)
          · (simp (maxDischargeDepth := 9) only [le_self, le_puts, le_put0, sub_self, sub_puts, sub_put0, hle, h1]; done)
        rotate_right 1
        simp (maxDischargeDepth := 9) only [↓gB, gV, gT, reduceIte, reduceCtorEq, Nat.reduceEqDiff, Nat.reduceAdd, Nat.reduceSub, Nat.reduceLeDiff, Nat.reduceLT, Int.reduceEq, Nat.reduceMul, c0, f10, f9, c1, f0, f8, e1, h1, c2, c3]
        have q1 : Go.IntKind.i64.wrap (↑i - 1) = ↑i - 1 := wrap_id (by omega)
        simp (maxDischargeDepth := 9) only [↓gB, gV, gT, reduceIte, reduceCtorEq, Nat.reduceEqDiff, Nat.reduceAdd, Nat.reduceSub, Nat.reduceLeDiff, Nat.reduceLT, Int.reduceEq, Nat.reduceMul, c0, f10, f9, c1, f0, f8, e1, h1, c2, c3, q1]
        refine vguard_intro (by omega) ?_
        obtain ⟨x2, s2, m2, rfl, e2⟩ := hv.at' (i - 1) (by omega) 3 rfl
        simp (maxDischargeDepth := 9) only [↓gB, gV, gT, reduceIte, reduceCtorEq, Nat.reduceEqDiff, Nat.reduceAdd, Nat.reduceSub, Nat.reduceLeDiff, Nat.reduceLT, Int.reduceEq, Nat.reduceMul, c0, f10, f9, c1, f0, f8, e1, h1, c2, c3, q1, e2]
        rcases bool_tf (Go.GL.sLt x2.Key x1.Key) with c4 | c4
        rotate_left 1
        focus
          simp (maxDischargeDepth := 9) only [↓gB, gV, gT, reduceIte, reduceCtorEq, Nat.reduceEqDiff, Nat.reduceAdd, Nat.reduceSub, Nat.reduceLeDiff, Nat.reduceLT, Int.reduceEq, Nat.reduceMul, c0, f10, f9, c1, f0, f8, e1, h1, c2, c3, q1, e2, c4]
          refine Kup_val (by simp (maxDischargeDepth := 9) only [le_self, le_puts, le_put0, hle, h1]) ?_
          focus (rw [chk_bad h m1 (nb7 (by assumption) (pvp (by assumption) m2 (by simp [*]))) (by decide)]; done)
        rotate_right 1
        simp (maxDischargeDepth := 9) only [↓gB, gV, gT, reduceIte, reduceCtorEq, Nat.reduceEqDiff, Nat.reduceAdd, Nat.reduceSub, Nat.reduceLeDiff, Nat.reduceLT, Int.reduceEq, Nat.reduceMul, c0, f10, f9, c1, f0, f8, e1, h1, c2, c3, q1, e2, c4]
        refine Ycp (p122) ?_
        simp (maxDischargeDepth := 9) only [↓gB, gV, gT, reduceIte, reduceCtorEq, Nat.reduceEqDiff, Nat.reduceAdd, Nat.reduceSub, Nat.reduceLeDiff, Nat.reduceLT, Int.reduceEq, Nat.reduceMul, c0, f10, f9, c1, f0, f8, e1, h1, c2, c3, q1, e2, c4]
        rcases bool_tf (Go.Proofs.YtnlbapfbdabjaaaDoor.onMap x1.X x1.Y) with c5 | c5
        rotate_left 1
        focus
          simp (maxDischargeDepth := 9) only [↓gB, gV, gT, reduceIte, reduceCtorEq, Nat.reduceEqDiff, Nat.reduceAdd, Nat.reduceSub, Nat.reduceLeDiff, Nat.reduceLT, Int.reduceEq, Nat.reduceMul, c0, f10, f9, c1, f0, f8, e1, h1, c2, c3, q1, e2, c4, c5]
          refine Kup_val (by simp (maxDischargeDepth := 9) only [le_self, le_puts, le_put0, hle, h1]) ?_
          focus (rw [chk_bad h m1 (nb1 (by assumption) (by first | exact pvp (by assumption) m2 (by simp [*]) | exact pvz (by assumption)) (by assumption)) (by decide)]; done)
        rotate_right 1
        simp (maxDischargeDepth := 9) only [↓gB, gV, gT, reduceIte, reduceCtorEq, Nat.reduceEqDiff, Nat.reduceAdd, Nat.reduceSub, Nat.reduceLeDiff, Nat.reduceLT, Int.reduceEq, Nat.reduceMul, c0, f10, f9, c1, f0, f8, e1, h1, c2, c3, q1, e2, c4, c5]
        have q2 : Go.IntKind.i64.wrap (↑i + 1) = ↑i + 1 := wrap_id (by omega)
        simp (maxDischargeDepth := 9) only [↓gB, gV, gT, reduceIte, reduceCtorEq, Nat.reduceEqDiff, Nat.reduceAdd, Nat.reduceSub, Nat.reduceLeDiff, Nat.reduceLT, Int.reduceEq, Nat.reduceMul, c0, f10, f9, c1, f0, f8, e1, h1, c2, c3, q1, e2, c4, c5, q2]
        rw [N_lp]
        refine ⟨_, ?_, _, sub_refl _, i + 1, rfl, ?_, ?_, ?_, ?_, by simp (maxDischargeDepth := 9) only [↓gB, gV, gT, reduceIte, reduceCtorEq, Nat.reduceEqDiff, Nat.reduceAdd, Nat.reduceSub, Nat.reduceLeDiff, Nat.reduceLT, Int.reduceEq, Nat.reduceMul, c0, f10, f9, c1, f0, f8, e1, h1, c2, c3, q1, e2, c4, c5, q2, nat_succ, and_self]⟩
        · omega
        · omega
        · (exact chk_next h m1 (nb0 (by assumption) (by first | exact pvp (by assumption) m2 (by simp [*]) | exact pvz (by assumption)) (by assumption)); done)
        · exact RSl.put _ (by assumption) (by assumption)
        · (simp (maxDischargeDepth := 9) only [le_self, le_puts, le_put0, sub_self, sub_puts, sub_put0, hle, h1]; done)
    · simp (maxDischargeDepth := 9) only [↓gB, gV, gT, reduceIte, reduceCtorEq, Nat.reduceEqDiff, Nat.reduceAdd, Nat.reduceSub, Nat.reduceLeDiff, Nat.reduceLT, Int.reduceEq, Nat.reduceMul, c0, f10, f0, f8, f9, c1]
      refine Kup_val (by simp (maxDischargeDepth := 9) only [le_self, le_puts, le_put0, hle]) ?_
      focus (rw [chk_end h c1]; done)
end Go.Proofs.YtnlbapfbdabjaaaDoor
