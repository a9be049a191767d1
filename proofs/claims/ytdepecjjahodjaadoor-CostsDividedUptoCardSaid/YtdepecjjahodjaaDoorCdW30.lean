/- A part of a proof: CostsDivided: a card of costs, parts and legs: what Divide, CheckLegs and ByLegs give is what their simple ones give -/
import Derived.Test.YtdepecjjahodjaaDoorProg
import Derived.Shelf.Strings.SlTrimAscii
import Derived.Shelf.Small.Strs
import Derived.Shelf.Slices.CompactS
import Derived.Test.YtdepecjjahodjaaDoorCdGlL
import Derived.Test.YtdepecjjahodjaaDoorCdGlN
import Derived.Test.YtdepecjjahodjaaDoorCdGlSl
import Derived.Test.YtdepecjjahodjaaDoorCdGlU
import Derived.Test.YtdepecjjahodjaaDoorCdGlY
import Derived.Test.YtdepecjjahodjaaDoorCdGlZ
import Derived.Test.YtdepecjjahodjaaDoorCdSh
set_option linter.unusedSimpArgs false
set_option linter.unusedVariables false
set_option linter.unusedSectionVars false
namespace Go.Proofs.YtdepecjjahodjaaDoor
open Go Go.GL
theorem sz2 : tySz Tryd.prog 2 = 1 := by kernel_rfl
theorem ag2 : (tyD Tryd.prog 2).map isAggD = some false := by rw [show tyD Tryd.prog 2 = _ from Tryd.underlying2]; rfl
theorem zv2 : tyZ Tryd.prog 2 = some (.int .i64 0) := by kernel_rfl
theorem sz3 : tySz Tryd.prog 3 = 1 := by kernel_rfl
theorem ag3 : (tyD Tryd.prog 3).map isAggD = some false := by rw [show tyD Tryd.prog 3 = _ from Tryd.underlying3]; rfl
theorem zv3 : tyZ Tryd.prog 3 = some (.int .i64 0) := by kernel_rfl
theorem sz4 : tySz Tryd.prog 4 = 1 := by kernel_rfl
theorem ag4 : (tyD Tryd.prog 4).map isAggD = some false := by rw [show tyD Tryd.prog 4 = _ from Tryd.underlying4]; rfl
theorem zv4 : tyZ Tryd.prog 4 = some (.bool false) := by kernel_rfl
theorem sz5 : tySz Tryd.prog 5 = 1 := by kernel_rfl
theorem ag5 : (tyD Tryd.prog 5).map isAggD = some false := by rw [show tyD Tryd.prog 5 = _ from Tryd.underlying5]; rfl
theorem zv5 : tyZ Tryd.prog 5 = some (.int .u8 0) := by kernel_rfl
theorem sz6 : tySz Tryd.prog 6 = 1 := by kernel_rfl
theorem ag6 : (tyD Tryd.prog 6).map isAggD = some false := by rw [show tyD Tryd.prog 6 = _ from Tryd.underlying6]; rfl
theorem zv6 : tyZ Tryd.prog 6 = some (.int .u8 0) := by kernel_rfl
theorem sz7 : tySz Tryd.prog 7 = 4 := by kernel_rfl
theorem ag7 : (tyD Tryd.prog 7).map isAggD = some true := by rw [show tyD Tryd.prog 7 = _ from Tryd.underlying7]; rfl
theorem zv7 : tyZ Tryd.prog 7 = some (.agg #[.int .i64 0, .int .i64 0, .bool false, .int .u8 0]) := by kernel_rfl
theorem sz8 : tySz Tryd.prog 8 = 4 := by kernel_rfl
theorem ag8 : (tyD Tryd.prog 8).map isAggD = some true := by rw [show tyD Tryd.prog 8 = _ from Tryd.underlying8]; rfl
theorem zv8 : tyZ Tryd.prog 8 = some (.agg #[.int .i64 0, .int .i64 0, .bool false, .int .u8 0]) := by kernel_rfl
theorem sz9 : tySz Tryd.prog 9 = 1 := by kernel_rfl
theorem ag9 : (tyD Tryd.prog 9).map isAggD = some false := by rw [show tyD Tryd.prog 9 = _ from Tryd.underlying9]; rfl
theorem zv9 : tyZ Tryd.prog 9 = some (.string ByteArray.empty) := by kernel_rfl
theorem sz10 : tySz Tryd.prog 10 = 1 := by kernel_rfl
theorem ag10 : (tyD Tryd.prog 10).map isAggD = some false := by rw [show tyD Tryd.prog 10 = _ from Tryd.underlying10]; rfl
theorem zv10 : tyZ Tryd.prog 10 = some (.string ByteArray.empty) := by kernel_rfl
theorem sz11 : tySz Tryd.prog 11 = 1 := by kernel_rfl
theorem ag11 : (tyD Tryd.prog 11).map isAggD = some false := by rw [show tyD Tryd.prog 11 = _ from Tryd.underlying11]; rfl
theorem zv11 : tyZ Tryd.prog 11 = some (.string ByteArray.empty) := by kernel_rfl
theorem sz12 : tySz Tryd.prog 12 = 1 := by kernel_rfl
theorem ag12 : (tyD Tryd.prog 12).map isAggD = some false := by rw [show tyD Tryd.prog 12 = _ from Tryd.underlying12]; rfl
theorem zv12 : tyZ Tryd.prog 12 = some (.int .u64 0) := by kernel_rfl
theorem sz13 : tySz Tryd.prog 13 = 2 := by kernel_rfl
theorem ag13 : (tyD Tryd.prog 13).map isAggD = some true := by rw [show tyD Tryd.prog 13 = _ from Tryd.underlying13]; rfl
theorem zv13 : tyZ Tryd.prog 13 = some (.agg #[.string ByteArray.empty, .int .u64 0]) := by kernel_rfl
theorem sz14 : tySz Tryd.prog 14 = 2 := by kernel_rfl
theorem ag14 : (tyD Tryd.prog 14).map isAggD = some true := by rw [show tyD Tryd.prog 14 = _ from Tryd.underlying14]; rfl
theorem zv14 : tyZ Tryd.prog 14 = some (.agg #[.string ByteArray.empty, .int .u64 0]) := by kernel_rfl
theorem sz15 : tySz Tryd.prog 15 = 1 := by kernel_rfl
theorem ag15 : (tyD Tryd.prog 15).map isAggD = some false := by rw [show tyD Tryd.prog 15 = _ from Tryd.underlying15]; rfl
theorem zv15 : tyZ Tryd.prog 15 = some (.pointer none) := by kernel_rfl
theorem sz16 : tySz Tryd.prog 16 = 1 := by kernel_rfl
theorem ag16 : (tyD Tryd.prog 16).map isAggD = some false := by rw [show tyD Tryd.prog 16 = _ from Tryd.underlying16]; rfl
theorem zv16 : tyZ Tryd.prog 16 = some (.pointer none) := by kernel_rfl
theorem sz17 : tySz Tryd.prog 17 = 1 := by kernel_rfl
theorem ag17 : (tyD Tryd.prog 17).map isAggD = some false := by rw [show tyD Tryd.prog 17 = _ from Tryd.underlying17]; rfl
theorem zv17 : tyZ Tryd.prog 17 = some (.pointer none) := by kernel_rfl
theorem sz18 : tySz Tryd.prog 18 = 1 := by kernel_rfl
theorem ag18 : (tyD Tryd.prog 18).map isAggD = some true := by rw [show tyD Tryd.prog 18 = _ from Tryd.underlying18]; rfl
theorem zv18 : tyZ Tryd.prog 18 = some (.agg #[.pointer none]) := by kernel_rfl
theorem sz19 : tySz Tryd.prog 19 = 1 := by kernel_rfl
theorem ag19 : (tyD Tryd.prog 19).map isAggD = some true := by rw [show tyD Tryd.prog 19 = _ from Tryd.underlying19]; rfl
theorem zv19 : tyZ Tryd.prog 19 = some (.agg #[.pointer none]) := by kernel_rfl
theorem sz21 : tySz Tryd.prog 21 = 1 := by kernel_rfl
theorem ag21 : (tyD Tryd.prog 21).map isAggD = some false := by rw [show tyD Tryd.prog 21 = _ from Tryd.underlying21]; rfl
theorem zv21 : tyZ Tryd.prog 21 = some (.int .i32 0) := by kernel_rfl
theorem sz22 : tySz Tryd.prog 22 = 1 := by kernel_rfl
theorem ag22 : (tyD Tryd.prog 22).map isAggD = some false := by rw [show tyD Tryd.prog 22 = _ from Tryd.underlying22]; rfl
theorem zv22 : tyZ Tryd.prog 22 = some (.slice none 0 0) := by kernel_rfl
theorem sz23 : tySz Tryd.prog 23 = 1 := by kernel_rfl
theorem ag23 : (tyD Tryd.prog 23).map isAggD = some false := by rw [show tyD Tryd.prog 23 = _ from Tryd.underlying23]; rfl
theorem zv23 : tyZ Tryd.prog 23 = some (.slice none 0 0) := by kernel_rfl
theorem sz24 : tySz Tryd.prog 24 = 1 := by kernel_rfl
theorem ag24 : (tyD Tryd.prog 24).map isAggD = some false := by rw [show tyD Tryd.prog 24 = _ from Tryd.underlying24]; rfl
theorem zv24 : tyZ Tryd.prog 24 = some (.slice none 0 0) := by kernel_rfl
theorem sz25 : tySz Tryd.prog 25 = 1 := by kernel_rfl
theorem ag25 : (tyD Tryd.prog 25).map isAggD = some false := by rw [show tyD Tryd.prog 25 = _ from Tryd.underlying25]; rfl
theorem zv25 : tyZ Tryd.prog 25 = some (.slice none 0 0) := by kernel_rfl
theorem sz26 : tySz Tryd.prog 26 = 1 := by kernel_rfl
theorem ag26 : (tyD Tryd.prog 26).map isAggD = some false := by rw [show tyD Tryd.prog 26 = _ from Tryd.underlying26]; rfl
theorem zv26 : tyZ Tryd.prog 26 = some (.int .i64 0) := by kernel_rfl
theorem sz33 : tySz Tryd.prog 33 = 2 := by kernel_rfl
theorem ag33 : (tyD Tryd.prog 33).map isAggD = some true := by rw [show tyD Tryd.prog 33 = _ from Tryd.underlying33]; rfl
theorem zv33 : tyZ Tryd.prog 33 = some (.agg #[.string ByteArray.empty, .int .i64 0]) := by kernel_rfl
theorem sz34 : tySz Tryd.prog 34 = 2 := by kernel_rfl
theorem ag34 : (tyD Tryd.prog 34).map isAggD = some true := by rw [show tyD Tryd.prog 34 = _ from Tryd.underlying34]; rfl
theorem zv34 : tyZ Tryd.prog 34 = some (.agg #[.string ByteArray.empty, .int .i64 0]) := by kernel_rfl
theorem sz46 : tySz Tryd.prog 46 = 2 := by kernel_rfl
theorem ag46 : (tyD Tryd.prog 46).map isAggD = some true := by rw [show tyD Tryd.prog 46 = _ from Tryd.underlying46]; rfl
theorem zv46 : tyZ Tryd.prog 46 = some (.agg #[.int .i64 0, .int .i64 0]) := by kernel_rfl
theorem sz47 : tySz Tryd.prog 47 = 2 := by kernel_rfl
theorem ag47 : (tyD Tryd.prog 47).map isAggD = some true := by rw [show tyD Tryd.prog 47 = _ from Tryd.underlying47]; rfl
theorem zv47 : tyZ Tryd.prog 47 = some (.agg #[.int .i64 0, .int .i64 0]) := by kernel_rfl
theorem sz52 : tySz Tryd.prog 52 = 1 := by kernel_rfl
theorem ag52 : (tyD Tryd.prog 52).map isAggD = some false := by rw [show tyD Tryd.prog 52 = _ from Tryd.underlying52]; rfl
theorem zv52 : tyZ Tryd.prog 52 = some (.slice none 0 0) := by kernel_rfl
theorem sz74 : tySz Tryd.prog 74 = 1 := by kernel_rfl
theorem ag74 : (tyD Tryd.prog 74).map isAggD = some false := by rw [show tyD Tryd.prog 74 = _ from Tryd.underlying74]; rfl
theorem zv74 : tyZ Tryd.prog 74 = some (.slice none 0 0) := by kernel_rfl
theorem sz75 : tySz Tryd.prog 75 = 2 := by kernel_rfl
theorem ag75 : (tyD Tryd.prog 75).map isAggD = some true := by rw [show tyD Tryd.prog 75 = _ from Tryd.underlying75]; rfl
theorem zv75 : tyZ Tryd.prog 75 = some (.agg #[.slice none 0 0, .int .i64 0]) := by kernel_rfl
theorem sz76 : tySz Tryd.prog 76 = 2 := by kernel_rfl
theorem ag76 : (tyD Tryd.prog 76).map isAggD = some true := by rw [show tyD Tryd.prog 76 = _ from Tryd.underlying76]; rfl
theorem zv76 : tyZ Tryd.prog 76 = some (.agg #[.slice none 0 0, .int .i64 0]) := by kernel_rfl
theorem sz77 : tySz Tryd.prog 77 = 1 := by kernel_rfl
theorem ag77 : (tyD Tryd.prog 77).map isAggD = some false := by rw [show tyD Tryd.prog 77 = _ from Tryd.underlying77]; rfl
theorem zv77 : tyZ Tryd.prog 77 = some (.map none) := by kernel_rfl
theorem sz85 : tySz Tryd.prog 85 = 1 := by kernel_rfl
theorem ag85 : (tyD Tryd.prog 85).map isAggD = some false := by rw [show tyD Tryd.prog 85 = _ from Tryd.underlying85]; rfl
theorem zv85 : tyZ Tryd.prog 85 = some (.slice none 0 0) := by kernel_rfl
theorem sz86 : tySz Tryd.prog 86 = 1 := by kernel_rfl
theorem ag86 : (tyD Tryd.prog 86).map isAggD = some false := by rw [show tyD Tryd.prog 86 = _ from Tryd.underlying86]; rfl
theorem zv86 : tyZ Tryd.prog 86 = some (.int .u64 0) := by kernel_rfl
theorem sz90 : tySz Tryd.prog 90 = 2 := by kernel_rfl
theorem ag90 : (tyD Tryd.prog 90).map isAggD = some true := by rw [show tyD Tryd.prog 90 = _ from Tryd.underlying90]; rfl
theorem zv90 : tyZ Tryd.prog 90 = some (.agg #[.int .i64 0, .int .u64 0]) := by kernel_rfl
theorem sz91 : tySz Tryd.prog 91 = 2 := by kernel_rfl
theorem ag91 : (tyD Tryd.prog 91).map isAggD = some true := by rw [show tyD Tryd.prog 91 = _ from Tryd.underlying91]; rfl
theorem zv91 : tyZ Tryd.prog 91 = some (.agg #[.int .i64 0, .int .u64 0]) := by kernel_rfl
theorem sz95 : tySz Tryd.prog 95 = 1 := by kernel_rfl
theorem ag95 : (tyD Tryd.prog 95).map isAggD = some false := by rw [show tyD Tryd.prog 95 = _ from Tryd.underlying95]; rfl
theorem zv95 : tyZ Tryd.prog 95 = some (.int .u64 0) := by kernel_rfl
theorem sz106 : tySz Tryd.prog 106 = 1 := by kernel_rfl
theorem ag106 : (tyD Tryd.prog 106).map isAggD = some false := by rw [show tyD Tryd.prog 106 = _ from Tryd.underlying106]; rfl
theorem zv106 : tyZ Tryd.prog 106 = some (.nilIface) := by kernel_rfl
theorem sz110 : tySz Tryd.prog 110 = 1 := by kernel_rfl
theorem ag110 : (tyD Tryd.prog 110).map isAggD = some false := by rw [show tyD Tryd.prog 110 = _ from Tryd.underlying110]; rfl
theorem zv110 : tyZ Tryd.prog 110 = some (.int .u32 0) := by kernel_rfl
theorem sz116 : tySz Tryd.prog 116 = 256 := by kernel_rfl
theorem ag116 : (tyD Tryd.prog 116).map isAggD = some true := by rw [show tyD Tryd.prog 116 = _ from Tryd.underlying116]; rfl
theorem sz117 : tySz Tryd.prog 117 = 256 := by kernel_rfl
theorem ag117 : (tyD Tryd.prog 117).map isAggD = some true := by rw [show tyD Tryd.prog 117 = _ from Tryd.underlying117]; rfl
theorem sz121 : tySz Tryd.prog 121 = 1 := by kernel_rfl
theorem ag121 : (tyD Tryd.prog 121).map isAggD = some false := by rw [show tyD Tryd.prog 121 = _ from Tryd.underlying121]; rfl
theorem zv121 : tyZ Tryd.prog 121 = some (.pointer none) := by kernel_rfl
theorem sz125 : tySz Tryd.prog 125 = 1 := by kernel_rfl
theorem ag125 : (tyD Tryd.prog 125).map isAggD = some false := by rw [show tyD Tryd.prog 125 = _ from Tryd.underlying125]; rfl
theorem zv125 : tyZ Tryd.prog 125 = some (.int .i64 0) := by kernel_rfl
theorem sz137 : tySz Tryd.prog 137 = 1 := by kernel_rfl
theorem ag137 : (tyD Tryd.prog 137).map isAggD = some false := by rw [show tyD Tryd.prog 137 = _ from Tryd.underlying137]; rfl
theorem zv137 : tyZ Tryd.prog 137 = some (.int .u64 0) := by kernel_rfl
theorem sz141 : tySz Tryd.prog 141 = 1 := by kernel_rfl
theorem ag141 : (tyD Tryd.prog 141).map isAggD = some false := by rw [show tyD Tryd.prog 141 = _ from Tryd.underlying141]; rfl
theorem zv141 : tyZ Tryd.prog 141 = some (.pointer none) := by kernel_rfl
theorem sz144 : tySz Tryd.prog 144 = 1 := by kernel_rfl
theorem ag144 : (tyD Tryd.prog 144).map isAggD = some false := by rw [show tyD Tryd.prog 144 = _ from Tryd.underlying144]; rfl
theorem zv144 : tyZ Tryd.prog 144 = some (.pointer none) := by kernel_rfl
theorem sz147 : tySz Tryd.prog 147 = 256 := by kernel_rfl
theorem ag147 : (tyD Tryd.prog 147).map isAggD = some true := by rw [show tyD Tryd.prog 147 = _ from Tryd.underlying147]; rfl
theorem sz148 : tySz Tryd.prog 148 = 2 := by kernel_rfl
theorem ag148 : (tyD Tryd.prog 148).map isAggD = some true := by rw [show tyD Tryd.prog 148 = _ from Tryd.underlying148]; rfl
theorem zv148 : tyZ Tryd.prog 148 = some (.agg #[.int .u8 0, .int .u8 0]) := by kernel_rfl
theorem sz149 : tySz Tryd.prog 149 = 2 := by kernel_rfl
theorem ag149 : (tyD Tryd.prog 149).map isAggD = some true := by rw [show tyD Tryd.prog 149 = _ from Tryd.underlying149]; rfl
theorem zv149 : tyZ Tryd.prog 149 = some (.agg #[.int .u8 0, .int .u8 0]) := by kernel_rfl
theorem sz150 : tySz Tryd.prog 150 = 32 := by kernel_rfl
theorem ag150 : (tyD Tryd.prog 150).map isAggD = some true := by rw [show tyD Tryd.prog 150 = _ from Tryd.underlying150]; rfl
theorem zv150 : tyZ Tryd.prog 150 = some (.agg #[.int .u8 0, .int .u8 0, .int .u8 0, .int .u8 0, .int .u8 0, .int .u8 0, .int .u8 0, .int .u8 0, .int .u8 0, .int .u8 0, .int .u8 0, .int .u8 0, .int .u8 0, .int .u8 0, .int .u8 0, .int .u8 0, .int .u8 0, .int .u8 0, .int .u8 0, .int .u8 0, .int .u8 0, .int .u8 0, .int .u8 0, .int .u8 0, .int .u8 0, .int .u8 0, .int .u8 0, .int .u8 0, .int .u8 0, .int .u8 0, .int .u8 0, .int .u8 0]) := by kernel_rfl
theorem sz153 : tySz Tryd.prog 153 = 1 := by kernel_rfl
theorem ag153 : (tyD Tryd.prog 153).map isAggD = some false := by rw [show tyD Tryd.prog 153 = _ from Tryd.underlying153]; rfl
theorem zv153 : tyZ Tryd.prog 153 = some (.pointer none) := by kernel_rfl
theorem sz155 : tySz Tryd.prog 155 = 4 := by kernel_rfl
theorem ag155 : (tyD Tryd.prog 155).map isAggD = some true := by rw [show tyD Tryd.prog 155 = _ from Tryd.underlying155]; rfl
theorem zv155 : tyZ Tryd.prog 155 = some (.agg #[.pointer none, .pointer none, .pointer none, .string ByteArray.empty]) := by kernel_rfl
theorem sz156 : tySz Tryd.prog 156 = 4 := by kernel_rfl
theorem ag156 : (tyD Tryd.prog 156).map isAggD = some true := by rw [show tyD Tryd.prog 156 = _ from Tryd.underlying156]; rfl
theorem zv156 : tyZ Tryd.prog 156 = some (.agg #[.pointer none, .pointer none, .pointer none, .string ByteArray.empty]) := by kernel_rfl
theorem sz157 : tySz Tryd.prog 157 = 0 := by kernel_rfl
theorem ag157 : (tyD Tryd.prog 157).map isAggD = some true := by rw [show tyD Tryd.prog 157 = _ from Tryd.underlying157]; rfl
theorem zv157 : tyZ Tryd.prog 157 = some (.agg #[]) := by kernel_rfl
theorem sz158 : tySz Tryd.prog 158 = 0 := by kernel_rfl
theorem ag158 : (tyD Tryd.prog 158).map isAggD = some true := by rw [show tyD Tryd.prog 158 = _ from Tryd.underlying158]; rfl
theorem zv158 : tyZ Tryd.prog 158 = some (.agg #[]) := by kernel_rfl
theorem sz159 : tySz Tryd.prog 159 = 0 := by kernel_rfl
theorem ag159 : (tyD Tryd.prog 159).map isAggD = some true := by rw [show tyD Tryd.prog 159 = _ from Tryd.underlying159]; rfl
theorem zv159 : tyZ Tryd.prog 159 = some (.agg #[]) := by kernel_rfl
theorem sz161 : tySz Tryd.prog 161 = 1 := by kernel_rfl
theorem ag161 : (tyD Tryd.prog 161).map isAggD = some false := by rw [show tyD Tryd.prog 161 = _ from Tryd.underlying161]; rfl
theorem zv161 : tyZ Tryd.prog 161 = some (.int .u8 0) := by kernel_rfl
theorem sz162 : tySz Tryd.prog 162 = 1 := by kernel_rfl
theorem ag162 : (tyD Tryd.prog 162).map isAggD = some false := by rw [show tyD Tryd.prog 162 = _ from Tryd.underlying162]; rfl
theorem zv162 : tyZ Tryd.prog 162 = some (.int .u8 0) := by kernel_rfl
theorem sz164 : tySz Tryd.prog 164 = 1 := by kernel_rfl
theorem ag164 : (tyD Tryd.prog 164).map isAggD = some false := by rw [show tyD Tryd.prog 164 = _ from Tryd.underlying164]; rfl
theorem zv164 : tyZ Tryd.prog 164 = some (.pointer none) := by kernel_rfl
theorem sz165 : tySz Tryd.prog 165 = 1 := by kernel_rfl
theorem ag165 : (tyD Tryd.prog 165).map isAggD = some false := by rw [show tyD Tryd.prog 165 = _ from Tryd.underlying165]; rfl
theorem zv165 : tyZ Tryd.prog 165 = some (.int .i32 0) := by kernel_rfl
theorem sz166 : tySz Tryd.prog 166 = 1 := by kernel_rfl
theorem ag166 : (tyD Tryd.prog 166).map isAggD = some false := by rw [show tyD Tryd.prog 166 = _ from Tryd.underlying166]; rfl
theorem zv166 : tyZ Tryd.prog 166 = some (.int .i32 0) := by kernel_rfl
theorem sz167 : tySz Tryd.prog 167 = 11 := by kernel_rfl
theorem ag167 : (tyD Tryd.prog 167).map isAggD = some true := by rw [show tyD Tryd.prog 167 = _ from Tryd.underlying167]; rfl
theorem zv167 : tyZ Tryd.prog 167 = some (.agg #[.int .u64 0, .int .u64 0, .int .u32 0, .int .u8 0, .int .u8 0, .int .u8 0, .int .u8 0, .nilFunc, .pointer none, .int .i32 0, .int .i32 0]) := by kernel_rfl
theorem sz168 : tySz Tryd.prog 168 = 11 := by kernel_rfl
theorem ag168 : (tyD Tryd.prog 168).map isAggD = some true := by rw [show tyD Tryd.prog 168 = _ from Tryd.underlying168]; rfl
theorem zv168 : tyZ Tryd.prog 168 = some (.agg #[.int .u64 0, .int .u64 0, .int .u32 0, .int .u8 0, .int .u8 0, .int .u8 0, .int .u8 0, .nilFunc, .pointer none, .int .i32 0, .int .i32 0]) := by kernel_rfl
theorem sz169 : tySz Tryd.prog 169 = 1 := by kernel_rfl
theorem ag169 : (tyD Tryd.prog 169).map isAggD = some true := by rw [show tyD Tryd.prog 169 = _ from Tryd.underlying169]; rfl
theorem zv169 : tyZ Tryd.prog 169 = some (.agg #[.string ByteArray.empty]) := by kernel_rfl
theorem sz170 : tySz Tryd.prog 170 = 1 := by kernel_rfl
theorem ag170 : (tyD Tryd.prog 170).map isAggD = some true := by rw [show tyD Tryd.prog 170 = _ from Tryd.underlying170]; rfl
theorem zv170 : tyZ Tryd.prog 170 = some (.agg #[.string ByteArray.empty]) := by kernel_rfl
theorem sz171 : tySz Tryd.prog 171 = 1 := by kernel_rfl
theorem ag171 : (tyD Tryd.prog 171).map isAggD = some false := by rw [show tyD Tryd.prog 171 = _ from Tryd.underlying171]; rfl
theorem zv171 : tyZ Tryd.prog 171 = some (.pointer none) := by kernel_rfl
theorem ld2 (a : Addr) (G : GH) : pvLoad Tryd.prog 2 (.pointer (some a)) G = gcell G a := pvLoad_one ag2 a G
theorem st2 (rs : Array ResultVar) (K : Value → GH → Prop) (s : List It) (ops : List Oper) (md : Option GH) (d : Option Nat) (l : List Oper) (f : Fr) (G : GH) (a : Addr) (v : Value) (h : oneV v = true) : Yst Tryd.prog rs K s ops md d l f G 2 (.pointer (some a)) v = Yset Tryd.prog rs K s ops md d l f G a [v] := Yst_ptr rs K s ops md d l f G ⟨by rw [sz2]; decide, by rw [sz2]; rfl⟩ (one_cells h) (by simp [h])
theorem al2 (rs : Array ResultVar) (K : Value → GH → Prop) (s : List It) (ops : List Oper) (md : Option GH) (d : Option Nat) (l : List Oper) (f : Fr) (G : GH) : Yal Tryd.prog rs K s ops md d l f G 2 = Ynew' Tryd.prog rs K s ops md d l f G (.cells #[.int .i64 0] 2 (0, 0)) (fun r => .pointer (some ⟨r, 0, none⟩)) := Yal_eq rs K s ops md d l f G zv2
theorem ld3 (a : Addr) (G : GH) : pvLoad Tryd.prog 3 (.pointer (some a)) G = gcell G a := pvLoad_one ag3 a G
theorem st3 (rs : Array ResultVar) (K : Value → GH → Prop) (s : List It) (ops : List Oper) (md : Option GH) (d : Option Nat) (l : List Oper) (f : Fr) (G : GH) (a : Addr) (v : Value) (h : oneV v = true) : Yst Tryd.prog rs K s ops md d l f G 3 (.pointer (some a)) v = Yset Tryd.prog rs K s ops md d l f G a [v] := Yst_ptr rs K s ops md d l f G ⟨by rw [sz3]; decide, by rw [sz3]; rfl⟩ (one_cells h) (by simp [h])
theorem al3 (rs : Array ResultVar) (K : Value → GH → Prop) (s : List It) (ops : List Oper) (md : Option GH) (d : Option Nat) (l : List Oper) (f : Fr) (G : GH) : Yal Tryd.prog rs K s ops md d l f G 3 = Ynew' Tryd.prog rs K s ops md d l f G (.cells #[.int .i64 0] 3 (0, 0)) (fun r => .pointer (some ⟨r, 0, none⟩)) := Yal_eq rs K s ops md d l f G zv3
theorem ld4 (a : Addr) (G : GH) : pvLoad Tryd.prog 4 (.pointer (some a)) G = gcell G a := pvLoad_one ag4 a G
theorem st4 (rs : Array ResultVar) (K : Value → GH → Prop) (s : List It) (ops : List Oper) (md : Option GH) (d : Option Nat) (l : List Oper) (f : Fr) (G : GH) (a : Addr) (v : Value) (h : oneV v = true) : Yst Tryd.prog rs K s ops md d l f G 4 (.pointer (some a)) v = Yset Tryd.prog rs K s ops md d l f G a [v] := Yst_ptr rs K s ops md d l f G ⟨by rw [sz4]; decide, by rw [sz4]; rfl⟩ (one_cells h) (by simp [h])
theorem al4 (rs : Array ResultVar) (K : Value → GH → Prop) (s : List It) (ops : List Oper) (md : Option GH) (d : Option Nat) (l : List Oper) (f : Fr) (G : GH) : Yal Tryd.prog rs K s ops md d l f G 4 = Ynew' Tryd.prog rs K s ops md d l f G (.cells #[.bool false] 4 (0, 0)) (fun r => .pointer (some ⟨r, 0, none⟩)) := Yal_eq rs K s ops md d l f G zv4
theorem be4 (x y : Operand) (a b : Bool) : pvB Tryd.prog .eql 4 x y (.bool a) (.bool b) = some (.bool (a == b)) := pvB_beq Tryd.underlying4 x y a b
theorem bn4 (x y : Operand) (a b : Bool) : pvB Tryd.prog .neq 4 x y (.bool a) (.bool b) = some (.bool (!(a == b))) := pvB_bne Tryd.underlying4 x y a b
theorem ld5 (a : Addr) (G : GH) : pvLoad Tryd.prog 5 (.pointer (some a)) G = gcell G a := pvLoad_one ag5 a G
theorem st5 (rs : Array ResultVar) (K : Value → GH → Prop) (s : List It) (ops : List Oper) (md : Option GH) (d : Option Nat) (l : List Oper) (f : Fr) (G : GH) (a : Addr) (v : Value) (h : oneV v = true) : Yst Tryd.prog rs K s ops md d l f G 5 (.pointer (some a)) v = Yset Tryd.prog rs K s ops md d l f G a [v] := Yst_ptr rs K s ops md d l f G ⟨by rw [sz5]; decide, by rw [sz5]; rfl⟩ (one_cells h) (by simp [h])
theorem al5 (rs : Array ResultVar) (K : Value → GH → Prop) (s : List It) (ops : List Oper) (md : Option GH) (d : Option Nat) (l : List Oper) (f : Fr) (G : GH) : Yal Tryd.prog rs K s ops md d l f G 5 = Ynew' Tryd.prog rs K s ops md d l f G (.cells #[.int .u8 0] 5 (0, 0)) (fun r => .pointer (some ⟨r, 0, none⟩)) := Yal_eq rs K s ops md d l f G zv5
theorem ld6 (a : Addr) (G : GH) : pvLoad Tryd.prog 6 (.pointer (some a)) G = gcell G a := pvLoad_one ag6 a G
theorem st6 (rs : Array ResultVar) (K : Value → GH → Prop) (s : List It) (ops : List Oper) (md : Option GH) (d : Option Nat) (l : List Oper) (f : Fr) (G : GH) (a : Addr) (v : Value) (h : oneV v = true) : Yst Tryd.prog rs K s ops md d l f G 6 (.pointer (some a)) v = Yset Tryd.prog rs K s ops md d l f G a [v] := Yst_ptr rs K s ops md d l f G ⟨by rw [sz6]; decide, by rw [sz6]; rfl⟩ (one_cells h) (by simp [h])
theorem al6 (rs : Array ResultVar) (K : Value → GH → Prop) (s : List It) (ops : List Oper) (md : Option GH) (d : Option Nat) (l : List Oper) (f : Fr) (G : GH) : Yal Tryd.prog rs K s ops md d l f G 6 = Ynew' Tryd.prog rs K s ops md d l f G (.cells #[.int .u8 0] 6 (0, 0)) (fun r => .pointer (some ⟨r, 0, none⟩)) := Yal_eq rs K s ops md d l f G zv6
theorem ld7 (a : Addr) (G : GH) : pvLoad Tryd.prog 7 (.pointer (some a)) G = (gcells G a 4).map fun cs => .agg cs.toArray := pvLoad_agg ag7 sz7 (by decide) a G
theorem st7 (rs : Array ResultVar) (K : Value → GH → Prop) (s : List It) (ops : List Oper) (md : Option GH) (d : Option Nat) (l : List Oper) (f : Fr) (G : GH) (a : Addr) (x0 x1 x2 x3 : Value) (h : [x0, x1, x2, x3].all oneV = true) : Yst Tryd.prog rs K s ops md d l f G 7 (.pointer (some a)) (.agg #[x0, x1, x2, x3]) = Yset Tryd.prog rs K s ops md d l f G a [x0, x1, x2, x3] := Yst_ptr rs K s ops md d l f G ⟨by rw [sz7]; decide, by rw [sz7]; rfl⟩ rfl h
theorem al7 (rs : Array ResultVar) (K : Value → GH → Prop) (s : List It) (ops : List Oper) (md : Option GH) (d : Option Nat) (l : List Oper) (f : Fr) (G : GH) : Yal Tryd.prog rs K s ops md d l f G 7 = Ynew' Tryd.prog rs K s ops md d l f G (.cells #[.int .i64 0, .int .i64 0, .bool false, .int .u8 0] 7 (0, 0)) (fun r => .pointer (some ⟨r, 0, none⟩)) := Yal_eq rs K s ops md d l f G zv7
theorem fa7_0 (a : Addr) : pvFA Tryd.prog 7 (.pointer (some a)) 0 = some (.pointer (some (a.add 0))) := pvFA_eq (F := 2) (by unfold tyFld; rw [show tyD Tryd.prog 7 = _ from Tryd.underlying7]; rfl) (by rw [show tySz Tryd.prog 2 = 1 from by kernel_rfl]; decide) a
theorem fl7_0 (x0 x1 x2 x3 : Value) : pvField Tryd.prog 7 (.agg #[x0, x1, x2, x3]) 0 = some x0 := pvField_one (F := 2) (i := 0) (off := 0) (cs := [x0, x1, x2, x3]) (by unfold tyFld; rw [show tyD Tryd.prog 7 = _ from Tryd.underlying7]; rfl) (by rw [show tyD Tryd.prog 2 = _ from Tryd.underlying2]; rfl) rfl
theorem fa7_1 (a : Addr) : pvFA Tryd.prog 7 (.pointer (some a)) 1 = some (.pointer (some (a.add 1))) := pvFA_eq (F := 3) (by unfold tyFld; rw [show tyD Tryd.prog 7 = _ from Tryd.underlying7]; rfl) (by rw [show tySz Tryd.prog 3 = 1 from by kernel_rfl]; decide) a
theorem fl7_1 (x0 x1 x2 x3 : Value) : pvField Tryd.prog 7 (.agg #[x0, x1, x2, x3]) 1 = some x1 := pvField_one (F := 3) (i := 1) (off := 1) (cs := [x0, x1, x2, x3]) (by unfold tyFld; rw [show tyD Tryd.prog 7 = _ from Tryd.underlying7]; rfl) (by rw [show tyD Tryd.prog 3 = _ from Tryd.underlying3]; rfl) rfl
theorem fa7_2 (a : Addr) : pvFA Tryd.prog 7 (.pointer (some a)) 2 = some (.pointer (some (a.add 2))) := pvFA_eq (F := 4) (by unfold tyFld; rw [show tyD Tryd.prog 7 = _ from Tryd.underlying7]; rfl) (by rw [show tySz Tryd.prog 4 = 1 from by kernel_rfl]; decide) a
theorem fl7_2 (x0 x1 x2 x3 : Value) : pvField Tryd.prog 7 (.agg #[x0, x1, x2, x3]) 2 = some x2 := pvField_one (F := 4) (i := 2) (off := 2) (cs := [x0, x1, x2, x3]) (by unfold tyFld; rw [show tyD Tryd.prog 7 = _ from Tryd.underlying7]; rfl) (by rw [show tyD Tryd.prog 4 = _ from Tryd.underlying4]; rfl) rfl
theorem fa7_3 (a : Addr) : pvFA Tryd.prog 7 (.pointer (some a)) 3 = some (.pointer (some (a.add 3))) := pvFA_eq (F := 6) (by unfold tyFld; rw [show tyD Tryd.prog 7 = _ from Tryd.underlying7]; rfl) (by rw [show tySz Tryd.prog 6 = 1 from by kernel_rfl]; decide) a
theorem fl7_3 (x0 x1 x2 x3 : Value) : pvField Tryd.prog 7 (.agg #[x0, x1, x2, x3]) 3 = some x3 := pvField_one (F := 6) (i := 3) (off := 3) (cs := [x0, x1, x2, x3]) (by unfold tyFld; rw [show tyD Tryd.prog 7 = _ from Tryd.underlying7]; rfl) (by rw [show tyD Tryd.prog 6 = _ from Tryd.underlying6]; rfl) rfl
theorem ld8 (a : Addr) (G : GH) : pvLoad Tryd.prog 8 (.pointer (some a)) G = (gcells G a 4).map fun cs => .agg cs.toArray := pvLoad_agg ag8 sz8 (by decide) a G
theorem st8 (rs : Array ResultVar) (K : Value → GH → Prop) (s : List It) (ops : List Oper) (md : Option GH) (d : Option Nat) (l : List Oper) (f : Fr) (G : GH) (a : Addr) (x0 x1 x2 x3 : Value) (h : [x0, x1, x2, x3].all oneV = true) : Yst Tryd.prog rs K s ops md d l f G 8 (.pointer (some a)) (.agg #[x0, x1, x2, x3]) = Yset Tryd.prog rs K s ops md d l f G a [x0, x1, x2, x3] := Yst_ptr rs K s ops md d l f G ⟨by rw [sz8]; decide, by rw [sz8]; rfl⟩ rfl h
theorem al8 (rs : Array ResultVar) (K : Value → GH → Prop) (s : List It) (ops : List Oper) (md : Option GH) (d : Option Nat) (l : List Oper) (f : Fr) (G : GH) : Yal Tryd.prog rs K s ops md d l f G 8 = Ynew' Tryd.prog rs K s ops md d l f G (.cells #[.int .i64 0, .int .i64 0, .bool false, .int .u8 0] 8 (0, 0)) (fun r => .pointer (some ⟨r, 0, none⟩)) := Yal_eq rs K s ops md d l f G zv8
theorem fa8_0 (a : Addr) : pvFA Tryd.prog 8 (.pointer (some a)) 0 = some (.pointer (some (a.add 0))) := pvFA_eq (F := 2) (by unfold tyFld; rw [show tyD Tryd.prog 8 = _ from Tryd.underlying8]; rfl) (by rw [show tySz Tryd.prog 2 = 1 from by kernel_rfl]; decide) a
theorem fl8_0 (x0 x1 x2 x3 : Value) : pvField Tryd.prog 8 (.agg #[x0, x1, x2, x3]) 0 = some x0 := pvField_one (F := 2) (i := 0) (off := 0) (cs := [x0, x1, x2, x3]) (by unfold tyFld; rw [show tyD Tryd.prog 8 = _ from Tryd.underlying8]; rfl) (by rw [show tyD Tryd.prog 2 = _ from Tryd.underlying2]; rfl) rfl
theorem fa8_1 (a : Addr) : pvFA Tryd.prog 8 (.pointer (some a)) 1 = some (.pointer (some (a.add 1))) := pvFA_eq (F := 3) (by unfold tyFld; rw [show tyD Tryd.prog 8 = _ from Tryd.underlying8]; rfl) (by rw [show tySz Tryd.prog 3 = 1 from by kernel_rfl]; decide) a
theorem fl8_1 (x0 x1 x2 x3 : Value) : pvField Tryd.prog 8 (.agg #[x0, x1, x2, x3]) 1 = some x1 := pvField_one (F := 3) (i := 1) (off := 1) (cs := [x0, x1, x2, x3]) (by unfold tyFld; rw [show tyD Tryd.prog 8 = _ from Tryd.underlying8]; rfl) (by rw [show tyD Tryd.prog 3 = _ from Tryd.underlying3]; rfl) rfl
theorem fa8_2 (a : Addr) : pvFA Tryd.prog 8 (.pointer (some a)) 2 = some (.pointer (some (a.add 2))) := pvFA_eq (F := 4) (by unfold tyFld; rw [show tyD Tryd.prog 8 = _ from Tryd.underlying8]; rfl) (by rw [show tySz Tryd.prog 4 = 1 from by kernel_rfl]; decide) a
theorem fl8_2 (x0 x1 x2 x3 : Value) : pvField Tryd.prog 8 (.agg #[x0, x1, x2, x3]) 2 = some x2 := pvField_one (F := 4) (i := 2) (off := 2) (cs := [x0, x1, x2, x3]) (by unfold tyFld; rw [show tyD Tryd.prog 8 = _ from Tryd.underlying8]; rfl) (by rw [show tyD Tryd.prog 4 = _ from Tryd.underlying4]; rfl) rfl
theorem fa8_3 (a : Addr) : pvFA Tryd.prog 8 (.pointer (some a)) 3 = some (.pointer (some (a.add 3))) := pvFA_eq (F := 6) (by unfold tyFld; rw [show tyD Tryd.prog 8 = _ from Tryd.underlying8]; rfl) (by rw [show tySz Tryd.prog 6 = 1 from by kernel_rfl]; decide) a
theorem fl8_3 (x0 x1 x2 x3 : Value) : pvField Tryd.prog 8 (.agg #[x0, x1, x2, x3]) 3 = some x3 := pvField_one (F := 6) (i := 3) (off := 3) (cs := [x0, x1, x2, x3]) (by unfold tyFld; rw [show tyD Tryd.prog 8 = _ from Tryd.underlying8]; rfl) (by rw [show tyD Tryd.prog 6 = _ from Tryd.underlying6]; rfl) rfl
theorem ld9 (a : Addr) (G : GH) : pvLoad Tryd.prog 9 (.pointer (some a)) G = gcell G a := pvLoad_one ag9 a G
theorem st9 (rs : Array ResultVar) (K : Value → GH → Prop) (s : List It) (ops : List Oper) (md : Option GH) (d : Option Nat) (l : List Oper) (f : Fr) (G : GH) (a : Addr) (v : Value) (h : oneV v = true) : Yst Tryd.prog rs K s ops md d l f G 9 (.pointer (some a)) v = Yset Tryd.prog rs K s ops md d l f G a [v] := Yst_ptr rs K s ops md d l f G ⟨by rw [sz9]; decide, by rw [sz9]; rfl⟩ (one_cells h) (by simp [h])
theorem al9 (rs : Array ResultVar) (K : Value → GH → Prop) (s : List It) (ops : List Oper) (md : Option GH) (d : Option Nat) (l : List Oper) (f : Fr) (G : GH) : Yal Tryd.prog rs K s ops md d l f G 9 = Ynew' Tryd.prog rs K s ops md d l f G (.cells #[.string ByteArray.empty] 9 (0, 0)) (fun r => .pointer (some ⟨r, 0, none⟩)) := Yal_eq rs K s ops md d l f G zv9
theorem ln9 (s : ByteArray) : pvB1 Tryd.prog .len [9] [.string s] = some (.int .i64 s.size) := pvLen_string Tryd.underlying9 s
theorem ix9 (s : ByteArray) (k : IntKind) (j : Int) : pvI Tryd.prog 9 (.string s) (.int k j) = if 0 ≤ j ∧ j < s.size then some (.int .u8 (s.data.toList.getD j.toNat 0).toNat) else none := pvI_string Tryd.underlying9 s k j
theorem ld10 (a : Addr) (G : GH) : pvLoad Tryd.prog 10 (.pointer (some a)) G = gcell G a := pvLoad_one ag10 a G
theorem st10 (rs : Array ResultVar) (K : Value → GH → Prop) (s : List It) (ops : List Oper) (md : Option GH) (d : Option Nat) (l : List Oper) (f : Fr) (G : GH) (a : Addr) (v : Value) (h : oneV v = true) : Yst Tryd.prog rs K s ops md d l f G 10 (.pointer (some a)) v = Yset Tryd.prog rs K s ops md d l f G a [v] := Yst_ptr rs K s ops md d l f G ⟨by rw [sz10]; decide, by rw [sz10]; rfl⟩ (one_cells h) (by simp [h])
theorem al10 (rs : Array ResultVar) (K : Value → GH → Prop) (s : List It) (ops : List Oper) (md : Option GH) (d : Option Nat) (l : List Oper) (f : Fr) (G : GH) : Yal Tryd.prog rs K s ops md d l f G 10 = Ynew' Tryd.prog rs K s ops md d l f G (.cells #[.string ByteArray.empty] 10 (0, 0)) (fun r => .pointer (some ⟨r, 0, none⟩)) := Yal_eq rs K s ops md d l f G zv10
theorem ln10 (s : ByteArray) : pvB1 Tryd.prog .len [10] [.string s] = some (.int .i64 s.size) := pvLen_string Tryd.underlying10 s
theorem ix10 (s : ByteArray) (k : IntKind) (j : Int) : pvI Tryd.prog 10 (.string s) (.int k j) = if 0 ≤ j ∧ j < s.size then some (.int .u8 (s.data.toList.getD j.toNat 0).toNat) else none := pvI_string Tryd.underlying10 s k j
theorem ld11 (a : Addr) (G : GH) : pvLoad Tryd.prog 11 (.pointer (some a)) G = gcell G a := pvLoad_one ag11 a G
theorem st11 (rs : Array ResultVar) (K : Value → GH → Prop) (s : List It) (ops : List Oper) (md : Option GH) (d : Option Nat) (l : List Oper) (f : Fr) (G : GH) (a : Addr) (v : Value) (h : oneV v = true) : Yst Tryd.prog rs K s ops md d l f G 11 (.pointer (some a)) v = Yset Tryd.prog rs K s ops md d l f G a [v] := Yst_ptr rs K s ops md d l f G ⟨by rw [sz11]; decide, by rw [sz11]; rfl⟩ (one_cells h) (by simp [h])
theorem al11 (rs : Array ResultVar) (K : Value → GH → Prop) (s : List It) (ops : List Oper) (md : Option GH) (d : Option Nat) (l : List Oper) (f : Fr) (G : GH) : Yal Tryd.prog rs K s ops md d l f G 11 = Ynew' Tryd.prog rs K s ops md d l f G (.cells #[.string ByteArray.empty] 11 (0, 0)) (fun r => .pointer (some ⟨r, 0, none⟩)) := Yal_eq rs K s ops md d l f G zv11
theorem ln11 (s : ByteArray) : pvB1 Tryd.prog .len [11] [.string s] = some (.int .i64 s.size) := pvLen_string Tryd.underlying11 s
theorem ix11 (s : ByteArray) (k : IntKind) (j : Int) : pvI Tryd.prog 11 (.string s) (.int k j) = if 0 ≤ j ∧ j < s.size then some (.int .u8 (s.data.toList.getD j.toNat 0).toNat) else none := pvI_string Tryd.underlying11 s k j
theorem ld12 (a : Addr) (G : GH) : pvLoad Tryd.prog 12 (.pointer (some a)) G = gcell G a := pvLoad_one ag12 a G
theorem st12 (rs : Array ResultVar) (K : Value → GH → Prop) (s : List It) (ops : List Oper) (md : Option GH) (d : Option Nat) (l : List Oper) (f : Fr) (G : GH) (a : Addr) (v : Value) (h : oneV v = true) : Yst Tryd.prog rs K s ops md d l f G 12 (.pointer (some a)) v = Yset Tryd.prog rs K s ops md d l f G a [v] := Yst_ptr rs K s ops md d l f G ⟨by rw [sz12]; decide, by rw [sz12]; rfl⟩ (one_cells h) (by simp [h])
theorem al12 (rs : Array ResultVar) (K : Value → GH → Prop) (s : List It) (ops : List Oper) (md : Option GH) (d : Option Nat) (l : List Oper) (f : Fr) (G : GH) : Yal Tryd.prog rs K s ops md d l f G 12 = Ynew' Tryd.prog rs K s ops md d l f G (.cells #[.int .u64 0] 12 (0, 0)) (fun r => .pointer (some ⟨r, 0, none⟩)) := Yal_eq rs K s ops md d l f G zv12
theorem ld13 (a : Addr) (G : GH) : pvLoad Tryd.prog 13 (.pointer (some a)) G = (gcells G a 2).map fun cs => .agg cs.toArray := pvLoad_agg ag13 sz13 (by decide) a G
theorem st13 (rs : Array ResultVar) (K : Value → GH → Prop) (s : List It) (ops : List Oper) (md : Option GH) (d : Option Nat) (l : List Oper) (f : Fr) (G : GH) (a : Addr) (x0 x1 : Value) (h : [x0, x1].all oneV = true) : Yst Tryd.prog rs K s ops md d l f G 13 (.pointer (some a)) (.agg #[x0, x1]) = Yset Tryd.prog rs K s ops md d l f G a [x0, x1] := Yst_ptr rs K s ops md d l f G ⟨by rw [sz13]; decide, by rw [sz13]; rfl⟩ rfl h
theorem al13 (rs : Array ResultVar) (K : Value → GH → Prop) (s : List It) (ops : List Oper) (md : Option GH) (d : Option Nat) (l : List Oper) (f : Fr) (G : GH) : Yal Tryd.prog rs K s ops md d l f G 13 = Ynew' Tryd.prog rs K s ops md d l f G (.cells #[.string ByteArray.empty, .int .u64 0] 13 (0, 0)) (fun r => .pointer (some ⟨r, 0, none⟩)) := Yal_eq rs K s ops md d l f G zv13
theorem fa13_0 (a : Addr) : pvFA Tryd.prog 13 (.pointer (some a)) 0 = some (.pointer (some (a.add 0))) := pvFA_eq (F := 9) (by unfold tyFld; rw [show tyD Tryd.prog 13 = _ from Tryd.underlying13]; rfl) (by rw [show tySz Tryd.prog 9 = 1 from by kernel_rfl]; decide) a
theorem fl13_0 (x0 x1 : Value) : pvField Tryd.prog 13 (.agg #[x0, x1]) 0 = some x0 := pvField_one (F := 9) (i := 0) (off := 0) (cs := [x0, x1]) (by unfold tyFld; rw [show tyD Tryd.prog 13 = _ from Tryd.underlying13]; rfl) (by rw [show tyD Tryd.prog 9 = _ from Tryd.underlying9]; rfl) rfl
theorem fa13_1 (a : Addr) : pvFA Tryd.prog 13 (.pointer (some a)) 1 = some (.pointer (some (a.add 1))) := pvFA_eq (F := 12) (by unfold tyFld; rw [show tyD Tryd.prog 13 = _ from Tryd.underlying13]; rfl) (by rw [show tySz Tryd.prog 12 = 1 from by kernel_rfl]; decide) a
theorem fl13_1 (x0 x1 : Value) : pvField Tryd.prog 13 (.agg #[x0, x1]) 1 = some x1 := pvField_one (F := 12) (i := 1) (off := 1) (cs := [x0, x1]) (by unfold tyFld; rw [show tyD Tryd.prog 13 = _ from Tryd.underlying13]; rfl) (by rw [show tyD Tryd.prog 12 = _ from Tryd.underlying12]; rfl) rfl
theorem ld14 (a : Addr) (G : GH) : pvLoad Tryd.prog 14 (.pointer (some a)) G = (gcells G a 2).map fun cs => .agg cs.toArray := pvLoad_agg ag14 sz14 (by decide) a G
theorem st14 (rs : Array ResultVar) (K : Value → GH → Prop) (s : List It) (ops : List Oper) (md : Option GH) (d : Option Nat) (l : List Oper) (f : Fr) (G : GH) (a : Addr) (x0 x1 : Value) (h : [x0, x1].all oneV = true) : Yst Tryd.prog rs K s ops md d l f G 14 (.pointer (some a)) (.agg #[x0, x1]) = Yset Tryd.prog rs K s ops md d l f G a [x0, x1] := Yst_ptr rs K s ops md d l f G ⟨by rw [sz14]; decide, by rw [sz14]; rfl⟩ rfl h
theorem al14 (rs : Array ResultVar) (K : Value → GH → Prop) (s : List It) (ops : List Oper) (md : Option GH) (d : Option Nat) (l : List Oper) (f : Fr) (G : GH) : Yal Tryd.prog rs K s ops md d l f G 14 = Ynew' Tryd.prog rs K s ops md d l f G (.cells #[.string ByteArray.empty, .int .u64 0] 14 (0, 0)) (fun r => .pointer (some ⟨r, 0, none⟩)) := Yal_eq rs K s ops md d l f G zv14
theorem fa14_0 (a : Addr) : pvFA Tryd.prog 14 (.pointer (some a)) 0 = some (.pointer (some (a.add 0))) := pvFA_eq (F := 9) (by unfold tyFld; rw [show tyD Tryd.prog 14 = _ from Tryd.underlying14]; rfl) (by rw [show tySz Tryd.prog 9 = 1 from by kernel_rfl]; decide) a
theorem fl14_0 (x0 x1 : Value) : pvField Tryd.prog 14 (.agg #[x0, x1]) 0 = some x0 := pvField_one (F := 9) (i := 0) (off := 0) (cs := [x0, x1]) (by unfold tyFld; rw [show tyD Tryd.prog 14 = _ from Tryd.underlying14]; rfl) (by rw [show tyD Tryd.prog 9 = _ from Tryd.underlying9]; rfl) rfl
theorem fa14_1 (a : Addr) : pvFA Tryd.prog 14 (.pointer (some a)) 1 = some (.pointer (some (a.add 1))) := pvFA_eq (F := 12) (by unfold tyFld; rw [show tyD Tryd.prog 14 = _ from Tryd.underlying14]; rfl) (by rw [show tySz Tryd.prog 12 = 1 from by kernel_rfl]; decide) a
theorem fl14_1 (x0 x1 : Value) : pvField Tryd.prog 14 (.agg #[x0, x1]) 1 = some x1 := pvField_one (F := 12) (i := 1) (off := 1) (cs := [x0, x1]) (by unfold tyFld; rw [show tyD Tryd.prog 14 = _ from Tryd.underlying14]; rfl) (by rw [show tyD Tryd.prog 12 = _ from Tryd.underlying12]; rfl) rfl
theorem ld15 (a : Addr) (G : GH) : pvLoad Tryd.prog 15 (.pointer (some a)) G = gcell G a := pvLoad_one ag15 a G
theorem st15 (rs : Array ResultVar) (K : Value → GH → Prop) (s : List It) (ops : List Oper) (md : Option GH) (d : Option Nat) (l : List Oper) (f : Fr) (G : GH) (a : Addr) (v : Value) (h : oneV v = true) : Yst Tryd.prog rs K s ops md d l f G 15 (.pointer (some a)) v = Yset Tryd.prog rs K s ops md d l f G a [v] := Yst_ptr rs K s ops md d l f G ⟨by rw [sz15]; decide, by rw [sz15]; rfl⟩ (one_cells h) (by simp [h])
theorem al15 (rs : Array ResultVar) (K : Value → GH → Prop) (s : List It) (ops : List Oper) (md : Option GH) (d : Option Nat) (l : List Oper) (f : Fr) (G : GH) : Yal Tryd.prog rs K s ops md d l f G 15 = Ynew' Tryd.prog rs K s ops md d l f G (.cells #[.pointer none] 15 (0, 0)) (fun r => .pointer (some ⟨r, 0, none⟩)) := Yal_eq rs K s ops md d l f G zv15
theorem ld16 (a : Addr) (G : GH) : pvLoad Tryd.prog 16 (.pointer (some a)) G = gcell G a := pvLoad_one ag16 a G
theorem st16 (rs : Array ResultVar) (K : Value → GH → Prop) (s : List It) (ops : List Oper) (md : Option GH) (d : Option Nat) (l : List Oper) (f : Fr) (G : GH) (a : Addr) (v : Value) (h : oneV v = true) : Yst Tryd.prog rs K s ops md d l f G 16 (.pointer (some a)) v = Yset Tryd.prog rs K s ops md d l f G a [v] := Yst_ptr rs K s ops md d l f G ⟨by rw [sz16]; decide, by rw [sz16]; rfl⟩ (one_cells h) (by simp [h])
theorem al16 (rs : Array ResultVar) (K : Value → GH → Prop) (s : List It) (ops : List Oper) (md : Option GH) (d : Option Nat) (l : List Oper) (f : Fr) (G : GH) : Yal Tryd.prog rs K s ops md d l f G 16 = Ynew' Tryd.prog rs K s ops md d l f G (.cells #[.pointer none] 16 (0, 0)) (fun r => .pointer (some ⟨r, 0, none⟩)) := Yal_eq rs K s ops md d l f G zv16
theorem ld17 (a : Addr) (G : GH) : pvLoad Tryd.prog 17 (.pointer (some a)) G = gcell G a := pvLoad_one ag17 a G
theorem st17 (rs : Array ResultVar) (K : Value → GH → Prop) (s : List It) (ops : List Oper) (md : Option GH) (d : Option Nat) (l : List Oper) (f : Fr) (G : GH) (a : Addr) (v : Value) (h : oneV v = true) : Yst Tryd.prog rs K s ops md d l f G 17 (.pointer (some a)) v = Yset Tryd.prog rs K s ops md d l f G a [v] := Yst_ptr rs K s ops md d l f G ⟨by rw [sz17]; decide, by rw [sz17]; rfl⟩ (one_cells h) (by simp [h])
theorem al17 (rs : Array ResultVar) (K : Value → GH → Prop) (s : List It) (ops : List Oper) (md : Option GH) (d : Option Nat) (l : List Oper) (f : Fr) (G : GH) : Yal Tryd.prog rs K s ops md d l f G 17 = Ynew' Tryd.prog rs K s ops md d l f G (.cells #[.pointer none] 17 (0, 0)) (fun r => .pointer (some ⟨r, 0, none⟩)) := Yal_eq rs K s ops md d l f G zv17
theorem ld18 (a : Addr) (G : GH) : pvLoad Tryd.prog 18 (.pointer (some a)) G = (gcells G a 1).map fun cs => .agg cs.toArray := pvLoad_agg ag18 sz18 (by decide) a G
theorem st18 (rs : Array ResultVar) (K : Value → GH → Prop) (s : List It) (ops : List Oper) (md : Option GH) (d : Option Nat) (l : List Oper) (f : Fr) (G : GH) (a : Addr) (x0 : Value) (h : [x0].all oneV = true) : Yst Tryd.prog rs K s ops md d l f G 18 (.pointer (some a)) (.agg #[x0]) = Yset Tryd.prog rs K s ops md d l f G a [x0] := Yst_ptr rs K s ops md d l f G ⟨by rw [sz18]; decide, by rw [sz18]; rfl⟩ rfl h
theorem al18 (rs : Array ResultVar) (K : Value → GH → Prop) (s : List It) (ops : List Oper) (md : Option GH) (d : Option Nat) (l : List Oper) (f : Fr) (G : GH) : Yal Tryd.prog rs K s ops md d l f G 18 = Ynew' Tryd.prog rs K s ops md d l f G (.cells #[.pointer none] 18 (0, 0)) (fun r => .pointer (some ⟨r, 0, none⟩)) := Yal_eq rs K s ops md d l f G zv18
theorem fa18_0 (a : Addr) : pvFA Tryd.prog 18 (.pointer (some a)) 0 = some (.pointer (some (a.add 0))) := pvFA_eq (F := 17) (by unfold tyFld; rw [show tyD Tryd.prog 18 = _ from Tryd.underlying18]; rfl) (by rw [show tySz Tryd.prog 17 = 1 from by kernel_rfl]; decide) a
theorem fl18_0 (x0 : Value) : pvField Tryd.prog 18 (.agg #[x0]) 0 = some x0 := pvField_one (F := 17) (i := 0) (off := 0) (cs := [x0]) (by unfold tyFld; rw [show tyD Tryd.prog 18 = _ from Tryd.underlying18]; rfl) (by rw [show tyD Tryd.prog 17 = _ from Tryd.underlying17]; rfl) rfl
theorem ld19 (a : Addr) (G : GH) : pvLoad Tryd.prog 19 (.pointer (some a)) G = (gcells G a 1).map fun cs => .agg cs.toArray := pvLoad_agg ag19 sz19 (by decide) a G
theorem st19 (rs : Array ResultVar) (K : Value → GH → Prop) (s : List It) (ops : List Oper) (md : Option GH) (d : Option Nat) (l : List Oper) (f : Fr) (G : GH) (a : Addr) (x0 : Value) (h : [x0].all oneV = true) : Yst Tryd.prog rs K s ops md d l f G 19 (.pointer (some a)) (.agg #[x0]) = Yset Tryd.prog rs K s ops md d l f G a [x0] := Yst_ptr rs K s ops md d l f G ⟨by rw [sz19]; decide, by rw [sz19]; rfl⟩ rfl h
theorem al19 (rs : Array ResultVar) (K : Value → GH → Prop) (s : List It) (ops : List Oper) (md : Option GH) (d : Option Nat) (l : List Oper) (f : Fr) (G : GH) : Yal Tryd.prog rs K s ops md d l f G 19 = Ynew' Tryd.prog rs K s ops md d l f G (.cells #[.pointer none] 19 (0, 0)) (fun r => .pointer (some ⟨r, 0, none⟩)) := Yal_eq rs K s ops md d l f G zv19
theorem fa19_0 (a : Addr) : pvFA Tryd.prog 19 (.pointer (some a)) 0 = some (.pointer (some (a.add 0))) := pvFA_eq (F := 17) (by unfold tyFld; rw [show tyD Tryd.prog 19 = _ from Tryd.underlying19]; rfl) (by rw [show tySz Tryd.prog 17 = 1 from by kernel_rfl]; decide) a
theorem fl19_0 (x0 : Value) : pvField Tryd.prog 19 (.agg #[x0]) 0 = some x0 := pvField_one (F := 17) (i := 0) (off := 0) (cs := [x0]) (by unfold tyFld; rw [show tyD Tryd.prog 19 = _ from Tryd.underlying19]; rfl) (by rw [show tyD Tryd.prog 17 = _ from Tryd.underlying17]; rfl) rfl
theorem ld21 (a : Addr) (G : GH) : pvLoad Tryd.prog 21 (.pointer (some a)) G = gcell G a := pvLoad_one ag21 a G
theorem st21 (rs : Array ResultVar) (K : Value → GH → Prop) (s : List It) (ops : List Oper) (md : Option GH) (d : Option Nat) (l : List Oper) (f : Fr) (G : GH) (a : Addr) (v : Value) (h : oneV v = true) : Yst Tryd.prog rs K s ops md d l f G 21 (.pointer (some a)) v = Yset Tryd.prog rs K s ops md d l f G a [v] := Yst_ptr rs K s ops md d l f G ⟨by rw [sz21]; decide, by rw [sz21]; rfl⟩ (one_cells h) (by simp [h])
theorem al21 (rs : Array ResultVar) (K : Value → GH → Prop) (s : List It) (ops : List Oper) (md : Option GH) (d : Option Nat) (l : List Oper) (f : Fr) (G : GH) : Yal Tryd.prog rs K s ops md d l f G 21 = Ynew' Tryd.prog rs K s ops md d l f G (.cells #[.int .i32 0] 21 (0, 0)) (fun r => .pointer (some ⟨r, 0, none⟩)) := Yal_eq rs K s ops md d l f G zv21
theorem ld22 (a : Addr) (G : GH) : pvLoad Tryd.prog 22 (.pointer (some a)) G = gcell G a := pvLoad_one ag22 a G
theorem st22 (rs : Array ResultVar) (K : Value → GH → Prop) (s : List It) (ops : List Oper) (md : Option GH) (d : Option Nat) (l : List Oper) (f : Fr) (G : GH) (a : Addr) (v : Value) (h : oneV v = true) : Yst Tryd.prog rs K s ops md d l f G 22 (.pointer (some a)) v = Yset Tryd.prog rs K s ops md d l f G a [v] := Yst_ptr rs K s ops md d l f G ⟨by rw [sz22]; decide, by rw [sz22]; rfl⟩ (one_cells h) (by simp [h])
theorem al22 (rs : Array ResultVar) (K : Value → GH → Prop) (s : List It) (ops : List Oper) (md : Option GH) (d : Option Nat) (l : List Oper) (f : Fr) (G : GH) : Yal Tryd.prog rs K s ops md d l f G 22 = Ynew' Tryd.prog rs K s ops md d l f G (.cells #[.slice none 0 0] 22 (0, 0)) (fun r => .pointer (some ⟨r, 0, none⟩)) := Yal_eq rs K s ops md d l f G zv22
theorem ia22 (ad : Addr) (m c : Nat) (k : IntKind) (j : Int) : pvIA Tryd.prog 22 (.slice (some ad) m c) (.int k j) = if 0 ≤ j ∧ j < m then some (.pointer (some (ad.add (j.toNat * 1)))) else none := pvIA_slice Tryd.underlying22 (by kernel_rfl) (by decide) ad m c k j
theorem ln22 (a : Option Addr) (n c : Nat) : pvB1 Tryd.prog .len [22] [.slice a n c] = some (.int .i64 n) := pvLen_slice Tryd.underlying22 a n c
theorem cp22 (a : Option Addr) (n c : Nat) : pvB1 Tryd.prog .cap [22] [.slice a n c] = some (.int .i64 c) := pvCap_slice Tryd.underlying22 a n c
theorem sxh22 (a : Option Addr) (n c : Nat) (k : IntKind) (h : Int) : pvSlice Tryd.prog 22 (.slice a n c) none (some (.int k h)) none = if 0 ≤ h ∧ h ≤ c then some (.slice a h.toNat c) else none := pvSl_h Tryd.underlying22 (by rw [show tySz Tryd.prog 9 = 1 from sz9]; decide) a n c k h
theorem sxl22 (a : Option Addr) (n c : Nat) (k : IntKind) (l : Int) : pvSlice Tryd.prog 22 (.slice a n c) (some (.int k l)) none none = if 0 ≤ l ∧ l ≤ n then some (.slice (if c = l.toNat then a else a.map (·.add (l.toNat * 1))) (n - l.toNat) (c - l.toNat)) else none := by rw [pvSl_l Tryd.underlying22 (by rw [show tySz Tryd.prog 9 = 1 from sz9]; decide) a n c k l, sz9]
theorem sxb22 (a : Option Addr) (n c : Nat) (k k2 : IntKind) (l h : Int) : pvSlice Tryd.prog 22 (.slice a n c) (some (.int k l)) (some (.int k2 h)) none = if (0 ≤ h ∧ h ≤ c) ∧ 0 ≤ l ∧ l ≤ h then some (.slice (if c = l.toNat then a else a.map (·.add (l.toNat * 1))) (h.toNat - l.toNat) (c - l.toNat)) else none := by rw [pvSl_lh Tryd.underlying22 (by rw [show tySz Tryd.prog 9 = 1 from sz9]; decide) a n c k k2 l h, sz9]
theorem sxm22 (a : Option Addr) (n c : Nat) (k k2 : IntKind) (h m : Int) : pvSlice Tryd.prog 22 (.slice a n c) none (some (.int k h)) (some (.int k2 m)) = if (0 ≤ m ∧ m ≤ c) ∧ 0 ≤ h ∧ h ≤ m then some (.slice a h.toNat m.toNat) else none := pvSl_hm Tryd.underlying22 (by rw [show tySz Tryd.prog 9 = 1 from sz9]; decide) a n c k k2 h m
theorem sn22 (x y : Operand) (a : Option Addr) (n c m d : Nat) : pvB Tryd.prog .eql 22 x y (.slice a n c) (.slice none m d) = some (.bool a.isNone) := pvB_slnil Tryd.underlying22 x y a n c m d
theorem snn22 (x y : Operand) (a : Option Addr) (n c m d : Nat) : pvB Tryd.prog .neq 22 x y (.slice a n c) (.slice none m d) = some (.bool (!a.isNone)) := pvB_slnnil Tryd.underlying22 x y a n c m d
theorem ld23 (a : Addr) (G : GH) : pvLoad Tryd.prog 23 (.pointer (some a)) G = gcell G a := pvLoad_one ag23 a G
theorem st23 (rs : Array ResultVar) (K : Value → GH → Prop) (s : List It) (ops : List Oper) (md : Option GH) (d : Option Nat) (l : List Oper) (f : Fr) (G : GH) (a : Addr) (v : Value) (h : oneV v = true) : Yst Tryd.prog rs K s ops md d l f G 23 (.pointer (some a)) v = Yset Tryd.prog rs K s ops md d l f G a [v] := Yst_ptr rs K s ops md d l f G ⟨by rw [sz23]; decide, by rw [sz23]; rfl⟩ (one_cells h) (by simp [h])
theorem al23 (rs : Array ResultVar) (K : Value → GH → Prop) (s : List It) (ops : List Oper) (md : Option GH) (d : Option Nat) (l : List Oper) (f : Fr) (G : GH) : Yal Tryd.prog rs K s ops md d l f G 23 = Ynew' Tryd.prog rs K s ops md d l f G (.cells #[.slice none 0 0] 23 (0, 0)) (fun r => .pointer (some ⟨r, 0, none⟩)) := Yal_eq rs K s ops md d l f G zv23
theorem ia23 (ad : Addr) (m c : Nat) (k : IntKind) (j : Int) : pvIA Tryd.prog 23 (.slice (some ad) m c) (.int k j) = if 0 ≤ j ∧ j < m then some (.pointer (some (ad.add (j.toNat * 1)))) else none := pvIA_slice Tryd.underlying23 (by kernel_rfl) (by decide) ad m c k j
theorem ln23 (a : Option Addr) (n c : Nat) : pvB1 Tryd.prog .len [23] [.slice a n c] = some (.int .i64 n) := pvLen_slice Tryd.underlying23 a n c
theorem cp23 (a : Option Addr) (n c : Nat) : pvB1 Tryd.prog .cap [23] [.slice a n c] = some (.int .i64 c) := pvCap_slice Tryd.underlying23 a n c
theorem sxh23 (a : Option Addr) (n c : Nat) (k : IntKind) (h : Int) : pvSlice Tryd.prog 23 (.slice a n c) none (some (.int k h)) none = if 0 ≤ h ∧ h ≤ c then some (.slice a h.toNat c) else none := pvSl_h Tryd.underlying23 (by rw [show tySz Tryd.prog 3 = 1 from sz3]; decide) a n c k h
theorem sxl23 (a : Option Addr) (n c : Nat) (k : IntKind) (l : Int) : pvSlice Tryd.prog 23 (.slice a n c) (some (.int k l)) none none = if 0 ≤ l ∧ l ≤ n then some (.slice (if c = l.toNat then a else a.map (·.add (l.toNat * 1))) (n - l.toNat) (c - l.toNat)) else none := by rw [pvSl_l Tryd.underlying23 (by rw [show tySz Tryd.prog 3 = 1 from sz3]; decide) a n c k l, sz3]
theorem sxb23 (a : Option Addr) (n c : Nat) (k k2 : IntKind) (l h : Int) : pvSlice Tryd.prog 23 (.slice a n c) (some (.int k l)) (some (.int k2 h)) none = if (0 ≤ h ∧ h ≤ c) ∧ 0 ≤ l ∧ l ≤ h then some (.slice (if c = l.toNat then a else a.map (·.add (l.toNat * 1))) (h.toNat - l.toNat) (c - l.toNat)) else none := by rw [pvSl_lh Tryd.underlying23 (by rw [show tySz Tryd.prog 3 = 1 from sz3]; decide) a n c k k2 l h, sz3]
theorem sxm23 (a : Option Addr) (n c : Nat) (k k2 : IntKind) (h m : Int) : pvSlice Tryd.prog 23 (.slice a n c) none (some (.int k h)) (some (.int k2 m)) = if (0 ≤ m ∧ m ≤ c) ∧ 0 ≤ h ∧ h ≤ m then some (.slice a h.toNat m.toNat) else none := pvSl_hm Tryd.underlying23 (by rw [show tySz Tryd.prog 3 = 1 from sz3]; decide) a n c k k2 h m
theorem sn23 (x y : Operand) (a : Option Addr) (n c m d : Nat) : pvB Tryd.prog .eql 23 x y (.slice a n c) (.slice none m d) = some (.bool a.isNone) := pvB_slnil Tryd.underlying23 x y a n c m d
theorem snn23 (x y : Operand) (a : Option Addr) (n c m d : Nat) : pvB Tryd.prog .neq 23 x y (.slice a n c) (.slice none m d) = some (.bool (!a.isNone)) := pvB_slnnil Tryd.underlying23 x y a n c m d
theorem ld24 (a : Addr) (G : GH) : pvLoad Tryd.prog 24 (.pointer (some a)) G = gcell G a := pvLoad_one ag24 a G
theorem st24 (rs : Array ResultVar) (K : Value → GH → Prop) (s : List It) (ops : List Oper) (md : Option GH) (d : Option Nat) (l : List Oper) (f : Fr) (G : GH) (a : Addr) (v : Value) (h : oneV v = true) : Yst Tryd.prog rs K s ops md d l f G 24 (.pointer (some a)) v = Yset Tryd.prog rs K s ops md d l f G a [v] := Yst_ptr rs K s ops md d l f G ⟨by rw [sz24]; decide, by rw [sz24]; rfl⟩ (one_cells h) (by simp [h])
theorem al24 (rs : Array ResultVar) (K : Value → GH → Prop) (s : List It) (ops : List Oper) (md : Option GH) (d : Option Nat) (l : List Oper) (f : Fr) (G : GH) : Yal Tryd.prog rs K s ops md d l f G 24 = Ynew' Tryd.prog rs K s ops md d l f G (.cells #[.slice none 0 0] 24 (0, 0)) (fun r => .pointer (some ⟨r, 0, none⟩)) := Yal_eq rs K s ops md d l f G zv24
theorem ia24 (ad : Addr) (m c : Nat) (k : IntKind) (j : Int) : pvIA Tryd.prog 24 (.slice (some ad) m c) (.int k j) = if 0 ≤ j ∧ j < m then some (.pointer (some (ad.add (j.toNat * 2)))) else none := pvIA_slice Tryd.underlying24 (by kernel_rfl) (by decide) ad m c k j
theorem ln24 (a : Option Addr) (n c : Nat) : pvB1 Tryd.prog .len [24] [.slice a n c] = some (.int .i64 n) := pvLen_slice Tryd.underlying24 a n c
theorem cp24 (a : Option Addr) (n c : Nat) : pvB1 Tryd.prog .cap [24] [.slice a n c] = some (.int .i64 c) := pvCap_slice Tryd.underlying24 a n c
theorem sxh24 (a : Option Addr) (n c : Nat) (k : IntKind) (h : Int) : pvSlice Tryd.prog 24 (.slice a n c) none (some (.int k h)) none = if 0 ≤ h ∧ h ≤ c then some (.slice a h.toNat c) else none := pvSl_h Tryd.underlying24 (by rw [show tySz Tryd.prog 34 = 2 from sz34]; decide) a n c k h
theorem sxl24 (a : Option Addr) (n c : Nat) (k : IntKind) (l : Int) : pvSlice Tryd.prog 24 (.slice a n c) (some (.int k l)) none none = if 0 ≤ l ∧ l ≤ n then some (.slice (if c = l.toNat then a else a.map (·.add (l.toNat * 2))) (n - l.toNat) (c - l.toNat)) else none := by rw [pvSl_l Tryd.underlying24 (by rw [show tySz Tryd.prog 34 = 2 from sz34]; decide) a n c k l, sz34]
theorem sxb24 (a : Option Addr) (n c : Nat) (k k2 : IntKind) (l h : Int) : pvSlice Tryd.prog 24 (.slice a n c) (some (.int k l)) (some (.int k2 h)) none = if (0 ≤ h ∧ h ≤ c) ∧ 0 ≤ l ∧ l ≤ h then some (.slice (if c = l.toNat then a else a.map (·.add (l.toNat * 2))) (h.toNat - l.toNat) (c - l.toNat)) else none := by rw [pvSl_lh Tryd.underlying24 (by rw [show tySz Tryd.prog 34 = 2 from sz34]; decide) a n c k k2 l h, sz34]
theorem sxm24 (a : Option Addr) (n c : Nat) (k k2 : IntKind) (h m : Int) : pvSlice Tryd.prog 24 (.slice a n c) none (some (.int k h)) (some (.int k2 m)) = if (0 ≤ m ∧ m ≤ c) ∧ 0 ≤ h ∧ h ≤ m then some (.slice a h.toNat m.toNat) else none := pvSl_hm Tryd.underlying24 (by rw [show tySz Tryd.prog 34 = 2 from sz34]; decide) a n c k k2 h m
theorem sn24 (x y : Operand) (a : Option Addr) (n c m d : Nat) : pvB Tryd.prog .eql 24 x y (.slice a n c) (.slice none m d) = some (.bool a.isNone) := pvB_slnil Tryd.underlying24 x y a n c m d
theorem snn24 (x y : Operand) (a : Option Addr) (n c m d : Nat) : pvB Tryd.prog .neq 24 x y (.slice a n c) (.slice none m d) = some (.bool (!a.isNone)) := pvB_slnnil Tryd.underlying24 x y a n c m d
theorem ld25 (a : Addr) (G : GH) : pvLoad Tryd.prog 25 (.pointer (some a)) G = gcell G a := pvLoad_one ag25 a G
theorem st25 (rs : Array ResultVar) (K : Value → GH → Prop) (s : List It) (ops : List Oper) (md : Option GH) (d : Option Nat) (l : List Oper) (f : Fr) (G : GH) (a : Addr) (v : Value) (h : oneV v = true) : Yst Tryd.prog rs K s ops md d l f G 25 (.pointer (some a)) v = Yset Tryd.prog rs K s ops md d l f G a [v] := Yst_ptr rs K s ops md d l f G ⟨by rw [sz25]; decide, by rw [sz25]; rfl⟩ (one_cells h) (by simp [h])
theorem al25 (rs : Array ResultVar) (K : Value → GH → Prop) (s : List It) (ops : List Oper) (md : Option GH) (d : Option Nat) (l : List Oper) (f : Fr) (G : GH) : Yal Tryd.prog rs K s ops md d l f G 25 = Ynew' Tryd.prog rs K s ops md d l f G (.cells #[.slice none 0 0] 25 (0, 0)) (fun r => .pointer (some ⟨r, 0, none⟩)) := Yal_eq rs K s ops md d l f G zv25
theorem ia25 (ad : Addr) (m c : Nat) (k : IntKind) (j : Int) : pvIA Tryd.prog 25 (.slice (some ad) m c) (.int k j) = if 0 ≤ j ∧ j < m then some (.pointer (some (ad.add (j.toNat * 2)))) else none := pvIA_slice Tryd.underlying25 (by kernel_rfl) (by decide) ad m c k j
theorem ln25 (a : Option Addr) (n c : Nat) : pvB1 Tryd.prog .len [25] [.slice a n c] = some (.int .i64 n) := pvLen_slice Tryd.underlying25 a n c
theorem cp25 (a : Option Addr) (n c : Nat) : pvB1 Tryd.prog .cap [25] [.slice a n c] = some (.int .i64 c) := pvCap_slice Tryd.underlying25 a n c
theorem sxh25 (a : Option Addr) (n c : Nat) (k : IntKind) (h : Int) : pvSlice Tryd.prog 25 (.slice a n c) none (some (.int k h)) none = if 0 ≤ h ∧ h ≤ c then some (.slice a h.toNat c) else none := pvSl_h Tryd.underlying25 (by rw [show tySz Tryd.prog 47 = 2 from sz47]; decide) a n c k h
theorem sxl25 (a : Option Addr) (n c : Nat) (k : IntKind) (l : Int) : pvSlice Tryd.prog 25 (.slice a n c) (some (.int k l)) none none = if 0 ≤ l ∧ l ≤ n then some (.slice (if c = l.toNat then a else a.map (·.add (l.toNat * 2))) (n - l.toNat) (c - l.toNat)) else none := by rw [pvSl_l Tryd.underlying25 (by rw [show tySz Tryd.prog 47 = 2 from sz47]; decide) a n c k l, sz47]
theorem sxb25 (a : Option Addr) (n c : Nat) (k k2 : IntKind) (l h : Int) : pvSlice Tryd.prog 25 (.slice a n c) (some (.int k l)) (some (.int k2 h)) none = if (0 ≤ h ∧ h ≤ c) ∧ 0 ≤ l ∧ l ≤ h then some (.slice (if c = l.toNat then a else a.map (·.add (l.toNat * 2))) (h.toNat - l.toNat) (c - l.toNat)) else none := by rw [pvSl_lh Tryd.underlying25 (by rw [show tySz Tryd.prog 47 = 2 from sz47]; decide) a n c k k2 l h, sz47]
theorem sxm25 (a : Option Addr) (n c : Nat) (k k2 : IntKind) (h m : Int) : pvSlice Tryd.prog 25 (.slice a n c) none (some (.int k h)) (some (.int k2 m)) = if (0 ≤ m ∧ m ≤ c) ∧ 0 ≤ h ∧ h ≤ m then some (.slice a h.toNat m.toNat) else none := pvSl_hm Tryd.underlying25 (by rw [show tySz Tryd.prog 47 = 2 from sz47]; decide) a n c k k2 h m
theorem sn25 (x y : Operand) (a : Option Addr) (n c m d : Nat) : pvB Tryd.prog .eql 25 x y (.slice a n c) (.slice none m d) = some (.bool a.isNone) := pvB_slnil Tryd.underlying25 x y a n c m d
theorem snn25 (x y : Operand) (a : Option Addr) (n c m d : Nat) : pvB Tryd.prog .neq 25 x y (.slice a n c) (.slice none m d) = some (.bool (!a.isNone)) := pvB_slnnil Tryd.underlying25 x y a n c m d
theorem ld26 (a : Addr) (G : GH) : pvLoad Tryd.prog 26 (.pointer (some a)) G = gcell G a := pvLoad_one ag26 a G
theorem st26 (rs : Array ResultVar) (K : Value → GH → Prop) (s : List It) (ops : List Oper) (md : Option GH) (d : Option Nat) (l : List Oper) (f : Fr) (G : GH) (a : Addr) (v : Value) (h : oneV v = true) : Yst Tryd.prog rs K s ops md d l f G 26 (.pointer (some a)) v = Yset Tryd.prog rs K s ops md d l f G a [v] := Yst_ptr rs K s ops md d l f G ⟨by rw [sz26]; decide, by rw [sz26]; rfl⟩ (one_cells h) (by simp [h])
theorem al26 (rs : Array ResultVar) (K : Value → GH → Prop) (s : List It) (ops : List Oper) (md : Option GH) (d : Option Nat) (l : List Oper) (f : Fr) (G : GH) : Yal Tryd.prog rs K s ops md d l f G 26 = Ynew' Tryd.prog rs K s ops md d l f G (.cells #[.int .i64 0] 26 (0, 0)) (fun r => .pointer (some ⟨r, 0, none⟩)) := Yal_eq rs K s ops md d l f G zv26
theorem ld33 (a : Addr) (G : GH) : pvLoad Tryd.prog 33 (.pointer (some a)) G = (gcells G a 2).map fun cs => .agg cs.toArray := pvLoad_agg ag33 sz33 (by decide) a G
theorem st33 (rs : Array ResultVar) (K : Value → GH → Prop) (s : List It) (ops : List Oper) (md : Option GH) (d : Option Nat) (l : List Oper) (f : Fr) (G : GH) (a : Addr) (x0 x1 : Value) (h : [x0, x1].all oneV = true) : Yst Tryd.prog rs K s ops md d l f G 33 (.pointer (some a)) (.agg #[x0, x1]) = Yset Tryd.prog rs K s ops md d l f G a [x0, x1] := Yst_ptr rs K s ops md d l f G ⟨by rw [sz33]; decide, by rw [sz33]; rfl⟩ rfl h
theorem al33 (rs : Array ResultVar) (K : Value → GH → Prop) (s : List It) (ops : List Oper) (md : Option GH) (d : Option Nat) (l : List Oper) (f : Fr) (G : GH) : Yal Tryd.prog rs K s ops md d l f G 33 = Ynew' Tryd.prog rs K s ops md d l f G (.cells #[.string ByteArray.empty, .int .i64 0] 33 (0, 0)) (fun r => .pointer (some ⟨r, 0, none⟩)) := Yal_eq rs K s ops md d l f G zv33
theorem fa33_0 (a : Addr) : pvFA Tryd.prog 33 (.pointer (some a)) 0 = some (.pointer (some (a.add 0))) := pvFA_eq (F := 9) (by unfold tyFld; rw [show tyD Tryd.prog 33 = _ from Tryd.underlying33]; rfl) (by rw [show tySz Tryd.prog 9 = 1 from by kernel_rfl]; decide) a
theorem fl33_0 (x0 x1 : Value) : pvField Tryd.prog 33 (.agg #[x0, x1]) 0 = some x0 := pvField_one (F := 9) (i := 0) (off := 0) (cs := [x0, x1]) (by unfold tyFld; rw [show tyD Tryd.prog 33 = _ from Tryd.underlying33]; rfl) (by rw [show tyD Tryd.prog 9 = _ from Tryd.underlying9]; rfl) rfl
theorem fa33_1 (a : Addr) : pvFA Tryd.prog 33 (.pointer (some a)) 1 = some (.pointer (some (a.add 1))) := pvFA_eq (F := 3) (by unfold tyFld; rw [show tyD Tryd.prog 33 = _ from Tryd.underlying33]; rfl) (by rw [show tySz Tryd.prog 3 = 1 from by kernel_rfl]; decide) a
theorem fl33_1 (x0 x1 : Value) : pvField Tryd.prog 33 (.agg #[x0, x1]) 1 = some x1 := pvField_one (F := 3) (i := 1) (off := 1) (cs := [x0, x1]) (by unfold tyFld; rw [show tyD Tryd.prog 33 = _ from Tryd.underlying33]; rfl) (by rw [show tyD Tryd.prog 3 = _ from Tryd.underlying3]; rfl) rfl
theorem ld34 (a : Addr) (G : GH) : pvLoad Tryd.prog 34 (.pointer (some a)) G = (gcells G a 2).map fun cs => .agg cs.toArray := pvLoad_agg ag34 sz34 (by decide) a G
theorem st34 (rs : Array ResultVar) (K : Value → GH → Prop) (s : List It) (ops : List Oper) (md : Option GH) (d : Option Nat) (l : List Oper) (f : Fr) (G : GH) (a : Addr) (x0 x1 : Value) (h : [x0, x1].all oneV = true) : Yst Tryd.prog rs K s ops md d l f G 34 (.pointer (some a)) (.agg #[x0, x1]) = Yset Tryd.prog rs K s ops md d l f G a [x0, x1] := Yst_ptr rs K s ops md d l f G ⟨by rw [sz34]; decide, by rw [sz34]; rfl⟩ rfl h
theorem al34 (rs : Array ResultVar) (K : Value → GH → Prop) (s : List It) (ops : List Oper) (md : Option GH) (d : Option Nat) (l : List Oper) (f : Fr) (G : GH) : Yal Tryd.prog rs K s ops md d l f G 34 = Ynew' Tryd.prog rs K s ops md d l f G (.cells #[.string ByteArray.empty, .int .i64 0] 34 (0, 0)) (fun r => .pointer (some ⟨r, 0, none⟩)) := Yal_eq rs K s ops md d l f G zv34
theorem fa34_0 (a : Addr) : pvFA Tryd.prog 34 (.pointer (some a)) 0 = some (.pointer (some (a.add 0))) := pvFA_eq (F := 9) (by unfold tyFld; rw [show tyD Tryd.prog 34 = _ from Tryd.underlying34]; rfl) (by rw [show tySz Tryd.prog 9 = 1 from by kernel_rfl]; decide) a
theorem fl34_0 (x0 x1 : Value) : pvField Tryd.prog 34 (.agg #[x0, x1]) 0 = some x0 := pvField_one (F := 9) (i := 0) (off := 0) (cs := [x0, x1]) (by unfold tyFld; rw [show tyD Tryd.prog 34 = _ from Tryd.underlying34]; rfl) (by rw [show tyD Tryd.prog 9 = _ from Tryd.underlying9]; rfl) rfl
theorem fa34_1 (a : Addr) : pvFA Tryd.prog 34 (.pointer (some a)) 1 = some (.pointer (some (a.add 1))) := pvFA_eq (F := 3) (by unfold tyFld; rw [show tyD Tryd.prog 34 = _ from Tryd.underlying34]; rfl) (by rw [show tySz Tryd.prog 3 = 1 from by kernel_rfl]; decide) a
theorem fl34_1 (x0 x1 : Value) : pvField Tryd.prog 34 (.agg #[x0, x1]) 1 = some x1 := pvField_one (F := 3) (i := 1) (off := 1) (cs := [x0, x1]) (by unfold tyFld; rw [show tyD Tryd.prog 34 = _ from Tryd.underlying34]; rfl) (by rw [show tyD Tryd.prog 3 = _ from Tryd.underlying3]; rfl) rfl
theorem ld46 (a : Addr) (G : GH) : pvLoad Tryd.prog 46 (.pointer (some a)) G = (gcells G a 2).map fun cs => .agg cs.toArray := pvLoad_agg ag46 sz46 (by decide) a G
theorem st46 (rs : Array ResultVar) (K : Value → GH → Prop) (s : List It) (ops : List Oper) (md : Option GH) (d : Option Nat) (l : List Oper) (f : Fr) (G : GH) (a : Addr) (x0 x1 : Value) (h : [x0, x1].all oneV = true) : Yst Tryd.prog rs K s ops md d l f G 46 (.pointer (some a)) (.agg #[x0, x1]) = Yset Tryd.prog rs K s ops md d l f G a [x0, x1] := Yst_ptr rs K s ops md d l f G ⟨by rw [sz46]; decide, by rw [sz46]; rfl⟩ rfl h
theorem al46 (rs : Array ResultVar) (K : Value → GH → Prop) (s : List It) (ops : List Oper) (md : Option GH) (d : Option Nat) (l : List Oper) (f : Fr) (G : GH) : Yal Tryd.prog rs K s ops md d l f G 46 = Ynew' Tryd.prog rs K s ops md d l f G (.cells #[.int .i64 0, .int .i64 0] 46 (0, 0)) (fun r => .pointer (some ⟨r, 0, none⟩)) := Yal_eq rs K s ops md d l f G zv46
theorem fa46_0 (a : Addr) : pvFA Tryd.prog 46 (.pointer (some a)) 0 = some (.pointer (some (a.add 0))) := pvFA_eq (F := 3) (by unfold tyFld; rw [show tyD Tryd.prog 46 = _ from Tryd.underlying46]; rfl) (by rw [show tySz Tryd.prog 3 = 1 from by kernel_rfl]; decide) a
theorem fl46_0 (x0 x1 : Value) : pvField Tryd.prog 46 (.agg #[x0, x1]) 0 = some x0 := pvField_one (F := 3) (i := 0) (off := 0) (cs := [x0, x1]) (by unfold tyFld; rw [show tyD Tryd.prog 46 = _ from Tryd.underlying46]; rfl) (by rw [show tyD Tryd.prog 3 = _ from Tryd.underlying3]; rfl) rfl
theorem fa46_1 (a : Addr) : pvFA Tryd.prog 46 (.pointer (some a)) 1 = some (.pointer (some (a.add 1))) := pvFA_eq (F := 3) (by unfold tyFld; rw [show tyD Tryd.prog 46 = _ from Tryd.underlying46]; rfl) (by rw [show tySz Tryd.prog 3 = 1 from by kernel_rfl]; decide) a
theorem fl46_1 (x0 x1 : Value) : pvField Tryd.prog 46 (.agg #[x0, x1]) 1 = some x1 := pvField_one (F := 3) (i := 1) (off := 1) (cs := [x0, x1]) (by unfold tyFld; rw [show tyD Tryd.prog 46 = _ from Tryd.underlying46]; rfl) (by rw [show tyD Tryd.prog 3 = _ from Tryd.underlying3]; rfl) rfl
theorem ld47 (a : Addr) (G : GH) : pvLoad Tryd.prog 47 (.pointer (some a)) G = (gcells G a 2).map fun cs => .agg cs.toArray := pvLoad_agg ag47 sz47 (by decide) a G
theorem st47 (rs : Array ResultVar) (K : Value → GH → Prop) (s : List It) (ops : List Oper) (md : Option GH) (d : Option Nat) (l : List Oper) (f : Fr) (G : GH) (a : Addr) (x0 x1 : Value) (h : [x0, x1].all oneV = true) : Yst Tryd.prog rs K s ops md d l f G 47 (.pointer (some a)) (.agg #[x0, x1]) = Yset Tryd.prog rs K s ops md d l f G a [x0, x1] := Yst_ptr rs K s ops md d l f G ⟨by rw [sz47]; decide, by rw [sz47]; rfl⟩ rfl h
theorem al47 (rs : Array ResultVar) (K : Value → GH → Prop) (s : List It) (ops : List Oper) (md : Option GH) (d : Option Nat) (l : List Oper) (f : Fr) (G : GH) : Yal Tryd.prog rs K s ops md d l f G 47 = Ynew' Tryd.prog rs K s ops md d l f G (.cells #[.int .i64 0, .int .i64 0] 47 (0, 0)) (fun r => .pointer (some ⟨r, 0, none⟩)) := Yal_eq rs K s ops md d l f G zv47
theorem fa47_0 (a : Addr) : pvFA Tryd.prog 47 (.pointer (some a)) 0 = some (.pointer (some (a.add 0))) := pvFA_eq (F := 3) (by unfold tyFld; rw [show tyD Tryd.prog 47 = _ from Tryd.underlying47]; rfl) (by rw [show tySz Tryd.prog 3 = 1 from by kernel_rfl]; decide) a
theorem fl47_0 (x0 x1 : Value) : pvField Tryd.prog 47 (.agg #[x0, x1]) 0 = some x0 := pvField_one (F := 3) (i := 0) (off := 0) (cs := [x0, x1]) (by unfold tyFld; rw [show tyD Tryd.prog 47 = _ from Tryd.underlying47]; rfl) (by rw [show tyD Tryd.prog 3 = _ from Tryd.underlying3]; rfl) rfl
theorem fa47_1 (a : Addr) : pvFA Tryd.prog 47 (.pointer (some a)) 1 = some (.pointer (some (a.add 1))) := pvFA_eq (F := 3) (by unfold tyFld; rw [show tyD Tryd.prog 47 = _ from Tryd.underlying47]; rfl) (by rw [show tySz Tryd.prog 3 = 1 from by kernel_rfl]; decide) a
theorem fl47_1 (x0 x1 : Value) : pvField Tryd.prog 47 (.agg #[x0, x1]) 1 = some x1 := pvField_one (F := 3) (i := 1) (off := 1) (cs := [x0, x1]) (by unfold tyFld; rw [show tyD Tryd.prog 47 = _ from Tryd.underlying47]; rfl) (by rw [show tyD Tryd.prog 3 = _ from Tryd.underlying3]; rfl) rfl
theorem ld52 (a : Addr) (G : GH) : pvLoad Tryd.prog 52 (.pointer (some a)) G = gcell G a := pvLoad_one ag52 a G
theorem st52 (rs : Array ResultVar) (K : Value → GH → Prop) (s : List It) (ops : List Oper) (md : Option GH) (d : Option Nat) (l : List Oper) (f : Fr) (G : GH) (a : Addr) (v : Value) (h : oneV v = true) : Yst Tryd.prog rs K s ops md d l f G 52 (.pointer (some a)) v = Yset Tryd.prog rs K s ops md d l f G a [v] := Yst_ptr rs K s ops md d l f G ⟨by rw [sz52]; decide, by rw [sz52]; rfl⟩ (one_cells h) (by simp [h])
theorem al52 (rs : Array ResultVar) (K : Value → GH → Prop) (s : List It) (ops : List Oper) (md : Option GH) (d : Option Nat) (l : List Oper) (f : Fr) (G : GH) : Yal Tryd.prog rs K s ops md d l f G 52 = Ynew' Tryd.prog rs K s ops md d l f G (.cells #[.slice none 0 0] 52 (0, 0)) (fun r => .pointer (some ⟨r, 0, none⟩)) := Yal_eq rs K s ops md d l f G zv52
theorem ia52 (ad : Addr) (m c : Nat) (k : IntKind) (j : Int) : pvIA Tryd.prog 52 (.slice (some ad) m c) (.int k j) = if 0 ≤ j ∧ j < m then some (.pointer (some (ad.add (j.toNat * 2)))) else none := pvIA_slice Tryd.underlying52 (by kernel_rfl) (by decide) ad m c k j
theorem ln52 (a : Option Addr) (n c : Nat) : pvB1 Tryd.prog .len [52] [.slice a n c] = some (.int .i64 n) := pvLen_slice Tryd.underlying52 a n c
theorem cp52 (a : Option Addr) (n c : Nat) : pvB1 Tryd.prog .cap [52] [.slice a n c] = some (.int .i64 c) := pvCap_slice Tryd.underlying52 a n c
theorem sxh52 (a : Option Addr) (n c : Nat) (k : IntKind) (h : Int) : pvSlice Tryd.prog 52 (.slice a n c) none (some (.int k h)) none = if 0 ≤ h ∧ h ≤ c then some (.slice a h.toNat c) else none := pvSl_h Tryd.underlying52 (by rw [show tySz Tryd.prog 76 = 2 from sz76]; decide) a n c k h
theorem sxl52 (a : Option Addr) (n c : Nat) (k : IntKind) (l : Int) : pvSlice Tryd.prog 52 (.slice a n c) (some (.int k l)) none none = if 0 ≤ l ∧ l ≤ n then some (.slice (if c = l.toNat then a else a.map (·.add (l.toNat * 2))) (n - l.toNat) (c - l.toNat)) else none := by rw [pvSl_l Tryd.underlying52 (by rw [show tySz Tryd.prog 76 = 2 from sz76]; decide) a n c k l, sz76]
theorem sxb52 (a : Option Addr) (n c : Nat) (k k2 : IntKind) (l h : Int) : pvSlice Tryd.prog 52 (.slice a n c) (some (.int k l)) (some (.int k2 h)) none = if (0 ≤ h ∧ h ≤ c) ∧ 0 ≤ l ∧ l ≤ h then some (.slice (if c = l.toNat then a else a.map (·.add (l.toNat * 2))) (h.toNat - l.toNat) (c - l.toNat)) else none := by rw [pvSl_lh Tryd.underlying52 (by rw [show tySz Tryd.prog 76 = 2 from sz76]; decide) a n c k k2 l h, sz76]
theorem sxm52 (a : Option Addr) (n c : Nat) (k k2 : IntKind) (h m : Int) : pvSlice Tryd.prog 52 (.slice a n c) none (some (.int k h)) (some (.int k2 m)) = if (0 ≤ m ∧ m ≤ c) ∧ 0 ≤ h ∧ h ≤ m then some (.slice a h.toNat m.toNat) else none := pvSl_hm Tryd.underlying52 (by rw [show tySz Tryd.prog 76 = 2 from sz76]; decide) a n c k k2 h m
theorem sn52 (x y : Operand) (a : Option Addr) (n c m d : Nat) : pvB Tryd.prog .eql 52 x y (.slice a n c) (.slice none m d) = some (.bool a.isNone) := pvB_slnil Tryd.underlying52 x y a n c m d
theorem snn52 (x y : Operand) (a : Option Addr) (n c m d : Nat) : pvB Tryd.prog .neq 52 x y (.slice a n c) (.slice none m d) = some (.bool (!a.isNone)) := pvB_slnnil Tryd.underlying52 x y a n c m d
theorem ld74 (a : Addr) (G : GH) : pvLoad Tryd.prog 74 (.pointer (some a)) G = gcell G a := pvLoad_one ag74 a G
theorem st74 (rs : Array ResultVar) (K : Value → GH → Prop) (s : List It) (ops : List Oper) (md : Option GH) (d : Option Nat) (l : List Oper) (f : Fr) (G : GH) (a : Addr) (v : Value) (h : oneV v = true) : Yst Tryd.prog rs K s ops md d l f G 74 (.pointer (some a)) v = Yset Tryd.prog rs K s ops md d l f G a [v] := Yst_ptr rs K s ops md d l f G ⟨by rw [sz74]; decide, by rw [sz74]; rfl⟩ (one_cells h) (by simp [h])
theorem al74 (rs : Array ResultVar) (K : Value → GH → Prop) (s : List It) (ops : List Oper) (md : Option GH) (d : Option Nat) (l : List Oper) (f : Fr) (G : GH) : Yal Tryd.prog rs K s ops md d l f G 74 = Ynew' Tryd.prog rs K s ops md d l f G (.cells #[.slice none 0 0] 74 (0, 0)) (fun r => .pointer (some ⟨r, 0, none⟩)) := Yal_eq rs K s ops md d l f G zv74
theorem ia74 (ad : Addr) (m c : Nat) (k : IntKind) (j : Int) : pvIA Tryd.prog 74 (.slice (some ad) m c) (.int k j) = if 0 ≤ j ∧ j < m then some (.pointer (some (ad.add (j.toNat * 1)))) else none := pvIA_slice Tryd.underlying74 (by kernel_rfl) (by decide) ad m c k j
theorem ln74 (a : Option Addr) (n c : Nat) : pvB1 Tryd.prog .len [74] [.slice a n c] = some (.int .i64 n) := pvLen_slice Tryd.underlying74 a n c
theorem cp74 (a : Option Addr) (n c : Nat) : pvB1 Tryd.prog .cap [74] [.slice a n c] = some (.int .i64 c) := pvCap_slice Tryd.underlying74 a n c
theorem sxh74 (a : Option Addr) (n c : Nat) (k : IntKind) (h : Int) : pvSlice Tryd.prog 74 (.slice a n c) none (some (.int k h)) none = if 0 ≤ h ∧ h ≤ c then some (.slice a h.toNat c) else none := pvSl_h Tryd.underlying74 (by rw [show tySz Tryd.prog 26 = 1 from sz26]; decide) a n c k h
theorem sxl74 (a : Option Addr) (n c : Nat) (k : IntKind) (l : Int) : pvSlice Tryd.prog 74 (.slice a n c) (some (.int k l)) none none = if 0 ≤ l ∧ l ≤ n then some (.slice (if c = l.toNat then a else a.map (·.add (l.toNat * 1))) (n - l.toNat) (c - l.toNat)) else none := by rw [pvSl_l Tryd.underlying74 (by rw [show tySz Tryd.prog 26 = 1 from sz26]; decide) a n c k l, sz26]
theorem sxb74 (a : Option Addr) (n c : Nat) (k k2 : IntKind) (l h : Int) : pvSlice Tryd.prog 74 (.slice a n c) (some (.int k l)) (some (.int k2 h)) none = if (0 ≤ h ∧ h ≤ c) ∧ 0 ≤ l ∧ l ≤ h then some (.slice (if c = l.toNat then a else a.map (·.add (l.toNat * 1))) (h.toNat - l.toNat) (c - l.toNat)) else none := by rw [pvSl_lh Tryd.underlying74 (by rw [show tySz Tryd.prog 26 = 1 from sz26]; decide) a n c k k2 l h, sz26]
theorem sxm74 (a : Option Addr) (n c : Nat) (k k2 : IntKind) (h m : Int) : pvSlice Tryd.prog 74 (.slice a n c) none (some (.int k h)) (some (.int k2 m)) = if (0 ≤ m ∧ m ≤ c) ∧ 0 ≤ h ∧ h ≤ m then some (.slice a h.toNat m.toNat) else none := pvSl_hm Tryd.underlying74 (by rw [show tySz Tryd.prog 26 = 1 from sz26]; decide) a n c k k2 h m
theorem sn74 (x y : Operand) (a : Option Addr) (n c m d : Nat) : pvB Tryd.prog .eql 74 x y (.slice a n c) (.slice none m d) = some (.bool a.isNone) := pvB_slnil Tryd.underlying74 x y a n c m d
theorem snn74 (x y : Operand) (a : Option Addr) (n c m d : Nat) : pvB Tryd.prog .neq 74 x y (.slice a n c) (.slice none m d) = some (.bool (!a.isNone)) := pvB_slnnil Tryd.underlying74 x y a n c m d
theorem ld75 (a : Addr) (G : GH) : pvLoad Tryd.prog 75 (.pointer (some a)) G = (gcells G a 2).map fun cs => .agg cs.toArray := pvLoad_agg ag75 sz75 (by decide) a G
theorem st75 (rs : Array ResultVar) (K : Value → GH → Prop) (s : List It) (ops : List Oper) (md : Option GH) (d : Option Nat) (l : List Oper) (f : Fr) (G : GH) (a : Addr) (x0 x1 : Value) (h : [x0, x1].all oneV = true) : Yst Tryd.prog rs K s ops md d l f G 75 (.pointer (some a)) (.agg #[x0, x1]) = Yset Tryd.prog rs K s ops md d l f G a [x0, x1] := Yst_ptr rs K s ops md d l f G ⟨by rw [sz75]; decide, by rw [sz75]; rfl⟩ rfl h
theorem al75 (rs : Array ResultVar) (K : Value → GH → Prop) (s : List It) (ops : List Oper) (md : Option GH) (d : Option Nat) (l : List Oper) (f : Fr) (G : GH) : Yal Tryd.prog rs K s ops md d l f G 75 = Ynew' Tryd.prog rs K s ops md d l f G (.cells #[.slice none 0 0, .int .i64 0] 75 (0, 0)) (fun r => .pointer (some ⟨r, 0, none⟩)) := Yal_eq rs K s ops md d l f G zv75
theorem fa75_0 (a : Addr) : pvFA Tryd.prog 75 (.pointer (some a)) 0 = some (.pointer (some (a.add 0))) := pvFA_eq (F := 22) (by unfold tyFld; rw [show tyD Tryd.prog 75 = _ from Tryd.underlying75]; rfl) (by rw [show tySz Tryd.prog 22 = 1 from by kernel_rfl]; decide) a
theorem fl75_0 (x0 x1 : Value) : pvField Tryd.prog 75 (.agg #[x0, x1]) 0 = some x0 := pvField_one (F := 22) (i := 0) (off := 0) (cs := [x0, x1]) (by unfold tyFld; rw [show tyD Tryd.prog 75 = _ from Tryd.underlying75]; rfl) (by rw [show tyD Tryd.prog 22 = _ from Tryd.underlying22]; rfl) rfl
theorem fa75_1 (a : Addr) : pvFA Tryd.prog 75 (.pointer (some a)) 1 = some (.pointer (some (a.add 1))) := pvFA_eq (F := 3) (by unfold tyFld; rw [show tyD Tryd.prog 75 = _ from Tryd.underlying75]; rfl) (by rw [show tySz Tryd.prog 3 = 1 from by kernel_rfl]; decide) a
theorem fl75_1 (x0 x1 : Value) : pvField Tryd.prog 75 (.agg #[x0, x1]) 1 = some x1 := pvField_one (F := 3) (i := 1) (off := 1) (cs := [x0, x1]) (by unfold tyFld; rw [show tyD Tryd.prog 75 = _ from Tryd.underlying75]; rfl) (by rw [show tyD Tryd.prog 3 = _ from Tryd.underlying3]; rfl) rfl
theorem ld76 (a : Addr) (G : GH) : pvLoad Tryd.prog 76 (.pointer (some a)) G = (gcells G a 2).map fun cs => .agg cs.toArray := pvLoad_agg ag76 sz76 (by decide) a G
theorem st76 (rs : Array ResultVar) (K : Value → GH → Prop) (s : List It) (ops : List Oper) (md : Option GH) (d : Option Nat) (l : List Oper) (f : Fr) (G : GH) (a : Addr) (x0 x1 : Value) (h : [x0, x1].all oneV = true) : Yst Tryd.prog rs K s ops md d l f G 76 (.pointer (some a)) (.agg #[x0, x1]) = Yset Tryd.prog rs K s ops md d l f G a [x0, x1] := Yst_ptr rs K s ops md d l f G ⟨by rw [sz76]; decide, by rw [sz76]; rfl⟩ rfl h
theorem al76 (rs : Array ResultVar) (K : Value → GH → Prop) (s : List It) (ops : List Oper) (md : Option GH) (d : Option Nat) (l : List Oper) (f : Fr) (G : GH) : Yal Tryd.prog rs K s ops md d l f G 76 = Ynew' Tryd.prog rs K s ops md d l f G (.cells #[.slice none 0 0, .int .i64 0] 76 (0, 0)) (fun r => .pointer (some ⟨r, 0, none⟩)) := Yal_eq rs K s ops md d l f G zv76
theorem fa76_0 (a : Addr) : pvFA Tryd.prog 76 (.pointer (some a)) 0 = some (.pointer (some (a.add 0))) := pvFA_eq (F := 22) (by unfold tyFld; rw [show tyD Tryd.prog 76 = _ from Tryd.underlying76]; rfl) (by rw [show tySz Tryd.prog 22 = 1 from by kernel_rfl]; decide) a
theorem fl76_0 (x0 x1 : Value) : pvField Tryd.prog 76 (.agg #[x0, x1]) 0 = some x0 := pvField_one (F := 22) (i := 0) (off := 0) (cs := [x0, x1]) (by unfold tyFld; rw [show tyD Tryd.prog 76 = _ from Tryd.underlying76]; rfl) (by rw [show tyD Tryd.prog 22 = _ from Tryd.underlying22]; rfl) rfl
theorem fa76_1 (a : Addr) : pvFA Tryd.prog 76 (.pointer (some a)) 1 = some (.pointer (some (a.add 1))) := pvFA_eq (F := 3) (by unfold tyFld; rw [show tyD Tryd.prog 76 = _ from Tryd.underlying76]; rfl) (by rw [show tySz Tryd.prog 3 = 1 from by kernel_rfl]; decide) a
theorem fl76_1 (x0 x1 : Value) : pvField Tryd.prog 76 (.agg #[x0, x1]) 1 = some x1 := pvField_one (F := 3) (i := 1) (off := 1) (cs := [x0, x1]) (by unfold tyFld; rw [show tyD Tryd.prog 76 = _ from Tryd.underlying76]; rfl) (by rw [show tyD Tryd.prog 3 = _ from Tryd.underlying3]; rfl) rfl
theorem ld77 (a : Addr) (G : GH) : pvLoad Tryd.prog 77 (.pointer (some a)) G = gcell G a := pvLoad_one ag77 a G
theorem st77 (rs : Array ResultVar) (K : Value → GH → Prop) (s : List It) (ops : List Oper) (md : Option GH) (d : Option Nat) (l : List Oper) (f : Fr) (G : GH) (a : Addr) (v : Value) (h : oneV v = true) : Yst Tryd.prog rs K s ops md d l f G 77 (.pointer (some a)) v = Yset Tryd.prog rs K s ops md d l f G a [v] := Yst_ptr rs K s ops md d l f G ⟨by rw [sz77]; decide, by rw [sz77]; rfl⟩ (one_cells h) (by simp [h])
theorem al77 (rs : Array ResultVar) (K : Value → GH → Prop) (s : List It) (ops : List Oper) (md : Option GH) (d : Option Nat) (l : List Oper) (f : Fr) (G : GH) : Yal Tryd.prog rs K s ops md d l f G 77 = Ynew' Tryd.prog rs K s ops md d l f G (.cells #[.map none] 77 (0, 0)) (fun r => .pointer (some ⟨r, 0, none⟩)) := Yal_eq rs K s ops md d l f G zv77
theorem ld85 (a : Addr) (G : GH) : pvLoad Tryd.prog 85 (.pointer (some a)) G = gcell G a := pvLoad_one ag85 a G
theorem st85 (rs : Array ResultVar) (K : Value → GH → Prop) (s : List It) (ops : List Oper) (md : Option GH) (d : Option Nat) (l : List Oper) (f : Fr) (G : GH) (a : Addr) (v : Value) (h : oneV v = true) : Yst Tryd.prog rs K s ops md d l f G 85 (.pointer (some a)) v = Yset Tryd.prog rs K s ops md d l f G a [v] := Yst_ptr rs K s ops md d l f G ⟨by rw [sz85]; decide, by rw [sz85]; rfl⟩ (one_cells h) (by simp [h])
theorem al85 (rs : Array ResultVar) (K : Value → GH → Prop) (s : List It) (ops : List Oper) (md : Option GH) (d : Option Nat) (l : List Oper) (f : Fr) (G : GH) : Yal Tryd.prog rs K s ops md d l f G 85 = Ynew' Tryd.prog rs K s ops md d l f G (.cells #[.slice none 0 0] 85 (0, 0)) (fun r => .pointer (some ⟨r, 0, none⟩)) := Yal_eq rs K s ops md d l f G zv85
theorem ia85 (ad : Addr) (m c : Nat) (k : IntKind) (j : Int) : pvIA Tryd.prog 85 (.slice (some ad) m c) (.int k j) = if 0 ≤ j ∧ j < m then some (.pointer (some (ad.add (j.toNat * 2)))) else none := pvIA_slice Tryd.underlying85 (by kernel_rfl) (by decide) ad m c k j
theorem ln85 (a : Option Addr) (n c : Nat) : pvB1 Tryd.prog .len [85] [.slice a n c] = some (.int .i64 n) := pvLen_slice Tryd.underlying85 a n c
theorem cp85 (a : Option Addr) (n c : Nat) : pvB1 Tryd.prog .cap [85] [.slice a n c] = some (.int .i64 c) := pvCap_slice Tryd.underlying85 a n c
theorem sxh85 (a : Option Addr) (n c : Nat) (k : IntKind) (h : Int) : pvSlice Tryd.prog 85 (.slice a n c) none (some (.int k h)) none = if 0 ≤ h ∧ h ≤ c then some (.slice a h.toNat c) else none := pvSl_h Tryd.underlying85 (by rw [show tySz Tryd.prog 91 = 2 from sz91]; decide) a n c k h
theorem sxl85 (a : Option Addr) (n c : Nat) (k : IntKind) (l : Int) : pvSlice Tryd.prog 85 (.slice a n c) (some (.int k l)) none none = if 0 ≤ l ∧ l ≤ n then some (.slice (if c = l.toNat then a else a.map (·.add (l.toNat * 2))) (n - l.toNat) (c - l.toNat)) else none := by rw [pvSl_l Tryd.underlying85 (by rw [show tySz Tryd.prog 91 = 2 from sz91]; decide) a n c k l, sz91]
theorem sxb85 (a : Option Addr) (n c : Nat) (k k2 : IntKind) (l h : Int) : pvSlice Tryd.prog 85 (.slice a n c) (some (.int k l)) (some (.int k2 h)) none = if (0 ≤ h ∧ h ≤ c) ∧ 0 ≤ l ∧ l ≤ h then some (.slice (if c = l.toNat then a else a.map (·.add (l.toNat * 2))) (h.toNat - l.toNat) (c - l.toNat)) else none := by rw [pvSl_lh Tryd.underlying85 (by rw [show tySz Tryd.prog 91 = 2 from sz91]; decide) a n c k k2 l h, sz91]
theorem sxm85 (a : Option Addr) (n c : Nat) (k k2 : IntKind) (h m : Int) : pvSlice Tryd.prog 85 (.slice a n c) none (some (.int k h)) (some (.int k2 m)) = if (0 ≤ m ∧ m ≤ c) ∧ 0 ≤ h ∧ h ≤ m then some (.slice a h.toNat m.toNat) else none := pvSl_hm Tryd.underlying85 (by rw [show tySz Tryd.prog 91 = 2 from sz91]; decide) a n c k k2 h m
theorem sn85 (x y : Operand) (a : Option Addr) (n c m d : Nat) : pvB Tryd.prog .eql 85 x y (.slice a n c) (.slice none m d) = some (.bool a.isNone) := pvB_slnil Tryd.underlying85 x y a n c m d
theorem snn85 (x y : Operand) (a : Option Addr) (n c m d : Nat) : pvB Tryd.prog .neq 85 x y (.slice a n c) (.slice none m d) = some (.bool (!a.isNone)) := pvB_slnnil Tryd.underlying85 x y a n c m d
theorem ld86 (a : Addr) (G : GH) : pvLoad Tryd.prog 86 (.pointer (some a)) G = gcell G a := pvLoad_one ag86 a G
theorem st86 (rs : Array ResultVar) (K : Value → GH → Prop) (s : List It) (ops : List Oper) (md : Option GH) (d : Option Nat) (l : List Oper) (f : Fr) (G : GH) (a : Addr) (v : Value) (h : oneV v = true) : Yst Tryd.prog rs K s ops md d l f G 86 (.pointer (some a)) v = Yset Tryd.prog rs K s ops md d l f G a [v] := Yst_ptr rs K s ops md d l f G ⟨by rw [sz86]; decide, by rw [sz86]; rfl⟩ (one_cells h) (by simp [h])
theorem al86 (rs : Array ResultVar) (K : Value → GH → Prop) (s : List It) (ops : List Oper) (md : Option GH) (d : Option Nat) (l : List Oper) (f : Fr) (G : GH) : Yal Tryd.prog rs K s ops md d l f G 86 = Ynew' Tryd.prog rs K s ops md d l f G (.cells #[.int .u64 0] 86 (0, 0)) (fun r => .pointer (some ⟨r, 0, none⟩)) := Yal_eq rs K s ops md d l f G zv86
theorem ld90 (a : Addr) (G : GH) : pvLoad Tryd.prog 90 (.pointer (some a)) G = (gcells G a 2).map fun cs => .agg cs.toArray := pvLoad_agg ag90 sz90 (by decide) a G
theorem st90 (rs : Array ResultVar) (K : Value → GH → Prop) (s : List It) (ops : List Oper) (md : Option GH) (d : Option Nat) (l : List Oper) (f : Fr) (G : GH) (a : Addr) (x0 x1 : Value) (h : [x0, x1].all oneV = true) : Yst Tryd.prog rs K s ops md d l f G 90 (.pointer (some a)) (.agg #[x0, x1]) = Yset Tryd.prog rs K s ops md d l f G a [x0, x1] := Yst_ptr rs K s ops md d l f G ⟨by rw [sz90]; decide, by rw [sz90]; rfl⟩ rfl h
theorem al90 (rs : Array ResultVar) (K : Value → GH → Prop) (s : List It) (ops : List Oper) (md : Option GH) (d : Option Nat) (l : List Oper) (f : Fr) (G : GH) : Yal Tryd.prog rs K s ops md d l f G 90 = Ynew' Tryd.prog rs K s ops md d l f G (.cells #[.int .i64 0, .int .u64 0] 90 (0, 0)) (fun r => .pointer (some ⟨r, 0, none⟩)) := Yal_eq rs K s ops md d l f G zv90
theorem fa90_0 (a : Addr) : pvFA Tryd.prog 90 (.pointer (some a)) 0 = some (.pointer (some (a.add 0))) := pvFA_eq (F := 3) (by unfold tyFld; rw [show tyD Tryd.prog 90 = _ from Tryd.underlying90]; rfl) (by rw [show tySz Tryd.prog 3 = 1 from by kernel_rfl]; decide) a
theorem fl90_0 (x0 x1 : Value) : pvField Tryd.prog 90 (.agg #[x0, x1]) 0 = some x0 := pvField_one (F := 3) (i := 0) (off := 0) (cs := [x0, x1]) (by unfold tyFld; rw [show tyD Tryd.prog 90 = _ from Tryd.underlying90]; rfl) (by rw [show tyD Tryd.prog 3 = _ from Tryd.underlying3]; rfl) rfl
theorem fa90_1 (a : Addr) : pvFA Tryd.prog 90 (.pointer (some a)) 1 = some (.pointer (some (a.add 1))) := pvFA_eq (F := 86) (by unfold tyFld; rw [show tyD Tryd.prog 90 = _ from Tryd.underlying90]; rfl) (by rw [show tySz Tryd.prog 86 = 1 from by kernel_rfl]; decide) a
theorem fl90_1 (x0 x1 : Value) : pvField Tryd.prog 90 (.agg #[x0, x1]) 1 = some x1 := pvField_one (F := 86) (i := 1) (off := 1) (cs := [x0, x1]) (by unfold tyFld; rw [show tyD Tryd.prog 90 = _ from Tryd.underlying90]; rfl) (by rw [show tyD Tryd.prog 86 = _ from Tryd.underlying86]; rfl) rfl
theorem ld91 (a : Addr) (G : GH) : pvLoad Tryd.prog 91 (.pointer (some a)) G = (gcells G a 2).map fun cs => .agg cs.toArray := pvLoad_agg ag91 sz91 (by decide) a G
theorem st91 (rs : Array ResultVar) (K : Value → GH → Prop) (s : List It) (ops : List Oper) (md : Option GH) (d : Option Nat) (l : List Oper) (f : Fr) (G : GH) (a : Addr) (x0 x1 : Value) (h : [x0, x1].all oneV = true) : Yst Tryd.prog rs K s ops md d l f G 91 (.pointer (some a)) (.agg #[x0, x1]) = Yset Tryd.prog rs K s ops md d l f G a [x0, x1] := Yst_ptr rs K s ops md d l f G ⟨by rw [sz91]; decide, by rw [sz91]; rfl⟩ rfl h
theorem al91 (rs : Array ResultVar) (K : Value → GH → Prop) (s : List It) (ops : List Oper) (md : Option GH) (d : Option Nat) (l : List Oper) (f : Fr) (G : GH) : Yal Tryd.prog rs K s ops md d l f G 91 = Ynew' Tryd.prog rs K s ops md d l f G (.cells #[.int .i64 0, .int .u64 0] 91 (0, 0)) (fun r => .pointer (some ⟨r, 0, none⟩)) := Yal_eq rs K s ops md d l f G zv91
theorem fa91_0 (a : Addr) : pvFA Tryd.prog 91 (.pointer (some a)) 0 = some (.pointer (some (a.add 0))) := pvFA_eq (F := 3) (by unfold tyFld; rw [show tyD Tryd.prog 91 = _ from Tryd.underlying91]; rfl) (by rw [show tySz Tryd.prog 3 = 1 from by kernel_rfl]; decide) a
theorem fl91_0 (x0 x1 : Value) : pvField Tryd.prog 91 (.agg #[x0, x1]) 0 = some x0 := pvField_one (F := 3) (i := 0) (off := 0) (cs := [x0, x1]) (by unfold tyFld; rw [show tyD Tryd.prog 91 = _ from Tryd.underlying91]; rfl) (by rw [show tyD Tryd.prog 3 = _ from Tryd.underlying3]; rfl) rfl
theorem fa91_1 (a : Addr) : pvFA Tryd.prog 91 (.pointer (some a)) 1 = some (.pointer (some (a.add 1))) := pvFA_eq (F := 86) (by unfold tyFld; rw [show tyD Tryd.prog 91 = _ from Tryd.underlying91]; rfl) (by rw [show tySz Tryd.prog 86 = 1 from by kernel_rfl]; decide) a
theorem fl91_1 (x0 x1 : Value) : pvField Tryd.prog 91 (.agg #[x0, x1]) 1 = some x1 := pvField_one (F := 86) (i := 1) (off := 1) (cs := [x0, x1]) (by unfold tyFld; rw [show tyD Tryd.prog 91 = _ from Tryd.underlying91]; rfl) (by rw [show tyD Tryd.prog 86 = _ from Tryd.underlying86]; rfl) rfl
theorem ld95 (a : Addr) (G : GH) : pvLoad Tryd.prog 95 (.pointer (some a)) G = gcell G a := pvLoad_one ag95 a G
theorem st95 (rs : Array ResultVar) (K : Value → GH → Prop) (s : List It) (ops : List Oper) (md : Option GH) (d : Option Nat) (l : List Oper) (f : Fr) (G : GH) (a : Addr) (v : Value) (h : oneV v = true) : Yst Tryd.prog rs K s ops md d l f G 95 (.pointer (some a)) v = Yset Tryd.prog rs K s ops md d l f G a [v] := Yst_ptr rs K s ops md d l f G ⟨by rw [sz95]; decide, by rw [sz95]; rfl⟩ (one_cells h) (by simp [h])
theorem al95 (rs : Array ResultVar) (K : Value → GH → Prop) (s : List It) (ops : List Oper) (md : Option GH) (d : Option Nat) (l : List Oper) (f : Fr) (G : GH) : Yal Tryd.prog rs K s ops md d l f G 95 = Ynew' Tryd.prog rs K s ops md d l f G (.cells #[.int .u64 0] 95 (0, 0)) (fun r => .pointer (some ⟨r, 0, none⟩)) := Yal_eq rs K s ops md d l f G zv95
theorem ld106 (a : Addr) (G : GH) : pvLoad Tryd.prog 106 (.pointer (some a)) G = gcell G a := pvLoad_one ag106 a G
theorem st106 (rs : Array ResultVar) (K : Value → GH → Prop) (s : List It) (ops : List Oper) (md : Option GH) (d : Option Nat) (l : List Oper) (f : Fr) (G : GH) (a : Addr) (v : Value) (h : oneV v = true) : Yst Tryd.prog rs K s ops md d l f G 106 (.pointer (some a)) v = Yset Tryd.prog rs K s ops md d l f G a [v] := Yst_ptr rs K s ops md d l f G ⟨by rw [sz106]; decide, by rw [sz106]; rfl⟩ (one_cells h) (by simp [h])
theorem al106 (rs : Array ResultVar) (K : Value → GH → Prop) (s : List It) (ops : List Oper) (md : Option GH) (d : Option Nat) (l : List Oper) (f : Fr) (G : GH) : Yal Tryd.prog rs K s ops md d l f G 106 = Ynew' Tryd.prog rs K s ops md d l f G (.cells #[.nilIface] 106 (0, 0)) (fun r => .pointer (some ⟨r, 0, none⟩)) := Yal_eq rs K s ops md d l f G zv106
theorem ld110 (a : Addr) (G : GH) : pvLoad Tryd.prog 110 (.pointer (some a)) G = gcell G a := pvLoad_one ag110 a G
theorem st110 (rs : Array ResultVar) (K : Value → GH → Prop) (s : List It) (ops : List Oper) (md : Option GH) (d : Option Nat) (l : List Oper) (f : Fr) (G : GH) (a : Addr) (v : Value) (h : oneV v = true) : Yst Tryd.prog rs K s ops md d l f G 110 (.pointer (some a)) v = Yset Tryd.prog rs K s ops md d l f G a [v] := Yst_ptr rs K s ops md d l f G ⟨by rw [sz110]; decide, by rw [sz110]; rfl⟩ (one_cells h) (by simp [h])
theorem al110 (rs : Array ResultVar) (K : Value → GH → Prop) (s : List It) (ops : List Oper) (md : Option GH) (d : Option Nat) (l : List Oper) (f : Fr) (G : GH) : Yal Tryd.prog rs K s ops md d l f G 110 = Ynew' Tryd.prog rs K s ops md d l f G (.cells #[.int .u32 0] 110 (0, 0)) (fun r => .pointer (some ⟨r, 0, none⟩)) := Yal_eq rs K s ops md d l f G zv110
theorem ld121 (a : Addr) (G : GH) : pvLoad Tryd.prog 121 (.pointer (some a)) G = gcell G a := pvLoad_one ag121 a G
theorem st121 (rs : Array ResultVar) (K : Value → GH → Prop) (s : List It) (ops : List Oper) (md : Option GH) (d : Option Nat) (l : List Oper) (f : Fr) (G : GH) (a : Addr) (v : Value) (h : oneV v = true) : Yst Tryd.prog rs K s ops md d l f G 121 (.pointer (some a)) v = Yset Tryd.prog rs K s ops md d l f G a [v] := Yst_ptr rs K s ops md d l f G ⟨by rw [sz121]; decide, by rw [sz121]; rfl⟩ (one_cells h) (by simp [h])
theorem al121 (rs : Array ResultVar) (K : Value → GH → Prop) (s : List It) (ops : List Oper) (md : Option GH) (d : Option Nat) (l : List Oper) (f : Fr) (G : GH) : Yal Tryd.prog rs K s ops md d l f G 121 = Ynew' Tryd.prog rs K s ops md d l f G (.cells #[.pointer none] 121 (0, 0)) (fun r => .pointer (some ⟨r, 0, none⟩)) := Yal_eq rs K s ops md d l f G zv121
theorem ld125 (a : Addr) (G : GH) : pvLoad Tryd.prog 125 (.pointer (some a)) G = gcell G a := pvLoad_one ag125 a G
theorem st125 (rs : Array ResultVar) (K : Value → GH → Prop) (s : List It) (ops : List Oper) (md : Option GH) (d : Option Nat) (l : List Oper) (f : Fr) (G : GH) (a : Addr) (v : Value) (h : oneV v = true) : Yst Tryd.prog rs K s ops md d l f G 125 (.pointer (some a)) v = Yset Tryd.prog rs K s ops md d l f G a [v] := Yst_ptr rs K s ops md d l f G ⟨by rw [sz125]; decide, by rw [sz125]; rfl⟩ (one_cells h) (by simp [h])
theorem al125 (rs : Array ResultVar) (K : Value → GH → Prop) (s : List It) (ops : List Oper) (md : Option GH) (d : Option Nat) (l : List Oper) (f : Fr) (G : GH) : Yal Tryd.prog rs K s ops md d l f G 125 = Ynew' Tryd.prog rs K s ops md d l f G (.cells #[.int .i64 0] 125 (0, 0)) (fun r => .pointer (some ⟨r, 0, none⟩)) := Yal_eq rs K s ops md d l f G zv125
theorem ld137 (a : Addr) (G : GH) : pvLoad Tryd.prog 137 (.pointer (some a)) G = gcell G a := pvLoad_one ag137 a G
theorem st137 (rs : Array ResultVar) (K : Value → GH → Prop) (s : List It) (ops : List Oper) (md : Option GH) (d : Option Nat) (l : List Oper) (f : Fr) (G : GH) (a : Addr) (v : Value) (h : oneV v = true) : Yst Tryd.prog rs K s ops md d l f G 137 (.pointer (some a)) v = Yset Tryd.prog rs K s ops md d l f G a [v] := Yst_ptr rs K s ops md d l f G ⟨by rw [sz137]; decide, by rw [sz137]; rfl⟩ (one_cells h) (by simp [h])
theorem al137 (rs : Array ResultVar) (K : Value → GH → Prop) (s : List It) (ops : List Oper) (md : Option GH) (d : Option Nat) (l : List Oper) (f : Fr) (G : GH) : Yal Tryd.prog rs K s ops md d l f G 137 = Ynew' Tryd.prog rs K s ops md d l f G (.cells #[.int .u64 0] 137 (0, 0)) (fun r => .pointer (some ⟨r, 0, none⟩)) := Yal_eq rs K s ops md d l f G zv137
theorem ld141 (a : Addr) (G : GH) : pvLoad Tryd.prog 141 (.pointer (some a)) G = gcell G a := pvLoad_one ag141 a G
theorem st141 (rs : Array ResultVar) (K : Value → GH → Prop) (s : List It) (ops : List Oper) (md : Option GH) (d : Option Nat) (l : List Oper) (f : Fr) (G : GH) (a : Addr) (v : Value) (h : oneV v = true) : Yst Tryd.prog rs K s ops md d l f G 141 (.pointer (some a)) v = Yset Tryd.prog rs K s ops md d l f G a [v] := Yst_ptr rs K s ops md d l f G ⟨by rw [sz141]; decide, by rw [sz141]; rfl⟩ (one_cells h) (by simp [h])
theorem al141 (rs : Array ResultVar) (K : Value → GH → Prop) (s : List It) (ops : List Oper) (md : Option GH) (d : Option Nat) (l : List Oper) (f : Fr) (G : GH) : Yal Tryd.prog rs K s ops md d l f G 141 = Ynew' Tryd.prog rs K s ops md d l f G (.cells #[.pointer none] 141 (0, 0)) (fun r => .pointer (some ⟨r, 0, none⟩)) := Yal_eq rs K s ops md d l f G zv141
theorem ld144 (a : Addr) (G : GH) : pvLoad Tryd.prog 144 (.pointer (some a)) G = gcell G a := pvLoad_one ag144 a G
theorem st144 (rs : Array ResultVar) (K : Value → GH → Prop) (s : List It) (ops : List Oper) (md : Option GH) (d : Option Nat) (l : List Oper) (f : Fr) (G : GH) (a : Addr) (v : Value) (h : oneV v = true) : Yst Tryd.prog rs K s ops md d l f G 144 (.pointer (some a)) v = Yset Tryd.prog rs K s ops md d l f G a [v] := Yst_ptr rs K s ops md d l f G ⟨by rw [sz144]; decide, by rw [sz144]; rfl⟩ (one_cells h) (by simp [h])
theorem al144 (rs : Array ResultVar) (K : Value → GH → Prop) (s : List It) (ops : List Oper) (md : Option GH) (d : Option Nat) (l : List Oper) (f : Fr) (G : GH) : Yal Tryd.prog rs K s ops md d l f G 144 = Ynew' Tryd.prog rs K s ops md d l f G (.cells #[.pointer none] 144 (0, 0)) (fun r => .pointer (some ⟨r, 0, none⟩)) := Yal_eq rs K s ops md d l f G zv144
theorem ld148 (a : Addr) (G : GH) : pvLoad Tryd.prog 148 (.pointer (some a)) G = (gcells G a 2).map fun cs => .agg cs.toArray := pvLoad_agg ag148 sz148 (by decide) a G
theorem st148 (rs : Array ResultVar) (K : Value → GH → Prop) (s : List It) (ops : List Oper) (md : Option GH) (d : Option Nat) (l : List Oper) (f : Fr) (G : GH) (a : Addr) (x0 x1 : Value) (h : [x0, x1].all oneV = true) : Yst Tryd.prog rs K s ops md d l f G 148 (.pointer (some a)) (.agg #[x0, x1]) = Yset Tryd.prog rs K s ops md d l f G a [x0, x1] := Yst_ptr rs K s ops md d l f G ⟨by rw [sz148]; decide, by rw [sz148]; rfl⟩ rfl h
theorem al148 (rs : Array ResultVar) (K : Value → GH → Prop) (s : List It) (ops : List Oper) (md : Option GH) (d : Option Nat) (l : List Oper) (f : Fr) (G : GH) : Yal Tryd.prog rs K s ops md d l f G 148 = Ynew' Tryd.prog rs K s ops md d l f G (.cells #[.int .u8 0, .int .u8 0] 148 (0, 0)) (fun r => .pointer (some ⟨r, 0, none⟩)) := Yal_eq rs K s ops md d l f G zv148
theorem fa148_0 (a : Addr) : pvFA Tryd.prog 148 (.pointer (some a)) 0 = some (.pointer (some (a.add 0))) := pvFA_eq (F := 5) (by unfold tyFld; rw [show tyD Tryd.prog 148 = _ from Tryd.underlying148]; rfl) (by rw [show tySz Tryd.prog 5 = 1 from by kernel_rfl]; decide) a
theorem fl148_0 (x0 x1 : Value) : pvField Tryd.prog 148 (.agg #[x0, x1]) 0 = some x0 := pvField_one (F := 5) (i := 0) (off := 0) (cs := [x0, x1]) (by unfold tyFld; rw [show tyD Tryd.prog 148 = _ from Tryd.underlying148]; rfl) (by rw [show tyD Tryd.prog 5 = _ from Tryd.underlying5]; rfl) rfl
theorem fa148_1 (a : Addr) : pvFA Tryd.prog 148 (.pointer (some a)) 1 = some (.pointer (some (a.add 1))) := pvFA_eq (F := 5) (by unfold tyFld; rw [show tyD Tryd.prog 148 = _ from Tryd.underlying148]; rfl) (by rw [show tySz Tryd.prog 5 = 1 from by kernel_rfl]; decide) a
theorem fl148_1 (x0 x1 : Value) : pvField Tryd.prog 148 (.agg #[x0, x1]) 1 = some x1 := pvField_one (F := 5) (i := 1) (off := 1) (cs := [x0, x1]) (by unfold tyFld; rw [show tyD Tryd.prog 148 = _ from Tryd.underlying148]; rfl) (by rw [show tyD Tryd.prog 5 = _ from Tryd.underlying5]; rfl) rfl
theorem ld149 (a : Addr) (G : GH) : pvLoad Tryd.prog 149 (.pointer (some a)) G = (gcells G a 2).map fun cs => .agg cs.toArray := pvLoad_agg ag149 sz149 (by decide) a G
theorem st149 (rs : Array ResultVar) (K : Value → GH → Prop) (s : List It) (ops : List Oper) (md : Option GH) (d : Option Nat) (l : List Oper) (f : Fr) (G : GH) (a : Addr) (x0 x1 : Value) (h : [x0, x1].all oneV = true) : Yst Tryd.prog rs K s ops md d l f G 149 (.pointer (some a)) (.agg #[x0, x1]) = Yset Tryd.prog rs K s ops md d l f G a [x0, x1] := Yst_ptr rs K s ops md d l f G ⟨by rw [sz149]; decide, by rw [sz149]; rfl⟩ rfl h
theorem al149 (rs : Array ResultVar) (K : Value → GH → Prop) (s : List It) (ops : List Oper) (md : Option GH) (d : Option Nat) (l : List Oper) (f : Fr) (G : GH) : Yal Tryd.prog rs K s ops md d l f G 149 = Ynew' Tryd.prog rs K s ops md d l f G (.cells #[.int .u8 0, .int .u8 0] 149 (0, 0)) (fun r => .pointer (some ⟨r, 0, none⟩)) := Yal_eq rs K s ops md d l f G zv149
theorem fa149_0 (a : Addr) : pvFA Tryd.prog 149 (.pointer (some a)) 0 = some (.pointer (some (a.add 0))) := pvFA_eq (F := 5) (by unfold tyFld; rw [show tyD Tryd.prog 149 = _ from Tryd.underlying149]; rfl) (by rw [show tySz Tryd.prog 5 = 1 from by kernel_rfl]; decide) a
theorem fl149_0 (x0 x1 : Value) : pvField Tryd.prog 149 (.agg #[x0, x1]) 0 = some x0 := pvField_one (F := 5) (i := 0) (off := 0) (cs := [x0, x1]) (by unfold tyFld; rw [show tyD Tryd.prog 149 = _ from Tryd.underlying149]; rfl) (by rw [show tyD Tryd.prog 5 = _ from Tryd.underlying5]; rfl) rfl
theorem fa149_1 (a : Addr) : pvFA Tryd.prog 149 (.pointer (some a)) 1 = some (.pointer (some (a.add 1))) := pvFA_eq (F := 5) (by unfold tyFld; rw [show tyD Tryd.prog 149 = _ from Tryd.underlying149]; rfl) (by rw [show tySz Tryd.prog 5 = 1 from by kernel_rfl]; decide) a
theorem fl149_1 (x0 x1 : Value) : pvField Tryd.prog 149 (.agg #[x0, x1]) 1 = some x1 := pvField_one (F := 5) (i := 1) (off := 1) (cs := [x0, x1]) (by unfold tyFld; rw [show tyD Tryd.prog 149 = _ from Tryd.underlying149]; rfl) (by rw [show tyD Tryd.prog 5 = _ from Tryd.underlying5]; rfl) rfl
theorem ld150 (a : Addr) (G : GH) : pvLoad Tryd.prog 150 (.pointer (some a)) G = (gcells G a 32).map fun cs => .agg cs.toArray := pvLoad_agg ag150 sz150 (by decide) a G
theorem st150 (rs : Array ResultVar) (K : Value → GH → Prop) (s : List It) (ops : List Oper) (md : Option GH) (d : Option Nat) (l : List Oper) (f : Fr) (G : GH) (a : Addr) (x0 x1 x2 x3 x4 x5 x6 x7 x8 x9 x10 x11 x12 x13 x14 x15 x16 x17 x18 x19 x20 x21 x22 x23 x24 x25 x26 x27 x28 x29 x30 x31 : Value) (h : [x0, x1, x2, x3, x4, x5, x6, x7, x8, x9, x10, x11, x12, x13, x14, x15, x16, x17, x18, x19, x20, x21, x22, x23, x24, x25, x26, x27, x28, x29, x30, x31].all oneV = true) : Yst Tryd.prog rs K s ops md d l f G 150 (.pointer (some a)) (.agg #[x0, x1, x2, x3, x4, x5, x6, x7, x8, x9, x10, x11, x12, x13, x14, x15, x16, x17, x18, x19, x20, x21, x22, x23, x24, x25, x26, x27, x28, x29, x30, x31]) = Yset Tryd.prog rs K s ops md d l f G a [x0, x1, x2, x3, x4, x5, x6, x7, x8, x9, x10, x11, x12, x13, x14, x15, x16, x17, x18, x19, x20, x21, x22, x23, x24, x25, x26, x27, x28, x29, x30, x31] := Yst_ptr rs K s ops md d l f G ⟨by rw [sz150]; decide, by rw [sz150]; rfl⟩ rfl h
theorem al150 (rs : Array ResultVar) (K : Value → GH → Prop) (s : List It) (ops : List Oper) (md : Option GH) (d : Option Nat) (l : List Oper) (f : Fr) (G : GH) : Yal Tryd.prog rs K s ops md d l f G 150 = Ynew' Tryd.prog rs K s ops md d l f G (.cells #[.int .u8 0, .int .u8 0, .int .u8 0, .int .u8 0, .int .u8 0, .int .u8 0, .int .u8 0, .int .u8 0, .int .u8 0, .int .u8 0, .int .u8 0, .int .u8 0, .int .u8 0, .int .u8 0, .int .u8 0, .int .u8 0, .int .u8 0, .int .u8 0, .int .u8 0, .int .u8 0, .int .u8 0, .int .u8 0, .int .u8 0, .int .u8 0, .int .u8 0, .int .u8 0, .int .u8 0, .int .u8 0, .int .u8 0, .int .u8 0, .int .u8 0, .int .u8 0] 150 (0, 0)) (fun r => .pointer (some ⟨r, 0, none⟩)) := Yal_eq rs K s ops md d l f G zv150
theorem ld153 (a : Addr) (G : GH) : pvLoad Tryd.prog 153 (.pointer (some a)) G = gcell G a := pvLoad_one ag153 a G
theorem st153 (rs : Array ResultVar) (K : Value → GH → Prop) (s : List It) (ops : List Oper) (md : Option GH) (d : Option Nat) (l : List Oper) (f : Fr) (G : GH) (a : Addr) (v : Value) (h : oneV v = true) : Yst Tryd.prog rs K s ops md d l f G 153 (.pointer (some a)) v = Yset Tryd.prog rs K s ops md d l f G a [v] := Yst_ptr rs K s ops md d l f G ⟨by rw [sz153]; decide, by rw [sz153]; rfl⟩ (one_cells h) (by simp [h])
theorem al153 (rs : Array ResultVar) (K : Value → GH → Prop) (s : List It) (ops : List Oper) (md : Option GH) (d : Option Nat) (l : List Oper) (f : Fr) (G : GH) : Yal Tryd.prog rs K s ops md d l f G 153 = Ynew' Tryd.prog rs K s ops md d l f G (.cells #[.pointer none] 153 (0, 0)) (fun r => .pointer (some ⟨r, 0, none⟩)) := Yal_eq rs K s ops md d l f G zv153
theorem ld155 (a : Addr) (G : GH) : pvLoad Tryd.prog 155 (.pointer (some a)) G = (gcells G a 4).map fun cs => .agg cs.toArray := pvLoad_agg ag155 sz155 (by decide) a G
theorem st155 (rs : Array ResultVar) (K : Value → GH → Prop) (s : List It) (ops : List Oper) (md : Option GH) (d : Option Nat) (l : List Oper) (f : Fr) (G : GH) (a : Addr) (x0 x1 x2 x3 : Value) (h : [x0, x1, x2, x3].all oneV = true) : Yst Tryd.prog rs K s ops md d l f G 155 (.pointer (some a)) (.agg #[x0, x1, x2, x3]) = Yset Tryd.prog rs K s ops md d l f G a [x0, x1, x2, x3] := Yst_ptr rs K s ops md d l f G ⟨by rw [sz155]; decide, by rw [sz155]; rfl⟩ rfl h
theorem al155 (rs : Array ResultVar) (K : Value → GH → Prop) (s : List It) (ops : List Oper) (md : Option GH) (d : Option Nat) (l : List Oper) (f : Fr) (G : GH) : Yal Tryd.prog rs K s ops md d l f G 155 = Ynew' Tryd.prog rs K s ops md d l f G (.cells #[.pointer none, .pointer none, .pointer none, .string ByteArray.empty] 155 (0, 0)) (fun r => .pointer (some ⟨r, 0, none⟩)) := Yal_eq rs K s ops md d l f G zv155
theorem fa155_0 (a : Addr) : pvFA Tryd.prog 155 (.pointer (some a)) 0 = some (.pointer (some (a.add 0))) := pvFA_eq (F := 17) (by unfold tyFld; rw [show tyD Tryd.prog 155 = _ from Tryd.underlying155]; rfl) (by rw [show tySz Tryd.prog 17 = 1 from by kernel_rfl]; decide) a
theorem fl155_0 (x0 x1 x2 x3 : Value) : pvField Tryd.prog 155 (.agg #[x0, x1, x2, x3]) 0 = some x0 := pvField_one (F := 17) (i := 0) (off := 0) (cs := [x0, x1, x2, x3]) (by unfold tyFld; rw [show tyD Tryd.prog 155 = _ from Tryd.underlying155]; rfl) (by rw [show tyD Tryd.prog 17 = _ from Tryd.underlying17]; rfl) rfl
theorem fa155_1 (a : Addr) : pvFA Tryd.prog 155 (.pointer (some a)) 1 = some (.pointer (some (a.add 1))) := pvFA_eq (F := 17) (by unfold tyFld; rw [show tyD Tryd.prog 155 = _ from Tryd.underlying155]; rfl) (by rw [show tySz Tryd.prog 17 = 1 from by kernel_rfl]; decide) a
theorem fl155_1 (x0 x1 x2 x3 : Value) : pvField Tryd.prog 155 (.agg #[x0, x1, x2, x3]) 1 = some x1 := pvField_one (F := 17) (i := 1) (off := 1) (cs := [x0, x1, x2, x3]) (by unfold tyFld; rw [show tyD Tryd.prog 155 = _ from Tryd.underlying155]; rfl) (by rw [show tyD Tryd.prog 17 = _ from Tryd.underlying17]; rfl) rfl
theorem fa155_2 (a : Addr) : pvFA Tryd.prog 155 (.pointer (some a)) 2 = some (.pointer (some (a.add 2))) := pvFA_eq (F := 17) (by unfold tyFld; rw [show tyD Tryd.prog 155 = _ from Tryd.underlying155]; rfl) (by rw [show tySz Tryd.prog 17 = 1 from by kernel_rfl]; decide) a
theorem fl155_2 (x0 x1 x2 x3 : Value) : pvField Tryd.prog 155 (.agg #[x0, x1, x2, x3]) 2 = some x2 := pvField_one (F := 17) (i := 2) (off := 2) (cs := [x0, x1, x2, x3]) (by unfold tyFld; rw [show tyD Tryd.prog 155 = _ from Tryd.underlying155]; rfl) (by rw [show tyD Tryd.prog 17 = _ from Tryd.underlying17]; rfl) rfl
theorem fa155_3 (a : Addr) : pvFA Tryd.prog 155 (.pointer (some a)) 3 = some (.pointer (some (a.add 3))) := pvFA_eq (F := 9) (by unfold tyFld; rw [show tyD Tryd.prog 155 = _ from Tryd.underlying155]; rfl) (by rw [show tySz Tryd.prog 9 = 1 from by kernel_rfl]; decide) a
theorem fl155_3 (x0 x1 x2 x3 : Value) : pvField Tryd.prog 155 (.agg #[x0, x1, x2, x3]) 3 = some x3 := pvField_one (F := 9) (i := 3) (off := 3) (cs := [x0, x1, x2, x3]) (by unfold tyFld; rw [show tyD Tryd.prog 155 = _ from Tryd.underlying155]; rfl) (by rw [show tyD Tryd.prog 9 = _ from Tryd.underlying9]; rfl) rfl
theorem ld156 (a : Addr) (G : GH) : pvLoad Tryd.prog 156 (.pointer (some a)) G = (gcells G a 4).map fun cs => .agg cs.toArray := pvLoad_agg ag156 sz156 (by decide) a G
theorem st156 (rs : Array ResultVar) (K : Value → GH → Prop) (s : List It) (ops : List Oper) (md : Option GH) (d : Option Nat) (l : List Oper) (f : Fr) (G : GH) (a : Addr) (x0 x1 x2 x3 : Value) (h : [x0, x1, x2, x3].all oneV = true) : Yst Tryd.prog rs K s ops md d l f G 156 (.pointer (some a)) (.agg #[x0, x1, x2, x3]) = Yset Tryd.prog rs K s ops md d l f G a [x0, x1, x2, x3] := Yst_ptr rs K s ops md d l f G ⟨by rw [sz156]; decide, by rw [sz156]; rfl⟩ rfl h
theorem al156 (rs : Array ResultVar) (K : Value → GH → Prop) (s : List It) (ops : List Oper) (md : Option GH) (d : Option Nat) (l : List Oper) (f : Fr) (G : GH) : Yal Tryd.prog rs K s ops md d l f G 156 = Ynew' Tryd.prog rs K s ops md d l f G (.cells #[.pointer none, .pointer none, .pointer none, .string ByteArray.empty] 156 (0, 0)) (fun r => .pointer (some ⟨r, 0, none⟩)) := Yal_eq rs K s ops md d l f G zv156
theorem fa156_0 (a : Addr) : pvFA Tryd.prog 156 (.pointer (some a)) 0 = some (.pointer (some (a.add 0))) := pvFA_eq (F := 17) (by unfold tyFld; rw [show tyD Tryd.prog 156 = _ from Tryd.underlying156]; rfl) (by rw [show tySz Tryd.prog 17 = 1 from by kernel_rfl]; decide) a
theorem fl156_0 (x0 x1 x2 x3 : Value) : pvField Tryd.prog 156 (.agg #[x0, x1, x2, x3]) 0 = some x0 := pvField_one (F := 17) (i := 0) (off := 0) (cs := [x0, x1, x2, x3]) (by unfold tyFld; rw [show tyD Tryd.prog 156 = _ from Tryd.underlying156]; rfl) (by rw [show tyD Tryd.prog 17 = _ from Tryd.underlying17]; rfl) rfl
theorem fa156_1 (a : Addr) : pvFA Tryd.prog 156 (.pointer (some a)) 1 = some (.pointer (some (a.add 1))) := pvFA_eq (F := 17) (by unfold tyFld; rw [show tyD Tryd.prog 156 = _ from Tryd.underlying156]; rfl) (by rw [show tySz Tryd.prog 17 = 1 from by kernel_rfl]; decide) a
theorem fl156_1 (x0 x1 x2 x3 : Value) : pvField Tryd.prog 156 (.agg #[x0, x1, x2, x3]) 1 = some x1 := pvField_one (F := 17) (i := 1) (off := 1) (cs := [x0, x1, x2, x3]) (by unfold tyFld; rw [show tyD Tryd.prog 156 = _ from Tryd.underlying156]; rfl) (by rw [show tyD Tryd.prog 17 = _ from Tryd.underlying17]; rfl) rfl
theorem fa156_2 (a : Addr) : pvFA Tryd.prog 156 (.pointer (some a)) 2 = some (.pointer (some (a.add 2))) := pvFA_eq (F := 17) (by unfold tyFld; rw [show tyD Tryd.prog 156 = _ from Tryd.underlying156]; rfl) (by rw [show tySz Tryd.prog 17 = 1 from by kernel_rfl]; decide) a
theorem fl156_2 (x0 x1 x2 x3 : Value) : pvField Tryd.prog 156 (.agg #[x0, x1, x2, x3]) 2 = some x2 := pvField_one (F := 17) (i := 2) (off := 2) (cs := [x0, x1, x2, x3]) (by unfold tyFld; rw [show tyD Tryd.prog 156 = _ from Tryd.underlying156]; rfl) (by rw [show tyD Tryd.prog 17 = _ from Tryd.underlying17]; rfl) rfl
theorem fa156_3 (a : Addr) : pvFA Tryd.prog 156 (.pointer (some a)) 3 = some (.pointer (some (a.add 3))) := pvFA_eq (F := 9) (by unfold tyFld; rw [show tyD Tryd.prog 156 = _ from Tryd.underlying156]; rfl) (by rw [show tySz Tryd.prog 9 = 1 from by kernel_rfl]; decide) a
theorem fl156_3 (x0 x1 x2 x3 : Value) : pvField Tryd.prog 156 (.agg #[x0, x1, x2, x3]) 3 = some x3 := pvField_one (F := 9) (i := 3) (off := 3) (cs := [x0, x1, x2, x3]) (by unfold tyFld; rw [show tyD Tryd.prog 156 = _ from Tryd.underlying156]; rfl) (by rw [show tyD Tryd.prog 9 = _ from Tryd.underlying9]; rfl) rfl
theorem al157 (rs : Array ResultVar) (K : Value → GH → Prop) (s : List It) (ops : List Oper) (md : Option GH) (d : Option Nat) (l : List Oper) (f : Fr) (G : GH) : Yal Tryd.prog rs K s ops md d l f G 157 = Ynew' Tryd.prog rs K s ops md d l f G (.cells #[] 157 (0, 0)) (fun r => .pointer (some ⟨r, 0, none⟩)) := Yal_eq rs K s ops md d l f G zv157
theorem al158 (rs : Array ResultVar) (K : Value → GH → Prop) (s : List It) (ops : List Oper) (md : Option GH) (d : Option Nat) (l : List Oper) (f : Fr) (G : GH) : Yal Tryd.prog rs K s ops md d l f G 158 = Ynew' Tryd.prog rs K s ops md d l f G (.cells #[] 158 (0, 0)) (fun r => .pointer (some ⟨r, 0, none⟩)) := Yal_eq rs K s ops md d l f G zv158
theorem al159 (rs : Array ResultVar) (K : Value → GH → Prop) (s : List It) (ops : List Oper) (md : Option GH) (d : Option Nat) (l : List Oper) (f : Fr) (G : GH) : Yal Tryd.prog rs K s ops md d l f G 159 = Ynew' Tryd.prog rs K s ops md d l f G (.cells #[] 159 (0, 0)) (fun r => .pointer (some ⟨r, 0, none⟩)) := Yal_eq rs K s ops md d l f G zv159
theorem ld161 (a : Addr) (G : GH) : pvLoad Tryd.prog 161 (.pointer (some a)) G = gcell G a := pvLoad_one ag161 a G
theorem st161 (rs : Array ResultVar) (K : Value → GH → Prop) (s : List It) (ops : List Oper) (md : Option GH) (d : Option Nat) (l : List Oper) (f : Fr) (G : GH) (a : Addr) (v : Value) (h : oneV v = true) : Yst Tryd.prog rs K s ops md d l f G 161 (.pointer (some a)) v = Yset Tryd.prog rs K s ops md d l f G a [v] := Yst_ptr rs K s ops md d l f G ⟨by rw [sz161]; decide, by rw [sz161]; rfl⟩ (one_cells h) (by simp [h])
theorem al161 (rs : Array ResultVar) (K : Value → GH → Prop) (s : List It) (ops : List Oper) (md : Option GH) (d : Option Nat) (l : List Oper) (f : Fr) (G : GH) : Yal Tryd.prog rs K s ops md d l f G 161 = Ynew' Tryd.prog rs K s ops md d l f G (.cells #[.int .u8 0] 161 (0, 0)) (fun r => .pointer (some ⟨r, 0, none⟩)) := Yal_eq rs K s ops md d l f G zv161
theorem ld162 (a : Addr) (G : GH) : pvLoad Tryd.prog 162 (.pointer (some a)) G = gcell G a := pvLoad_one ag162 a G
theorem st162 (rs : Array ResultVar) (K : Value → GH → Prop) (s : List It) (ops : List Oper) (md : Option GH) (d : Option Nat) (l : List Oper) (f : Fr) (G : GH) (a : Addr) (v : Value) (h : oneV v = true) : Yst Tryd.prog rs K s ops md d l f G 162 (.pointer (some a)) v = Yset Tryd.prog rs K s ops md d l f G a [v] := Yst_ptr rs K s ops md d l f G ⟨by rw [sz162]; decide, by rw [sz162]; rfl⟩ (one_cells h) (by simp [h])
theorem al162 (rs : Array ResultVar) (K : Value → GH → Prop) (s : List It) (ops : List Oper) (md : Option GH) (d : Option Nat) (l : List Oper) (f : Fr) (G : GH) : Yal Tryd.prog rs K s ops md d l f G 162 = Ynew' Tryd.prog rs K s ops md d l f G (.cells #[.int .u8 0] 162 (0, 0)) (fun r => .pointer (some ⟨r, 0, none⟩)) := Yal_eq rs K s ops md d l f G zv162
theorem ld164 (a : Addr) (G : GH) : pvLoad Tryd.prog 164 (.pointer (some a)) G = gcell G a := pvLoad_one ag164 a G
theorem st164 (rs : Array ResultVar) (K : Value → GH → Prop) (s : List It) (ops : List Oper) (md : Option GH) (d : Option Nat) (l : List Oper) (f : Fr) (G : GH) (a : Addr) (v : Value) (h : oneV v = true) : Yst Tryd.prog rs K s ops md d l f G 164 (.pointer (some a)) v = Yset Tryd.prog rs K s ops md d l f G a [v] := Yst_ptr rs K s ops md d l f G ⟨by rw [sz164]; decide, by rw [sz164]; rfl⟩ (one_cells h) (by simp [h])
theorem al164 (rs : Array ResultVar) (K : Value → GH → Prop) (s : List It) (ops : List Oper) (md : Option GH) (d : Option Nat) (l : List Oper) (f : Fr) (G : GH) : Yal Tryd.prog rs K s ops md d l f G 164 = Ynew' Tryd.prog rs K s ops md d l f G (.cells #[.pointer none] 164 (0, 0)) (fun r => .pointer (some ⟨r, 0, none⟩)) := Yal_eq rs K s ops md d l f G zv164
theorem ld165 (a : Addr) (G : GH) : pvLoad Tryd.prog 165 (.pointer (some a)) G = gcell G a := pvLoad_one ag165 a G
theorem st165 (rs : Array ResultVar) (K : Value → GH → Prop) (s : List It) (ops : List Oper) (md : Option GH) (d : Option Nat) (l : List Oper) (f : Fr) (G : GH) (a : Addr) (v : Value) (h : oneV v = true) : Yst Tryd.prog rs K s ops md d l f G 165 (.pointer (some a)) v = Yset Tryd.prog rs K s ops md d l f G a [v] := Yst_ptr rs K s ops md d l f G ⟨by rw [sz165]; decide, by rw [sz165]; rfl⟩ (one_cells h) (by simp [h])
theorem al165 (rs : Array ResultVar) (K : Value → GH → Prop) (s : List It) (ops : List Oper) (md : Option GH) (d : Option Nat) (l : List Oper) (f : Fr) (G : GH) : Yal Tryd.prog rs K s ops md d l f G 165 = Ynew' Tryd.prog rs K s ops md d l f G (.cells #[.int .i32 0] 165 (0, 0)) (fun r => .pointer (some ⟨r, 0, none⟩)) := Yal_eq rs K s ops md d l f G zv165
theorem ld166 (a : Addr) (G : GH) : pvLoad Tryd.prog 166 (.pointer (some a)) G = gcell G a := pvLoad_one ag166 a G
theorem st166 (rs : Array ResultVar) (K : Value → GH → Prop) (s : List It) (ops : List Oper) (md : Option GH) (d : Option Nat) (l : List Oper) (f : Fr) (G : GH) (a : Addr) (v : Value) (h : oneV v = true) : Yst Tryd.prog rs K s ops md d l f G 166 (.pointer (some a)) v = Yset Tryd.prog rs K s ops md d l f G a [v] := Yst_ptr rs K s ops md d l f G ⟨by rw [sz166]; decide, by rw [sz166]; rfl⟩ (one_cells h) (by simp [h])
theorem al166 (rs : Array ResultVar) (K : Value → GH → Prop) (s : List It) (ops : List Oper) (md : Option GH) (d : Option Nat) (l : List Oper) (f : Fr) (G : GH) : Yal Tryd.prog rs K s ops md d l f G 166 = Ynew' Tryd.prog rs K s ops md d l f G (.cells #[.int .i32 0] 166 (0, 0)) (fun r => .pointer (some ⟨r, 0, none⟩)) := Yal_eq rs K s ops md d l f G zv166
theorem ld167 (a : Addr) (G : GH) : pvLoad Tryd.prog 167 (.pointer (some a)) G = (gcells G a 11).map fun cs => .agg cs.toArray := pvLoad_agg ag167 sz167 (by decide) a G
theorem st167 (rs : Array ResultVar) (K : Value → GH → Prop) (s : List It) (ops : List Oper) (md : Option GH) (d : Option Nat) (l : List Oper) (f : Fr) (G : GH) (a : Addr) (x0 x1 x2 x3 x4 x5 x6 x7 x8 x9 x10 : Value) (h : [x0, x1, x2, x3, x4, x5, x6, x7, x8, x9, x10].all oneV = true) : Yst Tryd.prog rs K s ops md d l f G 167 (.pointer (some a)) (.agg #[x0, x1, x2, x3, x4, x5, x6, x7, x8, x9, x10]) = Yset Tryd.prog rs K s ops md d l f G a [x0, x1, x2, x3, x4, x5, x6, x7, x8, x9, x10] := Yst_ptr rs K s ops md d l f G ⟨by rw [sz167]; decide, by rw [sz167]; rfl⟩ rfl h
theorem al167 (rs : Array ResultVar) (K : Value → GH → Prop) (s : List It) (ops : List Oper) (md : Option GH) (d : Option Nat) (l : List Oper) (f : Fr) (G : GH) : Yal Tryd.prog rs K s ops md d l f G 167 = Ynew' Tryd.prog rs K s ops md d l f G (.cells #[.int .u64 0, .int .u64 0, .int .u32 0, .int .u8 0, .int .u8 0, .int .u8 0, .int .u8 0, .nilFunc, .pointer none, .int .i32 0, .int .i32 0] 167 (0, 0)) (fun r => .pointer (some ⟨r, 0, none⟩)) := Yal_eq rs K s ops md d l f G zv167
theorem fa167_0 (a : Addr) : pvFA Tryd.prog 167 (.pointer (some a)) 0 = some (.pointer (some (a.add 0))) := pvFA_eq (F := 12) (by unfold tyFld; rw [show tyD Tryd.prog 167 = _ from Tryd.underlying167]; rfl) (by rw [show tySz Tryd.prog 12 = 1 from by kernel_rfl]; decide) a
theorem fl167_0 (x0 x1 x2 x3 x4 x5 x6 x7 x8 x9 x10 : Value) : pvField Tryd.prog 167 (.agg #[x0, x1, x2, x3, x4, x5, x6, x7, x8, x9, x10]) 0 = some x0 := pvField_one (F := 12) (i := 0) (off := 0) (cs := [x0, x1, x2, x3, x4, x5, x6, x7, x8, x9, x10]) (by unfold tyFld; rw [show tyD Tryd.prog 167 = _ from Tryd.underlying167]; rfl) (by rw [show tyD Tryd.prog 12 = _ from Tryd.underlying12]; rfl) rfl
theorem fa167_1 (a : Addr) : pvFA Tryd.prog 167 (.pointer (some a)) 1 = some (.pointer (some (a.add 1))) := pvFA_eq (F := 12) (by unfold tyFld; rw [show tyD Tryd.prog 167 = _ from Tryd.underlying167]; rfl) (by rw [show tySz Tryd.prog 12 = 1 from by kernel_rfl]; decide) a
theorem fl167_1 (x0 x1 x2 x3 x4 x5 x6 x7 x8 x9 x10 : Value) : pvField Tryd.prog 167 (.agg #[x0, x1, x2, x3, x4, x5, x6, x7, x8, x9, x10]) 1 = some x1 := pvField_one (F := 12) (i := 1) (off := 1) (cs := [x0, x1, x2, x3, x4, x5, x6, x7, x8, x9, x10]) (by unfold tyFld; rw [show tyD Tryd.prog 167 = _ from Tryd.underlying167]; rfl) (by rw [show tyD Tryd.prog 12 = _ from Tryd.underlying12]; rfl) rfl
theorem fa167_2 (a : Addr) : pvFA Tryd.prog 167 (.pointer (some a)) 2 = some (.pointer (some (a.add 2))) := pvFA_eq (F := 110) (by unfold tyFld; rw [show tyD Tryd.prog 167 = _ from Tryd.underlying167]; rfl) (by rw [show tySz Tryd.prog 110 = 1 from by kernel_rfl]; decide) a
theorem fl167_2 (x0 x1 x2 x3 x4 x5 x6 x7 x8 x9 x10 : Value) : pvField Tryd.prog 167 (.agg #[x0, x1, x2, x3, x4, x5, x6, x7, x8, x9, x10]) 2 = some x2 := pvField_one (F := 110) (i := 2) (off := 2) (cs := [x0, x1, x2, x3, x4, x5, x6, x7, x8, x9, x10]) (by unfold tyFld; rw [show tyD Tryd.prog 167 = _ from Tryd.underlying167]; rfl) (by rw [show tyD Tryd.prog 110 = _ from Tryd.underlying110]; rfl) rfl
theorem fa167_3 (a : Addr) : pvFA Tryd.prog 167 (.pointer (some a)) 3 = some (.pointer (some (a.add 3))) := pvFA_eq (F := 161) (by unfold tyFld; rw [show tyD Tryd.prog 167 = _ from Tryd.underlying167]; rfl) (by rw [show tySz Tryd.prog 161 = 1 from by kernel_rfl]; decide) a
theorem fl167_3 (x0 x1 x2 x3 x4 x5 x6 x7 x8 x9 x10 : Value) : pvField Tryd.prog 167 (.agg #[x0, x1, x2, x3, x4, x5, x6, x7, x8, x9, x10]) 3 = some x3 := pvField_one (F := 161) (i := 3) (off := 3) (cs := [x0, x1, x2, x3, x4, x5, x6, x7, x8, x9, x10]) (by unfold tyFld; rw [show tyD Tryd.prog 167 = _ from Tryd.underlying167]; rfl) (by rw [show tyD Tryd.prog 161 = _ from Tryd.underlying161]; rfl) rfl
theorem fa167_4 (a : Addr) : pvFA Tryd.prog 167 (.pointer (some a)) 4 = some (.pointer (some (a.add 4))) := pvFA_eq (F := 5) (by unfold tyFld; rw [show tyD Tryd.prog 167 = _ from Tryd.underlying167]; rfl) (by rw [show tySz Tryd.prog 5 = 1 from by kernel_rfl]; decide) a
theorem fl167_4 (x0 x1 x2 x3 x4 x5 x6 x7 x8 x9 x10 : Value) : pvField Tryd.prog 167 (.agg #[x0, x1, x2, x3, x4, x5, x6, x7, x8, x9, x10]) 4 = some x4 := pvField_one (F := 5) (i := 4) (off := 4) (cs := [x0, x1, x2, x3, x4, x5, x6, x7, x8, x9, x10]) (by unfold tyFld; rw [show tyD Tryd.prog 167 = _ from Tryd.underlying167]; rfl) (by rw [show tyD Tryd.prog 5 = _ from Tryd.underlying5]; rfl) rfl
theorem fa167_5 (a : Addr) : pvFA Tryd.prog 167 (.pointer (some a)) 5 = some (.pointer (some (a.add 5))) := pvFA_eq (F := 5) (by unfold tyFld; rw [show tyD Tryd.prog 167 = _ from Tryd.underlying167]; rfl) (by rw [show tySz Tryd.prog 5 = 1 from by kernel_rfl]; decide) a
theorem fl167_5 (x0 x1 x2 x3 x4 x5 x6 x7 x8 x9 x10 : Value) : pvField Tryd.prog 167 (.agg #[x0, x1, x2, x3, x4, x5, x6, x7, x8, x9, x10]) 5 = some x5 := pvField_one (F := 5) (i := 5) (off := 5) (cs := [x0, x1, x2, x3, x4, x5, x6, x7, x8, x9, x10]) (by unfold tyFld; rw [show tyD Tryd.prog 167 = _ from Tryd.underlying167]; rfl) (by rw [show tyD Tryd.prog 5 = _ from Tryd.underlying5]; rfl) rfl
theorem fa167_6 (a : Addr) : pvFA Tryd.prog 167 (.pointer (some a)) 6 = some (.pointer (some (a.add 6))) := pvFA_eq (F := 162) (by unfold tyFld; rw [show tyD Tryd.prog 167 = _ from Tryd.underlying167]; rfl) (by rw [show tySz Tryd.prog 162 = 1 from by kernel_rfl]; decide) a
theorem fl167_6 (x0 x1 x2 x3 x4 x5 x6 x7 x8 x9 x10 : Value) : pvField Tryd.prog 167 (.agg #[x0, x1, x2, x3, x4, x5, x6, x7, x8, x9, x10]) 6 = some x6 := pvField_one (F := 162) (i := 6) (off := 6) (cs := [x0, x1, x2, x3, x4, x5, x6, x7, x8, x9, x10]) (by unfold tyFld; rw [show tyD Tryd.prog 167 = _ from Tryd.underlying167]; rfl) (by rw [show tyD Tryd.prog 162 = _ from Tryd.underlying162]; rfl) rfl
theorem fa167_7 (a : Addr) : pvFA Tryd.prog 167 (.pointer (some a)) 7 = some (.pointer (some (a.add 7))) := pvFA_eq (F := 163) (by unfold tyFld; rw [show tyD Tryd.prog 167 = _ from Tryd.underlying167]; rfl) (by rw [show tySz Tryd.prog 163 = 1 from by kernel_rfl]; decide) a
theorem fl167_7 (x0 x1 x2 x3 x4 x5 x6 x7 x8 x9 x10 : Value) : pvField Tryd.prog 167 (.agg #[x0, x1, x2, x3, x4, x5, x6, x7, x8, x9, x10]) 7 = some x7 := pvField_one (F := 163) (i := 7) (off := 7) (cs := [x0, x1, x2, x3, x4, x5, x6, x7, x8, x9, x10]) (by unfold tyFld; rw [show tyD Tryd.prog 167 = _ from Tryd.underlying167]; rfl) (by rw [show tyD Tryd.prog 163 = _ from Tryd.underlying163]; rfl) rfl
theorem fa167_8 (a : Addr) : pvFA Tryd.prog 167 (.pointer (some a)) 8 = some (.pointer (some (a.add 8))) := pvFA_eq (F := 164) (by unfold tyFld; rw [show tyD Tryd.prog 167 = _ from Tryd.underlying167]; rfl) (by rw [show tySz Tryd.prog 164 = 1 from by kernel_rfl]; decide) a
theorem fl167_8 (x0 x1 x2 x3 x4 x5 x6 x7 x8 x9 x10 : Value) : pvField Tryd.prog 167 (.agg #[x0, x1, x2, x3, x4, x5, x6, x7, x8, x9, x10]) 8 = some x8 := pvField_one (F := 164) (i := 8) (off := 8) (cs := [x0, x1, x2, x3, x4, x5, x6, x7, x8, x9, x10]) (by unfold tyFld; rw [show tyD Tryd.prog 167 = _ from Tryd.underlying167]; rfl) (by rw [show tyD Tryd.prog 164 = _ from Tryd.underlying164]; rfl) rfl
theorem fa167_9 (a : Addr) : pvFA Tryd.prog 167 (.pointer (some a)) 9 = some (.pointer (some (a.add 9))) := pvFA_eq (F := 165) (by unfold tyFld; rw [show tyD Tryd.prog 167 = _ from Tryd.underlying167]; rfl) (by rw [show tySz Tryd.prog 165 = 1 from by kernel_rfl]; decide) a
theorem fl167_9 (x0 x1 x2 x3 x4 x5 x6 x7 x8 x9 x10 : Value) : pvField Tryd.prog 167 (.agg #[x0, x1, x2, x3, x4, x5, x6, x7, x8, x9, x10]) 9 = some x9 := pvField_one (F := 165) (i := 9) (off := 9) (cs := [x0, x1, x2, x3, x4, x5, x6, x7, x8, x9, x10]) (by unfold tyFld; rw [show tyD Tryd.prog 167 = _ from Tryd.underlying167]; rfl) (by rw [show tyD Tryd.prog 165 = _ from Tryd.underlying165]; rfl) rfl
theorem fa167_10 (a : Addr) : pvFA Tryd.prog 167 (.pointer (some a)) 10 = some (.pointer (some (a.add 10))) := pvFA_eq (F := 166) (by unfold tyFld; rw [show tyD Tryd.prog 167 = _ from Tryd.underlying167]; rfl) (by rw [show tySz Tryd.prog 166 = 1 from by kernel_rfl]; decide) a
theorem fl167_10 (x0 x1 x2 x3 x4 x5 x6 x7 x8 x9 x10 : Value) : pvField Tryd.prog 167 (.agg #[x0, x1, x2, x3, x4, x5, x6, x7, x8, x9, x10]) 10 = some x10 := pvField_one (F := 166) (i := 10) (off := 10) (cs := [x0, x1, x2, x3, x4, x5, x6, x7, x8, x9, x10]) (by unfold tyFld; rw [show tyD Tryd.prog 167 = _ from Tryd.underlying167]; rfl) (by rw [show tyD Tryd.prog 166 = _ from Tryd.underlying166]; rfl) rfl
theorem ld168 (a : Addr) (G : GH) : pvLoad Tryd.prog 168 (.pointer (some a)) G = (gcells G a 11).map fun cs => .agg cs.toArray := pvLoad_agg ag168 sz168 (by decide) a G
theorem st168 (rs : Array ResultVar) (K : Value → GH → Prop) (s : List It) (ops : List Oper) (md : Option GH) (d : Option Nat) (l : List Oper) (f : Fr) (G : GH) (a : Addr) (x0 x1 x2 x3 x4 x5 x6 x7 x8 x9 x10 : Value) (h : [x0, x1, x2, x3, x4, x5, x6, x7, x8, x9, x10].all oneV = true) : Yst Tryd.prog rs K s ops md d l f G 168 (.pointer (some a)) (.agg #[x0, x1, x2, x3, x4, x5, x6, x7, x8, x9, x10]) = Yset Tryd.prog rs K s ops md d l f G a [x0, x1, x2, x3, x4, x5, x6, x7, x8, x9, x10] := Yst_ptr rs K s ops md d l f G ⟨by rw [sz168]; decide, by rw [sz168]; rfl⟩ rfl h
theorem al168 (rs : Array ResultVar) (K : Value → GH → Prop) (s : List It) (ops : List Oper) (md : Option GH) (d : Option Nat) (l : List Oper) (f : Fr) (G : GH) : Yal Tryd.prog rs K s ops md d l f G 168 = Ynew' Tryd.prog rs K s ops md d l f G (.cells #[.int .u64 0, .int .u64 0, .int .u32 0, .int .u8 0, .int .u8 0, .int .u8 0, .int .u8 0, .nilFunc, .pointer none, .int .i32 0, .int .i32 0] 168 (0, 0)) (fun r => .pointer (some ⟨r, 0, none⟩)) := Yal_eq rs K s ops md d l f G zv168
theorem fa168_0 (a : Addr) : pvFA Tryd.prog 168 (.pointer (some a)) 0 = some (.pointer (some (a.add 0))) := pvFA_eq (F := 12) (by unfold tyFld; rw [show tyD Tryd.prog 168 = _ from Tryd.underlying168]; rfl) (by rw [show tySz Tryd.prog 12 = 1 from by kernel_rfl]; decide) a
theorem fl168_0 (x0 x1 x2 x3 x4 x5 x6 x7 x8 x9 x10 : Value) : pvField Tryd.prog 168 (.agg #[x0, x1, x2, x3, x4, x5, x6, x7, x8, x9, x10]) 0 = some x0 := pvField_one (F := 12) (i := 0) (off := 0) (cs := [x0, x1, x2, x3, x4, x5, x6, x7, x8, x9, x10]) (by unfold tyFld; rw [show tyD Tryd.prog 168 = _ from Tryd.underlying168]; rfl) (by rw [show tyD Tryd.prog 12 = _ from Tryd.underlying12]; rfl) rfl
theorem fa168_1 (a : Addr) : pvFA Tryd.prog 168 (.pointer (some a)) 1 = some (.pointer (some (a.add 1))) := pvFA_eq (F := 12) (by unfold tyFld; rw [show tyD Tryd.prog 168 = _ from Tryd.underlying168]; rfl) (by rw [show tySz Tryd.prog 12 = 1 from by kernel_rfl]; decide) a
theorem fl168_1 (x0 x1 x2 x3 x4 x5 x6 x7 x8 x9 x10 : Value) : pvField Tryd.prog 168 (.agg #[x0, x1, x2, x3, x4, x5, x6, x7, x8, x9, x10]) 1 = some x1 := pvField_one (F := 12) (i := 1) (off := 1) (cs := [x0, x1, x2, x3, x4, x5, x6, x7, x8, x9, x10]) (by unfold tyFld; rw [show tyD Tryd.prog 168 = _ from Tryd.underlying168]; rfl) (by rw [show tyD Tryd.prog 12 = _ from Tryd.underlying12]; rfl) rfl
theorem fa168_2 (a : Addr) : pvFA Tryd.prog 168 (.pointer (some a)) 2 = some (.pointer (some (a.add 2))) := pvFA_eq (F := 110) (by unfold tyFld; rw [show tyD Tryd.prog 168 = _ from Tryd.underlying168]; rfl) (by rw [show tySz Tryd.prog 110 = 1 from by kernel_rfl]; decide) a
theorem fl168_2 (x0 x1 x2 x3 x4 x5 x6 x7 x8 x9 x10 : Value) : pvField Tryd.prog 168 (.agg #[x0, x1, x2, x3, x4, x5, x6, x7, x8, x9, x10]) 2 = some x2 := pvField_one (F := 110) (i := 2) (off := 2) (cs := [x0, x1, x2, x3, x4, x5, x6, x7, x8, x9, x10]) (by unfold tyFld; rw [show tyD Tryd.prog 168 = _ from Tryd.underlying168]; rfl) (by rw [show tyD Tryd.prog 110 = _ from Tryd.underlying110]; rfl) rfl
theorem fa168_3 (a : Addr) : pvFA Tryd.prog 168 (.pointer (some a)) 3 = some (.pointer (some (a.add 3))) := pvFA_eq (F := 161) (by unfold tyFld; rw [show tyD Tryd.prog 168 = _ from Tryd.underlying168]; rfl) (by rw [show tySz Tryd.prog 161 = 1 from by kernel_rfl]; decide) a
theorem fl168_3 (x0 x1 x2 x3 x4 x5 x6 x7 x8 x9 x10 : Value) : pvField Tryd.prog 168 (.agg #[x0, x1, x2, x3, x4, x5, x6, x7, x8, x9, x10]) 3 = some x3 := pvField_one (F := 161) (i := 3) (off := 3) (cs := [x0, x1, x2, x3, x4, x5, x6, x7, x8, x9, x10]) (by unfold tyFld; rw [show tyD Tryd.prog 168 = _ from Tryd.underlying168]; rfl) (by rw [show tyD Tryd.prog 161 = _ from Tryd.underlying161]; rfl) rfl
theorem fa168_4 (a : Addr) : pvFA Tryd.prog 168 (.pointer (some a)) 4 = some (.pointer (some (a.add 4))) := pvFA_eq (F := 5) (by unfold tyFld; rw [show tyD Tryd.prog 168 = _ from Tryd.underlying168]; rfl) (by rw [show tySz Tryd.prog 5 = 1 from by kernel_rfl]; decide) a
theorem fl168_4 (x0 x1 x2 x3 x4 x5 x6 x7 x8 x9 x10 : Value) : pvField Tryd.prog 168 (.agg #[x0, x1, x2, x3, x4, x5, x6, x7, x8, x9, x10]) 4 = some x4 := pvField_one (F := 5) (i := 4) (off := 4) (cs := [x0, x1, x2, x3, x4, x5, x6, x7, x8, x9, x10]) (by unfold tyFld; rw [show tyD Tryd.prog 168 = _ from Tryd.underlying168]; rfl) (by rw [show tyD Tryd.prog 5 = _ from Tryd.underlying5]; rfl) rfl
theorem fa168_5 (a : Addr) : pvFA Tryd.prog 168 (.pointer (some a)) 5 = some (.pointer (some (a.add 5))) := pvFA_eq (F := 5) (by unfold tyFld; rw [show tyD Tryd.prog 168 = _ from Tryd.underlying168]; rfl) (by rw [show tySz Tryd.prog 5 = 1 from by kernel_rfl]; decide) a
theorem fl168_5 (x0 x1 x2 x3 x4 x5 x6 x7 x8 x9 x10 : Value) : pvField Tryd.prog 168 (.agg #[x0, x1, x2, x3, x4, x5, x6, x7, x8, x9, x10]) 5 = some x5 := pvField_one (F := 5) (i := 5) (off := 5) (cs := [x0, x1, x2, x3, x4, x5, x6, x7, x8, x9, x10]) (by unfold tyFld; rw [show tyD Tryd.prog 168 = _ from Tryd.underlying168]; rfl) (by rw [show tyD Tryd.prog 5 = _ from Tryd.underlying5]; rfl) rfl
theorem fa168_6 (a : Addr) : pvFA Tryd.prog 168 (.pointer (some a)) 6 = some (.pointer (some (a.add 6))) := pvFA_eq (F := 162) (by unfold tyFld; rw [show tyD Tryd.prog 168 = _ from Tryd.underlying168]; rfl) (by rw [show tySz Tryd.prog 162 = 1 from by kernel_rfl]; decide) a
theorem fl168_6 (x0 x1 x2 x3 x4 x5 x6 x7 x8 x9 x10 : Value) : pvField Tryd.prog 168 (.agg #[x0, x1, x2, x3, x4, x5, x6, x7, x8, x9, x10]) 6 = some x6 := pvField_one (F := 162) (i := 6) (off := 6) (cs := [x0, x1, x2, x3, x4, x5, x6, x7, x8, x9, x10]) (by unfold tyFld; rw [show tyD Tryd.prog 168 = _ from Tryd.underlying168]; rfl) (by rw [show tyD Tryd.prog 162 = _ from Tryd.underlying162]; rfl) rfl
theorem fa168_7 (a : Addr) : pvFA Tryd.prog 168 (.pointer (some a)) 7 = some (.pointer (some (a.add 7))) := pvFA_eq (F := 163) (by unfold tyFld; rw [show tyD Tryd.prog 168 = _ from Tryd.underlying168]; rfl) (by rw [show tySz Tryd.prog 163 = 1 from by kernel_rfl]; decide) a
theorem fl168_7 (x0 x1 x2 x3 x4 x5 x6 x7 x8 x9 x10 : Value) : pvField Tryd.prog 168 (.agg #[x0, x1, x2, x3, x4, x5, x6, x7, x8, x9, x10]) 7 = some x7 := pvField_one (F := 163) (i := 7) (off := 7) (cs := [x0, x1, x2, x3, x4, x5, x6, x7, x8, x9, x10]) (by unfold tyFld; rw [show tyD Tryd.prog 168 = _ from Tryd.underlying168]; rfl) (by rw [show tyD Tryd.prog 163 = _ from Tryd.underlying163]; rfl) rfl
theorem fa168_8 (a : Addr) : pvFA Tryd.prog 168 (.pointer (some a)) 8 = some (.pointer (some (a.add 8))) := pvFA_eq (F := 164) (by unfold tyFld; rw [show tyD Tryd.prog 168 = _ from Tryd.underlying168]; rfl) (by rw [show tySz Tryd.prog 164 = 1 from by kernel_rfl]; decide) a
theorem fl168_8 (x0 x1 x2 x3 x4 x5 x6 x7 x8 x9 x10 : Value) : pvField Tryd.prog 168 (.agg #[x0, x1, x2, x3, x4, x5, x6, x7, x8, x9, x10]) 8 = some x8 := pvField_one (F := 164) (i := 8) (off := 8) (cs := [x0, x1, x2, x3, x4, x5, x6, x7, x8, x9, x10]) (by unfold tyFld; rw [show tyD Tryd.prog 168 = _ from Tryd.underlying168]; rfl) (by rw [show tyD Tryd.prog 164 = _ from Tryd.underlying164]; rfl) rfl
theorem fa168_9 (a : Addr) : pvFA Tryd.prog 168 (.pointer (some a)) 9 = some (.pointer (some (a.add 9))) := pvFA_eq (F := 165) (by unfold tyFld; rw [show tyD Tryd.prog 168 = _ from Tryd.underlying168]; rfl) (by rw [show tySz Tryd.prog 165 = 1 from by kernel_rfl]; decide) a
theorem fl168_9 (x0 x1 x2 x3 x4 x5 x6 x7 x8 x9 x10 : Value) : pvField Tryd.prog 168 (.agg #[x0, x1, x2, x3, x4, x5, x6, x7, x8, x9, x10]) 9 = some x9 := pvField_one (F := 165) (i := 9) (off := 9) (cs := [x0, x1, x2, x3, x4, x5, x6, x7, x8, x9, x10]) (by unfold tyFld; rw [show tyD Tryd.prog 168 = _ from Tryd.underlying168]; rfl) (by rw [show tyD Tryd.prog 165 = _ from Tryd.underlying165]; rfl) rfl
theorem fa168_10 (a : Addr) : pvFA Tryd.prog 168 (.pointer (some a)) 10 = some (.pointer (some (a.add 10))) := pvFA_eq (F := 166) (by unfold tyFld; rw [show tyD Tryd.prog 168 = _ from Tryd.underlying168]; rfl) (by rw [show tySz Tryd.prog 166 = 1 from by kernel_rfl]; decide) a
theorem fl168_10 (x0 x1 x2 x3 x4 x5 x6 x7 x8 x9 x10 : Value) : pvField Tryd.prog 168 (.agg #[x0, x1, x2, x3, x4, x5, x6, x7, x8, x9, x10]) 10 = some x10 := pvField_one (F := 166) (i := 10) (off := 10) (cs := [x0, x1, x2, x3, x4, x5, x6, x7, x8, x9, x10]) (by unfold tyFld; rw [show tyD Tryd.prog 168 = _ from Tryd.underlying168]; rfl) (by rw [show tyD Tryd.prog 166 = _ from Tryd.underlying166]; rfl) rfl
theorem ld169 (a : Addr) (G : GH) : pvLoad Tryd.prog 169 (.pointer (some a)) G = (gcells G a 1).map fun cs => .agg cs.toArray := pvLoad_agg ag169 sz169 (by decide) a G
theorem st169 (rs : Array ResultVar) (K : Value → GH → Prop) (s : List It) (ops : List Oper) (md : Option GH) (d : Option Nat) (l : List Oper) (f : Fr) (G : GH) (a : Addr) (x0 : Value) (h : [x0].all oneV = true) : Yst Tryd.prog rs K s ops md d l f G 169 (.pointer (some a)) (.agg #[x0]) = Yset Tryd.prog rs K s ops md d l f G a [x0] := Yst_ptr rs K s ops md d l f G ⟨by rw [sz169]; decide, by rw [sz169]; rfl⟩ rfl h
theorem al169 (rs : Array ResultVar) (K : Value → GH → Prop) (s : List It) (ops : List Oper) (md : Option GH) (d : Option Nat) (l : List Oper) (f : Fr) (G : GH) : Yal Tryd.prog rs K s ops md d l f G 169 = Ynew' Tryd.prog rs K s ops md d l f G (.cells #[.string ByteArray.empty] 169 (0, 0)) (fun r => .pointer (some ⟨r, 0, none⟩)) := Yal_eq rs K s ops md d l f G zv169
theorem fa169_0 (a : Addr) : pvFA Tryd.prog 169 (.pointer (some a)) 0 = some (.pointer (some (a.add 0))) := pvFA_eq (F := 9) (by unfold tyFld; rw [show tyD Tryd.prog 169 = _ from Tryd.underlying169]; rfl) (by rw [show tySz Tryd.prog 9 = 1 from by kernel_rfl]; decide) a
theorem fl169_0 (x0 : Value) : pvField Tryd.prog 169 (.agg #[x0]) 0 = some x0 := pvField_one (F := 9) (i := 0) (off := 0) (cs := [x0]) (by unfold tyFld; rw [show tyD Tryd.prog 169 = _ from Tryd.underlying169]; rfl) (by rw [show tyD Tryd.prog 9 = _ from Tryd.underlying9]; rfl) rfl
theorem ld170 (a : Addr) (G : GH) : pvLoad Tryd.prog 170 (.pointer (some a)) G = (gcells G a 1).map fun cs => .agg cs.toArray := pvLoad_agg ag170 sz170 (by decide) a G
theorem st170 (rs : Array ResultVar) (K : Value → GH → Prop) (s : List It) (ops : List Oper) (md : Option GH) (d : Option Nat) (l : List Oper) (f : Fr) (G : GH) (a : Addr) (x0 : Value) (h : [x0].all oneV = true) : Yst Tryd.prog rs K s ops md d l f G 170 (.pointer (some a)) (.agg #[x0]) = Yset Tryd.prog rs K s ops md d l f G a [x0] := Yst_ptr rs K s ops md d l f G ⟨by rw [sz170]; decide, by rw [sz170]; rfl⟩ rfl h
theorem al170 (rs : Array ResultVar) (K : Value → GH → Prop) (s : List It) (ops : List Oper) (md : Option GH) (d : Option Nat) (l : List Oper) (f : Fr) (G : GH) : Yal Tryd.prog rs K s ops md d l f G 170 = Ynew' Tryd.prog rs K s ops md d l f G (.cells #[.string ByteArray.empty] 170 (0, 0)) (fun r => .pointer (some ⟨r, 0, none⟩)) := Yal_eq rs K s ops md d l f G zv170
theorem fa170_0 (a : Addr) : pvFA Tryd.prog 170 (.pointer (some a)) 0 = some (.pointer (some (a.add 0))) := pvFA_eq (F := 9) (by unfold tyFld; rw [show tyD Tryd.prog 170 = _ from Tryd.underlying170]; rfl) (by rw [show tySz Tryd.prog 9 = 1 from by kernel_rfl]; decide) a
theorem fl170_0 (x0 : Value) : pvField Tryd.prog 170 (.agg #[x0]) 0 = some x0 := pvField_one (F := 9) (i := 0) (off := 0) (cs := [x0]) (by unfold tyFld; rw [show tyD Tryd.prog 170 = _ from Tryd.underlying170]; rfl) (by rw [show tyD Tryd.prog 9 = _ from Tryd.underlying9]; rfl) rfl
theorem ld171 (a : Addr) (G : GH) : pvLoad Tryd.prog 171 (.pointer (some a)) G = gcell G a := pvLoad_one ag171 a G
theorem st171 (rs : Array ResultVar) (K : Value → GH → Prop) (s : List It) (ops : List Oper) (md : Option GH) (d : Option Nat) (l : List Oper) (f : Fr) (G : GH) (a : Addr) (v : Value) (h : oneV v = true) : Yst Tryd.prog rs K s ops md d l f G 171 (.pointer (some a)) v = Yset Tryd.prog rs K s ops md d l f G a [v] := Yst_ptr rs K s ops md d l f G ⟨by rw [sz171]; decide, by rw [sz171]; rfl⟩ (one_cells h) (by simp [h])
theorem al171 (rs : Array ResultVar) (K : Value → GH → Prop) (s : List It) (ops : List Oper) (md : Option GH) (d : Option Nat) (l : List Oper) (f : Fr) (G : GH) : Yal Tryd.prog rs K s ops md d l f G 171 = Ynew' Tryd.prog rs K s ops md d l f G (.cells #[.pointer none] 171 (0, 0)) (fun r => .pointer (some ⟨r, 0, none⟩)) := Yal_eq rs K s ops md d l f G zv171
theorem sl22 : SlTy Tryd.prog 22 9 1 := ⟨Tryd.underlying22, sz9, by decide, ⟨_, zv9, rfl⟩, by rw [show tyBytes Tryd.prog 9 = 16 from by kernel_rfl]; decide⟩
theorem sl23 : SlTy Tryd.prog 23 3 1 := ⟨Tryd.underlying23, sz3, by decide, ⟨_, zv3, rfl⟩, by rw [show tyBytes Tryd.prog 3 = 8 from by kernel_rfl]; decide⟩
theorem sl24 : SlTy Tryd.prog 24 34 2 := ⟨Tryd.underlying24, sz34, by decide, ⟨_, zv34, rfl⟩, by rw [show tyBytes Tryd.prog 34 = 24 from by kernel_rfl]; decide⟩
theorem sl25 : SlTy Tryd.prog 25 47 2 := ⟨Tryd.underlying25, sz47, by decide, ⟨_, zv47, rfl⟩, by rw [show tyBytes Tryd.prog 47 = 16 from by kernel_rfl]; decide⟩
theorem sl52 : SlTy Tryd.prog 52 76 2 := ⟨Tryd.underlying52, sz76, by decide, ⟨_, zv76, rfl⟩, by rw [show tyBytes Tryd.prog 76 = 32 from by kernel_rfl]; decide⟩
theorem sl74 : SlTy Tryd.prog 74 26 1 := ⟨Tryd.underlying74, sz26, by decide, ⟨_, zv26, rfl⟩, by rw [show tyBytes Tryd.prog 26 = 8 from by kernel_rfl]; decide⟩
theorem sl85 : SlTy Tryd.prog 85 91 2 := ⟨Tryd.underlying85, sz91, by decide, ⟨_, zv91, rfl⟩, by rw [show tyBytes Tryd.prog 91 = 16 from by kernel_rfl]; decide⟩
end Go.Proofs.YtdepecjjahodjaaDoor
namespace Go.Proofs.YtdepecjjahodjaaDoor
open Go Go.GL
theorem mixed : Tryd.prog.follows .mixedOrders = true := by kernel_rfl
theorem en3 : GL.Enters Tryd.prog 3 = True := eq_true ⟨Tryd.f3, Tryd.func3, by decide +kernel, rfl⟩
theorem en4 : GL.Enters Tryd.prog 4 = True := eq_true ⟨Tryd.f4, Tryd.func4, by decide +kernel, rfl⟩
theorem en5 : GL.Enters Tryd.prog 5 = True := eq_true ⟨Tryd.f5, Tryd.func5, by decide +kernel, rfl⟩
theorem en6 : GL.Enters Tryd.prog 6 = True := eq_true ⟨Tryd.f6, Tryd.func6, by decide +kernel, rfl⟩
theorem en7 : GL.Enters Tryd.prog 7 = True := eq_true ⟨Tryd.f7, Tryd.func7, by decide +kernel, rfl⟩
theorem en8 : GL.Enters Tryd.prog 8 = True := eq_true ⟨Tryd.f8, Tryd.func8, by decide +kernel, rfl⟩
theorem en9 : GL.Enters Tryd.prog 9 = True := eq_true ⟨Tryd.f9, Tryd.func9, by decide +kernel, rfl⟩
theorem en10 : GL.Enters Tryd.prog 10 = True := eq_true ⟨Tryd.f10, Tryd.func10, by decide +kernel, rfl⟩
theorem en11 : GL.Enters Tryd.prog 11 = True := eq_true ⟨Tryd.f11, Tryd.func11, by decide +kernel, rfl⟩
theorem en12 : GL.Enters Tryd.prog 12 = True := eq_true ⟨Tryd.f12, Tryd.func12, by decide +kernel, rfl⟩
theorem en13 : GL.Enters Tryd.prog 13 = True := eq_true ⟨Tryd.f13, Tryd.func13, by decide +kernel, rfl⟩
theorem en14 : GL.Enters Tryd.prog 14 = True := eq_true ⟨Tryd.f14, Tryd.func14, by decide +kernel, rfl⟩
theorem en15 : GL.Enters Tryd.prog 15 = True := eq_true ⟨Tryd.f15, Tryd.func15, by decide +kernel, rfl⟩
theorem en16 : GL.Enters Tryd.prog 16 = True := eq_true ⟨Tryd.f16, Tryd.func16, by decide +kernel, rfl⟩
theorem en17 : GL.Enters Tryd.prog 17 = True := eq_true ⟨Tryd.f17, Tryd.func17, by decide +kernel, rfl⟩
theorem en18 : GL.Enters Tryd.prog 18 = True := eq_true ⟨Tryd.f18, Tryd.func18, by decide +kernel, rfl⟩
theorem en19 : GL.Enters Tryd.prog 19 = True := eq_true ⟨Tryd.f19, Tryd.func19, by decide +kernel, rfl⟩
theorem en20 : GL.Enters Tryd.prog 20 = True := eq_true ⟨Tryd.f20, Tryd.func20, by decide +kernel, rfl⟩
theorem en21 : GL.Enters Tryd.prog 21 = True := eq_true ⟨Tryd.f21, Tryd.func21, by decide +kernel, rfl⟩
theorem en22 : GL.Enters Tryd.prog 22 = True := eq_true ⟨Tryd.f22, Tryd.func22, by decide +kernel, rfl⟩
theorem en23 : GL.Enters Tryd.prog 23 = True := eq_true ⟨Tryd.f23, Tryd.func23, by decide +kernel, rfl⟩
theorem en24 : GL.Enters Tryd.prog 24 = True := eq_true ⟨Tryd.f24, Tryd.func24, by decide +kernel, rfl⟩
theorem en25 : GL.Enters Tryd.prog 25 = True := eq_true ⟨Tryd.f25, Tryd.func25, by decide +kernel, rfl⟩
theorem en26 : GL.Enters Tryd.prog 26 = True := eq_true ⟨Tryd.f26, Tryd.func26, by decide +kernel, rfl⟩
theorem en27 : GL.Enters Tryd.prog 27 = True := eq_true ⟨Tryd.f27, Tryd.func27, by decide +kernel, rfl⟩
theorem en28 : GL.Enters Tryd.prog 28 = True := eq_true ⟨Tryd.f28, Tryd.func28, by decide +kernel, rfl⟩
theorem en29 : GL.Enters Tryd.prog 29 = True := eq_true ⟨Tryd.f29, Tryd.func29, by decide +kernel, rfl⟩
theorem en30 : GL.Enters Tryd.prog 30 = True := eq_true ⟨Tryd.f30, Tryd.func30, by decide +kernel, rfl⟩
theorem en31 : GL.Enters Tryd.prog 31 = True := eq_true ⟨Tryd.f31, Tryd.func31, by decide +kernel, rfl⟩
theorem en32 : GL.Enters Tryd.prog 32 = True := eq_true ⟨Tryd.f32, Tryd.func32, by decide +kernel, rfl⟩
theorem en33 : GL.Enters Tryd.prog 33 = True := eq_true ⟨Tryd.f33, Tryd.func33, by decide +kernel, rfl⟩
theorem en34 : GL.Enters Tryd.prog 34 = True := eq_true ⟨Tryd.f34, Tryd.func34, by decide +kernel, rfl⟩
theorem en35 : GL.Enters Tryd.prog 35 = True := eq_true ⟨Tryd.f35, Tryd.func35, by decide +kernel, rfl⟩
theorem en36 : GL.Enters Tryd.prog 36 = True := eq_true ⟨Tryd.f36, Tryd.func36, by decide +kernel, rfl⟩
theorem en37 : GL.Enters Tryd.prog 37 = True := eq_true ⟨Tryd.f37, Tryd.func37, by decide +kernel, rfl⟩
theorem en38 : GL.Enters Tryd.prog 38 = True := eq_true ⟨Tryd.f38, Tryd.func38, by decide +kernel, rfl⟩
theorem en39 : GL.Enters Tryd.prog 39 = True := eq_true ⟨Tryd.f39, Tryd.func39, by decide +kernel, rfl⟩
theorem en40 : GL.Enters Tryd.prog 40 = True := eq_true ⟨Tryd.f40, Tryd.func40, by decide +kernel, rfl⟩
theorem en41 : GL.Enters Tryd.prog 41 = True := eq_true ⟨Tryd.f41, Tryd.func41, by decide +kernel, rfl⟩
theorem en42 : GL.Enters Tryd.prog 42 = True := eq_true ⟨Tryd.f42, Tryd.func42, by decide +kernel, rfl⟩
theorem en43 : GL.Enters Tryd.prog 43 = True := eq_true ⟨Tryd.f43, Tryd.func43, by decide +kernel, rfl⟩
theorem en44 : GL.Enters Tryd.prog 44 = True := eq_true ⟨Tryd.f44, Tryd.func44, by decide +kernel, rfl⟩
theorem en45 : GL.Enters Tryd.prog 45 = True := eq_true ⟨Tryd.f45, Tryd.func45, by decide +kernel, rfl⟩
theorem en46 : GL.Enters Tryd.prog 46 = True := eq_true ⟨Tryd.f46, Tryd.func46, by decide +kernel, rfl⟩
theorem en47 : GL.Enters Tryd.prog 47 = True := eq_true ⟨Tryd.f47, Tryd.func47, by decide +kernel, rfl⟩
theorem en48 : GL.Enters Tryd.prog 48 = True := eq_true ⟨Tryd.f48, Tryd.func48, by decide +kernel, rfl⟩
theorem en49 : GL.Enters Tryd.prog 49 = True := eq_true ⟨Tryd.f49, Tryd.func49, by decide +kernel, rfl⟩
theorem en50 : GL.Enters Tryd.prog 50 = True := eq_true ⟨Tryd.f50, Tryd.func50, by decide +kernel, rfl⟩
theorem en51 : GL.Enters Tryd.prog 51 = True := eq_true ⟨Tryd.f51, Tryd.func51, by decide +kernel, rfl⟩
theorem en52 : GL.Enters Tryd.prog 52 = True := eq_true ⟨Tryd.f52, Tryd.func52, by decide +kernel, rfl⟩
theorem en53 : GL.Enters Tryd.prog 53 = True := eq_true ⟨Tryd.f53, Tryd.func53, by decide +kernel, rfl⟩
theorem en54 : GL.Enters Tryd.prog 54 = True := eq_true ⟨Tryd.f54, Tryd.func54, by decide +kernel, rfl⟩
theorem en55 : GL.Enters Tryd.prog 55 = True := eq_true ⟨Tryd.f55, Tryd.func55, by decide +kernel, rfl⟩
theorem en56 : GL.Enters Tryd.prog 56 = True := eq_true ⟨Tryd.f56, Tryd.func56, by decide +kernel, rfl⟩
theorem en57 : GL.Enters Tryd.prog 57 = True := eq_true ⟨Tryd.f57, Tryd.func57, by decide +kernel, rfl⟩
theorem en58 : GL.Enters Tryd.prog 58 = True := eq_true ⟨Tryd.f58, Tryd.func58, by decide +kernel, rfl⟩
theorem en59 : GL.Enters Tryd.prog 59 = True := eq_true ⟨Tryd.f59, Tryd.func59, by decide +kernel, rfl⟩
theorem en60 : GL.Enters Tryd.prog 60 = True := eq_true ⟨Tryd.f60, Tryd.func60, by decide +kernel, rfl⟩
theorem en61 : GL.Enters Tryd.prog 61 = True := eq_true ⟨Tryd.f61, Tryd.func61, by decide +kernel, rfl⟩
theorem en62 : GL.Enters Tryd.prog 62 = True := eq_true ⟨Tryd.f62, Tryd.func62, by decide +kernel, rfl⟩
theorem en63 : GL.Enters Tryd.prog 63 = True := eq_true ⟨Tryd.f63, Tryd.func63, by decide +kernel, rfl⟩
theorem en64 : GL.Enters Tryd.prog 64 = True := eq_true ⟨Tryd.f64, Tryd.func64, by decide +kernel, rfl⟩
theorem en65 : GL.Enters Tryd.prog 65 = True := eq_true ⟨Tryd.f65, Tryd.func65, by decide +kernel, rfl⟩
theorem en66 : GL.Enters Tryd.prog 66 = True := eq_true ⟨Tryd.f66, Tryd.func66, by decide +kernel, rfl⟩
theorem en67 : GL.Enters Tryd.prog 67 = True := eq_true ⟨Tryd.f67, Tryd.func67, by decide +kernel, rfl⟩
theorem en68 : GL.Enters Tryd.prog 68 = True := eq_true ⟨Tryd.f68, Tryd.func68, by decide +kernel, rfl⟩
theorem en69 : GL.Enters Tryd.prog 69 = True := eq_true ⟨Tryd.f69, Tryd.func69, by decide +kernel, rfl⟩
theorem en70 : GL.Enters Tryd.prog 70 = True := eq_true ⟨Tryd.f70, Tryd.func70, by decide +kernel, rfl⟩
theorem en71 : GL.Enters Tryd.prog 71 = True := eq_true ⟨Tryd.f71, Tryd.func71, by decide +kernel, rfl⟩
theorem en72 : GL.Enters Tryd.prog 72 = True := eq_true ⟨Tryd.f72, Tryd.func72, by decide +kernel, rfl⟩
theorem en73 : GL.Enters Tryd.prog 73 = True := eq_true ⟨Tryd.f73, Tryd.func73, by decide +kernel, rfl⟩
theorem en74 : GL.Enters Tryd.prog 74 = True := eq_true ⟨Tryd.f74, Tryd.func74, by decide +kernel, rfl⟩
theorem en75 : GL.Enters Tryd.prog 75 = True := eq_true ⟨Tryd.f75, Tryd.func75, by decide +kernel, rfl⟩
theorem en76 : GL.Enters Tryd.prog 76 = True := eq_true ⟨Tryd.f76, Tryd.func76, by decide +kernel, rfl⟩
theorem en77 : GL.Enters Tryd.prog 77 = True := eq_true ⟨Tryd.f77, Tryd.func77, by decide +kernel, rfl⟩
theorem en78 : GL.Enters Tryd.prog 78 = True := eq_true ⟨Tryd.f78, Tryd.func78, by decide +kernel, rfl⟩
theorem en79 : GL.Enters Tryd.prog 79 = True := eq_true ⟨Tryd.f79, Tryd.func79, by decide +kernel, rfl⟩
theorem en80 : GL.Enters Tryd.prog 80 = True := eq_true ⟨Tryd.f80, Tryd.func80, by decide +kernel, rfl⟩
theorem en81 : GL.Enters Tryd.prog 81 = True := eq_true ⟨Tryd.f81, Tryd.func81, by decide +kernel, rfl⟩
theorem en82 : GL.Enters Tryd.prog 82 = True := eq_true ⟨Tryd.f82, Tryd.func82, by decide +kernel, rfl⟩
theorem en83 : GL.Enters Tryd.prog 83 = True := eq_true ⟨Tryd.f83, Tryd.func83, by decide +kernel, rfl⟩
theorem en84 : GL.Enters Tryd.prog 84 = True := eq_true ⟨Tryd.f84, Tryd.func84, by decide +kernel, rfl⟩
theorem en85 : GL.Enters Tryd.prog 85 = True := eq_true ⟨Tryd.f85, Tryd.func85, by decide +kernel, rfl⟩
theorem en86 : GL.Enters Tryd.prog 86 = True := eq_true ⟨Tryd.f86, Tryd.func86, by decide +kernel, rfl⟩
theorem en87 : GL.Enters Tryd.prog 87 = True := eq_true ⟨Tryd.f87, Tryd.func87, by decide +kernel, rfl⟩
theorem en88 : GL.Enters Tryd.prog 88 = True := eq_true ⟨Tryd.f88, Tryd.func88, by decide +kernel, rfl⟩
theorem en89 : GL.Enters Tryd.prog 89 = True := eq_true ⟨Tryd.f89, Tryd.func89, by decide +kernel, rfl⟩
theorem en90 : GL.Enters Tryd.prog 90 = True := eq_true ⟨Tryd.f90, Tryd.func90, by decide +kernel, rfl⟩
theorem en91 : GL.Enters Tryd.prog 91 = True := eq_true ⟨Tryd.f91, Tryd.func91, by decide +kernel, rfl⟩
theorem en92 : GL.Enters Tryd.prog 92 = True := eq_true ⟨Tryd.f92, Tryd.func92, by decide +kernel, rfl⟩
theorem en93 : GL.Enters Tryd.prog 93 = True := eq_true ⟨Tryd.f93, Tryd.func93, by decide +kernel, rfl⟩
theorem en94 : GL.Enters Tryd.prog 94 = True := eq_true ⟨Tryd.f94, Tryd.func94, by decide +kernel, rfl⟩
theorem en95 : GL.Enters Tryd.prog 95 = True := eq_true ⟨Tryd.f95, Tryd.func95, by decide +kernel, rfl⟩
theorem en96 : GL.Enters Tryd.prog 96 = True := eq_true ⟨Tryd.f96, Tryd.func96, by decide +kernel, rfl⟩
theorem en97 : GL.Enters Tryd.prog 97 = True := eq_true ⟨Tryd.f97, Tryd.func97, by decide +kernel, rfl⟩
theorem en98 : GL.Enters Tryd.prog 98 = True := eq_true ⟨Tryd.f98, Tryd.func98, by decide +kernel, rfl⟩
theorem en99 : GL.Enters Tryd.prog 99 = True := eq_true ⟨Tryd.f99, Tryd.func99, by decide +kernel, rfl⟩
theorem en100 : GL.Enters Tryd.prog 100 = True := eq_true ⟨Tryd.f100, Tryd.func100, by decide +kernel, rfl⟩
theorem en101 : GL.Enters Tryd.prog 101 = True := eq_true ⟨Tryd.f101, Tryd.func101, by decide +kernel, rfl⟩
theorem en102 : GL.Enters Tryd.prog 102 = True := eq_true ⟨Tryd.f102, Tryd.func102, by decide +kernel, rfl⟩
theorem en104 : GL.Enters Tryd.prog 104 = True := eq_true ⟨Tryd.f104, Tryd.func104, by decide +kernel, rfl⟩
theorem en105 : GL.Enters Tryd.prog 105 = True := eq_true ⟨Tryd.f105, Tryd.func105, by decide +kernel, rfl⟩
theorem en106 : GL.Enters Tryd.prog 106 = True := eq_true ⟨Tryd.f106, Tryd.func106, by decide +kernel, rfl⟩
theorem en107 : GL.Enters Tryd.prog 107 = True := eq_true ⟨Tryd.f107, Tryd.func107, by decide +kernel, rfl⟩
theorem en108 : GL.Enters Tryd.prog 108 = True := eq_true ⟨Tryd.f108, Tryd.func108, by decide +kernel, rfl⟩
theorem en110 : GL.Enters Tryd.prog 110 = True := eq_true ⟨Tryd.f110, Tryd.func110, by decide +kernel, rfl⟩
theorem en111 : GL.Enters Tryd.prog 111 = True := eq_true ⟨Tryd.f111, Tryd.func111, by decide +kernel, rfl⟩
theorem en112 : GL.Enters Tryd.prog 112 = True := eq_true ⟨Tryd.f112, Tryd.func112, by decide +kernel, rfl⟩
theorem en113 : GL.Enters Tryd.prog 113 = True := eq_true ⟨Tryd.f113, Tryd.func113, by decide +kernel, rfl⟩
theorem en114 : GL.Enters Tryd.prog 114 = True := eq_true ⟨Tryd.f114, Tryd.func114, by decide +kernel, rfl⟩
theorem en115 : GL.Enters Tryd.prog 115 = True := eq_true ⟨Tryd.f115, Tryd.func115, by decide +kernel, rfl⟩
theorem en116 : GL.Enters Tryd.prog 116 = True := eq_true ⟨Tryd.f116, Tryd.func116, by decide +kernel, rfl⟩
theorem en117 : GL.Enters Tryd.prog 117 = True := eq_true ⟨Tryd.f117, Tryd.func117, by decide +kernel, rfl⟩
theorem en118 : GL.Enters Tryd.prog 118 = True := eq_true ⟨Tryd.f118, Tryd.func118, by decide +kernel, rfl⟩
theorem en119 : GL.Enters Tryd.prog 119 = True := eq_true ⟨Tryd.f119, Tryd.func119, by decide +kernel, rfl⟩
theorem en120 : GL.Enters Tryd.prog 120 = True := eq_true ⟨Tryd.f120, Tryd.func120, by decide +kernel, rfl⟩
theorem en121 : GL.Enters Tryd.prog 121 = True := eq_true ⟨Tryd.f121, Tryd.func121, by decide +kernel, rfl⟩
theorem en122 : GL.Enters Tryd.prog 122 = True := eq_true ⟨Tryd.f122, Tryd.func122, by decide +kernel, rfl⟩
end Go.Proofs.YtdepecjjahodjaaDoor
namespace Go.Proofs.YtdepecjjahodjaaDoor
open Go Go.GL
theorem bd34_0_1 (x0 x1 : Value) (hx0 : oneV x0 = true) (hx1 : oneV x1 = true) : pvBuild Tryd.prog 34 [(0, x0), (1, x1)] = some (.agg #[x0, x1]) := pvBuild_struct (pl := [(0, 1), (1, 1)]) (show tyD Tryd.prog 34 = _ from Tryd.underlying34) zv34 (by kernel_rfl) (by decide +kernel) (by simp [Instr.fill, agg_cells, int_cells, bool_cells, string_cells, slice_cells, pointer_cells, map_cells, nilFunc_cells, nilIface_cells, one_cells hx0, one_cells hx1])
theorem bd91_0_1 (x0 x1 : Value) (hx0 : oneV x0 = true) (hx1 : oneV x1 = true) : pvBuild Tryd.prog 91 [(0, x0), (1, x1)] = some (.agg #[x0, x1]) := pvBuild_struct (pl := [(0, 1), (1, 1)]) (show tyD Tryd.prog 91 = _ from Tryd.underlying91) zv91 (by kernel_rfl) (by decide +kernel) (by simp [Instr.fill, agg_cells, int_cells, bool_cells, string_cells, slice_cells, pointer_cells, map_cells, nilFunc_cells, nilIface_cells, one_cells hx0, one_cells hx1])
theorem bs22_0   : bsCells Tryd.prog 22 0 [] = some ([], 9) := bsCells_eq (show tyD Tryd.prog 22 = _ from Tryd.underlying22) sz9 (by decide) (by decide) zv9 (by simp [Instr.fill, agg_cells, int_cells, bool_cells, string_cells, slice_cells, pointer_cells, map_cells, nilFunc_cells, nilIface_cells, Array.range] <;> rfl)
theorem bs22_1 (x0 : Value) (hx0 : oneV x0 = true) : bsCells Tryd.prog 22 1 [(0, x0)] = some ([x0], 9) := bsCells_eq (show tyD Tryd.prog 22 = _ from Tryd.underlying22) sz9 (by decide) (by decide) zv9 (by simp [Instr.fill, agg_cells, int_cells, bool_cells, string_cells, slice_cells, pointer_cells, map_cells, nilFunc_cells, nilIface_cells, Array.range, one_cells hx0] <;> rfl)
theorem bs23_0   : bsCells Tryd.prog 23 0 [] = some ([], 3) := bsCells_eq (show tyD Tryd.prog 23 = _ from Tryd.underlying23) sz3 (by decide) (by decide) zv3 (by simp [Instr.fill, agg_cells, int_cells, bool_cells, string_cells, slice_cells, pointer_cells, map_cells, nilFunc_cells, nilIface_cells, Array.range] <;> rfl)
theorem bs23_1 (x0 : Value) (hx0 : oneV x0 = true) : bsCells Tryd.prog 23 1 [(0, x0)] = some ([x0], 3) := bsCells_eq (show tyD Tryd.prog 23 = _ from Tryd.underlying23) sz3 (by decide) (by decide) zv3 (by simp [Instr.fill, agg_cells, int_cells, bool_cells, string_cells, slice_cells, pointer_cells, map_cells, nilFunc_cells, nilIface_cells, Array.range, one_cells hx0] <;> rfl)
theorem bs23_3 (x0 x1 x2 : Value) (hx0 : oneV x0 = true) (hx1 : oneV x1 = true) (hx2 : oneV x2 = true) : bsCells Tryd.prog 23 3 [(0, x0), (1, x1), (2, x2)] = some ([x0, x1, x2], 3) := bsCells_eq (show tyD Tryd.prog 23 = _ from Tryd.underlying23) sz3 (by decide) (by decide) zv3 (by simp [Instr.fill, agg_cells, int_cells, bool_cells, string_cells, slice_cells, pointer_cells, map_cells, nilFunc_cells, nilIface_cells, Array.range, one_cells hx0, one_cells hx1, one_cells hx2] <;> rfl)
theorem bs24_0  : bsCells Tryd.prog 24 0 [] = some ([], 34) := bsCells_all [] (show tyD Tryd.prog 24 = _ from Tryd.underlying24) sz34 (by decide) (by decide) zv34 rfl rfl
theorem bs24_1 (x0 x1 : Value) : bsCells Tryd.prog 24 1 [(0, .agg #[x0, x1])] = some ([x0, x1], 34) := bsCells_all [.agg #[x0, x1]] (show tyD Tryd.prog 24 = _ from Tryd.underlying24) sz34 (by decide) (by decide) zv34 rfl rfl
theorem bs25_0  : bsCells Tryd.prog 25 0 [] = some ([], 47) := bsCells_all [] (show tyD Tryd.prog 25 = _ from Tryd.underlying25) sz47 (by decide) (by decide) zv47 rfl rfl
theorem bs52_1 (x0 x1 : Value) : bsCells Tryd.prog 52 1 [(0, .agg #[x0, x1])] = some ([x0, x1], 76) := bsCells_all [.agg #[x0, x1]] (show tyD Tryd.prog 52 = _ from Tryd.underlying52) sz76 (by decide) (by decide) zv76 rfl rfl
theorem bs74_2 (x0 x1 : Value) (hx0 : oneV x0 = true) (hx1 : oneV x1 = true) : bsCells Tryd.prog 74 2 [(0, x0), (1, x1)] = some ([x0, x1], 26) := bsCells_eq (show tyD Tryd.prog 74 = _ from Tryd.underlying74) sz26 (by decide) (by decide) zv26 (by simp [Instr.fill, agg_cells, int_cells, bool_cells, string_cells, slice_cells, pointer_cells, map_cells, nilFunc_cells, nilIface_cells, Array.range, one_cells hx0, one_cells hx1] <;> rfl)
theorem bs85_1 (x0 x1 : Value) : bsCells Tryd.prog 85 1 [(0, .agg #[x0, x1])] = some ([x0, x1], 91) := bsCells_all [.agg #[x0, x1]] (show tyD Tryd.prog 85 = _ from Tryd.underlying85) sz91 (by decide) (by decide) zv91 rfl rfl
theorem cv3_86 (k : IntKind) (n : Int) : pvConv Tryd.prog 3 86 (.int k n) = some (.int .u64 (IntKind.u64.wrap n)) := pvConv_int 3 86 Tryd.underlying86 Tryd.underlying3 k n
theorem cv3_95 (k : IntKind) (n : Int) : pvConv Tryd.prog 3 95 (.int k n) = some (.int .u64 (IntKind.u64.wrap n)) := pvConv_int 3 95 Tryd.underlying95 Tryd.underlying3 k n
theorem cv3_137 (k : IntKind) (n : Int) : pvConv Tryd.prog 3 137 (.int k n) = some (.int .u64 (IntKind.u64.wrap n)) := pvConv_int 3 137 Tryd.underlying137 Tryd.underlying3 k n
theorem cv5_3 (k : IntKind) (n : Int) : pvConv Tryd.prog 5 3 (.int k n) = some (.int .i64 (IntKind.i64.wrap n)) := pvConv_int 5 3 Tryd.underlying3 Tryd.underlying5 k n
theorem cv5_21 (k : IntKind) (n : Int) : pvConv Tryd.prog 5 21 (.int k n) = some (.int .i32 (IntKind.i32.wrap n)) := pvConv_int 5 21 Tryd.underlying21 Tryd.underlying5 k n
theorem cv21_5 (k : IntKind) (n : Int) : pvConv Tryd.prog 21 5 (.int k n) = some (.int .u8 (IntKind.u8.wrap n)) := pvConv_int 21 5 Tryd.underlying5 Tryd.underlying21 k n
theorem cv86_3 (k : IntKind) (n : Int) : pvConv Tryd.prog 86 3 (.int k n) = some (.int .i64 (IntKind.i64.wrap n)) := pvConv_int 86 3 Tryd.underlying3 Tryd.underlying86 k n
theorem cv86_5 (k : IntKind) (n : Int) : pvConv Tryd.prog 86 5 (.int k n) = some (.int .u8 (IntKind.u8.wrap n)) := pvConv_int 86 5 Tryd.underlying5 Tryd.underlying86 k n
theorem cv86_110 (k : IntKind) (n : Int) : pvConv Tryd.prog 86 110 (.int k n) = some (.int .u32 (IntKind.u32.wrap n)) := pvConv_int 86 110 Tryd.underlying110 Tryd.underlying86 k n
theorem cv95_3 (k : IntKind) (n : Int) : pvConv Tryd.prog 95 3 (.int k n) = some (.int .i64 (IntKind.i64.wrap n)) := pvConv_int 95 3 Tryd.underlying3 Tryd.underlying95 k n
theorem cv95_110 (k : IntKind) (n : Int) : pvConv Tryd.prog 95 110 (.int k n) = some (.int .u32 (IntKind.u32.wrap n)) := pvConv_int 95 110 Tryd.underlying110 Tryd.underlying95 k n
theorem cv110_5 (k : IntKind) (n : Int) : pvConv Tryd.prog 110 5 (.int k n) = some (.int .u8 (IntKind.u8.wrap n)) := pvConv_int 110 5 Tryd.underlying5 Tryd.underlying110 k n
theorem cv110_86 (k : IntKind) (n : Int) : pvConv Tryd.prog 110 86 (.int k n) = some (.int .u64 (IntKind.u64.wrap n)) := pvConv_int 110 86 Tryd.underlying86 Tryd.underlying110 k n
theorem cv110_95 (k : IntKind) (n : Int) : pvConv Tryd.prog 110 95 (.int k n) = some (.int .u64 (IntKind.u64.wrap n)) := pvConv_int 110 95 Tryd.underlying95 Tryd.underlying110 k n
end Go.Proofs.YtdepecjjahodjaaDoor
namespace Go.Proofs.YtdepecjjahodjaaDoor
open Go Go.GL
theorem pt9 (cs : Array Value) (off : Nat) : calm Tryd.prog (part 9 cs off) = cs[off]? := calm_part_one ag9 cs off
theorem eq9 (d : Nat) (a b : ByteArray) : calm Tryd.prog (Op.equalIn (d + 1) 9 (.string a) (.string b)) = some (decide (a = b)) := calm_eq_string Tryd.underlying9 d a b
theorem ck9 (em : Bool) (n : Nat) (v : Value) : calm Tryd.prog (Instr.checkKey em (n + 1) 9 v) = some () := calm_check_plain Tryd.underlying9 rfl em n v
theorem pt3 (cs : Array Value) (off : Nat) : calm Tryd.prog (part 3 cs off) = cs[off]? := calm_part_one ag3 cs off
theorem eq3 (d : Nat) (k : IntKind) (a b : Int) : calm Tryd.prog (Op.equalIn (d + 1) 3 (.int k a) (.int k b)) = some (decide (a = b)) := calm_eq_int Tryd.underlying3 d k a b
theorem ck3 (em : Bool) (n : Nat) (v : Value) : calm Tryd.prog (Instr.checkKey em (n + 1) 3 v) = some () := calm_check_plain Tryd.underlying3 rfl em n v
theorem eq34 (d : Nat) (x0 y0 : ByteArray) (x1 y1 : Int) : calm Tryd.prog (Op.equalIn (d + 2) 34 (.agg #[.string x0, .int .i64 x1]) (.agg #[.string y0, .int .i64 y1])) = some (decide (x0 = y0) && decide (x1 = y1)) := by
  rw [calm_equal_struct (d + 1) 34 _ _ (show Tryd.prog.underlying 34 = _ from Tryd.underlying34) (by kernel_rfl)]
  simp [eqFields_cons, eqFields_nil, eq3, eq9, pt3, pt9]
  (try by_cases h0 : x0 = y0) <;> (try by_cases h1 : x1 = y1) <;> (try simp [*])
theorem aeq34 (a b : Operand) (x0 y0 : ByteArray) (x1 y1 : Int) : pvB Tryd.prog .eql 34 a b (.agg #[.string x0, .int .i64 x1]) (.agg #[.string y0, .int .i64 y1]) = some (.bool (decide (x0 = y0) && decide (x1 = y1))) := gwp_aggEq (by kernel_rfl) (eq34 9998 x0 y0 x1 y1)
theorem ane34 (a b : Operand) (x0 y0 : ByteArray) (x1 y1 : Int) : pvB Tryd.prog .neq 34 a b (.agg #[.string x0, .int .i64 x1]) (.agg #[.string y0, .int .i64 y1]) = some (.bool (!(decide (x0 = y0) && decide (x1 = y1)))) := gwp_aggNe (by kernel_rfl) (eq34 9998 x0 y0 x1 y1)
theorem ck34 (em : Bool) (n : Nat) (x0 : ByteArray) (x1 : Int) : calm Tryd.prog (Instr.checkKey em (n + 2) 34 (.agg #[.string x0, .int .i64 x1])) = some () := by
  rw [calm_check_struct em (n + 1) 34 _ (show Tryd.prog.underlying 34 = _ from Tryd.underlying34)]
  simp [chkFields, ck3, ck9, pt3, pt9]
theorem kf34 (x0 : ByteArray) (x1 : Int) {es : List MapEntry} (h : ∀ e ∈ es, ∃ y0 y1, e.key = .agg #[.string y0, .int .i64 y1]) : KeyFit Tryd.prog 34 (.agg #[.string x0, .int .i64 x1]) es := ⟨fun em => ck34 em 9998 x0 x1, by simp [Instr.sameBits, bytes_beq], by rw [show Op.equal 34 (.agg #[.string x0, .int .i64 x1]) (.agg #[.string x0, .int .i64 x1]) = Op.equalIn (9998 + 2) 34 (.agg #[.string x0, .int .i64 x1]) (.agg #[.string x0, .int .i64 x1]) from rfl, eq34]; simp, fun e he => by
  obtain ⟨y0, y1, hy⟩ := h e he
  rw [hy, show Op.equal 34 (.agg #[.string x0, .int .i64 x1]) (.agg #[.string y0, .int .i64 y1]) = Op.equalIn (9998 + 2) 34 (.agg #[.string x0, .int .i64 x1]) (.agg #[.string y0, .int .i64 y1]) from rfl, eq34]
  rw [Option.some.injEq, Bool.eq_iff_iff]
  simp [and_assoc]⟩
end Go.Proofs.YtdepecjjahodjaaDoor
namespace Go.Proofs.YtdepecjjahodjaaDoor
open Go Go.GL
set_option linter.defProp false in
def gT := (And.intro (And.intro (And.intro (And.intro (And.intro (And.intro (And.intro (And.intro (And.intro @ld2 @st2) (And.intro @al2 @ld3)) (And.intro (And.intro @st3 @al3) (And.intro @ld4 @st4))) (And.intro (And.intro (And.intro @al4 @be4) (And.intro @bn4 @ld5)) (And.intro (And.intro @st5 @al5) (And.intro @ld6 @st6)))) (And.intro (And.intro (And.intro (And.intro @al6 @ld7) (And.intro @st7 @al7)) (And.intro (And.intro @fa7_0 @fl7_0) (And.intro @fa7_1 @fl7_1))) (And.intro (And.intro (And.intro @fa7_2 @fl7_2) (And.intro @fa7_3 @fl7_3)) (And.intro (And.intro @ld8 @st8) (And.intro @al8 (And.intro @fa8_0 @fl8_0)))))) (And.intro (And.intro (And.intro (And.intro (And.intro @fa8_1 @fl8_1) (And.intro @fa8_2 @fl8_2)) (And.intro (And.intro @fa8_3 @fl8_3) (And.intro @ld9 @st9))) (And.intro (And.intro (And.intro @al9 @ln9) (And.intro @ix9 @ld10)) (And.intro (And.intro @st10 @al10) (And.intro @ln10 (And.intro @ix10 @ld11))))) (And.intro (And.intro (And.intro (And.intro @st11 @al11) (And.intro @ln11 @ix11)) (And.intro (And.intro @ld12 @st12) (And.intro @al12 @ld13))) (And.intro (And.intro (And.intro @st13 @al13) (And.intro @fa13_0 @fl13_0)) (And.intro (And.intro @fa13_1 @fl13_1) (And.intro @ld14 (And.intro @st14 @al14))))))) (And.intro (And.intro (And.intro (And.intro (And.intro (And.intro @fa14_0 @fl14_0) (And.intro @fa14_1 @fl14_1)) (And.intro (And.intro @ld15 @st15) (And.intro @al15 @ld16))) (And.intro (And.intro (And.intro @st16 @al16) (And.intro @ld17 @st17)) (And.intro (And.intro @al17 @ld18) (And.intro @st18 @al18)))) (And.intro (And.intro (And.intro (And.intro @fa18_0 @fl18_0) (And.intro @ld19 @st19)) (And.intro (And.intro @al19 @fa19_0) (And.intro @fl19_0 @ld21))) (And.intro (And.intro (And.intro @st21 @al21) (And.intro @ld22 @st22)) (And.intro (And.intro @al22 @ia22) (And.intro @ln22 (And.intro @cp22 @sxh22)))))) (And.intro (And.intro (And.intro (And.intro (And.intro @sxl22 @sxb22) (And.intro @sxm22 @sn22)) (And.intro (And.intro @snn22 @ld23) (And.intro @st23 @al23))) (And.intro (And.intro (And.intro @ia23 @ln23) (And.intro @cp23 @sxh23)) (And.intro (And.intro @sxl23 @sxb23) (And.intro @sxm23 (And.intro @sn23 @snn23))))) (And.intro (And.intro (And.intro (And.intro @ld24 @st24) (And.intro @al24 @ia24)) (And.intro (And.intro @ln24 @cp24) (And.intro @sxh24 @sxl24))) (And.intro (And.intro (And.intro @sxb24 @sxm24) (And.intro @sn24 @snn24)) (And.intro (And.intro @ld25 @st25) (And.intro @al25 (And.intro @ia25 @ln25)))))))) (And.intro (And.intro (And.intro (And.intro (And.intro (And.intro (And.intro @cp25 @sxh25) (And.intro @sxl25 @sxb25)) (And.intro (And.intro @sxm25 @sn25) (And.intro @snn25 @ld26))) (And.intro (And.intro (And.intro @st26 @al26) (And.intro @ld33 @st33)) (And.intro (And.intro @al33 @fa33_0) (And.intro @fl33_0 @fa33_1)))) (And.intro (And.intro (And.intro (And.intro @fl33_1 @ld34) (And.intro @st34 @al34)) (And.intro (And.intro @fa34_0 @fl34_0) (And.intro @fa34_1 @fl34_1))) (And.intro (And.intro (And.intro @ld46 @st46) (And.intro @al46 @fa46_0)) (And.intro (And.intro @fl46_0 @fa46_1) (And.intro @fl46_1 (And.intro @ld47 @st47)))))) (And.intro (And.intro (And.intro (And.intro (And.intro @al47 @fa47_0) (And.intro @fl47_0 @fa47_1)) (And.intro (And.intro @fl47_1 @ld52) (And.intro @st52 @al52))) (And.intro (And.intro (And.intro @ia52 @ln52) (And.intro @cp52 @sxh52)) (And.intro (And.intro @sxl52 @sxb52) (And.intro @sxm52 (And.intro @sn52 @snn52))))) (And.intro (And.intro (And.intro (And.intro @ld74 @st74) (And.intro @al74 @ia74)) (And.intro (And.intro @ln74 @cp74) (And.intro @sxh74 @sxl74))) (And.intro (And.intro (And.intro @sxb74 @sxm74) (And.intro @sn74 @snn74)) (And.intro (And.intro @ld75 @st75) (And.intro @al75 (And.intro @fa75_0 @fl75_0))))))) (And.intro (And.intro (And.intro (And.intro (And.intro (And.intro @fa75_1 @fl75_1) (And.intro @ld76 @st76)) (And.intro (And.intro @al76 @fa76_0) (And.intro @fl76_0 @fa76_1))) (And.intro (And.intro (And.intro @fl76_1 @ld77) (And.intro @st77 @al77)) (And.intro (And.intro @ld85 @st85) (And.intro @al85 @ia85)))) (And.intro (And.intro (And.intro (And.intro @ln85 @cp85) (And.intro @sxh85 @sxl85)) (And.intro (And.intro @sxb85 @sxm85) (And.intro @sn85 @snn85))) (And.intro (And.intro (And.intro @ld86 @st86) (And.intro @al86 @ld90)) (And.intro (And.intro @st90 @al90) (And.intro @fa90_0 (And.intro @fl90_0 @fa90_1)))))) (And.intro (And.intro (And.intro (And.intro (And.intro @fl90_1 @ld91) (And.intro @st91 @al91)) (And.intro (And.intro @fa91_0 @fl91_0) (And.intro @fa91_1 @fl91_1))) (And.intro (And.intro (And.intro @ld95 @st95) (And.intro @al95 @ld106)) (And.intro (And.intro @st106 @al106) (And.intro @ld110 (And.intro @st110 @al110))))) (And.intro (And.intro (And.intro (And.intro @ld121 @st121) (And.intro @al121 @ld125)) (And.intro (And.intro @st125 @al125) (And.intro @ld137 @st137))) (And.intro (And.intro (And.intro @al137 @ld141) (And.intro @st141 @al141)) (And.intro (And.intro @ld144 @st144) (And.intro @al144 (And.intro @ld148 @st148))))))))) (And.intro (And.intro (And.intro (And.intro (And.intro (And.intro (And.intro (And.intro @al148 @fa148_0) (And.intro @fl148_0 @fa148_1)) (And.intro (And.intro @fl148_1 @ld149) (And.intro @st149 @al149))) (And.intro (And.intro (And.intro @fa149_0 @fl149_0) (And.intro @fa149_1 @fl149_1)) (And.intro (And.intro @ld150 @st150) (And.intro @al150 @ld153)))) (And.intro (And.intro (And.intro (And.intro @st153 @al153) (And.intro @ld155 @st155)) (And.intro (And.intro @al155 @fa155_0) (And.intro @fl155_0 @fa155_1))) (And.intro (And.intro (And.intro @fl155_1 @fa155_2) (And.intro @fl155_2 @fa155_3)) (And.intro (And.intro @fl155_3 @ld156) (And.intro @st156 (And.intro @al156 @fa156_0)))))) (And.intro (And.intro (And.intro (And.intro (And.intro @fl156_0 @fa156_1) (And.intro @fl156_1 @fa156_2)) (And.intro (And.intro @fl156_2 @fa156_3) (And.intro @fl156_3 @al157))) (And.intro (And.intro (And.intro @al158 @al159) (And.intro @ld161 @st161)) (And.intro (And.intro @al161 @ld162) (And.intro @st162 (And.intro @al162 @ld164))))) (And.intro (And.intro (And.intro (And.intro @st164 @al164) (And.intro @ld165 @st165)) (And.intro (And.intro @al165 @ld166) (And.intro @st166 @al166))) (And.intro (And.intro (And.intro @ld167 @st167) (And.intro @al167 @fa167_0)) (And.intro (And.intro @fl167_0 @fa167_1) (And.intro @fl167_1 (And.intro @fa167_2 @fl167_2))))))) (And.intro (And.intro (And.intro (And.intro (And.intro (And.intro @fa167_3 @fl167_3) (And.intro @fa167_4 @fl167_4)) (And.intro (And.intro @fa167_5 @fl167_5) (And.intro @fa167_6 @fl167_6))) (And.intro (And.intro (And.intro @fa167_7 @fl167_7) (And.intro @fa167_8 @fl167_8)) (And.intro (And.intro @fa167_9 @fl167_9) (And.intro @fa167_10 @fl167_10)))) (And.intro (And.intro (And.intro (And.intro @ld168 @st168) (And.intro @al168 @fa168_0)) (And.intro (And.intro @fl168_0 @fa168_1) (And.intro @fl168_1 @fa168_2))) (And.intro (And.intro (And.intro @fl168_2 @fa168_3) (And.intro @fl168_3 @fa168_4)) (And.intro (And.intro @fl168_4 @fa168_5) (And.intro @fl168_5 (And.intro @fa168_6 @fl168_6)))))) (And.intro (And.intro (And.intro (And.intro (And.intro @fa168_7 @fl168_7) (And.intro @fa168_8 @fl168_8)) (And.intro (And.intro @fa168_9 @fl168_9) (And.intro @fa168_10 @fl168_10))) (And.intro (And.intro (And.intro @ld169 @st169) (And.intro @al169 @fa169_0)) (And.intro (And.intro @fl169_0 @ld170) (And.intro @st170 (And.intro @al170 @fa170_0))))) (And.intro (And.intro (And.intro (And.intro @fl170_0 @ld171) (And.intro @st171 @al171)) (And.intro (And.intro @en3 @en4) (And.intro @en5 @en6))) (And.intro (And.intro (And.intro @en7 @en8) (And.intro @en9 @en10)) (And.intro (And.intro @en11 @en12) (And.intro @en13 (And.intro @en14 @en15)))))))) (And.intro (And.intro (And.intro (And.intro (And.intro (And.intro (And.intro @en16 @en17) (And.intro @en18 @en19)) (And.intro (And.intro @en20 @en21) (And.intro @en22 @en23))) (And.intro (And.intro (And.intro @en24 @en25) (And.intro @en26 @en27)) (And.intro (And.intro @en28 @en29) (And.intro @en30 @en31)))) (And.intro (And.intro (And.intro (And.intro @en32 @en33) (And.intro @en34 @en35)) (And.intro (And.intro @en36 @en37) (And.intro @en38 @en39))) (And.intro (And.intro (And.intro @en40 @en41) (And.intro @en42 @en43)) (And.intro (And.intro @en44 @en45) (And.intro @en46 (And.intro @en47 @en48)))))) (And.intro (And.intro (And.intro (And.intro (And.intro @en49 @en50) (And.intro @en51 @en52)) (And.intro (And.intro @en53 @en54) (And.intro @en55 @en56))) (And.intro (And.intro (And.intro @en57 @en58) (And.intro @en59 @en60)) (And.intro (And.intro @en61 @en62) (And.intro @en63 (And.intro @en64 @en65))))) (And.intro (And.intro (And.intro (And.intro @en66 @en67) (And.intro @en68 @en69)) (And.intro (And.intro @en70 @en71) (And.intro @en72 @en73))) (And.intro (And.intro (And.intro @en74 @en75) (And.intro @en76 @en77)) (And.intro (And.intro @en78 @en79) (And.intro @en80 (And.intro @en81 @en82))))))) (And.intro (And.intro (And.intro (And.intro (And.intro (And.intro @en83 @en84) (And.intro @en85 @en86)) (And.intro (And.intro @en87 @en88) (And.intro @en89 @en90))) (And.intro (And.intro (And.intro @en91 @en92) (And.intro @en93 @en94)) (And.intro (And.intro @en95 @en96) (And.intro @en97 @en98)))) (And.intro (And.intro (And.intro (And.intro @en99 @en100) (And.intro @en101 @en102)) (And.intro (And.intro @en104 @en105) (And.intro @en106 @en107))) (And.intro (And.intro (And.intro @en108 @en110) (And.intro @en111 @en112)) (And.intro (And.intro @en113 @en114) (And.intro @en115 (And.intro @en116 @en117)))))) (And.intro (And.intro (And.intro (And.intro (And.intro @en118 @en119) (And.intro @en120 @en121)) (And.intro (And.intro @en122 @bd34_0_1) (And.intro @bd91_0_1 @bs22_0))) (And.intro (And.intro (And.intro @bs22_1 @bs23_0) (And.intro @bs23_1 @bs23_3)) (And.intro (And.intro @bs24_0 @bs24_1) (And.intro @bs25_0 (And.intro @bs52_1 @bs74_2))))) (And.intro (And.intro (And.intro (And.intro @bs85_1 @cv3_86) (And.intro @cv3_95 @cv3_137)) (And.intro (And.intro @cv5_3 @cv5_21) (And.intro @cv21_5 @cv86_3))) (And.intro (And.intro (And.intro @cv86_5 @cv86_110) (And.intro @cv95_3 @cv95_110)) (And.intro (And.intro @cv110_5 @cv110_86) (And.intro @cv110_95 (And.intro @aeq34 @ane34))))))))))
end Go.Proofs.YtdepecjjahodjaaDoor
namespace Go.Proofs.YtdepecjjahodjaaDoor
open Go Go.GL
attribute [local irreducible] Ycall GCalls
set_option maxRecDepth 10000
set_option maxHeartbeats 0
def within (a lo hi : Int) : Bool := decide (lo ≤ a) && decide (a ≤ hi)
theorem out_within (a lo hi : Int) : (decide (a < lo) || decide (hi < a)) = !within a lo hi := by
  unfold within
  by_cases h1 : a < lo <;> by_cases h2 : hi < a <;> simp [h1, h2] <;> omega
theorem within_iff {a lo hi : Int} : within a lo hi = true ↔ lo ≤ a ∧ a ≤ hi := by simp [within]
def moment (a : Int) : Bool := within a 0 345686399999
def coord (a : Int) : Bool := within a (-10000) 10000
def sized (a : Int) : Bool := within a 1 10000
def zoned (a : Int) : Bool := within a (-1440) 1440
def point (a b : Int) : Bool := coord a && coord b
def bi (b : Bool) : Int := if b then 0 else 1
theorem p45 {G0 : GH} {a lo hi : Int}  : Pure Tryd.prog G0 45 [V a, V lo, V hi] (.bool (!within a lo hi)) := by
  intro G hG
  clear hG G0
  refine enter Tryd.func45 15 #[.tmp 6] rfl Tryd.ntmps45 rfl (by decide +kernel) rfl ?_
  rw [← out_within]
  focus
    simp (maxDischargeDepth := 9) only [↓gB, gV, gT, reduceIte, reduceCtorEq, Nat.reduceEqDiff, Nat.reduceAdd, Nat.reduceSub, Nat.reduceLeDiff, Nat.reduceLT, Int.reduceEq, Nat.reduceMul]
    by_cases c1 : (a : Int) < lo
    rotate_left 1
    focus
      simp (maxDischargeDepth := 9) only [↓gB, gV, gT, reduceIte, reduceCtorEq, Nat.reduceEqDiff, Nat.reduceAdd, Nat.reduceSub, Nat.reduceLeDiff, Nat.reduceLT, Int.reduceEq, Nat.reduceMul, c1]
      exact Kup_val (le_refl _) rfl
    rotate_right 1
    simp (maxDischargeDepth := 9) only [↓gB, gV, gT, reduceIte, reduceCtorEq, Nat.reduceEqDiff, Nat.reduceAdd, Nat.reduceSub, Nat.reduceLeDiff, Nat.reduceLT, Int.reduceEq, Nat.reduceMul, c1]
    exact Kup_val (le_refl _) rfl
theorem p39 {G0 : GH} {a lo hi : Int}  : Pure Tryd.prog G0 39 [V a, V lo, V hi] (.bool (within a lo hi)) := by
  intro G hG
  clear hG G0
  refine enter Tryd.func39 15 #[.tmp 6] rfl Tryd.ntmps39 rfl (by decide +kernel) rfl ?_
  focus
    simp (maxDischargeDepth := 9) only [↓gB, gV, gT, reduceIte, reduceCtorEq, Nat.reduceEqDiff, Nat.reduceAdd, Nat.reduceSub, Nat.reduceLeDiff, Nat.reduceLT, Int.reduceEq, Nat.reduceMul, within]
    by_cases c1 : (lo : Int) ≤ a
    rotate_left 1
    focus
      simp (maxDischargeDepth := 9) only [↓gB, gV, gT, reduceIte, reduceCtorEq, Nat.reduceEqDiff, Nat.reduceAdd, Nat.reduceSub, Nat.reduceLeDiff, Nat.reduceLT, Int.reduceEq, Nat.reduceMul, c1, within]
      exact Kup_val (le_refl _) rfl
    rotate_right 1
    simp (maxDischargeDepth := 9) only [↓gB, gV, gT, reduceIte, reduceCtorEq, Nat.reduceEqDiff, Nat.reduceAdd, Nat.reduceSub, Nat.reduceLeDiff, Nat.reduceLT, Int.reduceEq, Nat.reduceMul, c1, within]
    exact Kup_val (le_refl _) rfl
def fdiv (a s : Int) : Int := if a.tmod s < 0 then IntKind.i64.wrap (IntKind.i64.wrap (a.tdiv s) - 1) else IntKind.i64.wrap (a.tdiv s)
theorem p32 {G0 : GH} {a s : Int} (hs : s ≠ 0) : Pure Tryd.prog G0 32 [V a, V s] (V (fdiv a s)) := by
  intro G hG
  clear hG G0
  refine enter Tryd.func32 16 #[.tmp 4] rfl Tryd.ntmps32 rfl (by decide +kernel) rfl ?_
  focus
    simp (maxDischargeDepth := 9) only [↓gB, gV, gT, reduceIte, reduceCtorEq, Nat.reduceEqDiff, Nat.reduceAdd, Nat.reduceSub, Nat.reduceLeDiff, Nat.reduceLT, Int.reduceEq, Nat.reduceMul, fdiv]
    refine vguard_intro (by omega) ?_
    refine vguard_intro (by omega) ?_
    refine Xc_split _ _ _ _ _ (fun c1 => ?_) (fun c1 => ?_)
    rotate_left 1
    focus
      simp (maxDischargeDepth := 9) only [↓gB, gV, gT, reduceIte, reduceCtorEq, Nat.reduceEqDiff, Nat.reduceAdd, Nat.reduceSub, Nat.reduceLeDiff, Nat.reduceLT, Int.reduceEq, Nat.reduceMul, c1, fdiv]
      exact Kup_val (le_refl _) rfl
    rotate_right 1
    simp (maxDischargeDepth := 9) only [↓gB, gV, gT, reduceIte, reduceCtorEq, Nat.reduceEqDiff, Nat.reduceAdd, Nat.reduceSub, Nat.reduceLeDiff, Nat.reduceLT, Int.reduceEq, Nat.reduceMul, c1, fdiv]
    exact Kup_val (le_refl _) rfl
theorem p58 {G0 : GH} {a s : Int} (hs : s ≠ 0) : Pure Tryd.prog G0 58 [V a, V s] (V (fdiv a s)) := by
  intro G hG
  clear hG G0
  refine enter Tryd.func58 16 #[.tmp 4] rfl Tryd.ntmps58 rfl (by decide +kernel) rfl ?_
  focus
    simp (maxDischargeDepth := 9) only [↓gB, gV, gT, reduceIte, reduceCtorEq, Nat.reduceEqDiff, Nat.reduceAdd, Nat.reduceSub, Nat.reduceLeDiff, Nat.reduceLT, Int.reduceEq, Nat.reduceMul, fdiv]
    refine vguard_intro (by omega) ?_
    refine vguard_intro (by omega) ?_
    refine Xc_split _ _ _ _ _ (fun c1 => ?_) (fun c1 => ?_)
    rotate_left 1
    focus
      simp (maxDischargeDepth := 9) only [↓gB, gV, gT, reduceIte, reduceCtorEq, Nat.reduceEqDiff, Nat.reduceAdd, Nat.reduceSub, Nat.reduceLeDiff, Nat.reduceLT, Int.reduceEq, Nat.reduceMul, c1, fdiv]
      exact Kup_val (le_refl _) rfl
    rotate_right 1
    simp (maxDischargeDepth := 9) only [↓gB, gV, gT, reduceIte, reduceCtorEq, Nat.reduceEqDiff, Nat.reduceAdd, Nat.reduceSub, Nat.reduceLeDiff, Nat.reduceLT, Int.reduceEq, Nat.reduceMul, c1, fdiv]
    exact Kup_val (le_refl _) rfl
def w64 (x : Int) : Int := IntKind.i64.wrap x
def inWeek (t : Int) : Int := w64 (t - w64 (fdiv t 604800000 * 604800000))
def hour1 (at_ zone : Int) : Int := w64 ((inWeek (w64 (at_ + w64 (zone * 60000)))).tdiv 3600000)
def hour2 (at_ zone : Int) : Int := w64 (fdiv (w64 (at_ + w64 (zone * 60000))) 3600000 - w64 (fdiv (fdiv (w64 (at_ + w64 (zone * 60000))) 3600000) 168 * 168))
def houred (a : Int) : Bool := within a 0 167
theorem p55 {G0 : GH} {a : Int}  : Pure Tryd.prog G0 55 [V a] (.bool false) := by
  intro G hG
  clear hG G0
  refine enter Tryd.func55 6 #[.tmp 2] rfl Tryd.ntmps55 rfl (by decide +kernel) rfl ?_
  simp (maxDischargeDepth := 9) only [↓gB, gV, gT, reduceIte, reduceCtorEq, Nat.reduceEqDiff, Nat.reduceAdd, Nat.reduceSub, Nat.reduceLeDiff, Nat.reduceLT, Int.reduceEq, Nat.reduceMul]
  exact Kup_val (le_refl _) rfl
def cmp3 (a b : Int) : Int := if a < b then -1 else if b < a then 1 else 0
theorem p35 {G0 : GH} {a b : Int}  : Pure Tryd.prog G0 35 [V a, V b] (V (cmp3 a b)) := by
  intro G hG
  clear hG G0
  refine enter Tryd.func35 20 #[.tmp 4] rfl Tryd.ntmps35 rfl (by decide +kernel) rfl ?_
  focus
    simp (maxDischargeDepth := 9) only [↓gB, gV, gT, reduceIte, reduceCtorEq, Nat.reduceEqDiff, Nat.reduceAdd, Nat.reduceSub, Nat.reduceLeDiff, Nat.reduceLT, Int.reduceEq, Nat.reduceMul, cmp3]
    refine Ycp (p55) ?_
    simp (maxDischargeDepth := 9) only [↓gB, gV, gT, reduceIte, reduceCtorEq, Nat.reduceEqDiff, Nat.reduceAdd, Nat.reduceSub, Nat.reduceLeDiff, Nat.reduceLT, Int.reduceEq, Nat.reduceMul, cmp3]
    refine Ycp (p55) ?_
    simp (maxDischargeDepth := 9) only [↓gB, gV, gT, reduceIte, reduceCtorEq, Nat.reduceEqDiff, Nat.reduceAdd, Nat.reduceSub, Nat.reduceLeDiff, Nat.reduceLT, Int.reduceEq, Nat.reduceMul, cmp3]
    refine Xc_split _ _ _ _ _ (fun c1 => ?_) (fun c1 => ?_)
    rotate_left 1
    focus
      simp (maxDischargeDepth := 9) only [↓gB, gV, gT, reduceIte, reduceCtorEq, Nat.reduceEqDiff, Nat.reduceAdd, Nat.reduceSub, Nat.reduceLeDiff, Nat.reduceLT, Int.reduceEq, Nat.reduceMul, c1, cmp3]
      refine Xc_split _ _ _ _ _ (fun c2 => ?_) (fun c2 => ?_)
      rotate_left 1
      focus
        simp (maxDischargeDepth := 9) only [↓gB, gV, gT, reduceIte, reduceCtorEq, Nat.reduceEqDiff, Nat.reduceAdd, Nat.reduceSub, Nat.reduceLeDiff, Nat.reduceLT, Int.reduceEq, Nat.reduceMul, c1, c2, cmp3]
        exact Kup_val (le_refl _) rfl
      rotate_right 1
      simp (maxDischargeDepth := 9) only [↓gB, gV, gT, reduceIte, reduceCtorEq, Nat.reduceEqDiff, Nat.reduceAdd, Nat.reduceSub, Nat.reduceLeDiff, Nat.reduceLT, Int.reduceEq, Nat.reduceMul, c1, c2, cmp3]
      exact Kup_val (le_refl _) rfl
    rotate_right 1
    simp (maxDischargeDepth := 9) only [↓gB, gV, gT, reduceIte, reduceCtorEq, Nat.reduceEqDiff, Nat.reduceAdd, Nat.reduceSub, Nat.reduceLeDiff, Nat.reduceLT, Int.reduceEq, Nat.reduceMul, c1, cmp3]
    exact Kup_val (le_refl _) rfl
def windowed (a b : Int) : Bool := within a 0 b && decide (b ≤ 345686400000)
def cellCmp (a b c d : Int) : Int := if cmp3 a c = 0 then cmp3 b d else cmp3 a c
def orOf : List Int → Int
  | [] => 0
  | x :: l => if x ≠ 0 then x else orOf l
end Go.Proofs.YtdepecjjahodjaaDoor
namespace Go.Proofs.YtdepecjjahodjaaDoor
open Go Go.GL
attribute [local irreducible] Ycall GCalls
set_option maxRecDepth 10000
set_option maxHeartbeats 0
theorem orE_gen {G0 : GH} {l : List Int} {r : Nat} {e : TypeId} {t : Bool} {fr : Nat × Nat} (hn : (l.length : Int) ≤ 9223372036854775807) (hr : G0 r = some (.cells (l.map V).toArray e fr, t)) : Pure Tryd.prog G0 13 [.slice (some ⟨r, 0, none⟩) l.length l.length] (V (orOf l)) := by
  intro G hG; replace hr := hG _ _ hr; clear hG G0
  refine enter Tryd.func13 18 #[.tmp 2] rfl Tryd.ntmps13 rfl (by decide +kernel) rfl ?_
  simp (maxDischargeDepth := 9) only [↓gB, gV, gT, reduceIte, reduceCtorEq, Nat.reduceEqDiff, Nat.reduceAdd, Nat.reduceSub, Nat.reduceLeDiff, Nat.reduceLT, Int.reduceEq, Nat.reduceMul, hr]
  focus
    refine Xloop_intro _ _ _ _ _ (fun k f G' => ∃ (i : Nat), k = l.length - i ∧ (i ≤ l.length) ∧ (orOf l = orOf (l.drop i)) ∧ (G = G') ∧ f 8 = V i ∧ f 3 = Go.Value.int Go.IntKind.i64 0 ∧ f 6 = Go.Value.slice (Option.some { block := r, off := 0 }) l.length l.length ∧ f 7 = Go.Value.int Go.IntKind.i64 ↑l.length) _ ⟨0, rfl, ?_, ?_, rfl, by simp (maxDischargeDepth := 9) only [↓gB, gV, gT, reduceIte, reduceCtorEq, Nat.reduceEqDiff, Nat.reduceAdd, Nat.reduceSub, Nat.reduceLeDiff, Nat.reduceLT, Int.reduceEq, Nat.reduceMul, hr, and_self]⟩ ?_
    · omega
    · rfl
    rintro k f G' ⟨i, rfl, hi, h, rfl, f8, f3, f6, f7⟩
  simp (maxDischargeDepth := 9) only [↓gB, gV, gT, reduceIte, reduceCtorEq, Nat.reduceEqDiff, Nat.reduceAdd, Nat.reduceSub, Nat.reduceLeDiff, Nat.reduceLT, Int.reduceEq, Nat.reduceMul, hr, f8, f3, f6, f7]
  refine Xc_split _ _ _ _ _ (fun hlt => ?_) (fun hlt => ?_)
  · obtain ⟨x, hx⟩ : ∃ x, l[i]? = some x := ⟨l[i]'(by omega), List.getElem?_eq_getElem (by omega)⟩
    have hd := drop_at hx
    focus
      simp (maxDischargeDepth := 9) only [↓gB, gV, gT, reduceIte, reduceCtorEq, Nat.reduceEqDiff, Nat.reduceAdd, Nat.reduceSub, Nat.reduceLeDiff, Nat.reduceLT, Int.reduceEq, Nat.reduceMul, hr, f8, f3, f6, f7, List.getElem?_map, hx]
      refine vguard_intro (by omega) ?_
      refine Xc_split _ _ _ _ _ (fun c1 => ?_) (fun c1 => ?_)
      rotate_left 1
      focus
        simp (maxDischargeDepth := 9) only [↓gB, gV, gT, reduceIte, reduceCtorEq, Nat.reduceEqDiff, Nat.reduceAdd, Nat.reduceSub, Nat.reduceLeDiff, Nat.reduceLT, Int.reduceEq, Nat.reduceMul, hr, f8, f3, f6, f7, c1, List.getElem?_map, hx]
        have q1 : Go.IntKind.i64.wrap (↑i + 1) = ↑i + 1 := wrap_id (by omega)
        simp (maxDischargeDepth := 9) only [↓gB, gV, gT, reduceIte, reduceCtorEq, Nat.reduceEqDiff, Nat.reduceAdd, Nat.reduceSub, Nat.reduceLeDiff, Nat.reduceLT, Int.reduceEq, Nat.reduceMul, hr, f8, f3, f6, f7, c1, q1, List.getElem?_map, hx]
        rw [N_lp]
        refine ⟨_, ?_, _, ?_, i + 1, rfl, ?_, ?_, rfl, by simp (maxDischargeDepth := 9) only [↓gB, gV, gT, reduceIte, reduceCtorEq, Nat.reduceEqDiff, Nat.reduceAdd, Nat.reduceSub, Nat.reduceLeDiff, Nat.reduceLT, Int.reduceEq, Nat.reduceMul, hr, f8, f3, f6, f7, c1, q1, List.getElem?_map, hx, nat_succ, and_self]⟩
        · omega
        · exact sub_refl _
        · omega
        · (rw [h, hd]; simp [orOf, *]; done)
      rotate_right 1
      simp (maxDischargeDepth := 9) only [↓gB, gV, gT, reduceIte, reduceCtorEq, Nat.reduceEqDiff, Nat.reduceAdd, Nat.reduceSub, Nat.reduceLeDiff, Nat.reduceLT, Int.reduceEq, Nat.reduceMul, hr, f8, f3, f6, f7, c1, List.getElem?_map, hx]
      refine Kup_val (le_refl _) ?_
      focus (rw [h, hd]; simp [orOf, *]; done)
  · simp (maxDischargeDepth := 9) only [↓gB, gV, gT, reduceIte, reduceCtorEq, Nat.reduceEqDiff, Nat.reduceAdd, Nat.reduceSub, Nat.reduceLeDiff, Nat.reduceLT, Int.reduceEq, Nat.reduceMul, hr, f8, f3, f6, f7]
    refine Kup_val (le_refl _) ?_
    focus (rw [h, List.drop_eq_nil_of_le (by omega)]; rfl; done)
theorem p13 {G0 : GH} {x y : Int} {r : Nat} {e : TypeId} {t : Bool} {fr : Nat × Nat} (hr : G0 r = some (.cells [V x, V y].toArray e fr, t)) : Pure Tryd.prog G0 13 [.slice (some ⟨r, 0, none⟩) 2 2] (V (orOf [x, y])) := orE_gen (l := [x, y]) (by simp) hr
theorem p13b {G0 : GH} {x y z : Int} {r : Nat} {e : TypeId} {t : Bool} {fr : Nat × Nat} (hr : G0 r = some (.cells [V x, V y, V z].toArray e fr, t)) : Pure Tryd.prog G0 13 [.slice (some ⟨r, 0, none⟩) 3 3] (V (orOf [x, y, z])) := orE_gen (l := [x, y, z]) (by simp) hr
theorem p13c {G0 : GH} {x y z u : Int} {r : Nat} {e : TypeId} {t : Bool} {fr : Nat × Nat} (hr : G0 r = some (.cells [V x, V y, V z, V u].toArray e fr, t)) : Pure Tryd.prog G0 13 [.slice (some ⟨r, 0, none⟩) 4 4] (V (orOf [x, y, z, u])) := orE_gen (l := [x, y, z, u]) (by simp) hr
theorem p13d {G0 : GH} {x y z u w : Int} {r : Nat} {e : TypeId} {t : Bool} {fr : Nat × Nat} (hr : G0 r = some (.cells [V x, V y, V z, V u, V w].toArray e fr, t)) : Pure Tryd.prog G0 13 [.slice (some ⟨r, 0, none⟩) 5 5] (V (orOf [x, y, z, u, w])) := orE_gen (l := [x, y, z, u, w]) (by simp) hr
theorem orOf2 (x y : Int) : orOf [x, y] = if x = 0 then y else x := by
  unfold orOf; by_cases h : x = 0
  · subst h; simp [orOf]; omega
  · simp [h]
def tallyCmp (a b h c d k : Int) : Int := if cellCmp a b c d = 0 then cmp3 h k else cellCmp a b c d
end Go.Proofs.YtdepecjjahodjaaDoor
namespace Go.Proofs.YtdepecjjahodjaaDoor
open Go Go.GL
attribute [local irreducible] Ycall GCalls
set_option maxRecDepth 10000
set_option maxHeartbeats 0
def prevOf {α : Type} (l : List α) (i : Nat) : Option α := if i = 0 then none else l[i-1]?
theorem prevOf_s {α : Type} (l : List α) (i : Nat) : prevOf l (i + 1) = l[i]? := by simp [prevOf]
theorem prevOf_0 {α : Type} (l : List α) : prevOf l 0 = none := rfl
theorem prevOf_z {α : Type} {l : List α} {i : Nat} (h : ¬ (0:Int) < i) : prevOf l i = none := by simp [prevOf]; omega
theorem prevOf_p {α : Type} {l : List α} {i : Nat} (h : (0:Int) < i) : prevOf l i = l[i-1]? := by simp [prevOf]; omega
def kb (b : UInt8) : Bool := (decide (97 ≤ b.toNat) && decide (b.toNat ≤ 122)) || (decide (48 ≤ b.toNat) && decide (b.toNat ≤ 57)) || decide (b.toNat = 45) || decide (b.toNat = 95)
def isKey (s : ByteArray) : Bool := match s.data.toList with
  | [] => false
  | c :: l => decide (s.size ≤ 40) && decide (97 ≤ c.toNat) && decide (c.toNat ≤ 122) && (c :: l).all kb
theorem getD_at {l : List UInt8} {i : Nat} (h : i < l.length) : ∃ b, l[i]? = some b ∧ l.getD i 0 = b := ⟨l[i], List.getElem?_eq_getElem h, by simp [List.getD_eq_getElem?_getD, List.getElem?_eq_getElem h]⟩
theorem p65 {G0 : GH} {s : ByteArray}  : Pure Tryd.prog G0 65 [.string s] (.bool (isKey s)) := by
  intro G hG
  clear hG G0
  refine enter Tryd.func65 54 #[.tmp 2] rfl Tryd.ntmps65 rfl (by decide +kernel) rfl ?_
  by_cases he : s = ⟨#[]⟩
  · subst he
    simp (maxDischargeDepth := 9) only [↓gB, gV, gT, reduceIte, reduceCtorEq, Nat.reduceEqDiff, Nat.reduceAdd, Nat.reduceSub, Nat.reduceLeDiff, Nat.reduceLT, Int.reduceEq, Nat.reduceMul]
    exact Kup_val (le_refl _) rfl
  · have hs : 0 < s.size := by
      rcases Nat.eq_zero_or_pos s.size with h | h
      · exact absurd ((empty_iff s).2 h) he
      · exact h
    obtain ⟨c, l, hl⟩ := bytes_cons s hs
    have h0 : s.data.toList.getD (Int.toNat 0) 0 = c := by rw [hl]; rfl
    have hk : isKey s = (decide (s.size ≤ 40) && decide (97 ≤ c.toNat) && decide (c.toNat ≤ 122) && s.data.toList.all kb) := by unfold isKey; rw [hl]
    by_cases c1 : (40 : Int) < s.size
    · simp (maxDischargeDepth := 9) only [↓gB, gV, gT, reduceIte, reduceCtorEq, Nat.reduceEqDiff, Nat.reduceAdd, Nat.reduceSub, Nat.reduceLeDiff, Nat.reduceLT, Int.reduceEq, Nat.reduceMul, hk, c1, he, h0]
      exact Kup_val (le_refl _) (by simp [*, he, h0]; omega)
    · focus
        simp (maxDischargeDepth := 9) only [↓gB, gV, gT, reduceIte, reduceCtorEq, Nat.reduceEqDiff, Nat.reduceAdd, Nat.reduceSub, Nat.reduceLeDiff, Nat.reduceLT, Int.reduceEq, Nat.reduceMul, hk, c1, he, h0]
        refine vguard_intro (by omega) ?_
        by_cases c2 : (↑c.toNat : Int) < 97
        rotate_left 1
        focus
          simp (maxDischargeDepth := 9) only [↓gB, gV, gT, reduceIte, reduceCtorEq, Nat.reduceEqDiff, Nat.reduceAdd, Nat.reduceSub, Nat.reduceLeDiff, Nat.reduceLT, Int.reduceEq, Nat.reduceMul, hk, c1, c2, he, h0]
          refine vguard_intro (by omega) ?_
          refine Xc_split _ _ _ _ _ (fun c3 => ?_) (fun c3 => ?_)
          rotate_left 1
          focus
            simp (maxDischargeDepth := 9) only [↓gB, gV, gT, reduceIte, reduceCtorEq, Nat.reduceEqDiff, Nat.reduceAdd, Nat.reduceSub, Nat.reduceLeDiff, Nat.reduceLT, Int.reduceEq, Nat.reduceMul, hk, c1, c2, c3, he, h0]
          rotate_right 1
          simp (maxDischargeDepth := 9) only [↓gB, gV, gT, reduceIte, reduceCtorEq, Nat.reduceEqDiff, Nat.reduceAdd, Nat.reduceSub, Nat.reduceLeDiff, Nat.reduceLT, Int.reduceEq, Nat.reduceMul, hk, c1, c2, c3, he, h0]
          exact Kup_val (le_refl _) (by simp [*, he, h0]; omega)
        rotate_right 1
        simp (maxDischargeDepth := 9) only [↓gB, gV, gT, reduceIte, reduceCtorEq, Nat.reduceEqDiff, Nat.reduceAdd, Nat.reduceSub, Nat.reduceLeDiff, Nat.reduceLT, Int.reduceEq, Nat.reduceMul, hk, c1, c2, he, h0]
        exact Kup_val (le_refl _) (by simp [*, he, h0]; omega)
      have hsz : (s.size : Int) ≤ 40 := by omega
      focus
        refine Xloop_intro _ _ _ _ _ (fun k f G' => ∃ (i : Nat), k = s.size - i ∧ (i ≤ s.size) ∧ ((s.data.toList.take i).all kb = true) ∧ (G = G') ∧ f 24 = V i ∧ f 0 = Go.Value.string s ∧ f 23 = Go.Value.int Go.IntKind.i64 ↑s.size) _ ⟨0, rfl, ?_, ?_, rfl, by simp (maxDischargeDepth := 9) only [↓gB, gV, gT, reduceIte, reduceCtorEq, Nat.reduceEqDiff, Nat.reduceAdd, Nat.reduceSub, Nat.reduceLeDiff, Nat.reduceLT, Int.reduceEq, Nat.reduceMul, hk, c1, c2, c3, and_self]⟩ ?_
        · omega
        · rfl
        rintro k f G' ⟨i, rfl, hi, h, rfl, f24, f0, f23⟩
      rcases Nat.lt_or_ge i s.size with hlt | hge
      · obtain ⟨b, hb, hd⟩ := getD_at (l := s.data.toList) (i := i) (by rw [← size_len]; exact hlt)
        have hall : kb b = false → s.data.toList.all kb = false := fun q => by
          rw [List.all_eq_false]; exact ⟨b, List.mem_of_getElem? hb, by simp [q]⟩
        have hnext : kb b = true → (s.data.toList.take (i + 1)).all kb = true := fun q => by
          rw [take_at hb, List.all_append, h]; simp [q]
        focus
          simp (maxDischargeDepth := 9) only [↓gB, gV, gT, reduceIte, reduceCtorEq, Nat.reduceEqDiff, Nat.reduceAdd, Nat.reduceSub, Nat.reduceLeDiff, Nat.reduceLT, Int.reduceEq, Nat.reduceMul, hk, c1, c2, c3, h, f24, f0, f23, hd]
          refine Xc_pos _ _ _ _ _ (by omega) ?_
          simp (maxDischargeDepth := 9) only [↓gB, gV, gT, reduceIte, reduceCtorEq, Nat.reduceEqDiff, Nat.reduceAdd, Nat.reduceSub, Nat.reduceLeDiff, Nat.reduceLT, Int.reduceEq, Nat.reduceMul, hk, c1, c2, c3, h, f24, f0, f23, hd]
          refine vguard_intro (by omega) ?_
          by_cases c4 : (97 : Int) ≤ ↑b.toNat
          rotate_left 1
          focus
            simp (maxDischargeDepth := 9) only [↓gB, gV, gT, reduceIte, reduceCtorEq, Nat.reduceEqDiff, Nat.reduceAdd, Nat.reduceSub, Nat.reduceLeDiff, Nat.reduceLT, Int.reduceEq, Nat.reduceMul, hk, c1, c2, c3, h, f24, f0, f23, c4, hd]
            by_cases c5 : (48 : Int) ≤ ↑b.toNat
            rotate_left 1
            focus
              simp (maxDischargeDepth := 9) only [↓gB, gV, gT, reduceIte, reduceCtorEq, Nat.reduceEqDiff, Nat.reduceAdd, Nat.reduceSub, Nat.reduceLeDiff, Nat.reduceLT, Int.reduceEq, Nat.reduceMul, hk, c1, c2, c3, h, f24, f0, f23, c4, c5, hd]
              by_cases c6 : (↑b.toNat : Int) = 45
              rotate_left 1
              focus
                simp (maxDischargeDepth := 9) only [↓gB, gV, gT, reduceIte, reduceCtorEq, Nat.reduceEqDiff, Nat.reduceAdd, Nat.reduceSub, Nat.reduceLeDiff, Nat.reduceLT, Int.reduceEq, Nat.reduceMul, hk, c1, c2, c3, h, f24, f0, f23, c4, c5, c6, hd]
                by_cases c7 : (↑b.toNat : Int) = 95
                rotate_left 1
                focus
                  simp (maxDischargeDepth := 9) only [↓gB, gV, gT, reduceIte, reduceCtorEq, Nat.reduceEqDiff, Nat.reduceAdd, Nat.reduceSub, Nat.reduceLeDiff, Nat.reduceLT, Int.reduceEq, Nat.reduceMul, hk, c1, c2, c3, h, f24, f0, f23, c4, c5, c6, c7, hd]
                  refine Kup_val (le_refl _) ?_
                  focus (rw [hall (by simp [kb]; omega)]; simp; done)
                rotate_right 1
                simp (maxDischargeDepth := 9) only [↓gB, gV, gT, reduceIte, reduceCtorEq, Nat.reduceEqDiff, Nat.reduceAdd, Nat.reduceSub, Nat.reduceLeDiff, Nat.reduceLT, Int.reduceEq, Nat.reduceMul, hk, c1, c2, c3, h, f24, f0, f23, c4, c5, c6, c7, hd]
                have q1 : Go.IntKind.i64.wrap (↑i + 1) = ↑i + 1 := wrap_id (by omega)
                simp (maxDischargeDepth := 9) only [↓gB, gV, gT, reduceIte, reduceCtorEq, Nat.reduceEqDiff, Nat.reduceAdd, Nat.reduceSub, Nat.reduceLeDiff, Nat.reduceLT, Int.reduceEq, Nat.reduceMul, hk, c1, c2, c3, h, f24, f0, f23, c4, c5, c6, c7, q1, hd]
                rw [N_lp]
                refine ⟨_, ?_, _, ?_, i + 1, rfl, ?_, ?_, rfl, by simp (maxDischargeDepth := 9) only [↓gB, gV, gT, reduceIte, reduceCtorEq, Nat.reduceEqDiff, Nat.reduceAdd, Nat.reduceSub, Nat.reduceLeDiff, Nat.reduceLT, Int.reduceEq, Nat.reduceMul, hk, c1, c2, c3, h, f24, f0, f23, c4, c5, c6, c7, q1, hd, nat_succ, and_self]⟩
                · omega
                · omega
                · assumption
                · omega
              rotate_right 1
              simp (maxDischargeDepth := 9) only [↓gB, gV, gT, reduceIte, reduceCtorEq, Nat.reduceEqDiff, Nat.reduceAdd, Nat.reduceSub, Nat.reduceLeDiff, Nat.reduceLT, Int.reduceEq, Nat.reduceMul, hk, c1, c2, c3, h, f24, f0, f23, c4, c5, c6, hd]
              have q1 : Go.IntKind.i64.wrap (↑i + 1) = ↑i + 1 := wrap_id (by omega)
              simp (maxDischargeDepth := 9) only [↓gB, gV, gT, reduceIte, reduceCtorEq, Nat.reduceEqDiff, Nat.reduceAdd, Nat.reduceSub, Nat.reduceLeDiff, Nat.reduceLT, Int.reduceEq, Nat.reduceMul, hk, c1, c2, c3, h, f24, f0, f23, c4, c5, c6, q1, hd]
              rw [N_lp]
              refine ⟨_, ?_, _, ?_, i + 1, rfl, ?_, ?_, rfl, by simp (maxDischargeDepth := 9) only [↓gB, gV, gT, reduceIte, reduceCtorEq, Nat.reduceEqDiff, Nat.reduceAdd, Nat.reduceSub, Nat.reduceLeDiff, Nat.reduceLT, Int.reduceEq, Nat.reduceMul, hk, c1, c2, c3, h, f24, f0, f23, c4, c5, c6, q1, hd, nat_succ, and_self]⟩
              · omega
              · exact sub_refl _
              · assumption
              · (exact hnext (by simp [kb]; omega); done)
            rotate_right 1
            simp (maxDischargeDepth := 9) only [↓gB, gV, gT, reduceIte, reduceCtorEq, Nat.reduceEqDiff, Nat.reduceAdd, Nat.reduceSub, Nat.reduceLeDiff, Nat.reduceLT, Int.reduceEq, Nat.reduceMul, hk, c1, c2, c3, h, f24, f0, f23, c4, c5, hd]
            by_cases c6 : (↑b.toNat : Int) ≤ 57
            rotate_left 1
            focus
              simp (maxDischargeDepth := 9) only [↓gB, gV, gT, reduceIte, reduceCtorEq, Nat.reduceEqDiff, Nat.reduceAdd, Nat.reduceSub, Nat.reduceLeDiff, Nat.reduceLT, Int.reduceEq, Nat.reduceMul, hk, c1, c2, c3, h, f24, f0, f23, c4, c5, c6, hd]
              by_cases c7 : (↑b.toNat : Int) = 45
              rotate_left 1
              focus
                simp (maxDischargeDepth := 9) only [↓gB, gV, gT, reduceIte, reduceCtorEq, Nat.reduceEqDiff, Nat.reduceAdd, Nat.reduceSub, Nat.reduceLeDiff, Nat.reduceLT, Int.reduceEq, Nat.reduceMul, hk, c1, c2, c3, h, f24, f0, f23, c4, c5, c6, c7, hd]
                by_cases c8 : (↑b.toNat : Int) = 95
                rotate_left 1
                focus
                  simp (maxDischargeDepth := 9) only [↓gB, gV, gT, reduceIte, reduceCtorEq, Nat.reduceEqDiff, Nat.reduceAdd, Nat.reduceSub, Nat.reduceLeDiff, Nat.reduceLT, Int.reduceEq, Nat.reduceMul, hk, c1, c2, c3, h, f24, f0, f23, c4, c5, c6, c7, c8, hd]
                  refine Kup_val (le_refl _) ?_
                  focus (rw [hall (by simp [kb]; omega)]; simp; done)
                rotate_right 1
                simp (maxDischargeDepth := 9) only [↓gB, gV, gT, reduceIte, reduceCtorEq, Nat.reduceEqDiff, Nat.reduceAdd, Nat.reduceSub, Nat.reduceLeDiff, Nat.reduceLT, Int.reduceEq, Nat.reduceMul, hk, c1, c2, c3, h, f24, f0, f23, c4, c5, c6, c7, c8, hd]
                have q1 : Go.IntKind.i64.wrap (↑i + 1) = ↑i + 1 := wrap_id (by omega)
                simp (maxDischargeDepth := 9) only [↓gB, gV, gT, reduceIte, reduceCtorEq, Nat.reduceEqDiff, Nat.reduceAdd, Nat.reduceSub, Nat.reduceLeDiff, Nat.reduceLT, Int.reduceEq, Nat.reduceMul, hk, c1, c2, c3, h, f24, f0, f23, c4, c5, c6, c7, c8, q1, hd]
                rw [N_lp]
                refine ⟨_, ?_, _, ?_, i + 1, rfl, ?_, ?_, rfl, by simp (maxDischargeDepth := 9) only [↓gB, gV, gT, reduceIte, reduceCtorEq, Nat.reduceEqDiff, Nat.reduceAdd, Nat.reduceSub, Nat.reduceLeDiff, Nat.reduceLT, Int.reduceEq, Nat.reduceMul, hk, c1, c2, c3, h, f24, f0, f23, c4, c5, c6, c7, c8, q1, hd, nat_succ, and_self]⟩
                · omega
                · exact sub_refl _
                · assumption
                · (exact hnext (by simp [kb]; omega); done)
              rotate_right 1
              simp (maxDischargeDepth := 9) only [↓gB, gV, gT, reduceIte, reduceCtorEq, Nat.reduceEqDiff, Nat.reduceAdd, Nat.reduceSub, Nat.reduceLeDiff, Nat.reduceLT, Int.reduceEq, Nat.reduceMul, hk, c1, c2, c3, h, f24, f0, f23, c4, c5, c6, c7, hd]
              have q1 : Go.IntKind.i64.wrap (↑i + 1) = ↑i + 1 := wrap_id (by omega)
              simp (maxDischargeDepth := 9) only [↓gB, gV, gT, reduceIte, reduceCtorEq, Nat.reduceEqDiff, Nat.reduceAdd, Nat.reduceSub, Nat.reduceLeDiff, Nat.reduceLT, Int.reduceEq, Nat.reduceMul, hk, c1, c2, c3, h, f24, f0, f23, c4, c5, c6, c7, q1, hd]
              rw [N_lp]
              refine ⟨_, ?_, _, ?_, i + 1, rfl, ?_, ?_, rfl, by simp (maxDischargeDepth := 9) only [↓gB, gV, gT, reduceIte, reduceCtorEq, Nat.reduceEqDiff, Nat.reduceAdd, Nat.reduceSub, Nat.reduceLeDiff, Nat.reduceLT, Int.reduceEq, Nat.reduceMul, hk, c1, c2, c3, h, f24, f0, f23, c4, c5, c6, c7, q1, hd, nat_succ, and_self]⟩
              · omega
              · omega
              · assumption
              · omega
            rotate_right 1
            simp (maxDischargeDepth := 9) only [↓gB, gV, gT, reduceIte, reduceCtorEq, Nat.reduceEqDiff, Nat.reduceAdd, Nat.reduceSub, Nat.reduceLeDiff, Nat.reduceLT, Int.reduceEq, Nat.reduceMul, hk, c1, c2, c3, h, f24, f0, f23, c4, c5, c6, hd]
            have q1 : Go.IntKind.i64.wrap (↑i + 1) = ↑i + 1 := wrap_id (by omega)
            simp (maxDischargeDepth := 9) only [↓gB, gV, gT, reduceIte, reduceCtorEq, Nat.reduceEqDiff, Nat.reduceAdd, Nat.reduceSub, Nat.reduceLeDiff, Nat.reduceLT, Int.reduceEq, Nat.reduceMul, hk, c1, c2, c3, h, f24, f0, f23, c4, c5, c6, q1, hd]
            rw [N_lp]
            refine ⟨_, ?_, _, ?_, i + 1, rfl, ?_, ?_, rfl, by simp (maxDischargeDepth := 9) only [↓gB, gV, gT, reduceIte, reduceCtorEq, Nat.reduceEqDiff, Nat.reduceAdd, Nat.reduceSub, Nat.reduceLeDiff, Nat.reduceLT, Int.reduceEq, Nat.reduceMul, hk, c1, c2, c3, h, f24, f0, f23, c4, c5, c6, q1, hd, nat_succ, and_self]⟩
            · omega
            · exact sub_refl _
            · assumption
            · (exact hnext (by simp [kb]; omega); done)
          rotate_right 1
          simp (maxDischargeDepth := 9) only [↓gB, gV, gT, reduceIte, reduceCtorEq, Nat.reduceEqDiff, Nat.reduceAdd, Nat.reduceSub, Nat.reduceLeDiff, Nat.reduceLT, Int.reduceEq, Nat.reduceMul, hk, c1, c2, c3, h, f24, f0, f23, c4, hd]
          by_cases c5 : (↑b.toNat : Int) ≤ 122
          rotate_left 1
          focus
            simp (maxDischargeDepth := 9) only [↓gB, gV, gT, reduceIte, reduceCtorEq, Nat.reduceEqDiff, Nat.reduceAdd, Nat.reduceSub, Nat.reduceLeDiff, Nat.reduceLT, Int.reduceEq, Nat.reduceMul, hk, c1, c2, c3, h, f24, f0, f23, c4, c5, hd]
            by_cases c6 : (48 : Int) ≤ ↑b.toNat
            rotate_left 1
            focus
              simp (maxDischargeDepth := 9) only [↓gB, gV, gT, reduceIte, reduceCtorEq, Nat.reduceEqDiff, Nat.reduceAdd, Nat.reduceSub, Nat.reduceLeDiff, Nat.reduceLT, Int.reduceEq, Nat.reduceMul, hk, c1, c2, c3, h, f24, f0, f23, c4, c5, c6, hd]
              by_cases c7 : (↑b.toNat : Int) = 45
              rotate_left 1
              focus
                simp (maxDischargeDepth := 9) only [↓gB, gV, gT, reduceIte, reduceCtorEq, Nat.reduceEqDiff, Nat.reduceAdd, Nat.reduceSub, Nat.reduceLeDiff, Nat.reduceLT, Int.reduceEq, Nat.reduceMul, hk, c1, c2, c3, h, f24, f0, f23, c4, c5, c6, c7, hd]
                by_cases c8 : (↑b.toNat : Int) = 95
                rotate_left 1
                focus
                  simp (maxDischargeDepth := 9) only [↓gB, gV, gT, reduceIte, reduceCtorEq, Nat.reduceEqDiff, Nat.reduceAdd, Nat.reduceSub, Nat.reduceLeDiff, Nat.reduceLT, Int.reduceEq, Nat.reduceMul, hk, c1, c2, c3, h, f24, f0, f23, c4, c5, c6, c7, c8, hd]
                  exact Kup_val (le_refl _) (by simp [*, hd]; omega)
                rotate_right 1
                simp (maxDischargeDepth := 9) only [↓gB, gV, gT, reduceIte, reduceCtorEq, Nat.reduceEqDiff, Nat.reduceAdd, Nat.reduceSub, Nat.reduceLeDiff, Nat.reduceLT, Int.reduceEq, Nat.reduceMul, hk, c1, c2, c3, h, f24, f0, f23, c4, c5, c6, c7, c8, hd]
                have q1 : Go.IntKind.i64.wrap (↑i + 1) = ↑i + 1 := wrap_id (by omega)
                simp (maxDischargeDepth := 9) only [↓gB, gV, gT, reduceIte, reduceCtorEq, Nat.reduceEqDiff, Nat.reduceAdd, Nat.reduceSub, Nat.reduceLeDiff, Nat.reduceLT, Int.reduceEq, Nat.reduceMul, hk, c1, c2, c3, h, f24, f0, f23, c4, c5, c6, c7, c8, q1, hd]
                rw [N_lp]
                refine ⟨_, ?_, _, ?_, i + 1, rfl, ?_, ?_, rfl, by simp (maxDischargeDepth := 9) only [↓gB, gV, gT, reduceIte, reduceCtorEq, Nat.reduceEqDiff, Nat.reduceAdd, Nat.reduceSub, Nat.reduceLeDiff, Nat.reduceLT, Int.reduceEq, Nat.reduceMul, hk, c1, c2, c3, h, f24, f0, f23, c4, c5, c6, c7, c8, q1, hd, nat_succ, and_self]⟩
                · omega
                · omega
                · assumption
                · omega
              rotate_right 1
              simp (maxDischargeDepth := 9) only [↓gB, gV, gT, reduceIte, reduceCtorEq, Nat.reduceEqDiff, Nat.reduceAdd, Nat.reduceSub, Nat.reduceLeDiff, Nat.reduceLT, Int.reduceEq, Nat.reduceMul, hk, c1, c2, c3, h, f24, f0, f23, c4, c5, c6, c7, hd]
              have q1 : Go.IntKind.i64.wrap (↑i + 1) = ↑i + 1 := wrap_id (by omega)
              simp (maxDischargeDepth := 9) only [↓gB, gV, gT, reduceIte, reduceCtorEq, Nat.reduceEqDiff, Nat.reduceAdd, Nat.reduceSub, Nat.reduceLeDiff, Nat.reduceLT, Int.reduceEq, Nat.reduceMul, hk, c1, c2, c3, h, f24, f0, f23, c4, c5, c6, c7, q1, hd]
              rw [N_lp]
              refine ⟨_, ?_, _, ?_, i + 1, rfl, ?_, ?_, rfl, by simp (maxDischargeDepth := 9) only [↓gB, gV, gT, reduceIte, reduceCtorEq, Nat.reduceEqDiff, Nat.reduceAdd, Nat.reduceSub, Nat.reduceLeDiff, Nat.reduceLT, Int.reduceEq, Nat.reduceMul, hk, c1, c2, c3, h, f24, f0, f23, c4, c5, c6, c7, q1, hd, nat_succ, and_self]⟩
              · omega
              · omega
              · assumption
              · omega
            rotate_right 1
            simp (maxDischargeDepth := 9) only [↓gB, gV, gT, reduceIte, reduceCtorEq, Nat.reduceEqDiff, Nat.reduceAdd, Nat.reduceSub, Nat.reduceLeDiff, Nat.reduceLT, Int.reduceEq, Nat.reduceMul, hk, c1, c2, c3, h, f24, f0, f23, c4, c5, c6, hd]
            by_cases c7 : (↑b.toNat : Int) ≤ 57
            rotate_left 1
            focus
              simp (maxDischargeDepth := 9) only [↓gB, gV, gT, reduceIte, reduceCtorEq, Nat.reduceEqDiff, Nat.reduceAdd, Nat.reduceSub, Nat.reduceLeDiff, Nat.reduceLT, Int.reduceEq, Nat.reduceMul, hk, c1, c2, c3, h, f24, f0, f23, c4, c5, c6, c7, hd]
              by_cases c8 : (↑b.toNat : Int) = 45
              rotate_left 1
              focus
                simp (maxDischargeDepth := 9) only [↓gB, gV, gT, reduceIte, reduceCtorEq, Nat.reduceEqDiff, Nat.reduceAdd, Nat.reduceSub, Nat.reduceLeDiff, Nat.reduceLT, Int.reduceEq, Nat.reduceMul, hk, c1, c2, c3, h, f24, f0, f23, c4, c5, c6, c7, c8, hd]
                by_cases c9 : (↑b.toNat : Int) = 95
                rotate_left 1
                focus
                  simp (maxDischargeDepth := 9) only [↓gB, gV, gT, reduceIte, reduceCtorEq, Nat.reduceEqDiff, Nat.reduceAdd, Nat.reduceSub, Nat.reduceLeDiff, Nat.reduceLT, Int.reduceEq, Nat.reduceMul, hk, c1, c2, c3, h, f24, f0, f23, c4, c5, c6, c7, c8, c9, hd]
                  refine Kup_val (le_refl _) ?_
                  focus (rw [hall (by simp [kb]; omega)]; simp; done)
                rotate_right 1
                simp (maxDischargeDepth := 9) only [↓gB, gV, gT, reduceIte, reduceCtorEq, Nat.reduceEqDiff, Nat.reduceAdd, Nat.reduceSub, Nat.reduceLeDiff, Nat.reduceLT, Int.reduceEq, Nat.reduceMul, hk, c1, c2, c3, h, f24, f0, f23, c4, c5, c6, c7, c8, c9, hd]
                have q1 : Go.IntKind.i64.wrap (↑i + 1) = ↑i + 1 := wrap_id (by omega)
                simp (maxDischargeDepth := 9) only [↓gB, gV, gT, reduceIte, reduceCtorEq, Nat.reduceEqDiff, Nat.reduceAdd, Nat.reduceSub, Nat.reduceLeDiff, Nat.reduceLT, Int.reduceEq, Nat.reduceMul, hk, c1, c2, c3, h, f24, f0, f23, c4, c5, c6, c7, c8, c9, q1, hd]
                rw [N_lp]
                refine ⟨_, ?_, _, ?_, i + 1, rfl, ?_, ?_, rfl, by simp (maxDischargeDepth := 9) only [↓gB, gV, gT, reduceIte, reduceCtorEq, Nat.reduceEqDiff, Nat.reduceAdd, Nat.reduceSub, Nat.reduceLeDiff, Nat.reduceLT, Int.reduceEq, Nat.reduceMul, hk, c1, c2, c3, h, f24, f0, f23, c4, c5, c6, c7, c8, c9, q1, hd, nat_succ, and_self]⟩
                · omega
                · omega
                · assumption
                · omega
              rotate_right 1
              simp (maxDischargeDepth := 9) only [↓gB, gV, gT, reduceIte, reduceCtorEq, Nat.reduceEqDiff, Nat.reduceAdd, Nat.reduceSub, Nat.reduceLeDiff, Nat.reduceLT, Int.reduceEq, Nat.reduceMul, hk, c1, c2, c3, h, f24, f0, f23, c4, c5, c6, c7, c8, hd]
              have q1 : Go.IntKind.i64.wrap (↑i + 1) = ↑i + 1 := wrap_id (by omega)
              simp (maxDischargeDepth := 9) only [↓gB, gV, gT, reduceIte, reduceCtorEq, Nat.reduceEqDiff, Nat.reduceAdd, Nat.reduceSub, Nat.reduceLeDiff, Nat.reduceLT, Int.reduceEq, Nat.reduceMul, hk, c1, c2, c3, h, f24, f0, f23, c4, c5, c6, c7, c8, q1, hd]
              rw [N_lp]
              refine ⟨_, ?_, _, ?_, i + 1, rfl, ?_, ?_, rfl, by simp (maxDischargeDepth := 9) only [↓gB, gV, gT, reduceIte, reduceCtorEq, Nat.reduceEqDiff, Nat.reduceAdd, Nat.reduceSub, Nat.reduceLeDiff, Nat.reduceLT, Int.reduceEq, Nat.reduceMul, hk, c1, c2, c3, h, f24, f0, f23, c4, c5, c6, c7, c8, q1, hd, nat_succ, and_self]⟩
              · omega
              · omega
              · assumption
              · omega
            rotate_right 1
            simp (maxDischargeDepth := 9) only [↓gB, gV, gT, reduceIte, reduceCtorEq, Nat.reduceEqDiff, Nat.reduceAdd, Nat.reduceSub, Nat.reduceLeDiff, Nat.reduceLT, Int.reduceEq, Nat.reduceMul, hk, c1, c2, c3, h, f24, f0, f23, c4, c5, c6, c7, hd]
            have q1 : Go.IntKind.i64.wrap (↑i + 1) = ↑i + 1 := wrap_id (by omega)
            simp (maxDischargeDepth := 9) only [↓gB, gV, gT, reduceIte, reduceCtorEq, Nat.reduceEqDiff, Nat.reduceAdd, Nat.reduceSub, Nat.reduceLeDiff, Nat.reduceLT, Int.reduceEq, Nat.reduceMul, hk, c1, c2, c3, h, f24, f0, f23, c4, c5, c6, c7, q1, hd]
            rw [N_lp]
            refine ⟨_, ?_, _, ?_, i + 1, rfl, ?_, ?_, rfl, by simp (maxDischargeDepth := 9) only [↓gB, gV, gT, reduceIte, reduceCtorEq, Nat.reduceEqDiff, Nat.reduceAdd, Nat.reduceSub, Nat.reduceLeDiff, Nat.reduceLT, Int.reduceEq, Nat.reduceMul, hk, c1, c2, c3, h, f24, f0, f23, c4, c5, c6, c7, q1, hd, nat_succ, and_self]⟩
            · omega
            · omega
            · assumption
            · omega
          rotate_right 1
          simp (maxDischargeDepth := 9) only [↓gB, gV, gT, reduceIte, reduceCtorEq, Nat.reduceEqDiff, Nat.reduceAdd, Nat.reduceSub, Nat.reduceLeDiff, Nat.reduceLT, Int.reduceEq, Nat.reduceMul, hk, c1, c2, c3, h, f24, f0, f23, c4, c5, hd]
          have q1 : Go.IntKind.i64.wrap (↑i + 1) = ↑i + 1 := wrap_id (by omega)
          simp (maxDischargeDepth := 9) only [↓gB, gV, gT, reduceIte, reduceCtorEq, Nat.reduceEqDiff, Nat.reduceAdd, Nat.reduceSub, Nat.reduceLeDiff, Nat.reduceLT, Int.reduceEq, Nat.reduceMul, hk, c1, c2, c3, h, f24, f0, f23, c4, c5, q1, hd]
          rw [N_lp]
          refine ⟨_, ?_, _, ?_, i + 1, rfl, ?_, ?_, rfl, by simp (maxDischargeDepth := 9) only [↓gB, gV, gT, reduceIte, reduceCtorEq, Nat.reduceEqDiff, Nat.reduceAdd, Nat.reduceSub, Nat.reduceLeDiff, Nat.reduceLT, Int.reduceEq, Nat.reduceMul, hk, c1, c2, c3, h, f24, f0, f23, c4, c5, q1, hd, nat_succ, and_self]⟩
          · omega
          · exact sub_refl _
          · assumption
          · (exact hnext (by simp [kb]; omega); done)
      · have hf : s.data.toList.all kb = true := by rw [List.take_of_length_le (by rw [← size_len]; omega)] at h; exact h
        simp (maxDischargeDepth := 9) only [↓gB, gV, gT, reduceIte, reduceCtorEq, Nat.reduceEqDiff, Nat.reduceAdd, Nat.reduceSub, Nat.reduceLeDiff, Nat.reduceLT, Int.reduceEq, Nat.reduceMul, hk, c1, c2, c3, h, f24, f0, f23, hf]
        refine Xc_neg _ _ _ _ _ (by omega) ?_
        simp (maxDischargeDepth := 9) only [↓gB, gV, gT, reduceIte, reduceCtorEq, Nat.reduceEqDiff, Nat.reduceAdd, Nat.reduceSub, Nat.reduceLeDiff, Nat.reduceLT, Int.reduceEq, Nat.reduceMul, hk, c1, c2, c3, h, f24, f0, f23, hf]
        exact Kup_val (le_refl _) (by simp [*]; omega)
end Go.Proofs.YtdepecjjahodjaaDoor
namespace Go.Proofs.YtdepecjjahodjaaDoor
open Go Go.GL
attribute [local irreducible] Ycall GCalls
set_option maxRecDepth 10000
set_option maxHeartbeats 0
theorem h256 : (Tryd.prog.info? (Tryd.layTrim_ren.t 116)).map (fun i => (i.zero, i.size)) = some (some (.agg (Array.replicate 256 (.bool false))), 256) := by kernel_rfl
def keySet : ByteArray := ⟨#[97, 98, 99, 100, 101, 102, 103, 104, 105, 106, 107, 108, 109, 110, 111, 112, 113, 114, 115, 116, 117, 118, 119, 120, 121, 122, 48, 49, 50, 51, 52, 53, 54, 55, 56, 57, 45, 95]⟩
def smalls : ByteArray := ⟨#[97, 98, 99, 100, 101, 102, 103, 104, 105, 106, 107, 108, 109, 110, 111, 112, 113, 114, 115, 116, 117, 118, 119, 120, 121, 122]⟩
theorem trim_calls (s : ByteArray) (h0 : 0 < s.size) (hs : s.size ≤ 9223372036854775807) (w : World) : Calls Tryd.prog 73 #[.string s, .string keySet] w fun e w' => e = .returned (.string ⟨(Lib.trimS s.data.toList keySet.data.toList).toArray⟩) ∧ ∀ w0 G, Holds w0 G w → Holds w0 G w' := by
  have h := Any.strings_Trim_set Tryd.layTrim (zero_of_info h256).1 (zero_of_info h256).2 s keySet w (by decide) h0 hs (by decide) (ascii_of_all (by decide))
  refine Calls.mono (show Calls Tryd.prog 73 _ _ _ from h) ?_
  rintro e w' ⟨h1, q, rfl⟩
  exact ⟨h1, fun w0 G hw => ((hw.alloc _).alloc _).drewN q⟩
theorem trim_nil {l cs : List UInt8} : Lib.trimS l cs = [] ↔ l.all (cs.contains ·) = true := by
  have key : ∀ (p : UInt8 → Bool) (l : List UInt8), l.dropWhile p = [] ↔ l.all p = true := by
    intro p l
    induction l with
    | nil => simp
    | cons x l ih => by_cases h : p x = true <;> simp [List.dropWhile_cons, h, ih]
  unfold Lib.trimS Lib.trimRightS Lib.trimLeftS
  rw [key, List.all_reverse]
  constructor
  · intro h
    rw [List.all_eq_true] at *
    intro x hx
    rcases Bool.eq_false_or_eq_true (cs.contains x) with q | q
    · exact q
    · have hm : x ∈ l.reverse.dropWhile (cs.contains ·) := by
        have : ∀ (l : List UInt8), x ∈ l → x ∈ l.dropWhile (cs.contains ·) := by
          intro l hl
          induction l with
          | nil => cases hl
          | cons y l ih =>
            rw [List.dropWhile_cons]
            split
            · rename_i hy
              rcases List.mem_cons.1 hl with rfl | hl
              · rw [q] at hy; cases hy
              · exact ih hl
            · exact hl
        exact this _ (List.mem_reverse.2 hx)
      exact h x hm
  · intro h
    rw [List.all_eq_true] at *
    intro x hx
    exact h x (List.mem_reverse.1 ((List.dropWhile_sublist _).mem hx))
theorem u8_all {q r : UInt8 → Bool} (h : (List.range 256).all (fun n => q (UInt8.ofNat n) == r (UInt8.ofNat n)) = true) (b : UInt8) : q b = r b := by
  rw [List.all_eq_true] at h
  have := h b.toNat (List.mem_range.2 (UInt8.toNat_lt b))
  simpa using this
theorem set_kb (b : UInt8) : keySet.data.toList.contains b = kb b := u8_all (q := fun b => keySet.data.toList.contains b) (r := kb) (by decide +kernel) b
theorem idx_small (b : UInt8) : decide (0 ≤ Lib.indexByte smalls.data.toList b) = (decide (97 ≤ b.toNat) && decide (b.toNat ≤ 122)) := u8_all (q := fun b => decide (0 ≤ Lib.indexByte smalls.data.toList b)) (r := fun b => decide (97 ≤ b.toNat) && decide (b.toNat ≤ 122)) (by decide +kernel) b
theorem p73 {G0 : GH} {s : ByteArray} (h0 : 0 < s.size) (hs : s.size ≤ 40) : Pure Tryd.prog G0 73 [.string s, .string ⟨#[97, 98, 99, 100, 101, 102, 103, 104, 105, 106, 107, 108, 109, 110, 111, 112, 113, 114, 115, 116, 117, 118, 119, 120, 121, 122, 48, 49, 50, 51, 52, 53, 54, 55, 56, 57, 45, 95]⟩] (.string ⟨(Lib.trimS s.data.toList keySet.data.toList).toArray⟩) :=
  pure_of_calls2 G0 (fun w => trim_calls s h0 (by omega) w)
theorem p74 {G0 : GH} {s : ByteArray} {c : Int} : Pure Tryd.prog G0 74 [.string s, .int .u8 c] (V (Lib.indexByte s.data.toList c.toNat.toUInt8)) :=
  pure_of_calls G0 (fun w => Any.strings_IndexByte Tryd.layIdx s c w)
theorem trim_eq (s : ByteArray) : decide ((⟨(Lib.trimS s.data.toList keySet.data.toList).toArray⟩ : ByteArray) = ⟨#[]⟩) = s.data.toList.all kb := by
  have e : s.data.toList.all kb = s.data.toList.all (keySet.data.toList.contains ·) := by
    congr 1; funext b; exact (set_kb b).symm
  rw [e, Bool.eq_iff_iff, decide_eq_true_iff, ← trim_nil]
  simp
theorem p56 {G0 : GH} {s : ByteArray}  : Pure Tryd.prog G0 56 [.string s] (.bool (isKey s)) := by
  intro G hG
  clear hG G0
  refine enter Tryd.func56 17 #[.tmp 2] rfl Tryd.ntmps56 rfl (by decide +kernel) rfl ?_
  by_cases hin : 1 ≤ s.size ∧ s.size ≤ 40
  · obtain ⟨c, l, hl⟩ := bytes_cons s hin.1
    have hk : isKey s = (decide (s.size ≤ 40) && decide (97 ≤ c.toNat) && decide (c.toNat ≤ 122) && s.data.toList.all kb) := by unfold isKey; rw [hl]
    have hw : within (s.size : Int) 1 40 = true := within_iff.2 (by omega)
    have h0 : s.data.toList.getD (Int.toNat 0) 0 = c := by rw [hl]; rfl
    have h40 : decide (s.size ≤ 40) = true := decide_eq_true hin.2
    have hi := idx_small c
    have hc : c.toNat.toUInt8 = c := by simp
    have ht := trim_eq s
    cases ha : s.data.toList.all kb
    · simp (maxDischargeDepth := 9) only [↓gB, gV, gT, reduceIte, reduceCtorEq, Nat.reduceEqDiff, Nat.reduceAdd, Nat.reduceSub, Nat.reduceLeDiff, Nat.reduceLT, Int.reduceEq, Nat.reduceMul, hk, hw, h40, hi, ht, ha]
      refine Ycp (p39) ?_
      simp (maxDischargeDepth := 9) only [↓gB, gV, gT, reduceIte, reduceCtorEq, Nat.reduceEqDiff, Nat.reduceAdd, Nat.reduceSub, Nat.reduceLeDiff, Nat.reduceLT, Int.reduceEq, Nat.reduceMul, hk, hw, h40, hi, ht, ha]
      refine Ycp (p73 (by omega) (by omega)) ?_
      simp (maxDischargeDepth := 9) only [↓gB, gV, gT, reduceIte, reduceCtorEq, Nat.reduceEqDiff, Nat.reduceAdd, Nat.reduceSub, Nat.reduceLeDiff, Nat.reduceLT, Int.reduceEq, Nat.reduceMul, hk, hw, h40, hi, ht, ha]
      exact Kup_val (le_refl _) rfl
    · simp (maxDischargeDepth := 9) only [↓gB, gV, gT, reduceIte, reduceCtorEq, Nat.reduceEqDiff, Nat.reduceAdd, Nat.reduceSub, Nat.reduceLeDiff, Nat.reduceLT, Int.reduceEq, Nat.reduceMul, hk, hw, h40, hi, ht, ha, h0, hc]
      refine Ycp (p39) ?_
      simp (maxDischargeDepth := 9) only [↓gB, gV, gT, reduceIte, reduceCtorEq, Nat.reduceEqDiff, Nat.reduceAdd, Nat.reduceSub, Nat.reduceLeDiff, Nat.reduceLT, Int.reduceEq, Nat.reduceMul, hk, hw, h40, hi, ht, ha, h0, hc]
      refine Ycp (p73 (by omega) (by omega)) ?_
      simp (maxDischargeDepth := 9) only [↓gB, gV, gT, reduceIte, reduceCtorEq, Nat.reduceEqDiff, Nat.reduceAdd, Nat.reduceSub, Nat.reduceLeDiff, Nat.reduceLT, Int.reduceEq, Nat.reduceMul, hk, hw, h40, hi, ht, ha, h0, hc]
      refine vguard_intro (by omega) ?_
      refine Ycp (p74) ?_
      simp (maxDischargeDepth := 9) only [↓gB, gV, gT, reduceIte, reduceCtorEq, Nat.reduceEqDiff, Nat.reduceAdd, Nat.reduceSub, Nat.reduceLeDiff, Nat.reduceLT, Int.reduceEq, Nat.reduceMul, hk, hw, h40, hi, ht, ha, h0, hc]
      refine Kup_val (le_refl _) ?_
      focus (exact congrArg Value.bool hi; done)
  · have hw : within (s.size : Int) 1 40 = false := by
      rw [← Bool.not_eq_true, within_iff]; omega
    have hk : isKey s = false := by
      unfold isKey
      split
      · rfl
      · rename_i c l hl
        have : s.size = (c :: l).length := by rw [size_len, hl]
        simp only [List.length_cons] at this
        rw [decide_eq_false (by omega)]; simp
    simp (maxDischargeDepth := 9) only [↓gB, gV, gT, reduceIte, reduceCtorEq, Nat.reduceEqDiff, Nat.reduceAdd, Nat.reduceSub, Nat.reduceLeDiff, Nat.reduceLT, Int.reduceEq, Nat.reduceMul, hw, hk]
    refine Ycp (p39) ?_
    simp (maxDischargeDepth := 9) only [↓gB, gV, gT, reduceIte, reduceCtorEq, Nat.reduceEqDiff, Nat.reduceAdd, Nat.reduceSub, Nat.reduceLeDiff, Nat.reduceLT, Int.reduceEq, Nat.reduceMul, hw, hk]
    exact Kup_val (le_refl _) rfl
end Go.Proofs.YtdepecjjahodjaaDoor
namespace Go.Proofs.YtdepecjjahodjaaDoor
open Go Go.GL
attribute [local irreducible] Ycall GCalls
set_option maxRecDepth 10000
set_option maxHeartbeats 0
abbrev Seen := List (ByteArray × Bool)
def nodesF : Option ByteArray → List ByteArray → Seen → Int × Seen
  | _, [], m => (0, m)
  | p, n :: l, m => if isKey n = false then (5, m) else if p.any (fun q => !sLt q n) then (7, m) else if mget false n m then (6, m) else nodesF (some n) l (mset n true m)
theorem pv_p {α : Type} {l : List α} {k : Nat} {z : α} {f : α → Bool} {b : Bool} (h : (0:Int) < k) (hz : l[k-1]? = some z) (hf : f z = b) : (prevOf l k).any f = b := by rw [prevOf_p h, hz]; exact hf
theorem pv_z {α : Type} {l : List α} {k : Nat} {f : α → Bool} (h : ¬ (0:Int) < k) : (prevOf l k).any f = false := by rw [prevOf_z h]; rfl
theorem nf5 {ns : List ByteArray} {k : Nat} {y : ByteArray} {m mm : Seen} (hh : nodesF none ns m = nodesF (prevOf ns k) (ns.drop k) mm) (m2 : ns[k]? = some y) (c : isKey y = false) : nodesF none ns m = (5, mm) := by rw [hh, drop_at m2]; simp [nodesF, c]
theorem nf7 {ns : List ByteArray} {k : Nat} {y : ByteArray} {m mm : Seen} (hh : nodesF none ns m = nodesF (prevOf ns k) (ns.drop k) mm) (m2 : ns[k]? = some y) (c : isKey y = true) (c2 : (prevOf ns k).any (fun q => !sLt q y) = true) : nodesF none ns m = (7, mm) := by rw [hh, drop_at m2]; simp only [nodesF, c, c2, if_true]; rfl
theorem nf6 {ns : List ByteArray} {k : Nat} {y : ByteArray} {m mm : Seen} (hh : nodesF none ns m = nodesF (prevOf ns k) (ns.drop k) mm) (m2 : ns[k]? = some y) (c : isKey y = true) (c2 : (prevOf ns k).any (fun q => !sLt q y) = false) (c3 : mget false y mm = true) : nodesF none ns m = (6, mm) := by rw [hh, drop_at m2]; simp only [nodesF, c, c2, c3, if_true]; rfl
theorem nf0 {ns : List ByteArray} {k : Nat} {y : ByteArray} {m mm : Seen} (hh : nodesF none ns m = nodesF (prevOf ns k) (ns.drop k) mm) (m2 : ns[k]? = some y) (c : isKey y = true) (c2 : (prevOf ns k).any (fun q => !sLt q y) = false) (c3 : mget false y mm = false) : nodesF none ns m = nodesF (prevOf ns (k + 1)) (ns.drop (k + 1)) (mset y true mm) := by
  rw [hh, drop_at m2, prevOf_s, m2]; simp only [nodesF, c, c2, c3]; rfl
theorem nf_end {ns : List ByteArray} {k : Nat} {m mm : Seen} (hh : nodesF none ns m = nodesF (prevOf ns k) (ns.drop k) mm) (hk : ¬ (k : Int) < ns.length) : nodesF none ns m = (0, mm) := by rw [hh, List.drop_eq_nil_of_le (by omega)]; rfl
end Go.Proofs.YtdepecjjahodjaaDoor
namespace Go.Proofs.YtdepecjjahodjaaDoor
open Go Go.GL
attribute [local irreducible] Ycall GCalls
set_option maxRecDepth 10000
set_option maxHeartbeats 0
end Go.Proofs.YtdepecjjahodjaaDoor
namespace Go.Proofs.YtdepecjjahodjaaDoor
open Go Go.GL
attribute [local irreducible] Ycall GCalls
set_option maxRecDepth 10000
set_option maxHeartbeats 0
theorem g6 {G0 : GH} {v : Value} {l : List ByteArray} (hv : RSl Rp.str G0 v l) (hn : l.length ≤ 1000000000) : Gives Tryd.prog G0 6 [v] (fun u G' => RSl Rp.str G' u l) := by
  intro G hG; replace hv := hv.le hG
  clear hG G0
  refine enter Tryd.func6 8 #[.tmp 2] rfl Tryd.ntmps6 rfl (by decide +kernel) rfl ?_
  obtain ⟨a, c, rfl⟩ := hv.val
  simp (maxDischargeDepth := 9) only [↓gB, gV, gT, reduceIte, reduceCtorEq, Nat.reduceEqDiff, Nat.reduceAdd, Nat.reduceSub, Nat.reduceLeDiff, Nat.reduceLT, Int.reduceEq, Nat.reduceMul]
  cases a with
  | none =>
    simp (maxDischargeDepth := 9) only [↓gB, gV, gT, reduceIte, reduceCtorEq, Nat.reduceEqDiff, Nat.reduceAdd, Nat.reduceSub, Nat.reduceLeDiff, Nat.reduceLT, Int.reduceEq, Nat.reduceMul, Option.isNone_none]
    have : l = [] := by
      cases l with
      | nil => rfl
      | cons x l => obtain ⟨ad, _, e, _⟩ := hv.get (i := 0) (x := x) rfl; cases e
    subst this
    exact Kup_gives (sub_refl _) (le_refl _) (RSl.nil _ _)
  | some ad =>
    simp (maxDischargeDepth := 9) only [↓gB, gV, gT, reduceIte, reduceCtorEq, Nat.reduceEqDiff, Nat.reduceAdd, Nat.reduceSub, Nat.reduceLeDiff, Nat.reduceLT, Int.reduceEq, Nat.reduceMul, Option.isNone_some]
    refine Yn1 fun r1 h1 => ?_
    simp (maxDischargeDepth := 9) only [↓gB, gV, gT, reduceIte, reduceCtorEq, Nat.reduceEqDiff, Nat.reduceAdd, Nat.reduceSub, Nat.reduceLeDiff, Nat.reduceLT, Int.reduceEq, Nat.reduceMul, h1, Option.isNone_some]
    obtain ⟨ds, h1, h2⟩ := (hv.le (le_put h1 (.cells #[] 9 (0, 0), true))).read
    refine Row.append sl22 (ρ := Rp.str) (G0 := G) (xs := []) (ys := l) ⟨[], ⟨rfl, .inr ⟨r1, 0, #[], rfl, by assumption, put_self _ _ _, rfl, Nat.le_refl _, rfl⟩⟩, Cellsof.nil _ _⟩ h1 h2 (by simp; omega) (le_put (by assumption) _) ?_
    intro v' G' hrow hk hle
    simp (maxDischargeDepth := 9) only [↓gB, gV, gT, reduceIte, reduceCtorEq, Nat.reduceEqDiff, Nat.reduceAdd, Nat.reduceSub, Nat.reduceLeDiff, Nat.reduceLT, Int.reduceEq, Nat.reduceMul, h1, hk]
    obtain ⟨G2, hs, hl, hr⟩ := hrow.fin hle
    exact Kup_gives hs hl (by simpa using hr)
theorem p15 {G0 : GH} {v w : Value} {l m : List ByteArray} (hv : RSl Rp.str G0 v l) (hw : RSl Rp.str G0 w m) (hn : (l.length : Int) ≤ 9223372036854775807) : Pure Tryd.prog G0 15 [v, w] (.bool (decide (l = m))) := by
  intro G hG; replace hv := hv.le hG; replace hw := hw.le hG
  clear hG G0
  refine enter Tryd.func15 26 #[.tmp 4] rfl Tryd.ntmps15 rfl (by decide +kernel) rfl ?_
  obtain ⟨a, c, rfl⟩ := hv.val
  obtain ⟨b, d, rfl⟩ := hw.val
  simp (maxDischargeDepth := 9) only [↓gB, gV, gT, reduceIte, reduceCtorEq, Nat.reduceEqDiff, Nat.reduceAdd, Nat.reduceSub, Nat.reduceLeDiff, Nat.reduceLT, Int.reduceEq, Nat.reduceMul]
  refine Xc_split _ _ _ _ _ (fun hlen => ?_) (fun hlen => ?_)
  · simp (maxDischargeDepth := 9) only [↓gB, gV, gT, reduceIte, reduceCtorEq, Nat.reduceEqDiff, Nat.reduceAdd, Nat.reduceSub, Nat.reduceLeDiff, Nat.reduceLT, Int.reduceEq, Nat.reduceMul]
    refine Kup_val (le_refl _) ?_
    have hne : l ≠ m := by (rintro rfl; exact hlen rfl)
    simp [hne]
  · simp (maxDischargeDepth := 9) only [↓gB, gV, gT, reduceIte, reduceCtorEq, Nat.reduceEqDiff, Nat.reduceAdd, Nat.reduceSub, Nat.reduceLeDiff, Nat.reduceLT, Int.reduceEq, Nat.reduceMul]
    focus
      refine Xloop_intro _ _ _ _ _ (fun k f G' => ∃ (i : Nat), k = l.length - i ∧ (i ≤ l.length) ∧ (l.take i = m.take i) ∧ (G = G') ∧ f 13 = V i ∧ f 0 = Go.Value.slice a l.length c ∧ f 1 = Go.Value.slice b m.length d ∧ f 12 = Go.Value.int Go.IntKind.i64 ↑l.length) _ ⟨0, rfl, ?_, ?_, rfl, by simp (maxDischargeDepth := 9) only [↓gB, gV, gT, reduceIte, reduceCtorEq, Nat.reduceEqDiff, Nat.reduceAdd, Nat.reduceSub, Nat.reduceLeDiff, Nat.reduceLT, Int.reduceEq, Nat.reduceMul, and_self]⟩ ?_
      · omega
      · rfl
      rintro k f G' ⟨i, rfl, hi, h, rfl, f13, f0, f1, f12⟩
    focus
      simp (maxDischargeDepth := 9) only [↓gB, gV, gT, reduceIte, reduceCtorEq, Nat.reduceEqDiff, Nat.reduceAdd, Nat.reduceSub, Nat.reduceLeDiff, Nat.reduceLT, Int.reduceEq, Nat.reduceMul, f13, f0, f1, f12]
      refine Xc_split _ _ _ _ _ (fun c1 => ?_) (fun c1 => ?_)
      rotate_left 1
      focus
        simp (maxDischargeDepth := 9) only [↓gB, gV, gT, reduceIte, reduceCtorEq, Nat.reduceEqDiff, Nat.reduceAdd, Nat.reduceSub, Nat.reduceLeDiff, Nat.reduceLT, Int.reduceEq, Nat.reduceMul, f13, f0, f1, f12, c1]
        refine Kup_val (le_refl _) ?_
        focus ((have e : l = m := by (rw [← List.take_of_length_le (l := l) (i := i) (by omega), h, List.take_of_length_le (by omega)])); simp [e]; done)
      rotate_right 1
      simp (maxDischargeDepth := 9) only [↓gB, gV, gT, reduceIte, reduceCtorEq, Nat.reduceEqDiff, Nat.reduceAdd, Nat.reduceSub, Nat.reduceLeDiff, Nat.reduceLT, Int.reduceEq, Nat.reduceMul, f13, f0, f1, f12, c1]
      refine Xdraw_intro [0, 1, 2, 3, 4, 5, 6, 7, 8] mixed (by kernel_rfl) (by decide +kernel) ?_
      simp (maxDischargeDepth := 9) only [↓gB, gV, gT, reduceIte, reduceCtorEq, Nat.reduceEqDiff, Nat.reduceAdd, Nat.reduceSub, Nat.reduceLeDiff, Nat.reduceLT, Int.reduceEq, Nat.reduceMul, f13, f0, f1, f12, c1]
      obtain ⟨x1, a1, s1, m1, rfl, rfl, e1⟩ := hv.at1 (i) (by omega) rfl
      simp (maxDischargeDepth := 9) only [↓gB, gV, gT, reduceIte, reduceCtorEq, Nat.reduceEqDiff, Nat.reduceAdd, Nat.reduceSub, Nat.reduceLeDiff, Nat.reduceLT, Int.reduceEq, Nat.reduceMul, f13, f1, f12, c1, f0, e1]
      refine vguard_intro (by simp) ?_
      obtain ⟨x2, a2, s2, m2, rfl, rfl, e2⟩ := hw.at1 (i) (by omega) rfl
      simp (maxDischargeDepth := 9) only [↓gB, gV, gT, reduceIte, reduceCtorEq, Nat.reduceEqDiff, Nat.reduceAdd, Nat.reduceSub, Nat.reduceLeDiff, Nat.reduceLT, Int.reduceEq, Nat.reduceMul, f13, f12, c1, f0, e1, f1, e2]
      refine vguard_intro (by omega) ?_
      by_cases c2 : (x1 : ByteArray) = x2
      rotate_left 1
      focus
        simp (maxDischargeDepth := 9) only [↓gB, gV, gT, reduceIte, reduceCtorEq, Nat.reduceEqDiff, Nat.reduceAdd, Nat.reduceSub, Nat.reduceLeDiff, Nat.reduceLT, Int.reduceEq, Nat.reduceMul, f13, f12, c1, f0, e1, f1, e2, c2]
        refine Kup_val (le_refl _) ?_
        focus ((have e : l ≠ m := by (rintro rfl; rw [m1] at m2; cases m2; simp_all)); simp [e]; done)
      rotate_right 1
      simp (maxDischargeDepth := 9) only [↓gB, gV, gT, reduceIte, reduceCtorEq, Nat.reduceEqDiff, Nat.reduceAdd, Nat.reduceSub, Nat.reduceLeDiff, Nat.reduceLT, Int.reduceEq, Nat.reduceMul, f13, f12, c1, f0, e1, f1, e2, c2]
      have q1 : Go.IntKind.i64.wrap (↑i + 1) = ↑i + 1 := wrap_id (by omega)
      simp (maxDischargeDepth := 9) only [↓gB, gV, gT, reduceIte, reduceCtorEq, Nat.reduceEqDiff, Nat.reduceAdd, Nat.reduceSub, Nat.reduceLeDiff, Nat.reduceLT, Int.reduceEq, Nat.reduceMul, f13, f12, c1, f0, e1, f1, e2, c2, q1]
      rw [N_lp]
      refine ⟨_, ?_, _, ?_, i + 1, rfl, ?_, ?_, rfl, by simp (maxDischargeDepth := 9) only [↓gB, gV, gT, reduceIte, reduceCtorEq, Nat.reduceEqDiff, Nat.reduceAdd, Nat.reduceSub, Nat.reduceLeDiff, Nat.reduceLT, Int.reduceEq, Nat.reduceMul, f13, f12, c1, f0, e1, f1, e2, c2, q1, nat_succ, and_self]⟩
      · omega
      · exact sub_refl _
      · omega
      · (rw [take_at m1, take_at m2, h, show x1 = x2 by first | assumption | omega]; done)
def sCmp (s t : ByteArray) : Int := if sLt s t then -1 else if sLt t s then 1 else 0
theorem sCmp_lt (s t : ByteArray) : sCmp s t < 0 ↔ sLt s t = true := by
  unfold sCmp; split
  · rename_i h; simp [h]
  · rename_i h; split <;> simp [h]
theorem sCmp_eq (s t : ByteArray) : sCmp s t = 0 ↔ s = t := by
  unfold sCmp
  cases h1 : sLt s t <;> cases h2 : sLt t s
  · simp [sLt_tri h1 h2]
  · simp; rintro rfl; rw [sLt_irrefl] at h2; cases h2
  · simp; rintro rfl; rw [sLt_irrefl] at h1; cases h1
  · simp; rintro rfl; rw [sLt_irrefl] at h1; cases h1
def has (t : ByteArray) (l : List ByteArray) : Bool := l.any (fun x => decide (x = t))
theorem has_iff {t : ByteArray} {l : List ByteArray} : has t l = true ↔ t ∈ l := by simp [has]
theorem has_not {t : ByteArray} {l : List ByteArray} : has t l = false ↔ t ∉ l := by rw [← Bool.not_eq_true, has_iff]
def sorted (l : List ByteArray) : Prop := l.Pairwise (fun x y => sLt x y = true)
theorem pos_at {l : List ByteArray} {t : ByteArray} {i : Nat} (hi : i ≤ l.length) (h1 : ∀ (k : Nat) x, k < i → l[k]? = some x → sLt x t = true) (h2 : ∀ (k : Nat) x, i ≤ k → l[k]? = some x → sLt x t = false) : bsPos (fun x => sCmp x t) l = i :=
  bsPos_at hi (fun k x hk hx => (sCmp_lt x t).2 (h1 k x hk hx)) (fun k x hk hx => by rw [sCmp_lt, h2 k x hk hx]; simp)
theorem mem_at {l : List ByteArray} {t : ByteArray} {i : Nat} (h1 : ∀ (k : Nat) x, k < i → l[k]? = some x → sLt x t = true) (hs : sorted l) : (t ∈ l) ↔ l[i]? = some t ∨ ∃ k, i < k ∧ l[k]? = some t := by
  constructor
  · intro h
    obtain ⟨k, hk⟩ := List.mem_iff_getElem?.1 h
    rcases Nat.lt_trichotomy k i with q | q | q
    · have := h1 k t q hk; rw [sLt_irrefl] at this; cases this
    · exact .inl (q ▸ hk)
    · exact .inr ⟨k, q, hk⟩
  · rintro (h | ⟨k, _, h⟩) <;> exact List.mem_of_getElem? h
theorem sorted_at {l : List ByteArray} (hs : sorted l) {i j : Nat} {x y : ByteArray} (hij : i < j) (hx : l[i]? = some x) (hy : l[j]? = some y) : sLt x y = true := by
  obtain ⟨hi, rfl⟩ := List.getElem?_eq_some_iff.1 hx
  obtain ⟨hj, rfl⟩ := List.getElem?_eq_some_iff.1 hy
  exact List.pairwise_iff_getElem.1 hs i j hi hj hij
theorem has_pos {l : List ByteArray} {t : ByteArray} {i : Nat} (hs : sorted l) (h1 : ∀ (k : Nat) x, k < i → l[k]? = some x → sLt x t = true) (h2 : ∀ (k : Nat) x, i ≤ k → l[k]? = some x → sLt x t = false) : has t l = match l[i]? with | some x => decide (x = t) | none => false := by
  cases hx : l[i]? with
  | none =>
    rw [has_not, mem_at h1 hs, hx]
    rintro (h | ⟨k, hk, h⟩)
    · cases h
    · rw [List.getElem?_eq_none_iff] at hx
      rw [List.getElem?_eq_none (by omega)] at h; cases h
  | some x =>
    by_cases e : x = t
    · subst e; simp only [decide_true]; exact has_iff.2 (List.mem_of_getElem? hx)
    · simp only [e, decide_false]
      rw [has_not, mem_at h1 hs, hx]
      rintro (h | ⟨k, hk, h⟩)
      · cases h; exact e rfl
      · have := sorted_at hs hk hx h
        rw [h2 i x (Nat.le_refl _) hx] at this; cases this
end Go.Proofs.YtdepecjjahodjaaDoor
namespace Go.Proofs.YtdepecjjahodjaaDoor
open Go Go.GL
attribute [local irreducible] Ycall GCalls
set_option maxRecDepth 10000
set_option maxHeartbeats 0
theorem idx_has (l : List ByteArray) (t : ByteArray) : decide (0 ≤ (match l.findIdx? (fun x => decide (x = t)) with | some i => (i : Int) | none => -1)) = has t l := by
  cases h : l.findIdx? (fun x => decide (x = t)) with
  | none =>
    rw [List.findIdx?_eq_none_iff] at h
    have : has t l = false := by unfold has; rw [List.any_eq_false]; intro x hx; have := h x hx; simp at this ⊢; exact this
    rw [this]; rfl
  | some i =>
    rw [List.findIdx?_eq_some_iff_getElem] at h
    obtain ⟨hi, h1, _⟩ := h
    have : has t l = true := by unfold has; exact List.any_eq_true.2 ⟨l[i], by simp, h1⟩
    rw [this]; simp
end Go.Proofs.YtdepecjjahodjaaDoor
namespace Go.Proofs.YtdepecjjahodjaaDoor
open Go Go.GL
attribute [local irreducible] Ycall GCalls
set_option maxRecDepth 10000
set_option maxHeartbeats 0
def keyF (s : ByteArray) : Int := if isKey s then 0 else 5
def namesF (l : List ByteArray) (n : Int) : Int := if n < l.length then 2 else if l.any (fun s => !isKey s) then 5 else 0
end Go.Proofs.YtdepecjjahodjaaDoor
namespace Go.Proofs.YtdepecjjahodjaaDoor
open Go Go.GL
attribute [local irreducible] Ycall GCalls
set_option maxRecDepth 10000
set_option maxHeartbeats 0
theorem nodes_ok : ∀ {p : Option ByteArray} {l : List ByteArray} {m : Seen}, (nodesF p l m).1 = 0 → sorted l ∧ (∀ q, p = some q → ∀ x ∈ l, sLt q x = true) ∧ ∀ x ∈ l, isKey x = true
  | _, [], _, _ => ⟨List.Pairwise.nil, by simp, by simp⟩
  | p, n :: l, m, h => by
    unfold nodesF at h
    split at h
    · cases h
    · rename_i hk
      split at h
      · cases h
      · rename_i hp
        split at h
        · cases h
        · obtain ⟨h1, h2, h3⟩ := nodes_ok h
          refine ⟨List.pairwise_cons.2 ⟨fun y hy => h2 n rfl y hy, h1⟩, ?_, ?_⟩
          · rintro q rfl x hx
            have hq : sLt q n = true := by simpa using hp
            rcases List.mem_cons.1 hx with rfl | hx
            · exact hq
            · exact sLt_trans hq (h2 n rfl x hx)
          · intro x hx
            rcases List.mem_cons.1 hx with rfl | hx
            · simpa using hk
            · exact h3 x hx
end Go.Proofs.YtdepecjjahodjaaDoor
namespace Go.Proofs.YtdepecjjahodjaaDoor
open Go Go.GL
attribute [local irreducible] Ycall GCalls
set_option maxRecDepth 10000
set_option maxHeartbeats 0
theorem lastOr_get {α : Type} : ∀ (l : List α) (p : Option α), lastOr p l = if l = [] then p else l[l.length - 1]?
  | [], _ => by simp [lastOr]
  | [x], _ => by simp [lastOr]
  | x :: y :: l, p => by
    have := lastOr_get (y :: l) (some x)
    simp only [lastOr] at this ⊢
    rw [this]
    simp
end Go.Proofs.YtdepecjjahodjaaDoor
namespace Go.Proofs.YtdepecjjahodjaaDoor
open Go Go.GL
attribute [local irreducible] Ycall GCalls
set_option maxRecDepth 10000
set_option maxHeartbeats 0
end Go.Proofs.YtdepecjjahodjaaDoor
