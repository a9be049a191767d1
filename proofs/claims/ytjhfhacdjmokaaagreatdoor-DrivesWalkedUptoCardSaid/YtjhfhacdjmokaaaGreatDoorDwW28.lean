/- A part of a proof: Walk and Length are as specified for all roads and arcs (statement DrivesWalkedUptoCardSaid) -/
import Derived.Test.YtjhfhacdjmokaaaGreatDoorProg
import Derived.Shelf.Strings.SlTrimAscii
import Derived.Shelf.Small.Strs
import Derived.Test.YtjhfhacdjmokaaaGreatDoorDwGlL
import Derived.Test.YtjhfhacdjmokaaaGreatDoorDwGlMk
import Derived.Test.YtjhfhacdjmokaaaGreatDoorDwGlN
import Derived.Test.YtjhfhacdjmokaaaGreatDoorDwGlSl
import Derived.Test.YtjhfhacdjmokaaaGreatDoorDwGlU
import Derived.Test.YtjhfhacdjmokaaaGreatDoorDwGlY
import Derived.Test.YtjhfhacdjmokaaaGreatDoorDwSh
set_option linter.unusedSimpArgs false
set_option linter.unusedVariables false
set_option linter.unusedSectionVars false
namespace Go.Proofs.YtjhfhacdjmokaaaGreatDoor
open Go Go.GL
theorem sz2 : tySz Tryz.prog 2 = 1 := by kernel_rfl
theorem ag2 : (tyD Tryz.prog 2).map isAggD = some false := by rw [show tyD Tryz.prog 2 = _ from Tryz.underlying2]; rfl
theorem zv2 : tyZ Tryz.prog 2 = some (.int .i64 0) := by kernel_rfl
theorem sz3 : tySz Tryz.prog 3 = 1 := by kernel_rfl
theorem ag3 : (tyD Tryz.prog 3).map isAggD = some false := by rw [show tyD Tryz.prog 3 = _ from Tryz.underlying3]; rfl
theorem zv3 : tyZ Tryz.prog 3 = some (.int .i64 0) := by kernel_rfl
theorem sz4 : tySz Tryz.prog 4 = 1 := by kernel_rfl
theorem ag4 : (tyD Tryz.prog 4).map isAggD = some false := by rw [show tyD Tryz.prog 4 = _ from Tryz.underlying4]; rfl
theorem zv4 : tyZ Tryz.prog 4 = some (.bool false) := by kernel_rfl
theorem sz5 : tySz Tryz.prog 5 = 1 := by kernel_rfl
theorem ag5 : (tyD Tryz.prog 5).map isAggD = some false := by rw [show tyD Tryz.prog 5 = _ from Tryz.underlying5]; rfl
theorem zv5 : tyZ Tryz.prog 5 = some (.int .u8 0) := by kernel_rfl
theorem sz6 : tySz Tryz.prog 6 = 1 := by kernel_rfl
theorem ag6 : (tyD Tryz.prog 6).map isAggD = some false := by rw [show tyD Tryz.prog 6 = _ from Tryz.underlying6]; rfl
theorem zv6 : tyZ Tryz.prog 6 = some (.int .u8 0) := by kernel_rfl
theorem sz7 : tySz Tryz.prog 7 = 4 := by kernel_rfl
theorem ag7 : (tyD Tryz.prog 7).map isAggD = some true := by rw [show tyD Tryz.prog 7 = _ from Tryz.underlying7]; rfl
theorem zv7 : tyZ Tryz.prog 7 = some (.agg #[.int .i64 0, .int .i64 0, .bool false, .int .u8 0]) := by kernel_rfl
theorem sz8 : tySz Tryz.prog 8 = 4 := by kernel_rfl
theorem ag8 : (tyD Tryz.prog 8).map isAggD = some true := by rw [show tyD Tryz.prog 8 = _ from Tryz.underlying8]; rfl
theorem zv8 : tyZ Tryz.prog 8 = some (.agg #[.int .i64 0, .int .i64 0, .bool false, .int .u8 0]) := by kernel_rfl
theorem sz9 : tySz Tryz.prog 9 = 1 := by kernel_rfl
theorem ag9 : (tyD Tryz.prog 9).map isAggD = some false := by rw [show tyD Tryz.prog 9 = _ from Tryz.underlying9]; rfl
theorem zv9 : tyZ Tryz.prog 9 = some (.string ByteArray.empty) := by kernel_rfl
theorem sz10 : tySz Tryz.prog 10 = 1 := by kernel_rfl
theorem ag10 : (tyD Tryz.prog 10).map isAggD = some false := by rw [show tyD Tryz.prog 10 = _ from Tryz.underlying10]; rfl
theorem zv10 : tyZ Tryz.prog 10 = some (.string ByteArray.empty) := by kernel_rfl
theorem sz11 : tySz Tryz.prog 11 = 1 := by kernel_rfl
theorem ag11 : (tyD Tryz.prog 11).map isAggD = some false := by rw [show tyD Tryz.prog 11 = _ from Tryz.underlying11]; rfl
theorem zv11 : tyZ Tryz.prog 11 = some (.string ByteArray.empty) := by kernel_rfl
theorem sz12 : tySz Tryz.prog 12 = 1 := by kernel_rfl
theorem ag12 : (tyD Tryz.prog 12).map isAggD = some false := by rw [show tyD Tryz.prog 12 = _ from Tryz.underlying12]; rfl
theorem zv12 : tyZ Tryz.prog 12 = some (.int .u64 0) := by kernel_rfl
theorem sz13 : tySz Tryz.prog 13 = 2 := by kernel_rfl
theorem ag13 : (tyD Tryz.prog 13).map isAggD = some true := by rw [show tyD Tryz.prog 13 = _ from Tryz.underlying13]; rfl
theorem zv13 : tyZ Tryz.prog 13 = some (.agg #[.string ByteArray.empty, .int .u64 0]) := by kernel_rfl
theorem sz14 : tySz Tryz.prog 14 = 2 := by kernel_rfl
theorem ag14 : (tyD Tryz.prog 14).map isAggD = some true := by rw [show tyD Tryz.prog 14 = _ from Tryz.underlying14]; rfl
theorem zv14 : tyZ Tryz.prog 14 = some (.agg #[.string ByteArray.empty, .int .u64 0]) := by kernel_rfl
theorem sz15 : tySz Tryz.prog 15 = 1 := by kernel_rfl
theorem ag15 : (tyD Tryz.prog 15).map isAggD = some false := by rw [show tyD Tryz.prog 15 = _ from Tryz.underlying15]; rfl
theorem zv15 : tyZ Tryz.prog 15 = some (.pointer none) := by kernel_rfl
theorem sz16 : tySz Tryz.prog 16 = 1 := by kernel_rfl
theorem ag16 : (tyD Tryz.prog 16).map isAggD = some false := by rw [show tyD Tryz.prog 16 = _ from Tryz.underlying16]; rfl
theorem zv16 : tyZ Tryz.prog 16 = some (.pointer none) := by kernel_rfl
theorem sz17 : tySz Tryz.prog 17 = 1 := by kernel_rfl
theorem ag17 : (tyD Tryz.prog 17).map isAggD = some false := by rw [show tyD Tryz.prog 17 = _ from Tryz.underlying17]; rfl
theorem zv17 : tyZ Tryz.prog 17 = some (.pointer none) := by kernel_rfl
theorem sz18 : tySz Tryz.prog 18 = 1 := by kernel_rfl
theorem ag18 : (tyD Tryz.prog 18).map isAggD = some true := by rw [show tyD Tryz.prog 18 = _ from Tryz.underlying18]; rfl
theorem zv18 : tyZ Tryz.prog 18 = some (.agg #[.pointer none]) := by kernel_rfl
theorem sz19 : tySz Tryz.prog 19 = 1 := by kernel_rfl
theorem ag19 : (tyD Tryz.prog 19).map isAggD = some true := by rw [show tyD Tryz.prog 19 = _ from Tryz.underlying19]; rfl
theorem zv19 : tyZ Tryz.prog 19 = some (.agg #[.pointer none]) := by kernel_rfl
theorem sz21 : tySz Tryz.prog 21 = 1 := by kernel_rfl
theorem ag21 : (tyD Tryz.prog 21).map isAggD = some false := by rw [show tyD Tryz.prog 21 = _ from Tryz.underlying21]; rfl
theorem zv21 : tyZ Tryz.prog 21 = some (.int .i32 0) := by kernel_rfl
theorem sz22 : tySz Tryz.prog 22 = 1 := by kernel_rfl
theorem ag22 : (tyD Tryz.prog 22).map isAggD = some false := by rw [show tyD Tryz.prog 22 = _ from Tryz.underlying22]; rfl
theorem zv22 : tyZ Tryz.prog 22 = some (.slice none 0 0) := by kernel_rfl
theorem sz23 : tySz Tryz.prog 23 = 1 := by kernel_rfl
theorem ag23 : (tyD Tryz.prog 23).map isAggD = some false := by rw [show tyD Tryz.prog 23 = _ from Tryz.underlying23]; rfl
theorem zv23 : tyZ Tryz.prog 23 = some (.slice none 0 0) := by kernel_rfl
theorem sz24 : tySz Tryz.prog 24 = 1 := by kernel_rfl
theorem ag24 : (tyD Tryz.prog 24).map isAggD = some false := by rw [show tyD Tryz.prog 24 = _ from Tryz.underlying24]; rfl
theorem zv24 : tyZ Tryz.prog 24 = some (.slice none 0 0) := by kernel_rfl
theorem sz25 : tySz Tryz.prog 25 = 3 := by kernel_rfl
theorem ag25 : (tyD Tryz.prog 25).map isAggD = some true := by rw [show tyD Tryz.prog 25 = _ from Tryz.underlying25]; rfl
theorem zv25 : tyZ Tryz.prog 25 = some (.agg #[.slice none 0 0, .slice none 0 0, .slice none 0 0]) := by kernel_rfl
theorem sz26 : tySz Tryz.prog 26 = 3 := by kernel_rfl
theorem ag26 : (tyD Tryz.prog 26).map isAggD = some true := by rw [show tyD Tryz.prog 26 = _ from Tryz.underlying26]; rfl
theorem zv26 : tyZ Tryz.prog 26 = some (.agg #[.slice none 0 0, .slice none 0 0, .slice none 0 0]) := by kernel_rfl
theorem sz27 : tySz Tryz.prog 27 = 1 := by kernel_rfl
theorem ag27 : (tyD Tryz.prog 27).map isAggD = some false := by rw [show tyD Tryz.prog 27 = _ from Tryz.underlying27]; rfl
theorem zv27 : tyZ Tryz.prog 27 = some (.slice none 0 0) := by kernel_rfl
theorem sz28 : tySz Tryz.prog 28 = 1 := by kernel_rfl
theorem ag28 : (tyD Tryz.prog 28).map isAggD = some false := by rw [show tyD Tryz.prog 28 = _ from Tryz.underlying28]; rfl
theorem zv28 : tyZ Tryz.prog 28 = some (.slice none 0 0) := by kernel_rfl
theorem sz29 : tySz Tryz.prog 29 = 1 := by kernel_rfl
theorem ag29 : (tyD Tryz.prog 29).map isAggD = some false := by rw [show tyD Tryz.prog 29 = _ from Tryz.underlying29]; rfl
theorem zv29 : tyZ Tryz.prog 29 = some (.int .i64 0) := by kernel_rfl
theorem sz49 : tySz Tryz.prog 49 = 1 := by kernel_rfl
theorem ag49 : (tyD Tryz.prog 49).map isAggD = some false := by rw [show tyD Tryz.prog 49 = _ from Tryz.underlying49]; rfl
theorem zv49 : tyZ Tryz.prog 49 = some (.pointer none) := by kernel_rfl
theorem sz53 : tySz Tryz.prog 53 = 1 := by kernel_rfl
theorem ag53 : (tyD Tryz.prog 53).map isAggD = some false := by rw [show tyD Tryz.prog 53 = _ from Tryz.underlying53]; rfl
theorem zv53 : tyZ Tryz.prog 53 = some (.pointer none) := by kernel_rfl
theorem sz54 : tySz Tryz.prog 54 = 1 := by kernel_rfl
theorem ag54 : (tyD Tryz.prog 54).map isAggD = some false := by rw [show tyD Tryz.prog 54 = _ from Tryz.underlying54]; rfl
theorem zv54 : tyZ Tryz.prog 54 = some (.slice none 0 0) := by kernel_rfl
theorem sz55 : tySz Tryz.prog 55 = 5 := by kernel_rfl
theorem ag55 : (tyD Tryz.prog 55).map isAggD = some true := by rw [show tyD Tryz.prog 55 = _ from Tryz.underlying55]; rfl
theorem zv55 : tyZ Tryz.prog 55 = some (.agg #[.string ByteArray.empty, .string ByteArray.empty, .string ByteArray.empty, .int .i64 0, .slice none 0 0]) := by kernel_rfl
theorem sz56 : tySz Tryz.prog 56 = 5 := by kernel_rfl
theorem ag56 : (tyD Tryz.prog 56).map isAggD = some true := by rw [show tyD Tryz.prog 56 = _ from Tryz.underlying56]; rfl
theorem zv56 : tyZ Tryz.prog 56 = some (.agg #[.string ByteArray.empty, .string ByteArray.empty, .string ByteArray.empty, .int .i64 0, .slice none 0 0]) := by kernel_rfl
theorem sz58 : tySz Tryz.prog 58 = 3 := by kernel_rfl
theorem ag58 : (tyD Tryz.prog 58).map isAggD = some true := by rw [show tyD Tryz.prog 58 = _ from Tryz.underlying58]; rfl
theorem zv58 : tyZ Tryz.prog 58 = some (.agg #[.string ByteArray.empty, .int .i64 0, .int .i64 0]) := by kernel_rfl
theorem sz59 : tySz Tryz.prog 59 = 3 := by kernel_rfl
theorem ag59 : (tyD Tryz.prog 59).map isAggD = some true := by rw [show tyD Tryz.prog 59 = _ from Tryz.underlying59]; rfl
theorem zv59 : tyZ Tryz.prog 59 = some (.agg #[.string ByteArray.empty, .int .i64 0, .int .i64 0]) := by kernel_rfl
theorem sz61 : tySz Tryz.prog 61 = 2 := by kernel_rfl
theorem ag61 : (tyD Tryz.prog 61).map isAggD = some true := by rw [show tyD Tryz.prog 61 = _ from Tryz.underlying61]; rfl
theorem zv61 : tyZ Tryz.prog 61 = some (.agg #[.string ByteArray.empty, .string ByteArray.empty]) := by kernel_rfl
theorem sz62 : tySz Tryz.prog 62 = 2 := by kernel_rfl
theorem ag62 : (tyD Tryz.prog 62).map isAggD = some true := by rw [show tyD Tryz.prog 62 = _ from Tryz.underlying62]; rfl
theorem zv62 : tyZ Tryz.prog 62 = some (.agg #[.string ByteArray.empty, .string ByteArray.empty]) := by kernel_rfl
theorem sz69 : tySz Tryz.prog 69 = 2 := by kernel_rfl
theorem ag69 : (tyD Tryz.prog 69).map isAggD = some true := by rw [show tyD Tryz.prog 69 = _ from Tryz.underlying69]; rfl
theorem zv69 : tyZ Tryz.prog 69 = some (.agg #[.int .i64 0, .int .i64 0]) := by kernel_rfl
theorem sz70 : tySz Tryz.prog 70 = 2 := by kernel_rfl
theorem ag70 : (tyD Tryz.prog 70).map isAggD = some true := by rw [show tyD Tryz.prog 70 = _ from Tryz.underlying70]; rfl
theorem zv70 : tyZ Tryz.prog 70 = some (.agg #[.int .i64 0, .int .i64 0]) := by kernel_rfl
theorem sz72 : tySz Tryz.prog 72 = 1 := by kernel_rfl
theorem ag72 : (tyD Tryz.prog 72).map isAggD = some false := by rw [show tyD Tryz.prog 72 = _ from Tryz.underlying72]; rfl
theorem zv72 : tyZ Tryz.prog 72 = some (.slice none 0 0) := by kernel_rfl
theorem sz98 : tySz Tryz.prog 98 = 1 := by kernel_rfl
theorem ag98 : (tyD Tryz.prog 98).map isAggD = some false := by rw [show tyD Tryz.prog 98 = _ from Tryz.underlying98]; rfl
theorem zv98 : tyZ Tryz.prog 98 = some (.int .u64 0) := by kernel_rfl
theorem sz101 : tySz Tryz.prog 101 = 256 := by kernel_rfl
theorem ag101 : (tyD Tryz.prog 101).map isAggD = some true := by rw [show tyD Tryz.prog 101 = _ from Tryz.underlying101]; rfl
theorem sz102 : tySz Tryz.prog 102 = 256 := by kernel_rfl
theorem ag102 : (tyD Tryz.prog 102).map isAggD = some true := by rw [show tyD Tryz.prog 102 = _ from Tryz.underlying102]; rfl
theorem sz106 : tySz Tryz.prog 106 = 1 := by kernel_rfl
theorem ag106 : (tyD Tryz.prog 106).map isAggD = some false := by rw [show tyD Tryz.prog 106 = _ from Tryz.underlying106]; rfl
theorem zv106 : tyZ Tryz.prog 106 = some (.pointer none) := by kernel_rfl
theorem sz115 : tySz Tryz.prog 115 = 1 := by kernel_rfl
theorem ag115 : (tyD Tryz.prog 115).map isAggD = some false := by rw [show tyD Tryz.prog 115 = _ from Tryz.underlying115]; rfl
theorem zv115 : tyZ Tryz.prog 115 = some (.int .i64 0) := by kernel_rfl
theorem sz123 : tySz Tryz.prog 123 = 1 := by kernel_rfl
theorem ag123 : (tyD Tryz.prog 123).map isAggD = some false := by rw [show tyD Tryz.prog 123 = _ from Tryz.underlying123]; rfl
theorem zv123 : tyZ Tryz.prog 123 = some (.int .u32 0) := by kernel_rfl
theorem sz125 : tySz Tryz.prog 125 = 1 := by kernel_rfl
theorem ag125 : (tyD Tryz.prog 125).map isAggD = some false := by rw [show tyD Tryz.prog 125 = _ from Tryz.underlying125]; rfl
theorem zv125 : tyZ Tryz.prog 125 = some (.int .u64 0) := by kernel_rfl
theorem sz127 : tySz Tryz.prog 127 = 1 := by kernel_rfl
theorem ag127 : (tyD Tryz.prog 127).map isAggD = some false := by rw [show tyD Tryz.prog 127 = _ from Tryz.underlying127]; rfl
theorem zv127 : tyZ Tryz.prog 127 = some (.int .u64 0) := by kernel_rfl
theorem sz131 : tySz Tryz.prog 131 = 1 := by kernel_rfl
theorem ag131 : (tyD Tryz.prog 131).map isAggD = some false := by rw [show tyD Tryz.prog 131 = _ from Tryz.underlying131]; rfl
theorem zv131 : tyZ Tryz.prog 131 = some (.pointer none) := by kernel_rfl
theorem sz133 : tySz Tryz.prog 133 = 256 := by kernel_rfl
theorem ag133 : (tyD Tryz.prog 133).map isAggD = some true := by rw [show tyD Tryz.prog 133 = _ from Tryz.underlying133]; rfl
theorem sz134 : tySz Tryz.prog 134 = 2 := by kernel_rfl
theorem ag134 : (tyD Tryz.prog 134).map isAggD = some true := by rw [show tyD Tryz.prog 134 = _ from Tryz.underlying134]; rfl
theorem zv134 : tyZ Tryz.prog 134 = some (.agg #[.int .u8 0, .int .u8 0]) := by kernel_rfl
theorem sz135 : tySz Tryz.prog 135 = 2 := by kernel_rfl
theorem ag135 : (tyD Tryz.prog 135).map isAggD = some true := by rw [show tyD Tryz.prog 135 = _ from Tryz.underlying135]; rfl
theorem zv135 : tyZ Tryz.prog 135 = some (.agg #[.int .u8 0, .int .u8 0]) := by kernel_rfl
theorem sz136 : tySz Tryz.prog 136 = 32 := by kernel_rfl
theorem ag136 : (tyD Tryz.prog 136).map isAggD = some true := by rw [show tyD Tryz.prog 136 = _ from Tryz.underlying136]; rfl
theorem zv136 : tyZ Tryz.prog 136 = some (.agg #[.int .u8 0, .int .u8 0, .int .u8 0, .int .u8 0, .int .u8 0, .int .u8 0, .int .u8 0, .int .u8 0, .int .u8 0, .int .u8 0, .int .u8 0, .int .u8 0, .int .u8 0, .int .u8 0, .int .u8 0, .int .u8 0, .int .u8 0, .int .u8 0, .int .u8 0, .int .u8 0, .int .u8 0, .int .u8 0, .int .u8 0, .int .u8 0, .int .u8 0, .int .u8 0, .int .u8 0, .int .u8 0, .int .u8 0, .int .u8 0, .int .u8 0, .int .u8 0]) := by kernel_rfl
theorem sz139 : tySz Tryz.prog 139 = 1 := by kernel_rfl
theorem ag139 : (tyD Tryz.prog 139).map isAggD = some false := by rw [show tyD Tryz.prog 139 = _ from Tryz.underlying139]; rfl
theorem zv139 : tyZ Tryz.prog 139 = some (.pointer none) := by kernel_rfl
theorem sz143 : tySz Tryz.prog 143 = 4 := by kernel_rfl
theorem ag143 : (tyD Tryz.prog 143).map isAggD = some true := by rw [show tyD Tryz.prog 143 = _ from Tryz.underlying143]; rfl
theorem zv143 : tyZ Tryz.prog 143 = some (.agg #[.pointer none, .pointer none, .pointer none, .string ByteArray.empty]) := by kernel_rfl
theorem sz144 : tySz Tryz.prog 144 = 4 := by kernel_rfl
theorem ag144 : (tyD Tryz.prog 144).map isAggD = some true := by rw [show tyD Tryz.prog 144 = _ from Tryz.underlying144]; rfl
theorem zv144 : tyZ Tryz.prog 144 = some (.agg #[.pointer none, .pointer none, .pointer none, .string ByteArray.empty]) := by kernel_rfl
theorem sz145 : tySz Tryz.prog 145 = 0 := by kernel_rfl
theorem ag145 : (tyD Tryz.prog 145).map isAggD = some true := by rw [show tyD Tryz.prog 145 = _ from Tryz.underlying145]; rfl
theorem zv145 : tyZ Tryz.prog 145 = some (.agg #[]) := by kernel_rfl
theorem sz146 : tySz Tryz.prog 146 = 0 := by kernel_rfl
theorem ag146 : (tyD Tryz.prog 146).map isAggD = some true := by rw [show tyD Tryz.prog 146 = _ from Tryz.underlying146]; rfl
theorem zv146 : tyZ Tryz.prog 146 = some (.agg #[]) := by kernel_rfl
theorem sz147 : tySz Tryz.prog 147 = 0 := by kernel_rfl
theorem ag147 : (tyD Tryz.prog 147).map isAggD = some true := by rw [show tyD Tryz.prog 147 = _ from Tryz.underlying147]; rfl
theorem zv147 : tyZ Tryz.prog 147 = some (.agg #[]) := by kernel_rfl
theorem sz149 : tySz Tryz.prog 149 = 1 := by kernel_rfl
theorem ag149 : (tyD Tryz.prog 149).map isAggD = some false := by rw [show tyD Tryz.prog 149 = _ from Tryz.underlying149]; rfl
theorem zv149 : tyZ Tryz.prog 149 = some (.int .u8 0) := by kernel_rfl
theorem sz150 : tySz Tryz.prog 150 = 1 := by kernel_rfl
theorem ag150 : (tyD Tryz.prog 150).map isAggD = some false := by rw [show tyD Tryz.prog 150 = _ from Tryz.underlying150]; rfl
theorem zv150 : tyZ Tryz.prog 150 = some (.int .u8 0) := by kernel_rfl
theorem sz152 : tySz Tryz.prog 152 = 1 := by kernel_rfl
theorem ag152 : (tyD Tryz.prog 152).map isAggD = some false := by rw [show tyD Tryz.prog 152 = _ from Tryz.underlying152]; rfl
theorem zv152 : tyZ Tryz.prog 152 = some (.pointer none) := by kernel_rfl
theorem sz153 : tySz Tryz.prog 153 = 1 := by kernel_rfl
theorem ag153 : (tyD Tryz.prog 153).map isAggD = some false := by rw [show tyD Tryz.prog 153 = _ from Tryz.underlying153]; rfl
theorem zv153 : tyZ Tryz.prog 153 = some (.int .i32 0) := by kernel_rfl
theorem sz154 : tySz Tryz.prog 154 = 1 := by kernel_rfl
theorem ag154 : (tyD Tryz.prog 154).map isAggD = some false := by rw [show tyD Tryz.prog 154 = _ from Tryz.underlying154]; rfl
theorem zv154 : tyZ Tryz.prog 154 = some (.int .i32 0) := by kernel_rfl
theorem sz155 : tySz Tryz.prog 155 = 11 := by kernel_rfl
theorem ag155 : (tyD Tryz.prog 155).map isAggD = some true := by rw [show tyD Tryz.prog 155 = _ from Tryz.underlying155]; rfl
theorem zv155 : tyZ Tryz.prog 155 = some (.agg #[.int .u64 0, .int .u64 0, .int .u32 0, .int .u8 0, .int .u8 0, .int .u8 0, .int .u8 0, .nilFunc, .pointer none, .int .i32 0, .int .i32 0]) := by kernel_rfl
theorem sz156 : tySz Tryz.prog 156 = 11 := by kernel_rfl
theorem ag156 : (tyD Tryz.prog 156).map isAggD = some true := by rw [show tyD Tryz.prog 156 = _ from Tryz.underlying156]; rfl
theorem zv156 : tyZ Tryz.prog 156 = some (.agg #[.int .u64 0, .int .u64 0, .int .u32 0, .int .u8 0, .int .u8 0, .int .u8 0, .int .u8 0, .nilFunc, .pointer none, .int .i32 0, .int .i32 0]) := by kernel_rfl
theorem sz157 : tySz Tryz.prog 157 = 1 := by kernel_rfl
theorem ag157 : (tyD Tryz.prog 157).map isAggD = some false := by rw [show tyD Tryz.prog 157 = _ from Tryz.underlying157]; rfl
theorem zv157 : tyZ Tryz.prog 157 = some (.pointer none) := by kernel_rfl
theorem ld2 (a : Addr) (G : GH) : pvLoad Tryz.prog 2 (.pointer (some a)) G = gcell G a := pvLoad_one ag2 a G
theorem st2 (rs : Array ResultVar) (K : Value → GH → Prop) (s : List It) (ops : List Oper) (md : Option GH) (d : Option Nat) (l : List Oper) (f : Fr) (G : GH) (a : Addr) (v : Value) (h : oneV v = true) : Yst Tryz.prog rs K s ops md d l f G 2 (.pointer (some a)) v = Yset Tryz.prog rs K s ops md d l f G a [v] := Yst_ptr rs K s ops md d l f G ⟨by rw [sz2]; decide, by rw [sz2]; rfl⟩ (one_cells h) (by simp [h])
theorem al2 (rs : Array ResultVar) (K : Value → GH → Prop) (s : List It) (ops : List Oper) (md : Option GH) (d : Option Nat) (l : List Oper) (f : Fr) (G : GH) : Yal Tryz.prog rs K s ops md d l f G 2 = Ynew' Tryz.prog rs K s ops md d l f G (.cells #[.int .i64 0] 2 (0, 0)) (fun r => .pointer (some ⟨r, 0, none⟩)) := Yal_eq rs K s ops md d l f G zv2
theorem ld3 (a : Addr) (G : GH) : pvLoad Tryz.prog 3 (.pointer (some a)) G = gcell G a := pvLoad_one ag3 a G
theorem st3 (rs : Array ResultVar) (K : Value → GH → Prop) (s : List It) (ops : List Oper) (md : Option GH) (d : Option Nat) (l : List Oper) (f : Fr) (G : GH) (a : Addr) (v : Value) (h : oneV v = true) : Yst Tryz.prog rs K s ops md d l f G 3 (.pointer (some a)) v = Yset Tryz.prog rs K s ops md d l f G a [v] := Yst_ptr rs K s ops md d l f G ⟨by rw [sz3]; decide, by rw [sz3]; rfl⟩ (one_cells h) (by simp [h])
theorem al3 (rs : Array ResultVar) (K : Value → GH → Prop) (s : List It) (ops : List Oper) (md : Option GH) (d : Option Nat) (l : List Oper) (f : Fr) (G : GH) : Yal Tryz.prog rs K s ops md d l f G 3 = Ynew' Tryz.prog rs K s ops md d l f G (.cells #[.int .i64 0] 3 (0, 0)) (fun r => .pointer (some ⟨r, 0, none⟩)) := Yal_eq rs K s ops md d l f G zv3
theorem ld4 (a : Addr) (G : GH) : pvLoad Tryz.prog 4 (.pointer (some a)) G = gcell G a := pvLoad_one ag4 a G
theorem st4 (rs : Array ResultVar) (K : Value → GH → Prop) (s : List It) (ops : List Oper) (md : Option GH) (d : Option Nat) (l : List Oper) (f : Fr) (G : GH) (a : Addr) (v : Value) (h : oneV v = true) : Yst Tryz.prog rs K s ops md d l f G 4 (.pointer (some a)) v = Yset Tryz.prog rs K s ops md d l f G a [v] := Yst_ptr rs K s ops md d l f G ⟨by rw [sz4]; decide, by rw [sz4]; rfl⟩ (one_cells h) (by simp [h])
theorem al4 (rs : Array ResultVar) (K : Value → GH → Prop) (s : List It) (ops : List Oper) (md : Option GH) (d : Option Nat) (l : List Oper) (f : Fr) (G : GH) : Yal Tryz.prog rs K s ops md d l f G 4 = Ynew' Tryz.prog rs K s ops md d l f G (.cells #[.bool false] 4 (0, 0)) (fun r => .pointer (some ⟨r, 0, none⟩)) := Yal_eq rs K s ops md d l f G zv4
theorem be4 (x y : Operand) (a b : Bool) : pvB Tryz.prog .eql 4 x y (.bool a) (.bool b) = some (.bool (a == b)) := pvB_beq Tryz.underlying4 x y a b
theorem bn4 (x y : Operand) (a b : Bool) : pvB Tryz.prog .neq 4 x y (.bool a) (.bool b) = some (.bool (!(a == b))) := pvB_bne Tryz.underlying4 x y a b
theorem ld5 (a : Addr) (G : GH) : pvLoad Tryz.prog 5 (.pointer (some a)) G = gcell G a := pvLoad_one ag5 a G
theorem st5 (rs : Array ResultVar) (K : Value → GH → Prop) (s : List It) (ops : List Oper) (md : Option GH) (d : Option Nat) (l : List Oper) (f : Fr) (G : GH) (a : Addr) (v : Value) (h : oneV v = true) : Yst Tryz.prog rs K s ops md d l f G 5 (.pointer (some a)) v = Yset Tryz.prog rs K s ops md d l f G a [v] := Yst_ptr rs K s ops md d l f G ⟨by rw [sz5]; decide, by rw [sz5]; rfl⟩ (one_cells h) (by simp [h])
theorem al5 (rs : Array ResultVar) (K : Value → GH → Prop) (s : List It) (ops : List Oper) (md : Option GH) (d : Option Nat) (l : List Oper) (f : Fr) (G : GH) : Yal Tryz.prog rs K s ops md d l f G 5 = Ynew' Tryz.prog rs K s ops md d l f G (.cells #[.int .u8 0] 5 (0, 0)) (fun r => .pointer (some ⟨r, 0, none⟩)) := Yal_eq rs K s ops md d l f G zv5
theorem ld6 (a : Addr) (G : GH) : pvLoad Tryz.prog 6 (.pointer (some a)) G = gcell G a := pvLoad_one ag6 a G
theorem st6 (rs : Array ResultVar) (K : Value → GH → Prop) (s : List It) (ops : List Oper) (md : Option GH) (d : Option Nat) (l : List Oper) (f : Fr) (G : GH) (a : Addr) (v : Value) (h : oneV v = true) : Yst Tryz.prog rs K s ops md d l f G 6 (.pointer (some a)) v = Yset Tryz.prog rs K s ops md d l f G a [v] := Yst_ptr rs K s ops md d l f G ⟨by rw [sz6]; decide, by rw [sz6]; rfl⟩ (one_cells h) (by simp [h])
theorem al6 (rs : Array ResultVar) (K : Value → GH → Prop) (s : List It) (ops : List Oper) (md : Option GH) (d : Option Nat) (l : List Oper) (f : Fr) (G : GH) : Yal Tryz.prog rs K s ops md d l f G 6 = Ynew' Tryz.prog rs K s ops md d l f G (.cells #[.int .u8 0] 6 (0, 0)) (fun r => .pointer (some ⟨r, 0, none⟩)) := Yal_eq rs K s ops md d l f G zv6
theorem ld7 (a : Addr) (G : GH) : pvLoad Tryz.prog 7 (.pointer (some a)) G = (gcells G a 4).map fun cs => .agg cs.toArray := pvLoad_agg ag7 sz7 (by decide) a G
theorem st7 (rs : Array ResultVar) (K : Value → GH → Prop) (s : List It) (ops : List Oper) (md : Option GH) (d : Option Nat) (l : List Oper) (f : Fr) (G : GH) (a : Addr) (x0 x1 x2 x3 : Value) (h : [x0, x1, x2, x3].all oneV = true) : Yst Tryz.prog rs K s ops md d l f G 7 (.pointer (some a)) (.agg #[x0, x1, x2, x3]) = Yset Tryz.prog rs K s ops md d l f G a [x0, x1, x2, x3] := Yst_ptr rs K s ops md d l f G ⟨by rw [sz7]; decide, by rw [sz7]; rfl⟩ rfl h
theorem al7 (rs : Array ResultVar) (K : Value → GH → Prop) (s : List It) (ops : List Oper) (md : Option GH) (d : Option Nat) (l : List Oper) (f : Fr) (G : GH) : Yal Tryz.prog rs K s ops md d l f G 7 = Ynew' Tryz.prog rs K s ops md d l f G (.cells #[.int .i64 0, .int .i64 0, .bool false, .int .u8 0] 7 (0, 0)) (fun r => .pointer (some ⟨r, 0, none⟩)) := Yal_eq rs K s ops md d l f G zv7
theorem fa7_0 (a : Addr) : pvFA Tryz.prog 7 (.pointer (some a)) 0 = some (.pointer (some (a.add 0))) := pvFA_eq (F := 2) (by unfold tyFld; rw [show tyD Tryz.prog 7 = _ from Tryz.underlying7]; rfl) (by rw [show tySz Tryz.prog 2 = 1 from by kernel_rfl]; decide) a
theorem fl7_0 (x0 x1 x2 x3 : Value) : pvField Tryz.prog 7 (.agg #[x0, x1, x2, x3]) 0 = some x0 := pvField_one (F := 2) (i := 0) (off := 0) (cs := [x0, x1, x2, x3]) (by unfold tyFld; rw [show tyD Tryz.prog 7 = _ from Tryz.underlying7]; rfl) (by rw [show tyD Tryz.prog 2 = _ from Tryz.underlying2]; rfl) rfl
theorem fa7_1 (a : Addr) : pvFA Tryz.prog 7 (.pointer (some a)) 1 = some (.pointer (some (a.add 1))) := pvFA_eq (F := 3) (by unfold tyFld; rw [show tyD Tryz.prog 7 = _ from Tryz.underlying7]; rfl) (by rw [show tySz Tryz.prog 3 = 1 from by kernel_rfl]; decide) a
theorem fl7_1 (x0 x1 x2 x3 : Value) : pvField Tryz.prog 7 (.agg #[x0, x1, x2, x3]) 1 = some x1 := pvField_one (F := 3) (i := 1) (off := 1) (cs := [x0, x1, x2, x3]) (by unfold tyFld; rw [show tyD Tryz.prog 7 = _ from Tryz.underlying7]; rfl) (by rw [show tyD Tryz.prog 3 = _ from Tryz.underlying3]; rfl) rfl
theorem fa7_2 (a : Addr) : pvFA Tryz.prog 7 (.pointer (some a)) 2 = some (.pointer (some (a.add 2))) := pvFA_eq (F := 4) (by unfold tyFld; rw [show tyD Tryz.prog 7 = _ from Tryz.underlying7]; rfl) (by rw [show tySz Tryz.prog 4 = 1 from by kernel_rfl]; decide) a
theorem fl7_2 (x0 x1 x2 x3 : Value) : pvField Tryz.prog 7 (.agg #[x0, x1, x2, x3]) 2 = some x2 := pvField_one (F := 4) (i := 2) (off := 2) (cs := [x0, x1, x2, x3]) (by unfold tyFld; rw [show tyD Tryz.prog 7 = _ from Tryz.underlying7]; rfl) (by rw [show tyD Tryz.prog 4 = _ from Tryz.underlying4]; rfl) rfl
theorem fa7_3 (a : Addr) : pvFA Tryz.prog 7 (.pointer (some a)) 3 = some (.pointer (some (a.add 3))) := pvFA_eq (F := 6) (by unfold tyFld; rw [show tyD Tryz.prog 7 = _ from Tryz.underlying7]; rfl) (by rw [show tySz Tryz.prog 6 = 1 from by kernel_rfl]; decide) a
theorem fl7_3 (x0 x1 x2 x3 : Value) : pvField Tryz.prog 7 (.agg #[x0, x1, x2, x3]) 3 = some x3 := pvField_one (F := 6) (i := 3) (off := 3) (cs := [x0, x1, x2, x3]) (by unfold tyFld; rw [show tyD Tryz.prog 7 = _ from Tryz.underlying7]; rfl) (by rw [show tyD Tryz.prog 6 = _ from Tryz.underlying6]; rfl) rfl
theorem ld8 (a : Addr) (G : GH) : pvLoad Tryz.prog 8 (.pointer (some a)) G = (gcells G a 4).map fun cs => .agg cs.toArray := pvLoad_agg ag8 sz8 (by decide) a G
theorem st8 (rs : Array ResultVar) (K : Value → GH → Prop) (s : List It) (ops : List Oper) (md : Option GH) (d : Option Nat) (l : List Oper) (f : Fr) (G : GH) (a : Addr) (x0 x1 x2 x3 : Value) (h : [x0, x1, x2, x3].all oneV = true) : Yst Tryz.prog rs K s ops md d l f G 8 (.pointer (some a)) (.agg #[x0, x1, x2, x3]) = Yset Tryz.prog rs K s ops md d l f G a [x0, x1, x2, x3] := Yst_ptr rs K s ops md d l f G ⟨by rw [sz8]; decide, by rw [sz8]; rfl⟩ rfl h
theorem al8 (rs : Array ResultVar) (K : Value → GH → Prop) (s : List It) (ops : List Oper) (md : Option GH) (d : Option Nat) (l : List Oper) (f : Fr) (G : GH) : Yal Tryz.prog rs K s ops md d l f G 8 = Ynew' Tryz.prog rs K s ops md d l f G (.cells #[.int .i64 0, .int .i64 0, .bool false, .int .u8 0] 8 (0, 0)) (fun r => .pointer (some ⟨r, 0, none⟩)) := Yal_eq rs K s ops md d l f G zv8
theorem fa8_0 (a : Addr) : pvFA Tryz.prog 8 (.pointer (some a)) 0 = some (.pointer (some (a.add 0))) := pvFA_eq (F := 2) (by unfold tyFld; rw [show tyD Tryz.prog 8 = _ from Tryz.underlying8]; rfl) (by rw [show tySz Tryz.prog 2 = 1 from by kernel_rfl]; decide) a
theorem fl8_0 (x0 x1 x2 x3 : Value) : pvField Tryz.prog 8 (.agg #[x0, x1, x2, x3]) 0 = some x0 := pvField_one (F := 2) (i := 0) (off := 0) (cs := [x0, x1, x2, x3]) (by unfold tyFld; rw [show tyD Tryz.prog 8 = _ from Tryz.underlying8]; rfl) (by rw [show tyD Tryz.prog 2 = _ from Tryz.underlying2]; rfl) rfl
theorem fa8_1 (a : Addr) : pvFA Tryz.prog 8 (.pointer (some a)) 1 = some (.pointer (some (a.add 1))) := pvFA_eq (F := 3) (by unfold tyFld; rw [show tyD Tryz.prog 8 = _ from Tryz.underlying8]; rfl) (by rw [show tySz Tryz.prog 3 = 1 from by kernel_rfl]; decide) a
theorem fl8_1 (x0 x1 x2 x3 : Value) : pvField Tryz.prog 8 (.agg #[x0, x1, x2, x3]) 1 = some x1 := pvField_one (F := 3) (i := 1) (off := 1) (cs := [x0, x1, x2, x3]) (by unfold tyFld; rw [show tyD Tryz.prog 8 = _ from Tryz.underlying8]; rfl) (by rw [show tyD Tryz.prog 3 = _ from Tryz.underlying3]; rfl) rfl
theorem fa8_2 (a : Addr) : pvFA Tryz.prog 8 (.pointer (some a)) 2 = some (.pointer (some (a.add 2))) := pvFA_eq (F := 4) (by unfold tyFld; rw [show tyD Tryz.prog 8 = _ from Tryz.underlying8]; rfl) (by rw [show tySz Tryz.prog 4 = 1 from by kernel_rfl]; decide) a
theorem fl8_2 (x0 x1 x2 x3 : Value) : pvField Tryz.prog 8 (.agg #[x0, x1, x2, x3]) 2 = some x2 := pvField_one (F := 4) (i := 2) (off := 2) (cs := [x0, x1, x2, x3]) (by unfold tyFld; rw [show tyD Tryz.prog 8 = _ from Tryz.underlying8]; rfl) (by rw [show tyD Tryz.prog 4 = _ from Tryz.underlying4]; rfl) rfl
theorem fa8_3 (a : Addr) : pvFA Tryz.prog 8 (.pointer (some a)) 3 = some (.pointer (some (a.add 3))) := pvFA_eq (F := 6) (by unfold tyFld; rw [show tyD Tryz.prog 8 = _ from Tryz.underlying8]; rfl) (by rw [show tySz Tryz.prog 6 = 1 from by kernel_rfl]; decide) a
theorem fl8_3 (x0 x1 x2 x3 : Value) : pvField Tryz.prog 8 (.agg #[x0, x1, x2, x3]) 3 = some x3 := pvField_one (F := 6) (i := 3) (off := 3) (cs := [x0, x1, x2, x3]) (by unfold tyFld; rw [show tyD Tryz.prog 8 = _ from Tryz.underlying8]; rfl) (by rw [show tyD Tryz.prog 6 = _ from Tryz.underlying6]; rfl) rfl
theorem ld9 (a : Addr) (G : GH) : pvLoad Tryz.prog 9 (.pointer (some a)) G = gcell G a := pvLoad_one ag9 a G
theorem st9 (rs : Array ResultVar) (K : Value → GH → Prop) (s : List It) (ops : List Oper) (md : Option GH) (d : Option Nat) (l : List Oper) (f : Fr) (G : GH) (a : Addr) (v : Value) (h : oneV v = true) : Yst Tryz.prog rs K s ops md d l f G 9 (.pointer (some a)) v = Yset Tryz.prog rs K s ops md d l f G a [v] := Yst_ptr rs K s ops md d l f G ⟨by rw [sz9]; decide, by rw [sz9]; rfl⟩ (one_cells h) (by simp [h])
theorem al9 (rs : Array ResultVar) (K : Value → GH → Prop) (s : List It) (ops : List Oper) (md : Option GH) (d : Option Nat) (l : List Oper) (f : Fr) (G : GH) : Yal Tryz.prog rs K s ops md d l f G 9 = Ynew' Tryz.prog rs K s ops md d l f G (.cells #[.string ByteArray.empty] 9 (0, 0)) (fun r => .pointer (some ⟨r, 0, none⟩)) := Yal_eq rs K s ops md d l f G zv9
theorem ln9 (s : ByteArray) : pvB1 Tryz.prog .len [9] [.string s] = some (.int .i64 s.size) := pvLen_string Tryz.underlying9 s
theorem ix9 (s : ByteArray) (k : IntKind) (j : Int) : pvI Tryz.prog 9 (.string s) (.int k j) = if 0 ≤ j ∧ j < s.size then some (.int .u8 (s.data.toList.getD j.toNat 0).toNat) else none := pvI_string Tryz.underlying9 s k j
theorem ld10 (a : Addr) (G : GH) : pvLoad Tryz.prog 10 (.pointer (some a)) G = gcell G a := pvLoad_one ag10 a G
theorem st10 (rs : Array ResultVar) (K : Value → GH → Prop) (s : List It) (ops : List Oper) (md : Option GH) (d : Option Nat) (l : List Oper) (f : Fr) (G : GH) (a : Addr) (v : Value) (h : oneV v = true) : Yst Tryz.prog rs K s ops md d l f G 10 (.pointer (some a)) v = Yset Tryz.prog rs K s ops md d l f G a [v] := Yst_ptr rs K s ops md d l f G ⟨by rw [sz10]; decide, by rw [sz10]; rfl⟩ (one_cells h) (by simp [h])
theorem al10 (rs : Array ResultVar) (K : Value → GH → Prop) (s : List It) (ops : List Oper) (md : Option GH) (d : Option Nat) (l : List Oper) (f : Fr) (G : GH) : Yal Tryz.prog rs K s ops md d l f G 10 = Ynew' Tryz.prog rs K s ops md d l f G (.cells #[.string ByteArray.empty] 10 (0, 0)) (fun r => .pointer (some ⟨r, 0, none⟩)) := Yal_eq rs K s ops md d l f G zv10
theorem ln10 (s : ByteArray) : pvB1 Tryz.prog .len [10] [.string s] = some (.int .i64 s.size) := pvLen_string Tryz.underlying10 s
theorem ix10 (s : ByteArray) (k : IntKind) (j : Int) : pvI Tryz.prog 10 (.string s) (.int k j) = if 0 ≤ j ∧ j < s.size then some (.int .u8 (s.data.toList.getD j.toNat 0).toNat) else none := pvI_string Tryz.underlying10 s k j
theorem ld11 (a : Addr) (G : GH) : pvLoad Tryz.prog 11 (.pointer (some a)) G = gcell G a := pvLoad_one ag11 a G
theorem st11 (rs : Array ResultVar) (K : Value → GH → Prop) (s : List It) (ops : List Oper) (md : Option GH) (d : Option Nat) (l : List Oper) (f : Fr) (G : GH) (a : Addr) (v : Value) (h : oneV v = true) : Yst Tryz.prog rs K s ops md d l f G 11 (.pointer (some a)) v = Yset Tryz.prog rs K s ops md d l f G a [v] := Yst_ptr rs K s ops md d l f G ⟨by rw [sz11]; decide, by rw [sz11]; rfl⟩ (one_cells h) (by simp [h])
theorem al11 (rs : Array ResultVar) (K : Value → GH → Prop) (s : List It) (ops : List Oper) (md : Option GH) (d : Option Nat) (l : List Oper) (f : Fr) (G : GH) : Yal Tryz.prog rs K s ops md d l f G 11 = Ynew' Tryz.prog rs K s ops md d l f G (.cells #[.string ByteArray.empty] 11 (0, 0)) (fun r => .pointer (some ⟨r, 0, none⟩)) := Yal_eq rs K s ops md d l f G zv11
theorem ln11 (s : ByteArray) : pvB1 Tryz.prog .len [11] [.string s] = some (.int .i64 s.size) := pvLen_string Tryz.underlying11 s
theorem ix11 (s : ByteArray) (k : IntKind) (j : Int) : pvI Tryz.prog 11 (.string s) (.int k j) = if 0 ≤ j ∧ j < s.size then some (.int .u8 (s.data.toList.getD j.toNat 0).toNat) else none := pvI_string Tryz.underlying11 s k j
theorem ld12 (a : Addr) (G : GH) : pvLoad Tryz.prog 12 (.pointer (some a)) G = gcell G a := pvLoad_one ag12 a G
theorem st12 (rs : Array ResultVar) (K : Value → GH → Prop) (s : List It) (ops : List Oper) (md : Option GH) (d : Option Nat) (l : List Oper) (f : Fr) (G : GH) (a : Addr) (v : Value) (h : oneV v = true) : Yst Tryz.prog rs K s ops md d l f G 12 (.pointer (some a)) v = Yset Tryz.prog rs K s ops md d l f G a [v] := Yst_ptr rs K s ops md d l f G ⟨by rw [sz12]; decide, by rw [sz12]; rfl⟩ (one_cells h) (by simp [h])
theorem al12 (rs : Array ResultVar) (K : Value → GH → Prop) (s : List It) (ops : List Oper) (md : Option GH) (d : Option Nat) (l : List Oper) (f : Fr) (G : GH) : Yal Tryz.prog rs K s ops md d l f G 12 = Ynew' Tryz.prog rs K s ops md d l f G (.cells #[.int .u64 0] 12 (0, 0)) (fun r => .pointer (some ⟨r, 0, none⟩)) := Yal_eq rs K s ops md d l f G zv12
theorem ld13 (a : Addr) (G : GH) : pvLoad Tryz.prog 13 (.pointer (some a)) G = (gcells G a 2).map fun cs => .agg cs.toArray := pvLoad_agg ag13 sz13 (by decide) a G
theorem st13 (rs : Array ResultVar) (K : Value → GH → Prop) (s : List It) (ops : List Oper) (md : Option GH) (d : Option Nat) (l : List Oper) (f : Fr) (G : GH) (a : Addr) (x0 x1 : Value) (h : [x0, x1].all oneV = true) : Yst Tryz.prog rs K s ops md d l f G 13 (.pointer (some a)) (.agg #[x0, x1]) = Yset Tryz.prog rs K s ops md d l f G a [x0, x1] := Yst_ptr rs K s ops md d l f G ⟨by rw [sz13]; decide, by rw [sz13]; rfl⟩ rfl h
theorem al13 (rs : Array ResultVar) (K : Value → GH → Prop) (s : List It) (ops : List Oper) (md : Option GH) (d : Option Nat) (l : List Oper) (f : Fr) (G : GH) : Yal Tryz.prog rs K s ops md d l f G 13 = Ynew' Tryz.prog rs K s ops md d l f G (.cells #[.string ByteArray.empty, .int .u64 0] 13 (0, 0)) (fun r => .pointer (some ⟨r, 0, none⟩)) := Yal_eq rs K s ops md d l f G zv13
theorem fa13_0 (a : Addr) : pvFA Tryz.prog 13 (.pointer (some a)) 0 = some (.pointer (some (a.add 0))) := pvFA_eq (F := 9) (by unfold tyFld; rw [show tyD Tryz.prog 13 = _ from Tryz.underlying13]; rfl) (by rw [show tySz Tryz.prog 9 = 1 from by kernel_rfl]; decide) a
theorem fl13_0 (x0 x1 : Value) : pvField Tryz.prog 13 (.agg #[x0, x1]) 0 = some x0 := pvField_one (F := 9) (i := 0) (off := 0) (cs := [x0, x1]) (by unfold tyFld; rw [show tyD Tryz.prog 13 = _ from Tryz.underlying13]; rfl) (by rw [show tyD Tryz.prog 9 = _ from Tryz.underlying9]; rfl) rfl
theorem fa13_1 (a : Addr) : pvFA Tryz.prog 13 (.pointer (some a)) 1 = some (.pointer (some (a.add 1))) := pvFA_eq (F := 12) (by unfold tyFld; rw [show tyD Tryz.prog 13 = _ from Tryz.underlying13]; rfl) (by rw [show tySz Tryz.prog 12 = 1 from by kernel_rfl]; decide) a
theorem fl13_1 (x0 x1 : Value) : pvField Tryz.prog 13 (.agg #[x0, x1]) 1 = some x1 := pvField_one (F := 12) (i := 1) (off := 1) (cs := [x0, x1]) (by unfold tyFld; rw [show tyD Tryz.prog 13 = _ from Tryz.underlying13]; rfl) (by rw [show tyD Tryz.prog 12 = _ from Tryz.underlying12]; rfl) rfl
theorem ld14 (a : Addr) (G : GH) : pvLoad Tryz.prog 14 (.pointer (some a)) G = (gcells G a 2).map fun cs => .agg cs.toArray := pvLoad_agg ag14 sz14 (by decide) a G
theorem st14 (rs : Array ResultVar) (K : Value → GH → Prop) (s : List It) (ops : List Oper) (md : Option GH) (d : Option Nat) (l : List Oper) (f : Fr) (G : GH) (a : Addr) (x0 x1 : Value) (h : [x0, x1].all oneV = true) : Yst Tryz.prog rs K s ops md d l f G 14 (.pointer (some a)) (.agg #[x0, x1]) = Yset Tryz.prog rs K s ops md d l f G a [x0, x1] := Yst_ptr rs K s ops md d l f G ⟨by rw [sz14]; decide, by rw [sz14]; rfl⟩ rfl h
theorem al14 (rs : Array ResultVar) (K : Value → GH → Prop) (s : List It) (ops : List Oper) (md : Option GH) (d : Option Nat) (l : List Oper) (f : Fr) (G : GH) : Yal Tryz.prog rs K s ops md d l f G 14 = Ynew' Tryz.prog rs K s ops md d l f G (.cells #[.string ByteArray.empty, .int .u64 0] 14 (0, 0)) (fun r => .pointer (some ⟨r, 0, none⟩)) := Yal_eq rs K s ops md d l f G zv14
theorem fa14_0 (a : Addr) : pvFA Tryz.prog 14 (.pointer (some a)) 0 = some (.pointer (some (a.add 0))) := pvFA_eq (F := 9) (by unfold tyFld; rw [show tyD Tryz.prog 14 = _ from Tryz.underlying14]; rfl) (by rw [show tySz Tryz.prog 9 = 1 from by kernel_rfl]; decide) a
theorem fl14_0 (x0 x1 : Value) : pvField Tryz.prog 14 (.agg #[x0, x1]) 0 = some x0 := pvField_one (F := 9) (i := 0) (off := 0) (cs := [x0, x1]) (by unfold tyFld; rw [show tyD Tryz.prog 14 = _ from Tryz.underlying14]; rfl) (by rw [show tyD Tryz.prog 9 = _ from Tryz.underlying9]; rfl) rfl
theorem fa14_1 (a : Addr) : pvFA Tryz.prog 14 (.pointer (some a)) 1 = some (.pointer (some (a.add 1))) := pvFA_eq (F := 12) (by unfold tyFld; rw [show tyD Tryz.prog 14 = _ from Tryz.underlying14]; rfl) (by rw [show tySz Tryz.prog 12 = 1 from by kernel_rfl]; decide) a
theorem fl14_1 (x0 x1 : Value) : pvField Tryz.prog 14 (.agg #[x0, x1]) 1 = some x1 := pvField_one (F := 12) (i := 1) (off := 1) (cs := [x0, x1]) (by unfold tyFld; rw [show tyD Tryz.prog 14 = _ from Tryz.underlying14]; rfl) (by rw [show tyD Tryz.prog 12 = _ from Tryz.underlying12]; rfl) rfl
theorem ld15 (a : Addr) (G : GH) : pvLoad Tryz.prog 15 (.pointer (some a)) G = gcell G a := pvLoad_one ag15 a G
theorem st15 (rs : Array ResultVar) (K : Value → GH → Prop) (s : List It) (ops : List Oper) (md : Option GH) (d : Option Nat) (l : List Oper) (f : Fr) (G : GH) (a : Addr) (v : Value) (h : oneV v = true) : Yst Tryz.prog rs K s ops md d l f G 15 (.pointer (some a)) v = Yset Tryz.prog rs K s ops md d l f G a [v] := Yst_ptr rs K s ops md d l f G ⟨by rw [sz15]; decide, by rw [sz15]; rfl⟩ (one_cells h) (by simp [h])
theorem al15 (rs : Array ResultVar) (K : Value → GH → Prop) (s : List It) (ops : List Oper) (md : Option GH) (d : Option Nat) (l : List Oper) (f : Fr) (G : GH) : Yal Tryz.prog rs K s ops md d l f G 15 = Ynew' Tryz.prog rs K s ops md d l f G (.cells #[.pointer none] 15 (0, 0)) (fun r => .pointer (some ⟨r, 0, none⟩)) := Yal_eq rs K s ops md d l f G zv15
theorem ld16 (a : Addr) (G : GH) : pvLoad Tryz.prog 16 (.pointer (some a)) G = gcell G a := pvLoad_one ag16 a G
theorem st16 (rs : Array ResultVar) (K : Value → GH → Prop) (s : List It) (ops : List Oper) (md : Option GH) (d : Option Nat) (l : List Oper) (f : Fr) (G : GH) (a : Addr) (v : Value) (h : oneV v = true) : Yst Tryz.prog rs K s ops md d l f G 16 (.pointer (some a)) v = Yset Tryz.prog rs K s ops md d l f G a [v] := Yst_ptr rs K s ops md d l f G ⟨by rw [sz16]; decide, by rw [sz16]; rfl⟩ (one_cells h) (by simp [h])
theorem al16 (rs : Array ResultVar) (K : Value → GH → Prop) (s : List It) (ops : List Oper) (md : Option GH) (d : Option Nat) (l : List Oper) (f : Fr) (G : GH) : Yal Tryz.prog rs K s ops md d l f G 16 = Ynew' Tryz.prog rs K s ops md d l f G (.cells #[.pointer none] 16 (0, 0)) (fun r => .pointer (some ⟨r, 0, none⟩)) := Yal_eq rs K s ops md d l f G zv16
theorem ld17 (a : Addr) (G : GH) : pvLoad Tryz.prog 17 (.pointer (some a)) G = gcell G a := pvLoad_one ag17 a G
theorem st17 (rs : Array ResultVar) (K : Value → GH → Prop) (s : List It) (ops : List Oper) (md : Option GH) (d : Option Nat) (l : List Oper) (f : Fr) (G : GH) (a : Addr) (v : Value) (h : oneV v = true) : Yst Tryz.prog rs K s ops md d l f G 17 (.pointer (some a)) v = Yset Tryz.prog rs K s ops md d l f G a [v] := Yst_ptr rs K s ops md d l f G ⟨by rw [sz17]; decide, by rw [sz17]; rfl⟩ (one_cells h) (by simp [h])
theorem al17 (rs : Array ResultVar) (K : Value → GH → Prop) (s : List It) (ops : List Oper) (md : Option GH) (d : Option Nat) (l : List Oper) (f : Fr) (G : GH) : Yal Tryz.prog rs K s ops md d l f G 17 = Ynew' Tryz.prog rs K s ops md d l f G (.cells #[.pointer none] 17 (0, 0)) (fun r => .pointer (some ⟨r, 0, none⟩)) := Yal_eq rs K s ops md d l f G zv17
theorem ld18 (a : Addr) (G : GH) : pvLoad Tryz.prog 18 (.pointer (some a)) G = (gcells G a 1).map fun cs => .agg cs.toArray := pvLoad_agg ag18 sz18 (by decide) a G
theorem st18 (rs : Array ResultVar) (K : Value → GH → Prop) (s : List It) (ops : List Oper) (md : Option GH) (d : Option Nat) (l : List Oper) (f : Fr) (G : GH) (a : Addr) (x0 : Value) (h : [x0].all oneV = true) : Yst Tryz.prog rs K s ops md d l f G 18 (.pointer (some a)) (.agg #[x0]) = Yset Tryz.prog rs K s ops md d l f G a [x0] := Yst_ptr rs K s ops md d l f G ⟨by rw [sz18]; decide, by rw [sz18]; rfl⟩ rfl h
theorem al18 (rs : Array ResultVar) (K : Value → GH → Prop) (s : List It) (ops : List Oper) (md : Option GH) (d : Option Nat) (l : List Oper) (f : Fr) (G : GH) : Yal Tryz.prog rs K s ops md d l f G 18 = Ynew' Tryz.prog rs K s ops md d l f G (.cells #[.pointer none] 18 (0, 0)) (fun r => .pointer (some ⟨r, 0, none⟩)) := Yal_eq rs K s ops md d l f G zv18
theorem fa18_0 (a : Addr) : pvFA Tryz.prog 18 (.pointer (some a)) 0 = some (.pointer (some (a.add 0))) := pvFA_eq (F := 17) (by unfold tyFld; rw [show tyD Tryz.prog 18 = _ from Tryz.underlying18]; rfl) (by rw [show tySz Tryz.prog 17 = 1 from by kernel_rfl]; decide) a
theorem fl18_0 (x0 : Value) : pvField Tryz.prog 18 (.agg #[x0]) 0 = some x0 := pvField_one (F := 17) (i := 0) (off := 0) (cs := [x0]) (by unfold tyFld; rw [show tyD Tryz.prog 18 = _ from Tryz.underlying18]; rfl) (by rw [show tyD Tryz.prog 17 = _ from Tryz.underlying17]; rfl) rfl
theorem ld19 (a : Addr) (G : GH) : pvLoad Tryz.prog 19 (.pointer (some a)) G = (gcells G a 1).map fun cs => .agg cs.toArray := pvLoad_agg ag19 sz19 (by decide) a G
theorem st19 (rs : Array ResultVar) (K : Value → GH → Prop) (s : List It) (ops : List Oper) (md : Option GH) (d : Option Nat) (l : List Oper) (f : Fr) (G : GH) (a : Addr) (x0 : Value) (h : [x0].all oneV = true) : Yst Tryz.prog rs K s ops md d l f G 19 (.pointer (some a)) (.agg #[x0]) = Yset Tryz.prog rs K s ops md d l f G a [x0] := Yst_ptr rs K s ops md d l f G ⟨by rw [sz19]; decide, by rw [sz19]; rfl⟩ rfl h
theorem al19 (rs : Array ResultVar) (K : Value → GH → Prop) (s : List It) (ops : List Oper) (md : Option GH) (d : Option Nat) (l : List Oper) (f : Fr) (G : GH) : Yal Tryz.prog rs K s ops md d l f G 19 = Ynew' Tryz.prog rs K s ops md d l f G (.cells #[.pointer none] 19 (0, 0)) (fun r => .pointer (some ⟨r, 0, none⟩)) := Yal_eq rs K s ops md d l f G zv19
theorem fa19_0 (a : Addr) : pvFA Tryz.prog 19 (.pointer (some a)) 0 = some (.pointer (some (a.add 0))) := pvFA_eq (F := 17) (by unfold tyFld; rw [show tyD Tryz.prog 19 = _ from Tryz.underlying19]; rfl) (by rw [show tySz Tryz.prog 17 = 1 from by kernel_rfl]; decide) a
theorem fl19_0 (x0 : Value) : pvField Tryz.prog 19 (.agg #[x0]) 0 = some x0 := pvField_one (F := 17) (i := 0) (off := 0) (cs := [x0]) (by unfold tyFld; rw [show tyD Tryz.prog 19 = _ from Tryz.underlying19]; rfl) (by rw [show tyD Tryz.prog 17 = _ from Tryz.underlying17]; rfl) rfl
theorem ld21 (a : Addr) (G : GH) : pvLoad Tryz.prog 21 (.pointer (some a)) G = gcell G a := pvLoad_one ag21 a G
theorem st21 (rs : Array ResultVar) (K : Value → GH → Prop) (s : List It) (ops : List Oper) (md : Option GH) (d : Option Nat) (l : List Oper) (f : Fr) (G : GH) (a : Addr) (v : Value) (h : oneV v = true) : Yst Tryz.prog rs K s ops md d l f G 21 (.pointer (some a)) v = Yset Tryz.prog rs K s ops md d l f G a [v] := Yst_ptr rs K s ops md d l f G ⟨by rw [sz21]; decide, by rw [sz21]; rfl⟩ (one_cells h) (by simp [h])
theorem al21 (rs : Array ResultVar) (K : Value → GH → Prop) (s : List It) (ops : List Oper) (md : Option GH) (d : Option Nat) (l : List Oper) (f : Fr) (G : GH) : Yal Tryz.prog rs K s ops md d l f G 21 = Ynew' Tryz.prog rs K s ops md d l f G (.cells #[.int .i32 0] 21 (0, 0)) (fun r => .pointer (some ⟨r, 0, none⟩)) := Yal_eq rs K s ops md d l f G zv21
theorem ld22 (a : Addr) (G : GH) : pvLoad Tryz.prog 22 (.pointer (some a)) G = gcell G a := pvLoad_one ag22 a G
theorem st22 (rs : Array ResultVar) (K : Value → GH → Prop) (s : List It) (ops : List Oper) (md : Option GH) (d : Option Nat) (l : List Oper) (f : Fr) (G : GH) (a : Addr) (v : Value) (h : oneV v = true) : Yst Tryz.prog rs K s ops md d l f G 22 (.pointer (some a)) v = Yset Tryz.prog rs K s ops md d l f G a [v] := Yst_ptr rs K s ops md d l f G ⟨by rw [sz22]; decide, by rw [sz22]; rfl⟩ (one_cells h) (by simp [h])
theorem al22 (rs : Array ResultVar) (K : Value → GH → Prop) (s : List It) (ops : List Oper) (md : Option GH) (d : Option Nat) (l : List Oper) (f : Fr) (G : GH) : Yal Tryz.prog rs K s ops md d l f G 22 = Ynew' Tryz.prog rs K s ops md d l f G (.cells #[.slice none 0 0] 22 (0, 0)) (fun r => .pointer (some ⟨r, 0, none⟩)) := Yal_eq rs K s ops md d l f G zv22
theorem ia22 (ad : Addr) (m c : Nat) (k : IntKind) (j : Int) : pvIA Tryz.prog 22 (.slice (some ad) m c) (.int k j) = if 0 ≤ j ∧ j < m then some (.pointer (some (ad.add (j.toNat * 3)))) else none := pvIA_slice Tryz.underlying22 (by kernel_rfl) (by decide) ad m c k j
theorem ln22 (a : Option Addr) (n c : Nat) : pvB1 Tryz.prog .len [22] [.slice a n c] = some (.int .i64 n) := pvLen_slice Tryz.underlying22 a n c
theorem cp22 (a : Option Addr) (n c : Nat) : pvB1 Tryz.prog .cap [22] [.slice a n c] = some (.int .i64 c) := pvCap_slice Tryz.underlying22 a n c
theorem sxh22 (a : Option Addr) (n c : Nat) (k : IntKind) (h : Int) : pvSlice Tryz.prog 22 (.slice a n c) none (some (.int k h)) none = if 0 ≤ h ∧ h ≤ c then some (.slice a h.toNat c) else none := pvSl_h Tryz.underlying22 (by rw [show tySz Tryz.prog 59 = 3 from sz59]; decide) a n c k h
theorem sxl22 (a : Option Addr) (n c : Nat) (k : IntKind) (l : Int) : pvSlice Tryz.prog 22 (.slice a n c) (some (.int k l)) none none = if 0 ≤ l ∧ l ≤ n then some (.slice (if c = l.toNat then a else a.map (·.add (l.toNat * 3))) (n - l.toNat) (c - l.toNat)) else none := by rw [pvSl_l Tryz.underlying22 (by rw [show tySz Tryz.prog 59 = 3 from sz59]; decide) a n c k l, sz59]
theorem sxb22 (a : Option Addr) (n c : Nat) (k k2 : IntKind) (l h : Int) : pvSlice Tryz.prog 22 (.slice a n c) (some (.int k l)) (some (.int k2 h)) none = if (0 ≤ h ∧ h ≤ c) ∧ 0 ≤ l ∧ l ≤ h then some (.slice (if c = l.toNat then a else a.map (·.add (l.toNat * 3))) (h.toNat - l.toNat) (c - l.toNat)) else none := by rw [pvSl_lh Tryz.underlying22 (by rw [show tySz Tryz.prog 59 = 3 from sz59]; decide) a n c k k2 l h, sz59]
theorem sxm22 (a : Option Addr) (n c : Nat) (k k2 : IntKind) (h m : Int) : pvSlice Tryz.prog 22 (.slice a n c) none (some (.int k h)) (some (.int k2 m)) = if (0 ≤ m ∧ m ≤ c) ∧ 0 ≤ h ∧ h ≤ m then some (.slice a h.toNat m.toNat) else none := pvSl_hm Tryz.underlying22 (by rw [show tySz Tryz.prog 59 = 3 from sz59]; decide) a n c k k2 h m
theorem sn22 (x y : Operand) (a : Option Addr) (n c m d : Nat) : pvB Tryz.prog .eql 22 x y (.slice a n c) (.slice none m d) = some (.bool a.isNone) := pvB_slnil Tryz.underlying22 x y a n c m d
theorem snn22 (x y : Operand) (a : Option Addr) (n c m d : Nat) : pvB Tryz.prog .neq 22 x y (.slice a n c) (.slice none m d) = some (.bool (!a.isNone)) := pvB_slnnil Tryz.underlying22 x y a n c m d
theorem ld23 (a : Addr) (G : GH) : pvLoad Tryz.prog 23 (.pointer (some a)) G = gcell G a := pvLoad_one ag23 a G
theorem st23 (rs : Array ResultVar) (K : Value → GH → Prop) (s : List It) (ops : List Oper) (md : Option GH) (d : Option Nat) (l : List Oper) (f : Fr) (G : GH) (a : Addr) (v : Value) (h : oneV v = true) : Yst Tryz.prog rs K s ops md d l f G 23 (.pointer (some a)) v = Yset Tryz.prog rs K s ops md d l f G a [v] := Yst_ptr rs K s ops md d l f G ⟨by rw [sz23]; decide, by rw [sz23]; rfl⟩ (one_cells h) (by simp [h])
theorem al23 (rs : Array ResultVar) (K : Value → GH → Prop) (s : List It) (ops : List Oper) (md : Option GH) (d : Option Nat) (l : List Oper) (f : Fr) (G : GH) : Yal Tryz.prog rs K s ops md d l f G 23 = Ynew' Tryz.prog rs K s ops md d l f G (.cells #[.slice none 0 0] 23 (0, 0)) (fun r => .pointer (some ⟨r, 0, none⟩)) := Yal_eq rs K s ops md d l f G zv23
theorem ia23 (ad : Addr) (m c : Nat) (k : IntKind) (j : Int) : pvIA Tryz.prog 23 (.slice (some ad) m c) (.int k j) = if 0 ≤ j ∧ j < m then some (.pointer (some (ad.add (j.toNat * 5)))) else none := pvIA_slice Tryz.underlying23 (by kernel_rfl) (by decide) ad m c k j
theorem ln23 (a : Option Addr) (n c : Nat) : pvB1 Tryz.prog .len [23] [.slice a n c] = some (.int .i64 n) := pvLen_slice Tryz.underlying23 a n c
theorem cp23 (a : Option Addr) (n c : Nat) : pvB1 Tryz.prog .cap [23] [.slice a n c] = some (.int .i64 c) := pvCap_slice Tryz.underlying23 a n c
theorem sxh23 (a : Option Addr) (n c : Nat) (k : IntKind) (h : Int) : pvSlice Tryz.prog 23 (.slice a n c) none (some (.int k h)) none = if 0 ≤ h ∧ h ≤ c then some (.slice a h.toNat c) else none := pvSl_h Tryz.underlying23 (by rw [show tySz Tryz.prog 56 = 5 from sz56]; decide) a n c k h
theorem sxl23 (a : Option Addr) (n c : Nat) (k : IntKind) (l : Int) : pvSlice Tryz.prog 23 (.slice a n c) (some (.int k l)) none none = if 0 ≤ l ∧ l ≤ n then some (.slice (if c = l.toNat then a else a.map (·.add (l.toNat * 5))) (n - l.toNat) (c - l.toNat)) else none := by rw [pvSl_l Tryz.underlying23 (by rw [show tySz Tryz.prog 56 = 5 from sz56]; decide) a n c k l, sz56]
theorem sxb23 (a : Option Addr) (n c : Nat) (k k2 : IntKind) (l h : Int) : pvSlice Tryz.prog 23 (.slice a n c) (some (.int k l)) (some (.int k2 h)) none = if (0 ≤ h ∧ h ≤ c) ∧ 0 ≤ l ∧ l ≤ h then some (.slice (if c = l.toNat then a else a.map (·.add (l.toNat * 5))) (h.toNat - l.toNat) (c - l.toNat)) else none := by rw [pvSl_lh Tryz.underlying23 (by rw [show tySz Tryz.prog 56 = 5 from sz56]; decide) a n c k k2 l h, sz56]
theorem sxm23 (a : Option Addr) (n c : Nat) (k k2 : IntKind) (h m : Int) : pvSlice Tryz.prog 23 (.slice a n c) none (some (.int k h)) (some (.int k2 m)) = if (0 ≤ m ∧ m ≤ c) ∧ 0 ≤ h ∧ h ≤ m then some (.slice a h.toNat m.toNat) else none := pvSl_hm Tryz.underlying23 (by rw [show tySz Tryz.prog 56 = 5 from sz56]; decide) a n c k k2 h m
theorem sn23 (x y : Operand) (a : Option Addr) (n c m d : Nat) : pvB Tryz.prog .eql 23 x y (.slice a n c) (.slice none m d) = some (.bool a.isNone) := pvB_slnil Tryz.underlying23 x y a n c m d
theorem snn23 (x y : Operand) (a : Option Addr) (n c m d : Nat) : pvB Tryz.prog .neq 23 x y (.slice a n c) (.slice none m d) = some (.bool (!a.isNone)) := pvB_slnnil Tryz.underlying23 x y a n c m d
theorem ld24 (a : Addr) (G : GH) : pvLoad Tryz.prog 24 (.pointer (some a)) G = gcell G a := pvLoad_one ag24 a G
theorem st24 (rs : Array ResultVar) (K : Value → GH → Prop) (s : List It) (ops : List Oper) (md : Option GH) (d : Option Nat) (l : List Oper) (f : Fr) (G : GH) (a : Addr) (v : Value) (h : oneV v = true) : Yst Tryz.prog rs K s ops md d l f G 24 (.pointer (some a)) v = Yset Tryz.prog rs K s ops md d l f G a [v] := Yst_ptr rs K s ops md d l f G ⟨by rw [sz24]; decide, by rw [sz24]; rfl⟩ (one_cells h) (by simp [h])
theorem al24 (rs : Array ResultVar) (K : Value → GH → Prop) (s : List It) (ops : List Oper) (md : Option GH) (d : Option Nat) (l : List Oper) (f : Fr) (G : GH) : Yal Tryz.prog rs K s ops md d l f G 24 = Ynew' Tryz.prog rs K s ops md d l f G (.cells #[.slice none 0 0] 24 (0, 0)) (fun r => .pointer (some ⟨r, 0, none⟩)) := Yal_eq rs K s ops md d l f G zv24
theorem ia24 (ad : Addr) (m c : Nat) (k : IntKind) (j : Int) : pvIA Tryz.prog 24 (.slice (some ad) m c) (.int k j) = if 0 ≤ j ∧ j < m then some (.pointer (some (ad.add (j.toNat * 2)))) else none := pvIA_slice Tryz.underlying24 (by kernel_rfl) (by decide) ad m c k j
theorem ln24 (a : Option Addr) (n c : Nat) : pvB1 Tryz.prog .len [24] [.slice a n c] = some (.int .i64 n) := pvLen_slice Tryz.underlying24 a n c
theorem cp24 (a : Option Addr) (n c : Nat) : pvB1 Tryz.prog .cap [24] [.slice a n c] = some (.int .i64 c) := pvCap_slice Tryz.underlying24 a n c
theorem sxh24 (a : Option Addr) (n c : Nat) (k : IntKind) (h : Int) : pvSlice Tryz.prog 24 (.slice a n c) none (some (.int k h)) none = if 0 ≤ h ∧ h ≤ c then some (.slice a h.toNat c) else none := pvSl_h Tryz.underlying24 (by rw [show tySz Tryz.prog 62 = 2 from sz62]; decide) a n c k h
theorem sxl24 (a : Option Addr) (n c : Nat) (k : IntKind) (l : Int) : pvSlice Tryz.prog 24 (.slice a n c) (some (.int k l)) none none = if 0 ≤ l ∧ l ≤ n then some (.slice (if c = l.toNat then a else a.map (·.add (l.toNat * 2))) (n - l.toNat) (c - l.toNat)) else none := by rw [pvSl_l Tryz.underlying24 (by rw [show tySz Tryz.prog 62 = 2 from sz62]; decide) a n c k l, sz62]
theorem sxb24 (a : Option Addr) (n c : Nat) (k k2 : IntKind) (l h : Int) : pvSlice Tryz.prog 24 (.slice a n c) (some (.int k l)) (some (.int k2 h)) none = if (0 ≤ h ∧ h ≤ c) ∧ 0 ≤ l ∧ l ≤ h then some (.slice (if c = l.toNat then a else a.map (·.add (l.toNat * 2))) (h.toNat - l.toNat) (c - l.toNat)) else none := by rw [pvSl_lh Tryz.underlying24 (by rw [show tySz Tryz.prog 62 = 2 from sz62]; decide) a n c k k2 l h, sz62]
theorem sxm24 (a : Option Addr) (n c : Nat) (k k2 : IntKind) (h m : Int) : pvSlice Tryz.prog 24 (.slice a n c) none (some (.int k h)) (some (.int k2 m)) = if (0 ≤ m ∧ m ≤ c) ∧ 0 ≤ h ∧ h ≤ m then some (.slice a h.toNat m.toNat) else none := pvSl_hm Tryz.underlying24 (by rw [show tySz Tryz.prog 62 = 2 from sz62]; decide) a n c k k2 h m
theorem sn24 (x y : Operand) (a : Option Addr) (n c m d : Nat) : pvB Tryz.prog .eql 24 x y (.slice a n c) (.slice none m d) = some (.bool a.isNone) := pvB_slnil Tryz.underlying24 x y a n c m d
theorem snn24 (x y : Operand) (a : Option Addr) (n c m d : Nat) : pvB Tryz.prog .neq 24 x y (.slice a n c) (.slice none m d) = some (.bool (!a.isNone)) := pvB_slnnil Tryz.underlying24 x y a n c m d
theorem ld25 (a : Addr) (G : GH) : pvLoad Tryz.prog 25 (.pointer (some a)) G = (gcells G a 3).map fun cs => .agg cs.toArray := pvLoad_agg ag25 sz25 (by decide) a G
theorem st25 (rs : Array ResultVar) (K : Value → GH → Prop) (s : List It) (ops : List Oper) (md : Option GH) (d : Option Nat) (l : List Oper) (f : Fr) (G : GH) (a : Addr) (x0 x1 x2 : Value) (h : [x0, x1, x2].all oneV = true) : Yst Tryz.prog rs K s ops md d l f G 25 (.pointer (some a)) (.agg #[x0, x1, x2]) = Yset Tryz.prog rs K s ops md d l f G a [x0, x1, x2] := Yst_ptr rs K s ops md d l f G ⟨by rw [sz25]; decide, by rw [sz25]; rfl⟩ rfl h
theorem al25 (rs : Array ResultVar) (K : Value → GH → Prop) (s : List It) (ops : List Oper) (md : Option GH) (d : Option Nat) (l : List Oper) (f : Fr) (G : GH) : Yal Tryz.prog rs K s ops md d l f G 25 = Ynew' Tryz.prog rs K s ops md d l f G (.cells #[.slice none 0 0, .slice none 0 0, .slice none 0 0] 25 (0, 0)) (fun r => .pointer (some ⟨r, 0, none⟩)) := Yal_eq rs K s ops md d l f G zv25
theorem fa25_0 (a : Addr) : pvFA Tryz.prog 25 (.pointer (some a)) 0 = some (.pointer (some (a.add 0))) := pvFA_eq (F := 22) (by unfold tyFld; rw [show tyD Tryz.prog 25 = _ from Tryz.underlying25]; rfl) (by rw [show tySz Tryz.prog 22 = 1 from by kernel_rfl]; decide) a
theorem fl25_0 (x0 x1 x2 : Value) : pvField Tryz.prog 25 (.agg #[x0, x1, x2]) 0 = some x0 := pvField_one (F := 22) (i := 0) (off := 0) (cs := [x0, x1, x2]) (by unfold tyFld; rw [show tyD Tryz.prog 25 = _ from Tryz.underlying25]; rfl) (by rw [show tyD Tryz.prog 22 = _ from Tryz.underlying22]; rfl) rfl
theorem fa25_1 (a : Addr) : pvFA Tryz.prog 25 (.pointer (some a)) 1 = some (.pointer (some (a.add 1))) := pvFA_eq (F := 23) (by unfold tyFld; rw [show tyD Tryz.prog 25 = _ from Tryz.underlying25]; rfl) (by rw [show tySz Tryz.prog 23 = 1 from by kernel_rfl]; decide) a
theorem fl25_1 (x0 x1 x2 : Value) : pvField Tryz.prog 25 (.agg #[x0, x1, x2]) 1 = some x1 := pvField_one (F := 23) (i := 1) (off := 1) (cs := [x0, x1, x2]) (by unfold tyFld; rw [show tyD Tryz.prog 25 = _ from Tryz.underlying25]; rfl) (by rw [show tyD Tryz.prog 23 = _ from Tryz.underlying23]; rfl) rfl
theorem fa25_2 (a : Addr) : pvFA Tryz.prog 25 (.pointer (some a)) 2 = some (.pointer (some (a.add 2))) := pvFA_eq (F := 24) (by unfold tyFld; rw [show tyD Tryz.prog 25 = _ from Tryz.underlying25]; rfl) (by rw [show tySz Tryz.prog 24 = 1 from by kernel_rfl]; decide) a
theorem fl25_2 (x0 x1 x2 : Value) : pvField Tryz.prog 25 (.agg #[x0, x1, x2]) 2 = some x2 := pvField_one (F := 24) (i := 2) (off := 2) (cs := [x0, x1, x2]) (by unfold tyFld; rw [show tyD Tryz.prog 25 = _ from Tryz.underlying25]; rfl) (by rw [show tyD Tryz.prog 24 = _ from Tryz.underlying24]; rfl) rfl
theorem ld26 (a : Addr) (G : GH) : pvLoad Tryz.prog 26 (.pointer (some a)) G = (gcells G a 3).map fun cs => .agg cs.toArray := pvLoad_agg ag26 sz26 (by decide) a G
theorem st26 (rs : Array ResultVar) (K : Value → GH → Prop) (s : List It) (ops : List Oper) (md : Option GH) (d : Option Nat) (l : List Oper) (f : Fr) (G : GH) (a : Addr) (x0 x1 x2 : Value) (h : [x0, x1, x2].all oneV = true) : Yst Tryz.prog rs K s ops md d l f G 26 (.pointer (some a)) (.agg #[x0, x1, x2]) = Yset Tryz.prog rs K s ops md d l f G a [x0, x1, x2] := Yst_ptr rs K s ops md d l f G ⟨by rw [sz26]; decide, by rw [sz26]; rfl⟩ rfl h
theorem al26 (rs : Array ResultVar) (K : Value → GH → Prop) (s : List It) (ops : List Oper) (md : Option GH) (d : Option Nat) (l : List Oper) (f : Fr) (G : GH) : Yal Tryz.prog rs K s ops md d l f G 26 = Ynew' Tryz.prog rs K s ops md d l f G (.cells #[.slice none 0 0, .slice none 0 0, .slice none 0 0] 26 (0, 0)) (fun r => .pointer (some ⟨r, 0, none⟩)) := Yal_eq rs K s ops md d l f G zv26
theorem fa26_0 (a : Addr) : pvFA Tryz.prog 26 (.pointer (some a)) 0 = some (.pointer (some (a.add 0))) := pvFA_eq (F := 22) (by unfold tyFld; rw [show tyD Tryz.prog 26 = _ from Tryz.underlying26]; rfl) (by rw [show tySz Tryz.prog 22 = 1 from by kernel_rfl]; decide) a
theorem fl26_0 (x0 x1 x2 : Value) : pvField Tryz.prog 26 (.agg #[x0, x1, x2]) 0 = some x0 := pvField_one (F := 22) (i := 0) (off := 0) (cs := [x0, x1, x2]) (by unfold tyFld; rw [show tyD Tryz.prog 26 = _ from Tryz.underlying26]; rfl) (by rw [show tyD Tryz.prog 22 = _ from Tryz.underlying22]; rfl) rfl
theorem fa26_1 (a : Addr) : pvFA Tryz.prog 26 (.pointer (some a)) 1 = some (.pointer (some (a.add 1))) := pvFA_eq (F := 23) (by unfold tyFld; rw [show tyD Tryz.prog 26 = _ from Tryz.underlying26]; rfl) (by rw [show tySz Tryz.prog 23 = 1 from by kernel_rfl]; decide) a
theorem fl26_1 (x0 x1 x2 : Value) : pvField Tryz.prog 26 (.agg #[x0, x1, x2]) 1 = some x1 := pvField_one (F := 23) (i := 1) (off := 1) (cs := [x0, x1, x2]) (by unfold tyFld; rw [show tyD Tryz.prog 26 = _ from Tryz.underlying26]; rfl) (by rw [show tyD Tryz.prog 23 = _ from Tryz.underlying23]; rfl) rfl
theorem fa26_2 (a : Addr) : pvFA Tryz.prog 26 (.pointer (some a)) 2 = some (.pointer (some (a.add 2))) := pvFA_eq (F := 24) (by unfold tyFld; rw [show tyD Tryz.prog 26 = _ from Tryz.underlying26]; rfl) (by rw [show tySz Tryz.prog 24 = 1 from by kernel_rfl]; decide) a
theorem fl26_2 (x0 x1 x2 : Value) : pvField Tryz.prog 26 (.agg #[x0, x1, x2]) 2 = some x2 := pvField_one (F := 24) (i := 2) (off := 2) (cs := [x0, x1, x2]) (by unfold tyFld; rw [show tyD Tryz.prog 26 = _ from Tryz.underlying26]; rfl) (by rw [show tyD Tryz.prog 24 = _ from Tryz.underlying24]; rfl) rfl
theorem ld27 (a : Addr) (G : GH) : pvLoad Tryz.prog 27 (.pointer (some a)) G = gcell G a := pvLoad_one ag27 a G
theorem st27 (rs : Array ResultVar) (K : Value → GH → Prop) (s : List It) (ops : List Oper) (md : Option GH) (d : Option Nat) (l : List Oper) (f : Fr) (G : GH) (a : Addr) (v : Value) (h : oneV v = true) : Yst Tryz.prog rs K s ops md d l f G 27 (.pointer (some a)) v = Yset Tryz.prog rs K s ops md d l f G a [v] := Yst_ptr rs K s ops md d l f G ⟨by rw [sz27]; decide, by rw [sz27]; rfl⟩ (one_cells h) (by simp [h])
theorem al27 (rs : Array ResultVar) (K : Value → GH → Prop) (s : List It) (ops : List Oper) (md : Option GH) (d : Option Nat) (l : List Oper) (f : Fr) (G : GH) : Yal Tryz.prog rs K s ops md d l f G 27 = Ynew' Tryz.prog rs K s ops md d l f G (.cells #[.slice none 0 0] 27 (0, 0)) (fun r => .pointer (some ⟨r, 0, none⟩)) := Yal_eq rs K s ops md d l f G zv27
theorem ia27 (ad : Addr) (m c : Nat) (k : IntKind) (j : Int) : pvIA Tryz.prog 27 (.slice (some ad) m c) (.int k j) = if 0 ≤ j ∧ j < m then some (.pointer (some (ad.add (j.toNat * 1)))) else none := pvIA_slice Tryz.underlying27 (by kernel_rfl) (by decide) ad m c k j
theorem ln27 (a : Option Addr) (n c : Nat) : pvB1 Tryz.prog .len [27] [.slice a n c] = some (.int .i64 n) := pvLen_slice Tryz.underlying27 a n c
theorem cp27 (a : Option Addr) (n c : Nat) : pvB1 Tryz.prog .cap [27] [.slice a n c] = some (.int .i64 c) := pvCap_slice Tryz.underlying27 a n c
theorem sxh27 (a : Option Addr) (n c : Nat) (k : IntKind) (h : Int) : pvSlice Tryz.prog 27 (.slice a n c) none (some (.int k h)) none = if 0 ≤ h ∧ h ≤ c then some (.slice a h.toNat c) else none := pvSl_h Tryz.underlying27 (by rw [show tySz Tryz.prog 9 = 1 from sz9]; decide) a n c k h
theorem sxl27 (a : Option Addr) (n c : Nat) (k : IntKind) (l : Int) : pvSlice Tryz.prog 27 (.slice a n c) (some (.int k l)) none none = if 0 ≤ l ∧ l ≤ n then some (.slice (if c = l.toNat then a else a.map (·.add (l.toNat * 1))) (n - l.toNat) (c - l.toNat)) else none := by rw [pvSl_l Tryz.underlying27 (by rw [show tySz Tryz.prog 9 = 1 from sz9]; decide) a n c k l, sz9]
theorem sxb27 (a : Option Addr) (n c : Nat) (k k2 : IntKind) (l h : Int) : pvSlice Tryz.prog 27 (.slice a n c) (some (.int k l)) (some (.int k2 h)) none = if (0 ≤ h ∧ h ≤ c) ∧ 0 ≤ l ∧ l ≤ h then some (.slice (if c = l.toNat then a else a.map (·.add (l.toNat * 1))) (h.toNat - l.toNat) (c - l.toNat)) else none := by rw [pvSl_lh Tryz.underlying27 (by rw [show tySz Tryz.prog 9 = 1 from sz9]; decide) a n c k k2 l h, sz9]
theorem sxm27 (a : Option Addr) (n c : Nat) (k k2 : IntKind) (h m : Int) : pvSlice Tryz.prog 27 (.slice a n c) none (some (.int k h)) (some (.int k2 m)) = if (0 ≤ m ∧ m ≤ c) ∧ 0 ≤ h ∧ h ≤ m then some (.slice a h.toNat m.toNat) else none := pvSl_hm Tryz.underlying27 (by rw [show tySz Tryz.prog 9 = 1 from sz9]; decide) a n c k k2 h m
theorem sn27 (x y : Operand) (a : Option Addr) (n c m d : Nat) : pvB Tryz.prog .eql 27 x y (.slice a n c) (.slice none m d) = some (.bool a.isNone) := pvB_slnil Tryz.underlying27 x y a n c m d
theorem snn27 (x y : Operand) (a : Option Addr) (n c m d : Nat) : pvB Tryz.prog .neq 27 x y (.slice a n c) (.slice none m d) = some (.bool (!a.isNone)) := pvB_slnnil Tryz.underlying27 x y a n c m d
theorem ld28 (a : Addr) (G : GH) : pvLoad Tryz.prog 28 (.pointer (some a)) G = gcell G a := pvLoad_one ag28 a G
theorem st28 (rs : Array ResultVar) (K : Value → GH → Prop) (s : List It) (ops : List Oper) (md : Option GH) (d : Option Nat) (l : List Oper) (f : Fr) (G : GH) (a : Addr) (v : Value) (h : oneV v = true) : Yst Tryz.prog rs K s ops md d l f G 28 (.pointer (some a)) v = Yset Tryz.prog rs K s ops md d l f G a [v] := Yst_ptr rs K s ops md d l f G ⟨by rw [sz28]; decide, by rw [sz28]; rfl⟩ (one_cells h) (by simp [h])
theorem al28 (rs : Array ResultVar) (K : Value → GH → Prop) (s : List It) (ops : List Oper) (md : Option GH) (d : Option Nat) (l : List Oper) (f : Fr) (G : GH) : Yal Tryz.prog rs K s ops md d l f G 28 = Ynew' Tryz.prog rs K s ops md d l f G (.cells #[.slice none 0 0] 28 (0, 0)) (fun r => .pointer (some ⟨r, 0, none⟩)) := Yal_eq rs K s ops md d l f G zv28
theorem ia28 (ad : Addr) (m c : Nat) (k : IntKind) (j : Int) : pvIA Tryz.prog 28 (.slice (some ad) m c) (.int k j) = if 0 ≤ j ∧ j < m then some (.pointer (some (ad.add (j.toNat * 1)))) else none := pvIA_slice Tryz.underlying28 (by kernel_rfl) (by decide) ad m c k j
theorem ln28 (a : Option Addr) (n c : Nat) : pvB1 Tryz.prog .len [28] [.slice a n c] = some (.int .i64 n) := pvLen_slice Tryz.underlying28 a n c
theorem cp28 (a : Option Addr) (n c : Nat) : pvB1 Tryz.prog .cap [28] [.slice a n c] = some (.int .i64 c) := pvCap_slice Tryz.underlying28 a n c
theorem sxh28 (a : Option Addr) (n c : Nat) (k : IntKind) (h : Int) : pvSlice Tryz.prog 28 (.slice a n c) none (some (.int k h)) none = if 0 ≤ h ∧ h ≤ c then some (.slice a h.toNat c) else none := pvSl_h Tryz.underlying28 (by rw [show tySz Tryz.prog 3 = 1 from sz3]; decide) a n c k h
theorem sxl28 (a : Option Addr) (n c : Nat) (k : IntKind) (l : Int) : pvSlice Tryz.prog 28 (.slice a n c) (some (.int k l)) none none = if 0 ≤ l ∧ l ≤ n then some (.slice (if c = l.toNat then a else a.map (·.add (l.toNat * 1))) (n - l.toNat) (c - l.toNat)) else none := by rw [pvSl_l Tryz.underlying28 (by rw [show tySz Tryz.prog 3 = 1 from sz3]; decide) a n c k l, sz3]
theorem sxb28 (a : Option Addr) (n c : Nat) (k k2 : IntKind) (l h : Int) : pvSlice Tryz.prog 28 (.slice a n c) (some (.int k l)) (some (.int k2 h)) none = if (0 ≤ h ∧ h ≤ c) ∧ 0 ≤ l ∧ l ≤ h then some (.slice (if c = l.toNat then a else a.map (·.add (l.toNat * 1))) (h.toNat - l.toNat) (c - l.toNat)) else none := by rw [pvSl_lh Tryz.underlying28 (by rw [show tySz Tryz.prog 3 = 1 from sz3]; decide) a n c k k2 l h, sz3]
theorem sxm28 (a : Option Addr) (n c : Nat) (k k2 : IntKind) (h m : Int) : pvSlice Tryz.prog 28 (.slice a n c) none (some (.int k h)) (some (.int k2 m)) = if (0 ≤ m ∧ m ≤ c) ∧ 0 ≤ h ∧ h ≤ m then some (.slice a h.toNat m.toNat) else none := pvSl_hm Tryz.underlying28 (by rw [show tySz Tryz.prog 3 = 1 from sz3]; decide) a n c k k2 h m
theorem sn28 (x y : Operand) (a : Option Addr) (n c m d : Nat) : pvB Tryz.prog .eql 28 x y (.slice a n c) (.slice none m d) = some (.bool a.isNone) := pvB_slnil Tryz.underlying28 x y a n c m d
theorem snn28 (x y : Operand) (a : Option Addr) (n c m d : Nat) : pvB Tryz.prog .neq 28 x y (.slice a n c) (.slice none m d) = some (.bool (!a.isNone)) := pvB_slnnil Tryz.underlying28 x y a n c m d
theorem ld29 (a : Addr) (G : GH) : pvLoad Tryz.prog 29 (.pointer (some a)) G = gcell G a := pvLoad_one ag29 a G
theorem st29 (rs : Array ResultVar) (K : Value → GH → Prop) (s : List It) (ops : List Oper) (md : Option GH) (d : Option Nat) (l : List Oper) (f : Fr) (G : GH) (a : Addr) (v : Value) (h : oneV v = true) : Yst Tryz.prog rs K s ops md d l f G 29 (.pointer (some a)) v = Yset Tryz.prog rs K s ops md d l f G a [v] := Yst_ptr rs K s ops md d l f G ⟨by rw [sz29]; decide, by rw [sz29]; rfl⟩ (one_cells h) (by simp [h])
theorem al29 (rs : Array ResultVar) (K : Value → GH → Prop) (s : List It) (ops : List Oper) (md : Option GH) (d : Option Nat) (l : List Oper) (f : Fr) (G : GH) : Yal Tryz.prog rs K s ops md d l f G 29 = Ynew' Tryz.prog rs K s ops md d l f G (.cells #[.int .i64 0] 29 (0, 0)) (fun r => .pointer (some ⟨r, 0, none⟩)) := Yal_eq rs K s ops md d l f G zv29
theorem ld49 (a : Addr) (G : GH) : pvLoad Tryz.prog 49 (.pointer (some a)) G = gcell G a := pvLoad_one ag49 a G
theorem st49 (rs : Array ResultVar) (K : Value → GH → Prop) (s : List It) (ops : List Oper) (md : Option GH) (d : Option Nat) (l : List Oper) (f : Fr) (G : GH) (a : Addr) (v : Value) (h : oneV v = true) : Yst Tryz.prog rs K s ops md d l f G 49 (.pointer (some a)) v = Yset Tryz.prog rs K s ops md d l f G a [v] := Yst_ptr rs K s ops md d l f G ⟨by rw [sz49]; decide, by rw [sz49]; rfl⟩ (one_cells h) (by simp [h])
theorem al49 (rs : Array ResultVar) (K : Value → GH → Prop) (s : List It) (ops : List Oper) (md : Option GH) (d : Option Nat) (l : List Oper) (f : Fr) (G : GH) : Yal Tryz.prog rs K s ops md d l f G 49 = Ynew' Tryz.prog rs K s ops md d l f G (.cells #[.pointer none] 49 (0, 0)) (fun r => .pointer (some ⟨r, 0, none⟩)) := Yal_eq rs K s ops md d l f G zv49
theorem ld53 (a : Addr) (G : GH) : pvLoad Tryz.prog 53 (.pointer (some a)) G = gcell G a := pvLoad_one ag53 a G
theorem st53 (rs : Array ResultVar) (K : Value → GH → Prop) (s : List It) (ops : List Oper) (md : Option GH) (d : Option Nat) (l : List Oper) (f : Fr) (G : GH) (a : Addr) (v : Value) (h : oneV v = true) : Yst Tryz.prog rs K s ops md d l f G 53 (.pointer (some a)) v = Yset Tryz.prog rs K s ops md d l f G a [v] := Yst_ptr rs K s ops md d l f G ⟨by rw [sz53]; decide, by rw [sz53]; rfl⟩ (one_cells h) (by simp [h])
theorem al53 (rs : Array ResultVar) (K : Value → GH → Prop) (s : List It) (ops : List Oper) (md : Option GH) (d : Option Nat) (l : List Oper) (f : Fr) (G : GH) : Yal Tryz.prog rs K s ops md d l f G 53 = Ynew' Tryz.prog rs K s ops md d l f G (.cells #[.pointer none] 53 (0, 0)) (fun r => .pointer (some ⟨r, 0, none⟩)) := Yal_eq rs K s ops md d l f G zv53
theorem ld54 (a : Addr) (G : GH) : pvLoad Tryz.prog 54 (.pointer (some a)) G = gcell G a := pvLoad_one ag54 a G
theorem st54 (rs : Array ResultVar) (K : Value → GH → Prop) (s : List It) (ops : List Oper) (md : Option GH) (d : Option Nat) (l : List Oper) (f : Fr) (G : GH) (a : Addr) (v : Value) (h : oneV v = true) : Yst Tryz.prog rs K s ops md d l f G 54 (.pointer (some a)) v = Yset Tryz.prog rs K s ops md d l f G a [v] := Yst_ptr rs K s ops md d l f G ⟨by rw [sz54]; decide, by rw [sz54]; rfl⟩ (one_cells h) (by simp [h])
theorem al54 (rs : Array ResultVar) (K : Value → GH → Prop) (s : List It) (ops : List Oper) (md : Option GH) (d : Option Nat) (l : List Oper) (f : Fr) (G : GH) : Yal Tryz.prog rs K s ops md d l f G 54 = Ynew' Tryz.prog rs K s ops md d l f G (.cells #[.slice none 0 0] 54 (0, 0)) (fun r => .pointer (some ⟨r, 0, none⟩)) := Yal_eq rs K s ops md d l f G zv54
theorem ia54 (ad : Addr) (m c : Nat) (k : IntKind) (j : Int) : pvIA Tryz.prog 54 (.slice (some ad) m c) (.int k j) = if 0 ≤ j ∧ j < m then some (.pointer (some (ad.add (j.toNat * 2)))) else none := pvIA_slice Tryz.underlying54 (by kernel_rfl) (by decide) ad m c k j
theorem ln54 (a : Option Addr) (n c : Nat) : pvB1 Tryz.prog .len [54] [.slice a n c] = some (.int .i64 n) := pvLen_slice Tryz.underlying54 a n c
theorem cp54 (a : Option Addr) (n c : Nat) : pvB1 Tryz.prog .cap [54] [.slice a n c] = some (.int .i64 c) := pvCap_slice Tryz.underlying54 a n c
theorem sxh54 (a : Option Addr) (n c : Nat) (k : IntKind) (h : Int) : pvSlice Tryz.prog 54 (.slice a n c) none (some (.int k h)) none = if 0 ≤ h ∧ h ≤ c then some (.slice a h.toNat c) else none := pvSl_h Tryz.underlying54 (by rw [show tySz Tryz.prog 70 = 2 from sz70]; decide) a n c k h
theorem sxl54 (a : Option Addr) (n c : Nat) (k : IntKind) (l : Int) : pvSlice Tryz.prog 54 (.slice a n c) (some (.int k l)) none none = if 0 ≤ l ∧ l ≤ n then some (.slice (if c = l.toNat then a else a.map (·.add (l.toNat * 2))) (n - l.toNat) (c - l.toNat)) else none := by rw [pvSl_l Tryz.underlying54 (by rw [show tySz Tryz.prog 70 = 2 from sz70]; decide) a n c k l, sz70]
theorem sxb54 (a : Option Addr) (n c : Nat) (k k2 : IntKind) (l h : Int) : pvSlice Tryz.prog 54 (.slice a n c) (some (.int k l)) (some (.int k2 h)) none = if (0 ≤ h ∧ h ≤ c) ∧ 0 ≤ l ∧ l ≤ h then some (.slice (if c = l.toNat then a else a.map (·.add (l.toNat * 2))) (h.toNat - l.toNat) (c - l.toNat)) else none := by rw [pvSl_lh Tryz.underlying54 (by rw [show tySz Tryz.prog 70 = 2 from sz70]; decide) a n c k k2 l h, sz70]
theorem sxm54 (a : Option Addr) (n c : Nat) (k k2 : IntKind) (h m : Int) : pvSlice Tryz.prog 54 (.slice a n c) none (some (.int k h)) (some (.int k2 m)) = if (0 ≤ m ∧ m ≤ c) ∧ 0 ≤ h ∧ h ≤ m then some (.slice a h.toNat m.toNat) else none := pvSl_hm Tryz.underlying54 (by rw [show tySz Tryz.prog 70 = 2 from sz70]; decide) a n c k k2 h m
theorem sn54 (x y : Operand) (a : Option Addr) (n c m d : Nat) : pvB Tryz.prog .eql 54 x y (.slice a n c) (.slice none m d) = some (.bool a.isNone) := pvB_slnil Tryz.underlying54 x y a n c m d
theorem snn54 (x y : Operand) (a : Option Addr) (n c m d : Nat) : pvB Tryz.prog .neq 54 x y (.slice a n c) (.slice none m d) = some (.bool (!a.isNone)) := pvB_slnnil Tryz.underlying54 x y a n c m d
theorem ld55 (a : Addr) (G : GH) : pvLoad Tryz.prog 55 (.pointer (some a)) G = (gcells G a 5).map fun cs => .agg cs.toArray := pvLoad_agg ag55 sz55 (by decide) a G
theorem st55 (rs : Array ResultVar) (K : Value → GH → Prop) (s : List It) (ops : List Oper) (md : Option GH) (d : Option Nat) (l : List Oper) (f : Fr) (G : GH) (a : Addr) (x0 x1 x2 x3 x4 : Value) (h : [x0, x1, x2, x3, x4].all oneV = true) : Yst Tryz.prog rs K s ops md d l f G 55 (.pointer (some a)) (.agg #[x0, x1, x2, x3, x4]) = Yset Tryz.prog rs K s ops md d l f G a [x0, x1, x2, x3, x4] := Yst_ptr rs K s ops md d l f G ⟨by rw [sz55]; decide, by rw [sz55]; rfl⟩ rfl h
theorem al55 (rs : Array ResultVar) (K : Value → GH → Prop) (s : List It) (ops : List Oper) (md : Option GH) (d : Option Nat) (l : List Oper) (f : Fr) (G : GH) : Yal Tryz.prog rs K s ops md d l f G 55 = Ynew' Tryz.prog rs K s ops md d l f G (.cells #[.string ByteArray.empty, .string ByteArray.empty, .string ByteArray.empty, .int .i64 0, .slice none 0 0] 55 (0, 0)) (fun r => .pointer (some ⟨r, 0, none⟩)) := Yal_eq rs K s ops md d l f G zv55
theorem fa55_0 (a : Addr) : pvFA Tryz.prog 55 (.pointer (some a)) 0 = some (.pointer (some (a.add 0))) := pvFA_eq (F := 9) (by unfold tyFld; rw [show tyD Tryz.prog 55 = _ from Tryz.underlying55]; rfl) (by rw [show tySz Tryz.prog 9 = 1 from by kernel_rfl]; decide) a
theorem fl55_0 (x0 x1 x2 x3 x4 : Value) : pvField Tryz.prog 55 (.agg #[x0, x1, x2, x3, x4]) 0 = some x0 := pvField_one (F := 9) (i := 0) (off := 0) (cs := [x0, x1, x2, x3, x4]) (by unfold tyFld; rw [show tyD Tryz.prog 55 = _ from Tryz.underlying55]; rfl) (by rw [show tyD Tryz.prog 9 = _ from Tryz.underlying9]; rfl) rfl
theorem fa55_1 (a : Addr) : pvFA Tryz.prog 55 (.pointer (some a)) 1 = some (.pointer (some (a.add 1))) := pvFA_eq (F := 9) (by unfold tyFld; rw [show tyD Tryz.prog 55 = _ from Tryz.underlying55]; rfl) (by rw [show tySz Tryz.prog 9 = 1 from by kernel_rfl]; decide) a
theorem fl55_1 (x0 x1 x2 x3 x4 : Value) : pvField Tryz.prog 55 (.agg #[x0, x1, x2, x3, x4]) 1 = some x1 := pvField_one (F := 9) (i := 1) (off := 1) (cs := [x0, x1, x2, x3, x4]) (by unfold tyFld; rw [show tyD Tryz.prog 55 = _ from Tryz.underlying55]; rfl) (by rw [show tyD Tryz.prog 9 = _ from Tryz.underlying9]; rfl) rfl
theorem fa55_2 (a : Addr) : pvFA Tryz.prog 55 (.pointer (some a)) 2 = some (.pointer (some (a.add 2))) := pvFA_eq (F := 9) (by unfold tyFld; rw [show tyD Tryz.prog 55 = _ from Tryz.underlying55]; rfl) (by rw [show tySz Tryz.prog 9 = 1 from by kernel_rfl]; decide) a
theorem fl55_2 (x0 x1 x2 x3 x4 : Value) : pvField Tryz.prog 55 (.agg #[x0, x1, x2, x3, x4]) 2 = some x2 := pvField_one (F := 9) (i := 2) (off := 2) (cs := [x0, x1, x2, x3, x4]) (by unfold tyFld; rw [show tyD Tryz.prog 55 = _ from Tryz.underlying55]; rfl) (by rw [show tyD Tryz.prog 9 = _ from Tryz.underlying9]; rfl) rfl
theorem fa55_3 (a : Addr) : pvFA Tryz.prog 55 (.pointer (some a)) 3 = some (.pointer (some (a.add 3))) := pvFA_eq (F := 3) (by unfold tyFld; rw [show tyD Tryz.prog 55 = _ from Tryz.underlying55]; rfl) (by rw [show tySz Tryz.prog 3 = 1 from by kernel_rfl]; decide) a
theorem fl55_3 (x0 x1 x2 x3 x4 : Value) : pvField Tryz.prog 55 (.agg #[x0, x1, x2, x3, x4]) 3 = some x3 := pvField_one (F := 3) (i := 3) (off := 3) (cs := [x0, x1, x2, x3, x4]) (by unfold tyFld; rw [show tyD Tryz.prog 55 = _ from Tryz.underlying55]; rfl) (by rw [show tyD Tryz.prog 3 = _ from Tryz.underlying3]; rfl) rfl
theorem fa55_4 (a : Addr) : pvFA Tryz.prog 55 (.pointer (some a)) 4 = some (.pointer (some (a.add 4))) := pvFA_eq (F := 54) (by unfold tyFld; rw [show tyD Tryz.prog 55 = _ from Tryz.underlying55]; rfl) (by rw [show tySz Tryz.prog 54 = 1 from by kernel_rfl]; decide) a
theorem fl55_4 (x0 x1 x2 x3 x4 : Value) : pvField Tryz.prog 55 (.agg #[x0, x1, x2, x3, x4]) 4 = some x4 := pvField_one (F := 54) (i := 4) (off := 4) (cs := [x0, x1, x2, x3, x4]) (by unfold tyFld; rw [show tyD Tryz.prog 55 = _ from Tryz.underlying55]; rfl) (by rw [show tyD Tryz.prog 54 = _ from Tryz.underlying54]; rfl) rfl
theorem ld56 (a : Addr) (G : GH) : pvLoad Tryz.prog 56 (.pointer (some a)) G = (gcells G a 5).map fun cs => .agg cs.toArray := pvLoad_agg ag56 sz56 (by decide) a G
theorem st56 (rs : Array ResultVar) (K : Value → GH → Prop) (s : List It) (ops : List Oper) (md : Option GH) (d : Option Nat) (l : List Oper) (f : Fr) (G : GH) (a : Addr) (x0 x1 x2 x3 x4 : Value) (h : [x0, x1, x2, x3, x4].all oneV = true) : Yst Tryz.prog rs K s ops md d l f G 56 (.pointer (some a)) (.agg #[x0, x1, x2, x3, x4]) = Yset Tryz.prog rs K s ops md d l f G a [x0, x1, x2, x3, x4] := Yst_ptr rs K s ops md d l f G ⟨by rw [sz56]; decide, by rw [sz56]; rfl⟩ rfl h
theorem al56 (rs : Array ResultVar) (K : Value → GH → Prop) (s : List It) (ops : List Oper) (md : Option GH) (d : Option Nat) (l : List Oper) (f : Fr) (G : GH) : Yal Tryz.prog rs K s ops md d l f G 56 = Ynew' Tryz.prog rs K s ops md d l f G (.cells #[.string ByteArray.empty, .string ByteArray.empty, .string ByteArray.empty, .int .i64 0, .slice none 0 0] 56 (0, 0)) (fun r => .pointer (some ⟨r, 0, none⟩)) := Yal_eq rs K s ops md d l f G zv56
theorem fa56_0 (a : Addr) : pvFA Tryz.prog 56 (.pointer (some a)) 0 = some (.pointer (some (a.add 0))) := pvFA_eq (F := 9) (by unfold tyFld; rw [show tyD Tryz.prog 56 = _ from Tryz.underlying56]; rfl) (by rw [show tySz Tryz.prog 9 = 1 from by kernel_rfl]; decide) a
theorem fl56_0 (x0 x1 x2 x3 x4 : Value) : pvField Tryz.prog 56 (.agg #[x0, x1, x2, x3, x4]) 0 = some x0 := pvField_one (F := 9) (i := 0) (off := 0) (cs := [x0, x1, x2, x3, x4]) (by unfold tyFld; rw [show tyD Tryz.prog 56 = _ from Tryz.underlying56]; rfl) (by rw [show tyD Tryz.prog 9 = _ from Tryz.underlying9]; rfl) rfl
theorem fa56_1 (a : Addr) : pvFA Tryz.prog 56 (.pointer (some a)) 1 = some (.pointer (some (a.add 1))) := pvFA_eq (F := 9) (by unfold tyFld; rw [show tyD Tryz.prog 56 = _ from Tryz.underlying56]; rfl) (by rw [show tySz Tryz.prog 9 = 1 from by kernel_rfl]; decide) a
theorem fl56_1 (x0 x1 x2 x3 x4 : Value) : pvField Tryz.prog 56 (.agg #[x0, x1, x2, x3, x4]) 1 = some x1 := pvField_one (F := 9) (i := 1) (off := 1) (cs := [x0, x1, x2, x3, x4]) (by unfold tyFld; rw [show tyD Tryz.prog 56 = _ from Tryz.underlying56]; rfl) (by rw [show tyD Tryz.prog 9 = _ from Tryz.underlying9]; rfl) rfl
theorem fa56_2 (a : Addr) : pvFA Tryz.prog 56 (.pointer (some a)) 2 = some (.pointer (some (a.add 2))) := pvFA_eq (F := 9) (by unfold tyFld; rw [show tyD Tryz.prog 56 = _ from Tryz.underlying56]; rfl) (by rw [show tySz Tryz.prog 9 = 1 from by kernel_rfl]; decide) a
theorem fl56_2 (x0 x1 x2 x3 x4 : Value) : pvField Tryz.prog 56 (.agg #[x0, x1, x2, x3, x4]) 2 = some x2 := pvField_one (F := 9) (i := 2) (off := 2) (cs := [x0, x1, x2, x3, x4]) (by unfold tyFld; rw [show tyD Tryz.prog 56 = _ from Tryz.underlying56]; rfl) (by rw [show tyD Tryz.prog 9 = _ from Tryz.underlying9]; rfl) rfl
theorem fa56_3 (a : Addr) : pvFA Tryz.prog 56 (.pointer (some a)) 3 = some (.pointer (some (a.add 3))) := pvFA_eq (F := 3) (by unfold tyFld; rw [show tyD Tryz.prog 56 = _ from Tryz.underlying56]; rfl) (by rw [show tySz Tryz.prog 3 = 1 from by kernel_rfl]; decide) a
theorem fl56_3 (x0 x1 x2 x3 x4 : Value) : pvField Tryz.prog 56 (.agg #[x0, x1, x2, x3, x4]) 3 = some x3 := pvField_one (F := 3) (i := 3) (off := 3) (cs := [x0, x1, x2, x3, x4]) (by unfold tyFld; rw [show tyD Tryz.prog 56 = _ from Tryz.underlying56]; rfl) (by rw [show tyD Tryz.prog 3 = _ from Tryz.underlying3]; rfl) rfl
theorem fa56_4 (a : Addr) : pvFA Tryz.prog 56 (.pointer (some a)) 4 = some (.pointer (some (a.add 4))) := pvFA_eq (F := 54) (by unfold tyFld; rw [show tyD Tryz.prog 56 = _ from Tryz.underlying56]; rfl) (by rw [show tySz Tryz.prog 54 = 1 from by kernel_rfl]; decide) a
theorem fl56_4 (x0 x1 x2 x3 x4 : Value) : pvField Tryz.prog 56 (.agg #[x0, x1, x2, x3, x4]) 4 = some x4 := pvField_one (F := 54) (i := 4) (off := 4) (cs := [x0, x1, x2, x3, x4]) (by unfold tyFld; rw [show tyD Tryz.prog 56 = _ from Tryz.underlying56]; rfl) (by rw [show tyD Tryz.prog 54 = _ from Tryz.underlying54]; rfl) rfl
theorem ld58 (a : Addr) (G : GH) : pvLoad Tryz.prog 58 (.pointer (some a)) G = (gcells G a 3).map fun cs => .agg cs.toArray := pvLoad_agg ag58 sz58 (by decide) a G
theorem st58 (rs : Array ResultVar) (K : Value → GH → Prop) (s : List It) (ops : List Oper) (md : Option GH) (d : Option Nat) (l : List Oper) (f : Fr) (G : GH) (a : Addr) (x0 x1 x2 : Value) (h : [x0, x1, x2].all oneV = true) : Yst Tryz.prog rs K s ops md d l f G 58 (.pointer (some a)) (.agg #[x0, x1, x2]) = Yset Tryz.prog rs K s ops md d l f G a [x0, x1, x2] := Yst_ptr rs K s ops md d l f G ⟨by rw [sz58]; decide, by rw [sz58]; rfl⟩ rfl h
theorem al58 (rs : Array ResultVar) (K : Value → GH → Prop) (s : List It) (ops : List Oper) (md : Option GH) (d : Option Nat) (l : List Oper) (f : Fr) (G : GH) : Yal Tryz.prog rs K s ops md d l f G 58 = Ynew' Tryz.prog rs K s ops md d l f G (.cells #[.string ByteArray.empty, .int .i64 0, .int .i64 0] 58 (0, 0)) (fun r => .pointer (some ⟨r, 0, none⟩)) := Yal_eq rs K s ops md d l f G zv58
theorem fa58_0 (a : Addr) : pvFA Tryz.prog 58 (.pointer (some a)) 0 = some (.pointer (some (a.add 0))) := pvFA_eq (F := 9) (by unfold tyFld; rw [show tyD Tryz.prog 58 = _ from Tryz.underlying58]; rfl) (by rw [show tySz Tryz.prog 9 = 1 from by kernel_rfl]; decide) a
theorem fl58_0 (x0 x1 x2 : Value) : pvField Tryz.prog 58 (.agg #[x0, x1, x2]) 0 = some x0 := pvField_one (F := 9) (i := 0) (off := 0) (cs := [x0, x1, x2]) (by unfold tyFld; rw [show tyD Tryz.prog 58 = _ from Tryz.underlying58]; rfl) (by rw [show tyD Tryz.prog 9 = _ from Tryz.underlying9]; rfl) rfl
theorem fa58_1 (a : Addr) : pvFA Tryz.prog 58 (.pointer (some a)) 1 = some (.pointer (some (a.add 1))) := pvFA_eq (F := 3) (by unfold tyFld; rw [show tyD Tryz.prog 58 = _ from Tryz.underlying58]; rfl) (by rw [show tySz Tryz.prog 3 = 1 from by kernel_rfl]; decide) a
theorem fl58_1 (x0 x1 x2 : Value) : pvField Tryz.prog 58 (.agg #[x0, x1, x2]) 1 = some x1 := pvField_one (F := 3) (i := 1) (off := 1) (cs := [x0, x1, x2]) (by unfold tyFld; rw [show tyD Tryz.prog 58 = _ from Tryz.underlying58]; rfl) (by rw [show tyD Tryz.prog 3 = _ from Tryz.underlying3]; rfl) rfl
theorem fa58_2 (a : Addr) : pvFA Tryz.prog 58 (.pointer (some a)) 2 = some (.pointer (some (a.add 2))) := pvFA_eq (F := 3) (by unfold tyFld; rw [show tyD Tryz.prog 58 = _ from Tryz.underlying58]; rfl) (by rw [show tySz Tryz.prog 3 = 1 from by kernel_rfl]; decide) a
theorem fl58_2 (x0 x1 x2 : Value) : pvField Tryz.prog 58 (.agg #[x0, x1, x2]) 2 = some x2 := pvField_one (F := 3) (i := 2) (off := 2) (cs := [x0, x1, x2]) (by unfold tyFld; rw [show tyD Tryz.prog 58 = _ from Tryz.underlying58]; rfl) (by rw [show tyD Tryz.prog 3 = _ from Tryz.underlying3]; rfl) rfl
theorem ld59 (a : Addr) (G : GH) : pvLoad Tryz.prog 59 (.pointer (some a)) G = (gcells G a 3).map fun cs => .agg cs.toArray := pvLoad_agg ag59 sz59 (by decide) a G
theorem st59 (rs : Array ResultVar) (K : Value → GH → Prop) (s : List It) (ops : List Oper) (md : Option GH) (d : Option Nat) (l : List Oper) (f : Fr) (G : GH) (a : Addr) (x0 x1 x2 : Value) (h : [x0, x1, x2].all oneV = true) : Yst Tryz.prog rs K s ops md d l f G 59 (.pointer (some a)) (.agg #[x0, x1, x2]) = Yset Tryz.prog rs K s ops md d l f G a [x0, x1, x2] := Yst_ptr rs K s ops md d l f G ⟨by rw [sz59]; decide, by rw [sz59]; rfl⟩ rfl h
theorem al59 (rs : Array ResultVar) (K : Value → GH → Prop) (s : List It) (ops : List Oper) (md : Option GH) (d : Option Nat) (l : List Oper) (f : Fr) (G : GH) : Yal Tryz.prog rs K s ops md d l f G 59 = Ynew' Tryz.prog rs K s ops md d l f G (.cells #[.string ByteArray.empty, .int .i64 0, .int .i64 0] 59 (0, 0)) (fun r => .pointer (some ⟨r, 0, none⟩)) := Yal_eq rs K s ops md d l f G zv59
theorem fa59_0 (a : Addr) : pvFA Tryz.prog 59 (.pointer (some a)) 0 = some (.pointer (some (a.add 0))) := pvFA_eq (F := 9) (by unfold tyFld; rw [show tyD Tryz.prog 59 = _ from Tryz.underlying59]; rfl) (by rw [show tySz Tryz.prog 9 = 1 from by kernel_rfl]; decide) a
theorem fl59_0 (x0 x1 x2 : Value) : pvField Tryz.prog 59 (.agg #[x0, x1, x2]) 0 = some x0 := pvField_one (F := 9) (i := 0) (off := 0) (cs := [x0, x1, x2]) (by unfold tyFld; rw [show tyD Tryz.prog 59 = _ from Tryz.underlying59]; rfl) (by rw [show tyD Tryz.prog 9 = _ from Tryz.underlying9]; rfl) rfl
theorem fa59_1 (a : Addr) : pvFA Tryz.prog 59 (.pointer (some a)) 1 = some (.pointer (some (a.add 1))) := pvFA_eq (F := 3) (by unfold tyFld; rw [show tyD Tryz.prog 59 = _ from Tryz.underlying59]; rfl) (by rw [show tySz Tryz.prog 3 = 1 from by kernel_rfl]; decide) a
theorem fl59_1 (x0 x1 x2 : Value) : pvField Tryz.prog 59 (.agg #[x0, x1, x2]) 1 = some x1 := pvField_one (F := 3) (i := 1) (off := 1) (cs := [x0, x1, x2]) (by unfold tyFld; rw [show tyD Tryz.prog 59 = _ from Tryz.underlying59]; rfl) (by rw [show tyD Tryz.prog 3 = _ from Tryz.underlying3]; rfl) rfl
theorem fa59_2 (a : Addr) : pvFA Tryz.prog 59 (.pointer (some a)) 2 = some (.pointer (some (a.add 2))) := pvFA_eq (F := 3) (by unfold tyFld; rw [show tyD Tryz.prog 59 = _ from Tryz.underlying59]; rfl) (by rw [show tySz Tryz.prog 3 = 1 from by kernel_rfl]; decide) a
theorem fl59_2 (x0 x1 x2 : Value) : pvField Tryz.prog 59 (.agg #[x0, x1, x2]) 2 = some x2 := pvField_one (F := 3) (i := 2) (off := 2) (cs := [x0, x1, x2]) (by unfold tyFld; rw [show tyD Tryz.prog 59 = _ from Tryz.underlying59]; rfl) (by rw [show tyD Tryz.prog 3 = _ from Tryz.underlying3]; rfl) rfl
theorem ld61 (a : Addr) (G : GH) : pvLoad Tryz.prog 61 (.pointer (some a)) G = (gcells G a 2).map fun cs => .agg cs.toArray := pvLoad_agg ag61 sz61 (by decide) a G
theorem st61 (rs : Array ResultVar) (K : Value → GH → Prop) (s : List It) (ops : List Oper) (md : Option GH) (d : Option Nat) (l : List Oper) (f : Fr) (G : GH) (a : Addr) (x0 x1 : Value) (h : [x0, x1].all oneV = true) : Yst Tryz.prog rs K s ops md d l f G 61 (.pointer (some a)) (.agg #[x0, x1]) = Yset Tryz.prog rs K s ops md d l f G a [x0, x1] := Yst_ptr rs K s ops md d l f G ⟨by rw [sz61]; decide, by rw [sz61]; rfl⟩ rfl h
theorem al61 (rs : Array ResultVar) (K : Value → GH → Prop) (s : List It) (ops : List Oper) (md : Option GH) (d : Option Nat) (l : List Oper) (f : Fr) (G : GH) : Yal Tryz.prog rs K s ops md d l f G 61 = Ynew' Tryz.prog rs K s ops md d l f G (.cells #[.string ByteArray.empty, .string ByteArray.empty] 61 (0, 0)) (fun r => .pointer (some ⟨r, 0, none⟩)) := Yal_eq rs K s ops md d l f G zv61
theorem fa61_0 (a : Addr) : pvFA Tryz.prog 61 (.pointer (some a)) 0 = some (.pointer (some (a.add 0))) := pvFA_eq (F := 9) (by unfold tyFld; rw [show tyD Tryz.prog 61 = _ from Tryz.underlying61]; rfl) (by rw [show tySz Tryz.prog 9 = 1 from by kernel_rfl]; decide) a
theorem fl61_0 (x0 x1 : Value) : pvField Tryz.prog 61 (.agg #[x0, x1]) 0 = some x0 := pvField_one (F := 9) (i := 0) (off := 0) (cs := [x0, x1]) (by unfold tyFld; rw [show tyD Tryz.prog 61 = _ from Tryz.underlying61]; rfl) (by rw [show tyD Tryz.prog 9 = _ from Tryz.underlying9]; rfl) rfl
theorem fa61_1 (a : Addr) : pvFA Tryz.prog 61 (.pointer (some a)) 1 = some (.pointer (some (a.add 1))) := pvFA_eq (F := 9) (by unfold tyFld; rw [show tyD Tryz.prog 61 = _ from Tryz.underlying61]; rfl) (by rw [show tySz Tryz.prog 9 = 1 from by kernel_rfl]; decide) a
theorem fl61_1 (x0 x1 : Value) : pvField Tryz.prog 61 (.agg #[x0, x1]) 1 = some x1 := pvField_one (F := 9) (i := 1) (off := 1) (cs := [x0, x1]) (by unfold tyFld; rw [show tyD Tryz.prog 61 = _ from Tryz.underlying61]; rfl) (by rw [show tyD Tryz.prog 9 = _ from Tryz.underlying9]; rfl) rfl
theorem ld62 (a : Addr) (G : GH) : pvLoad Tryz.prog 62 (.pointer (some a)) G = (gcells G a 2).map fun cs => .agg cs.toArray := pvLoad_agg ag62 sz62 (by decide) a G
theorem st62 (rs : Array ResultVar) (K : Value → GH → Prop) (s : List It) (ops : List Oper) (md : Option GH) (d : Option Nat) (l : List Oper) (f : Fr) (G : GH) (a : Addr) (x0 x1 : Value) (h : [x0, x1].all oneV = true) : Yst Tryz.prog rs K s ops md d l f G 62 (.pointer (some a)) (.agg #[x0, x1]) = Yset Tryz.prog rs K s ops md d l f G a [x0, x1] := Yst_ptr rs K s ops md d l f G ⟨by rw [sz62]; decide, by rw [sz62]; rfl⟩ rfl h
theorem al62 (rs : Array ResultVar) (K : Value → GH → Prop) (s : List It) (ops : List Oper) (md : Option GH) (d : Option Nat) (l : List Oper) (f : Fr) (G : GH) : Yal Tryz.prog rs K s ops md d l f G 62 = Ynew' Tryz.prog rs K s ops md d l f G (.cells #[.string ByteArray.empty, .string ByteArray.empty] 62 (0, 0)) (fun r => .pointer (some ⟨r, 0, none⟩)) := Yal_eq rs K s ops md d l f G zv62
theorem fa62_0 (a : Addr) : pvFA Tryz.prog 62 (.pointer (some a)) 0 = some (.pointer (some (a.add 0))) := pvFA_eq (F := 9) (by unfold tyFld; rw [show tyD Tryz.prog 62 = _ from Tryz.underlying62]; rfl) (by rw [show tySz Tryz.prog 9 = 1 from by kernel_rfl]; decide) a
theorem fl62_0 (x0 x1 : Value) : pvField Tryz.prog 62 (.agg #[x0, x1]) 0 = some x0 := pvField_one (F := 9) (i := 0) (off := 0) (cs := [x0, x1]) (by unfold tyFld; rw [show tyD Tryz.prog 62 = _ from Tryz.underlying62]; rfl) (by rw [show tyD Tryz.prog 9 = _ from Tryz.underlying9]; rfl) rfl
theorem fa62_1 (a : Addr) : pvFA Tryz.prog 62 (.pointer (some a)) 1 = some (.pointer (some (a.add 1))) := pvFA_eq (F := 9) (by unfold tyFld; rw [show tyD Tryz.prog 62 = _ from Tryz.underlying62]; rfl) (by rw [show tySz Tryz.prog 9 = 1 from by kernel_rfl]; decide) a
theorem fl62_1 (x0 x1 : Value) : pvField Tryz.prog 62 (.agg #[x0, x1]) 1 = some x1 := pvField_one (F := 9) (i := 1) (off := 1) (cs := [x0, x1]) (by unfold tyFld; rw [show tyD Tryz.prog 62 = _ from Tryz.underlying62]; rfl) (by rw [show tyD Tryz.prog 9 = _ from Tryz.underlying9]; rfl) rfl
theorem ld69 (a : Addr) (G : GH) : pvLoad Tryz.prog 69 (.pointer (some a)) G = (gcells G a 2).map fun cs => .agg cs.toArray := pvLoad_agg ag69 sz69 (by decide) a G
theorem st69 (rs : Array ResultVar) (K : Value → GH → Prop) (s : List It) (ops : List Oper) (md : Option GH) (d : Option Nat) (l : List Oper) (f : Fr) (G : GH) (a : Addr) (x0 x1 : Value) (h : [x0, x1].all oneV = true) : Yst Tryz.prog rs K s ops md d l f G 69 (.pointer (some a)) (.agg #[x0, x1]) = Yset Tryz.prog rs K s ops md d l f G a [x0, x1] := Yst_ptr rs K s ops md d l f G ⟨by rw [sz69]; decide, by rw [sz69]; rfl⟩ rfl h
theorem al69 (rs : Array ResultVar) (K : Value → GH → Prop) (s : List It) (ops : List Oper) (md : Option GH) (d : Option Nat) (l : List Oper) (f : Fr) (G : GH) : Yal Tryz.prog rs K s ops md d l f G 69 = Ynew' Tryz.prog rs K s ops md d l f G (.cells #[.int .i64 0, .int .i64 0] 69 (0, 0)) (fun r => .pointer (some ⟨r, 0, none⟩)) := Yal_eq rs K s ops md d l f G zv69
theorem fa69_0 (a : Addr) : pvFA Tryz.prog 69 (.pointer (some a)) 0 = some (.pointer (some (a.add 0))) := pvFA_eq (F := 3) (by unfold tyFld; rw [show tyD Tryz.prog 69 = _ from Tryz.underlying69]; rfl) (by rw [show tySz Tryz.prog 3 = 1 from by kernel_rfl]; decide) a
theorem fl69_0 (x0 x1 : Value) : pvField Tryz.prog 69 (.agg #[x0, x1]) 0 = some x0 := pvField_one (F := 3) (i := 0) (off := 0) (cs := [x0, x1]) (by unfold tyFld; rw [show tyD Tryz.prog 69 = _ from Tryz.underlying69]; rfl) (by rw [show tyD Tryz.prog 3 = _ from Tryz.underlying3]; rfl) rfl
theorem fa69_1 (a : Addr) : pvFA Tryz.prog 69 (.pointer (some a)) 1 = some (.pointer (some (a.add 1))) := pvFA_eq (F := 3) (by unfold tyFld; rw [show tyD Tryz.prog 69 = _ from Tryz.underlying69]; rfl) (by rw [show tySz Tryz.prog 3 = 1 from by kernel_rfl]; decide) a
theorem fl69_1 (x0 x1 : Value) : pvField Tryz.prog 69 (.agg #[x0, x1]) 1 = some x1 := pvField_one (F := 3) (i := 1) (off := 1) (cs := [x0, x1]) (by unfold tyFld; rw [show tyD Tryz.prog 69 = _ from Tryz.underlying69]; rfl) (by rw [show tyD Tryz.prog 3 = _ from Tryz.underlying3]; rfl) rfl
theorem ld70 (a : Addr) (G : GH) : pvLoad Tryz.prog 70 (.pointer (some a)) G = (gcells G a 2).map fun cs => .agg cs.toArray := pvLoad_agg ag70 sz70 (by decide) a G
theorem st70 (rs : Array ResultVar) (K : Value → GH → Prop) (s : List It) (ops : List Oper) (md : Option GH) (d : Option Nat) (l : List Oper) (f : Fr) (G : GH) (a : Addr) (x0 x1 : Value) (h : [x0, x1].all oneV = true) : Yst Tryz.prog rs K s ops md d l f G 70 (.pointer (some a)) (.agg #[x0, x1]) = Yset Tryz.prog rs K s ops md d l f G a [x0, x1] := Yst_ptr rs K s ops md d l f G ⟨by rw [sz70]; decide, by rw [sz70]; rfl⟩ rfl h
theorem al70 (rs : Array ResultVar) (K : Value → GH → Prop) (s : List It) (ops : List Oper) (md : Option GH) (d : Option Nat) (l : List Oper) (f : Fr) (G : GH) : Yal Tryz.prog rs K s ops md d l f G 70 = Ynew' Tryz.prog rs K s ops md d l f G (.cells #[.int .i64 0, .int .i64 0] 70 (0, 0)) (fun r => .pointer (some ⟨r, 0, none⟩)) := Yal_eq rs K s ops md d l f G zv70
theorem fa70_0 (a : Addr) : pvFA Tryz.prog 70 (.pointer (some a)) 0 = some (.pointer (some (a.add 0))) := pvFA_eq (F := 3) (by unfold tyFld; rw [show tyD Tryz.prog 70 = _ from Tryz.underlying70]; rfl) (by rw [show tySz Tryz.prog 3 = 1 from by kernel_rfl]; decide) a
theorem fl70_0 (x0 x1 : Value) : pvField Tryz.prog 70 (.agg #[x0, x1]) 0 = some x0 := pvField_one (F := 3) (i := 0) (off := 0) (cs := [x0, x1]) (by unfold tyFld; rw [show tyD Tryz.prog 70 = _ from Tryz.underlying70]; rfl) (by rw [show tyD Tryz.prog 3 = _ from Tryz.underlying3]; rfl) rfl
theorem fa70_1 (a : Addr) : pvFA Tryz.prog 70 (.pointer (some a)) 1 = some (.pointer (some (a.add 1))) := pvFA_eq (F := 3) (by unfold tyFld; rw [show tyD Tryz.prog 70 = _ from Tryz.underlying70]; rfl) (by rw [show tySz Tryz.prog 3 = 1 from by kernel_rfl]; decide) a
theorem fl70_1 (x0 x1 : Value) : pvField Tryz.prog 70 (.agg #[x0, x1]) 1 = some x1 := pvField_one (F := 3) (i := 1) (off := 1) (cs := [x0, x1]) (by unfold tyFld; rw [show tyD Tryz.prog 70 = _ from Tryz.underlying70]; rfl) (by rw [show tyD Tryz.prog 3 = _ from Tryz.underlying3]; rfl) rfl
theorem ld72 (a : Addr) (G : GH) : pvLoad Tryz.prog 72 (.pointer (some a)) G = gcell G a := pvLoad_one ag72 a G
theorem st72 (rs : Array ResultVar) (K : Value → GH → Prop) (s : List It) (ops : List Oper) (md : Option GH) (d : Option Nat) (l : List Oper) (f : Fr) (G : GH) (a : Addr) (v : Value) (h : oneV v = true) : Yst Tryz.prog rs K s ops md d l f G 72 (.pointer (some a)) v = Yset Tryz.prog rs K s ops md d l f G a [v] := Yst_ptr rs K s ops md d l f G ⟨by rw [sz72]; decide, by rw [sz72]; rfl⟩ (one_cells h) (by simp [h])
theorem al72 (rs : Array ResultVar) (K : Value → GH → Prop) (s : List It) (ops : List Oper) (md : Option GH) (d : Option Nat) (l : List Oper) (f : Fr) (G : GH) : Yal Tryz.prog rs K s ops md d l f G 72 = Ynew' Tryz.prog rs K s ops md d l f G (.cells #[.slice none 0 0] 72 (0, 0)) (fun r => .pointer (some ⟨r, 0, none⟩)) := Yal_eq rs K s ops md d l f G zv72
theorem ia72 (ad : Addr) (m c : Nat) (k : IntKind) (j : Int) : pvIA Tryz.prog 72 (.slice (some ad) m c) (.int k j) = if 0 ≤ j ∧ j < m then some (.pointer (some (ad.add (j.toNat * 1)))) else none := pvIA_slice Tryz.underlying72 (by kernel_rfl) (by decide) ad m c k j
theorem ln72 (a : Option Addr) (n c : Nat) : pvB1 Tryz.prog .len [72] [.slice a n c] = some (.int .i64 n) := pvLen_slice Tryz.underlying72 a n c
theorem cp72 (a : Option Addr) (n c : Nat) : pvB1 Tryz.prog .cap [72] [.slice a n c] = some (.int .i64 c) := pvCap_slice Tryz.underlying72 a n c
theorem sxh72 (a : Option Addr) (n c : Nat) (k : IntKind) (h : Int) : pvSlice Tryz.prog 72 (.slice a n c) none (some (.int k h)) none = if 0 ≤ h ∧ h ≤ c then some (.slice a h.toNat c) else none := pvSl_h Tryz.underlying72 (by rw [show tySz Tryz.prog 29 = 1 from sz29]; decide) a n c k h
theorem sxl72 (a : Option Addr) (n c : Nat) (k : IntKind) (l : Int) : pvSlice Tryz.prog 72 (.slice a n c) (some (.int k l)) none none = if 0 ≤ l ∧ l ≤ n then some (.slice (if c = l.toNat then a else a.map (·.add (l.toNat * 1))) (n - l.toNat) (c - l.toNat)) else none := by rw [pvSl_l Tryz.underlying72 (by rw [show tySz Tryz.prog 29 = 1 from sz29]; decide) a n c k l, sz29]
theorem sxb72 (a : Option Addr) (n c : Nat) (k k2 : IntKind) (l h : Int) : pvSlice Tryz.prog 72 (.slice a n c) (some (.int k l)) (some (.int k2 h)) none = if (0 ≤ h ∧ h ≤ c) ∧ 0 ≤ l ∧ l ≤ h then some (.slice (if c = l.toNat then a else a.map (·.add (l.toNat * 1))) (h.toNat - l.toNat) (c - l.toNat)) else none := by rw [pvSl_lh Tryz.underlying72 (by rw [show tySz Tryz.prog 29 = 1 from sz29]; decide) a n c k k2 l h, sz29]
theorem sxm72 (a : Option Addr) (n c : Nat) (k k2 : IntKind) (h m : Int) : pvSlice Tryz.prog 72 (.slice a n c) none (some (.int k h)) (some (.int k2 m)) = if (0 ≤ m ∧ m ≤ c) ∧ 0 ≤ h ∧ h ≤ m then some (.slice a h.toNat m.toNat) else none := pvSl_hm Tryz.underlying72 (by rw [show tySz Tryz.prog 29 = 1 from sz29]; decide) a n c k k2 h m
theorem sn72 (x y : Operand) (a : Option Addr) (n c m d : Nat) : pvB Tryz.prog .eql 72 x y (.slice a n c) (.slice none m d) = some (.bool a.isNone) := pvB_slnil Tryz.underlying72 x y a n c m d
theorem snn72 (x y : Operand) (a : Option Addr) (n c m d : Nat) : pvB Tryz.prog .neq 72 x y (.slice a n c) (.slice none m d) = some (.bool (!a.isNone)) := pvB_slnnil Tryz.underlying72 x y a n c m d
theorem ld98 (a : Addr) (G : GH) : pvLoad Tryz.prog 98 (.pointer (some a)) G = gcell G a := pvLoad_one ag98 a G
theorem st98 (rs : Array ResultVar) (K : Value → GH → Prop) (s : List It) (ops : List Oper) (md : Option GH) (d : Option Nat) (l : List Oper) (f : Fr) (G : GH) (a : Addr) (v : Value) (h : oneV v = true) : Yst Tryz.prog rs K s ops md d l f G 98 (.pointer (some a)) v = Yset Tryz.prog rs K s ops md d l f G a [v] := Yst_ptr rs K s ops md d l f G ⟨by rw [sz98]; decide, by rw [sz98]; rfl⟩ (one_cells h) (by simp [h])
theorem al98 (rs : Array ResultVar) (K : Value → GH → Prop) (s : List It) (ops : List Oper) (md : Option GH) (d : Option Nat) (l : List Oper) (f : Fr) (G : GH) : Yal Tryz.prog rs K s ops md d l f G 98 = Ynew' Tryz.prog rs K s ops md d l f G (.cells #[.int .u64 0] 98 (0, 0)) (fun r => .pointer (some ⟨r, 0, none⟩)) := Yal_eq rs K s ops md d l f G zv98
theorem ld106 (a : Addr) (G : GH) : pvLoad Tryz.prog 106 (.pointer (some a)) G = gcell G a := pvLoad_one ag106 a G
theorem st106 (rs : Array ResultVar) (K : Value → GH → Prop) (s : List It) (ops : List Oper) (md : Option GH) (d : Option Nat) (l : List Oper) (f : Fr) (G : GH) (a : Addr) (v : Value) (h : oneV v = true) : Yst Tryz.prog rs K s ops md d l f G 106 (.pointer (some a)) v = Yset Tryz.prog rs K s ops md d l f G a [v] := Yst_ptr rs K s ops md d l f G ⟨by rw [sz106]; decide, by rw [sz106]; rfl⟩ (one_cells h) (by simp [h])
theorem al106 (rs : Array ResultVar) (K : Value → GH → Prop) (s : List It) (ops : List Oper) (md : Option GH) (d : Option Nat) (l : List Oper) (f : Fr) (G : GH) : Yal Tryz.prog rs K s ops md d l f G 106 = Ynew' Tryz.prog rs K s ops md d l f G (.cells #[.pointer none] 106 (0, 0)) (fun r => .pointer (some ⟨r, 0, none⟩)) := Yal_eq rs K s ops md d l f G zv106
theorem ld115 (a : Addr) (G : GH) : pvLoad Tryz.prog 115 (.pointer (some a)) G = gcell G a := pvLoad_one ag115 a G
theorem st115 (rs : Array ResultVar) (K : Value → GH → Prop) (s : List It) (ops : List Oper) (md : Option GH) (d : Option Nat) (l : List Oper) (f : Fr) (G : GH) (a : Addr) (v : Value) (h : oneV v = true) : Yst Tryz.prog rs K s ops md d l f G 115 (.pointer (some a)) v = Yset Tryz.prog rs K s ops md d l f G a [v] := Yst_ptr rs K s ops md d l f G ⟨by rw [sz115]; decide, by rw [sz115]; rfl⟩ (one_cells h) (by simp [h])
theorem al115 (rs : Array ResultVar) (K : Value → GH → Prop) (s : List It) (ops : List Oper) (md : Option GH) (d : Option Nat) (l : List Oper) (f : Fr) (G : GH) : Yal Tryz.prog rs K s ops md d l f G 115 = Ynew' Tryz.prog rs K s ops md d l f G (.cells #[.int .i64 0] 115 (0, 0)) (fun r => .pointer (some ⟨r, 0, none⟩)) := Yal_eq rs K s ops md d l f G zv115
theorem ld123 (a : Addr) (G : GH) : pvLoad Tryz.prog 123 (.pointer (some a)) G = gcell G a := pvLoad_one ag123 a G
theorem st123 (rs : Array ResultVar) (K : Value → GH → Prop) (s : List It) (ops : List Oper) (md : Option GH) (d : Option Nat) (l : List Oper) (f : Fr) (G : GH) (a : Addr) (v : Value) (h : oneV v = true) : Yst Tryz.prog rs K s ops md d l f G 123 (.pointer (some a)) v = Yset Tryz.prog rs K s ops md d l f G a [v] := Yst_ptr rs K s ops md d l f G ⟨by rw [sz123]; decide, by rw [sz123]; rfl⟩ (one_cells h) (by simp [h])
theorem al123 (rs : Array ResultVar) (K : Value → GH → Prop) (s : List It) (ops : List Oper) (md : Option GH) (d : Option Nat) (l : List Oper) (f : Fr) (G : GH) : Yal Tryz.prog rs K s ops md d l f G 123 = Ynew' Tryz.prog rs K s ops md d l f G (.cells #[.int .u32 0] 123 (0, 0)) (fun r => .pointer (some ⟨r, 0, none⟩)) := Yal_eq rs K s ops md d l f G zv123
theorem ld125 (a : Addr) (G : GH) : pvLoad Tryz.prog 125 (.pointer (some a)) G = gcell G a := pvLoad_one ag125 a G
theorem st125 (rs : Array ResultVar) (K : Value → GH → Prop) (s : List It) (ops : List Oper) (md : Option GH) (d : Option Nat) (l : List Oper) (f : Fr) (G : GH) (a : Addr) (v : Value) (h : oneV v = true) : Yst Tryz.prog rs K s ops md d l f G 125 (.pointer (some a)) v = Yset Tryz.prog rs K s ops md d l f G a [v] := Yst_ptr rs K s ops md d l f G ⟨by rw [sz125]; decide, by rw [sz125]; rfl⟩ (one_cells h) (by simp [h])
theorem al125 (rs : Array ResultVar) (K : Value → GH → Prop) (s : List It) (ops : List Oper) (md : Option GH) (d : Option Nat) (l : List Oper) (f : Fr) (G : GH) : Yal Tryz.prog rs K s ops md d l f G 125 = Ynew' Tryz.prog rs K s ops md d l f G (.cells #[.int .u64 0] 125 (0, 0)) (fun r => .pointer (some ⟨r, 0, none⟩)) := Yal_eq rs K s ops md d l f G zv125
theorem ld127 (a : Addr) (G : GH) : pvLoad Tryz.prog 127 (.pointer (some a)) G = gcell G a := pvLoad_one ag127 a G
theorem st127 (rs : Array ResultVar) (K : Value → GH → Prop) (s : List It) (ops : List Oper) (md : Option GH) (d : Option Nat) (l : List Oper) (f : Fr) (G : GH) (a : Addr) (v : Value) (h : oneV v = true) : Yst Tryz.prog rs K s ops md d l f G 127 (.pointer (some a)) v = Yset Tryz.prog rs K s ops md d l f G a [v] := Yst_ptr rs K s ops md d l f G ⟨by rw [sz127]; decide, by rw [sz127]; rfl⟩ (one_cells h) (by simp [h])
theorem al127 (rs : Array ResultVar) (K : Value → GH → Prop) (s : List It) (ops : List Oper) (md : Option GH) (d : Option Nat) (l : List Oper) (f : Fr) (G : GH) : Yal Tryz.prog rs K s ops md d l f G 127 = Ynew' Tryz.prog rs K s ops md d l f G (.cells #[.int .u64 0] 127 (0, 0)) (fun r => .pointer (some ⟨r, 0, none⟩)) := Yal_eq rs K s ops md d l f G zv127
theorem ld131 (a : Addr) (G : GH) : pvLoad Tryz.prog 131 (.pointer (some a)) G = gcell G a := pvLoad_one ag131 a G
theorem st131 (rs : Array ResultVar) (K : Value → GH → Prop) (s : List It) (ops : List Oper) (md : Option GH) (d : Option Nat) (l : List Oper) (f : Fr) (G : GH) (a : Addr) (v : Value) (h : oneV v = true) : Yst Tryz.prog rs K s ops md d l f G 131 (.pointer (some a)) v = Yset Tryz.prog rs K s ops md d l f G a [v] := Yst_ptr rs K s ops md d l f G ⟨by rw [sz131]; decide, by rw [sz131]; rfl⟩ (one_cells h) (by simp [h])
theorem al131 (rs : Array ResultVar) (K : Value → GH → Prop) (s : List It) (ops : List Oper) (md : Option GH) (d : Option Nat) (l : List Oper) (f : Fr) (G : GH) : Yal Tryz.prog rs K s ops md d l f G 131 = Ynew' Tryz.prog rs K s ops md d l f G (.cells #[.pointer none] 131 (0, 0)) (fun r => .pointer (some ⟨r, 0, none⟩)) := Yal_eq rs K s ops md d l f G zv131
theorem ld134 (a : Addr) (G : GH) : pvLoad Tryz.prog 134 (.pointer (some a)) G = (gcells G a 2).map fun cs => .agg cs.toArray := pvLoad_agg ag134 sz134 (by decide) a G
theorem st134 (rs : Array ResultVar) (K : Value → GH → Prop) (s : List It) (ops : List Oper) (md : Option GH) (d : Option Nat) (l : List Oper) (f : Fr) (G : GH) (a : Addr) (x0 x1 : Value) (h : [x0, x1].all oneV = true) : Yst Tryz.prog rs K s ops md d l f G 134 (.pointer (some a)) (.agg #[x0, x1]) = Yset Tryz.prog rs K s ops md d l f G a [x0, x1] := Yst_ptr rs K s ops md d l f G ⟨by rw [sz134]; decide, by rw [sz134]; rfl⟩ rfl h
theorem al134 (rs : Array ResultVar) (K : Value → GH → Prop) (s : List It) (ops : List Oper) (md : Option GH) (d : Option Nat) (l : List Oper) (f : Fr) (G : GH) : Yal Tryz.prog rs K s ops md d l f G 134 = Ynew' Tryz.prog rs K s ops md d l f G (.cells #[.int .u8 0, .int .u8 0] 134 (0, 0)) (fun r => .pointer (some ⟨r, 0, none⟩)) := Yal_eq rs K s ops md d l f G zv134
theorem fa134_0 (a : Addr) : pvFA Tryz.prog 134 (.pointer (some a)) 0 = some (.pointer (some (a.add 0))) := pvFA_eq (F := 5) (by unfold tyFld; rw [show tyD Tryz.prog 134 = _ from Tryz.underlying134]; rfl) (by rw [show tySz Tryz.prog 5 = 1 from by kernel_rfl]; decide) a
theorem fl134_0 (x0 x1 : Value) : pvField Tryz.prog 134 (.agg #[x0, x1]) 0 = some x0 := pvField_one (F := 5) (i := 0) (off := 0) (cs := [x0, x1]) (by unfold tyFld; rw [show tyD Tryz.prog 134 = _ from Tryz.underlying134]; rfl) (by rw [show tyD Tryz.prog 5 = _ from Tryz.underlying5]; rfl) rfl
theorem fa134_1 (a : Addr) : pvFA Tryz.prog 134 (.pointer (some a)) 1 = some (.pointer (some (a.add 1))) := pvFA_eq (F := 5) (by unfold tyFld; rw [show tyD Tryz.prog 134 = _ from Tryz.underlying134]; rfl) (by rw [show tySz Tryz.prog 5 = 1 from by kernel_rfl]; decide) a
theorem fl134_1 (x0 x1 : Value) : pvField Tryz.prog 134 (.agg #[x0, x1]) 1 = some x1 := pvField_one (F := 5) (i := 1) (off := 1) (cs := [x0, x1]) (by unfold tyFld; rw [show tyD Tryz.prog 134 = _ from Tryz.underlying134]; rfl) (by rw [show tyD Tryz.prog 5 = _ from Tryz.underlying5]; rfl) rfl
theorem ld135 (a : Addr) (G : GH) : pvLoad Tryz.prog 135 (.pointer (some a)) G = (gcells G a 2).map fun cs => .agg cs.toArray := pvLoad_agg ag135 sz135 (by decide) a G
theorem st135 (rs : Array ResultVar) (K : Value → GH → Prop) (s : List It) (ops : List Oper) (md : Option GH) (d : Option Nat) (l : List Oper) (f : Fr) (G : GH) (a : Addr) (x0 x1 : Value) (h : [x0, x1].all oneV = true) : Yst Tryz.prog rs K s ops md d l f G 135 (.pointer (some a)) (.agg #[x0, x1]) = Yset Tryz.prog rs K s ops md d l f G a [x0, x1] := Yst_ptr rs K s ops md d l f G ⟨by rw [sz135]; decide, by rw [sz135]; rfl⟩ rfl h
theorem al135 (rs : Array ResultVar) (K : Value → GH → Prop) (s : List It) (ops : List Oper) (md : Option GH) (d : Option Nat) (l : List Oper) (f : Fr) (G : GH) : Yal Tryz.prog rs K s ops md d l f G 135 = Ynew' Tryz.prog rs K s ops md d l f G (.cells #[.int .u8 0, .int .u8 0] 135 (0, 0)) (fun r => .pointer (some ⟨r, 0, none⟩)) := Yal_eq rs K s ops md d l f G zv135
theorem fa135_0 (a : Addr) : pvFA Tryz.prog 135 (.pointer (some a)) 0 = some (.pointer (some (a.add 0))) := pvFA_eq (F := 5) (by unfold tyFld; rw [show tyD Tryz.prog 135 = _ from Tryz.underlying135]; rfl) (by rw [show tySz Tryz.prog 5 = 1 from by kernel_rfl]; decide) a
theorem fl135_0 (x0 x1 : Value) : pvField Tryz.prog 135 (.agg #[x0, x1]) 0 = some x0 := pvField_one (F := 5) (i := 0) (off := 0) (cs := [x0, x1]) (by unfold tyFld; rw [show tyD Tryz.prog 135 = _ from Tryz.underlying135]; rfl) (by rw [show tyD Tryz.prog 5 = _ from Tryz.underlying5]; rfl) rfl
theorem fa135_1 (a : Addr) : pvFA Tryz.prog 135 (.pointer (some a)) 1 = some (.pointer (some (a.add 1))) := pvFA_eq (F := 5) (by unfold tyFld; rw [show tyD Tryz.prog 135 = _ from Tryz.underlying135]; rfl) (by rw [show tySz Tryz.prog 5 = 1 from by kernel_rfl]; decide) a
theorem fl135_1 (x0 x1 : Value) : pvField Tryz.prog 135 (.agg #[x0, x1]) 1 = some x1 := pvField_one (F := 5) (i := 1) (off := 1) (cs := [x0, x1]) (by unfold tyFld; rw [show tyD Tryz.prog 135 = _ from Tryz.underlying135]; rfl) (by rw [show tyD Tryz.prog 5 = _ from Tryz.underlying5]; rfl) rfl
theorem ld136 (a : Addr) (G : GH) : pvLoad Tryz.prog 136 (.pointer (some a)) G = (gcells G a 32).map fun cs => .agg cs.toArray := pvLoad_agg ag136 sz136 (by decide) a G
theorem st136 (rs : Array ResultVar) (K : Value → GH → Prop) (s : List It) (ops : List Oper) (md : Option GH) (d : Option Nat) (l : List Oper) (f : Fr) (G : GH) (a : Addr) (x0 x1 x2 x3 x4 x5 x6 x7 x8 x9 x10 x11 x12 x13 x14 x15 x16 x17 x18 x19 x20 x21 x22 x23 x24 x25 x26 x27 x28 x29 x30 x31 : Value) (h : [x0, x1, x2, x3, x4, x5, x6, x7, x8, x9, x10, x11, x12, x13, x14, x15, x16, x17, x18, x19, x20, x21, x22, x23, x24, x25, x26, x27, x28, x29, x30, x31].all oneV = true) : Yst Tryz.prog rs K s ops md d l f G 136 (.pointer (some a)) (.agg #[x0, x1, x2, x3, x4, x5, x6, x7, x8, x9, x10, x11, x12, x13, x14, x15, x16, x17, x18, x19, x20, x21, x22, x23, x24, x25, x26, x27, x28, x29, x30, x31]) = Yset Tryz.prog rs K s ops md d l f G a [x0, x1, x2, x3, x4, x5, x6, x7, x8, x9, x10, x11, x12, x13, x14, x15, x16, x17, x18, x19, x20, x21, x22, x23, x24, x25, x26, x27, x28, x29, x30, x31] := Yst_ptr rs K s ops md d l f G ⟨by rw [sz136]; decide, by rw [sz136]; rfl⟩ rfl h
theorem al136 (rs : Array ResultVar) (K : Value → GH → Prop) (s : List It) (ops : List Oper) (md : Option GH) (d : Option Nat) (l : List Oper) (f : Fr) (G : GH) : Yal Tryz.prog rs K s ops md d l f G 136 = Ynew' Tryz.prog rs K s ops md d l f G (.cells #[.int .u8 0, .int .u8 0, .int .u8 0, .int .u8 0, .int .u8 0, .int .u8 0, .int .u8 0, .int .u8 0, .int .u8 0, .int .u8 0, .int .u8 0, .int .u8 0, .int .u8 0, .int .u8 0, .int .u8 0, .int .u8 0, .int .u8 0, .int .u8 0, .int .u8 0, .int .u8 0, .int .u8 0, .int .u8 0, .int .u8 0, .int .u8 0, .int .u8 0, .int .u8 0, .int .u8 0, .int .u8 0, .int .u8 0, .int .u8 0, .int .u8 0, .int .u8 0] 136 (0, 0)) (fun r => .pointer (some ⟨r, 0, none⟩)) := Yal_eq rs K s ops md d l f G zv136
theorem ld139 (a : Addr) (G : GH) : pvLoad Tryz.prog 139 (.pointer (some a)) G = gcell G a := pvLoad_one ag139 a G
theorem st139 (rs : Array ResultVar) (K : Value → GH → Prop) (s : List It) (ops : List Oper) (md : Option GH) (d : Option Nat) (l : List Oper) (f : Fr) (G : GH) (a : Addr) (v : Value) (h : oneV v = true) : Yst Tryz.prog rs K s ops md d l f G 139 (.pointer (some a)) v = Yset Tryz.prog rs K s ops md d l f G a [v] := Yst_ptr rs K s ops md d l f G ⟨by rw [sz139]; decide, by rw [sz139]; rfl⟩ (one_cells h) (by simp [h])
theorem al139 (rs : Array ResultVar) (K : Value → GH → Prop) (s : List It) (ops : List Oper) (md : Option GH) (d : Option Nat) (l : List Oper) (f : Fr) (G : GH) : Yal Tryz.prog rs K s ops md d l f G 139 = Ynew' Tryz.prog rs K s ops md d l f G (.cells #[.pointer none] 139 (0, 0)) (fun r => .pointer (some ⟨r, 0, none⟩)) := Yal_eq rs K s ops md d l f G zv139
theorem ld143 (a : Addr) (G : GH) : pvLoad Tryz.prog 143 (.pointer (some a)) G = (gcells G a 4).map fun cs => .agg cs.toArray := pvLoad_agg ag143 sz143 (by decide) a G
theorem st143 (rs : Array ResultVar) (K : Value → GH → Prop) (s : List It) (ops : List Oper) (md : Option GH) (d : Option Nat) (l : List Oper) (f : Fr) (G : GH) (a : Addr) (x0 x1 x2 x3 : Value) (h : [x0, x1, x2, x3].all oneV = true) : Yst Tryz.prog rs K s ops md d l f G 143 (.pointer (some a)) (.agg #[x0, x1, x2, x3]) = Yset Tryz.prog rs K s ops md d l f G a [x0, x1, x2, x3] := Yst_ptr rs K s ops md d l f G ⟨by rw [sz143]; decide, by rw [sz143]; rfl⟩ rfl h
theorem al143 (rs : Array ResultVar) (K : Value → GH → Prop) (s : List It) (ops : List Oper) (md : Option GH) (d : Option Nat) (l : List Oper) (f : Fr) (G : GH) : Yal Tryz.prog rs K s ops md d l f G 143 = Ynew' Tryz.prog rs K s ops md d l f G (.cells #[.pointer none, .pointer none, .pointer none, .string ByteArray.empty] 143 (0, 0)) (fun r => .pointer (some ⟨r, 0, none⟩)) := Yal_eq rs K s ops md d l f G zv143
theorem fa143_0 (a : Addr) : pvFA Tryz.prog 143 (.pointer (some a)) 0 = some (.pointer (some (a.add 0))) := pvFA_eq (F := 17) (by unfold tyFld; rw [show tyD Tryz.prog 143 = _ from Tryz.underlying143]; rfl) (by rw [show tySz Tryz.prog 17 = 1 from by kernel_rfl]; decide) a
theorem fl143_0 (x0 x1 x2 x3 : Value) : pvField Tryz.prog 143 (.agg #[x0, x1, x2, x3]) 0 = some x0 := pvField_one (F := 17) (i := 0) (off := 0) (cs := [x0, x1, x2, x3]) (by unfold tyFld; rw [show tyD Tryz.prog 143 = _ from Tryz.underlying143]; rfl) (by rw [show tyD Tryz.prog 17 = _ from Tryz.underlying17]; rfl) rfl
theorem fa143_1 (a : Addr) : pvFA Tryz.prog 143 (.pointer (some a)) 1 = some (.pointer (some (a.add 1))) := pvFA_eq (F := 17) (by unfold tyFld; rw [show tyD Tryz.prog 143 = _ from Tryz.underlying143]; rfl) (by rw [show tySz Tryz.prog 17 = 1 from by kernel_rfl]; decide) a
theorem fl143_1 (x0 x1 x2 x3 : Value) : pvField Tryz.prog 143 (.agg #[x0, x1, x2, x3]) 1 = some x1 := pvField_one (F := 17) (i := 1) (off := 1) (cs := [x0, x1, x2, x3]) (by unfold tyFld; rw [show tyD Tryz.prog 143 = _ from Tryz.underlying143]; rfl) (by rw [show tyD Tryz.prog 17 = _ from Tryz.underlying17]; rfl) rfl
theorem fa143_2 (a : Addr) : pvFA Tryz.prog 143 (.pointer (some a)) 2 = some (.pointer (some (a.add 2))) := pvFA_eq (F := 17) (by unfold tyFld; rw [show tyD Tryz.prog 143 = _ from Tryz.underlying143]; rfl) (by rw [show tySz Tryz.prog 17 = 1 from by kernel_rfl]; decide) a
theorem fl143_2 (x0 x1 x2 x3 : Value) : pvField Tryz.prog 143 (.agg #[x0, x1, x2, x3]) 2 = some x2 := pvField_one (F := 17) (i := 2) (off := 2) (cs := [x0, x1, x2, x3]) (by unfold tyFld; rw [show tyD Tryz.prog 143 = _ from Tryz.underlying143]; rfl) (by rw [show tyD Tryz.prog 17 = _ from Tryz.underlying17]; rfl) rfl
theorem fa143_3 (a : Addr) : pvFA Tryz.prog 143 (.pointer (some a)) 3 = some (.pointer (some (a.add 3))) := pvFA_eq (F := 9) (by unfold tyFld; rw [show tyD Tryz.prog 143 = _ from Tryz.underlying143]; rfl) (by rw [show tySz Tryz.prog 9 = 1 from by kernel_rfl]; decide) a
theorem fl143_3 (x0 x1 x2 x3 : Value) : pvField Tryz.prog 143 (.agg #[x0, x1, x2, x3]) 3 = some x3 := pvField_one (F := 9) (i := 3) (off := 3) (cs := [x0, x1, x2, x3]) (by unfold tyFld; rw [show tyD Tryz.prog 143 = _ from Tryz.underlying143]; rfl) (by rw [show tyD Tryz.prog 9 = _ from Tryz.underlying9]; rfl) rfl
theorem ld144 (a : Addr) (G : GH) : pvLoad Tryz.prog 144 (.pointer (some a)) G = (gcells G a 4).map fun cs => .agg cs.toArray := pvLoad_agg ag144 sz144 (by decide) a G
theorem st144 (rs : Array ResultVar) (K : Value → GH → Prop) (s : List It) (ops : List Oper) (md : Option GH) (d : Option Nat) (l : List Oper) (f : Fr) (G : GH) (a : Addr) (x0 x1 x2 x3 : Value) (h : [x0, x1, x2, x3].all oneV = true) : Yst Tryz.prog rs K s ops md d l f G 144 (.pointer (some a)) (.agg #[x0, x1, x2, x3]) = Yset Tryz.prog rs K s ops md d l f G a [x0, x1, x2, x3] := Yst_ptr rs K s ops md d l f G ⟨by rw [sz144]; decide, by rw [sz144]; rfl⟩ rfl h
theorem al144 (rs : Array ResultVar) (K : Value → GH → Prop) (s : List It) (ops : List Oper) (md : Option GH) (d : Option Nat) (l : List Oper) (f : Fr) (G : GH) : Yal Tryz.prog rs K s ops md d l f G 144 = Ynew' Tryz.prog rs K s ops md d l f G (.cells #[.pointer none, .pointer none, .pointer none, .string ByteArray.empty] 144 (0, 0)) (fun r => .pointer (some ⟨r, 0, none⟩)) := Yal_eq rs K s ops md d l f G zv144
theorem fa144_0 (a : Addr) : pvFA Tryz.prog 144 (.pointer (some a)) 0 = some (.pointer (some (a.add 0))) := pvFA_eq (F := 17) (by unfold tyFld; rw [show tyD Tryz.prog 144 = _ from Tryz.underlying144]; rfl) (by rw [show tySz Tryz.prog 17 = 1 from by kernel_rfl]; decide) a
theorem fl144_0 (x0 x1 x2 x3 : Value) : pvField Tryz.prog 144 (.agg #[x0, x1, x2, x3]) 0 = some x0 := pvField_one (F := 17) (i := 0) (off := 0) (cs := [x0, x1, x2, x3]) (by unfold tyFld; rw [show tyD Tryz.prog 144 = _ from Tryz.underlying144]; rfl) (by rw [show tyD Tryz.prog 17 = _ from Tryz.underlying17]; rfl) rfl
theorem fa144_1 (a : Addr) : pvFA Tryz.prog 144 (.pointer (some a)) 1 = some (.pointer (some (a.add 1))) := pvFA_eq (F := 17) (by unfold tyFld; rw [show tyD Tryz.prog 144 = _ from Tryz.underlying144]; rfl) (by rw [show tySz Tryz.prog 17 = 1 from by kernel_rfl]; decide) a
theorem fl144_1 (x0 x1 x2 x3 : Value) : pvField Tryz.prog 144 (.agg #[x0, x1, x2, x3]) 1 = some x1 := pvField_one (F := 17) (i := 1) (off := 1) (cs := [x0, x1, x2, x3]) (by unfold tyFld; rw [show tyD Tryz.prog 144 = _ from Tryz.underlying144]; rfl) (by rw [show tyD Tryz.prog 17 = _ from Tryz.underlying17]; rfl) rfl
theorem fa144_2 (a : Addr) : pvFA Tryz.prog 144 (.pointer (some a)) 2 = some (.pointer (some (a.add 2))) := pvFA_eq (F := 17) (by unfold tyFld; rw [show tyD Tryz.prog 144 = _ from Tryz.underlying144]; rfl) (by rw [show tySz Tryz.prog 17 = 1 from by kernel_rfl]; decide) a
theorem fl144_2 (x0 x1 x2 x3 : Value) : pvField Tryz.prog 144 (.agg #[x0, x1, x2, x3]) 2 = some x2 := pvField_one (F := 17) (i := 2) (off := 2) (cs := [x0, x1, x2, x3]) (by unfold tyFld; rw [show tyD Tryz.prog 144 = _ from Tryz.underlying144]; rfl) (by rw [show tyD Tryz.prog 17 = _ from Tryz.underlying17]; rfl) rfl
theorem fa144_3 (a : Addr) : pvFA Tryz.prog 144 (.pointer (some a)) 3 = some (.pointer (some (a.add 3))) := pvFA_eq (F := 9) (by unfold tyFld; rw [show tyD Tryz.prog 144 = _ from Tryz.underlying144]; rfl) (by rw [show tySz Tryz.prog 9 = 1 from by kernel_rfl]; decide) a
theorem fl144_3 (x0 x1 x2 x3 : Value) : pvField Tryz.prog 144 (.agg #[x0, x1, x2, x3]) 3 = some x3 := pvField_one (F := 9) (i := 3) (off := 3) (cs := [x0, x1, x2, x3]) (by unfold tyFld; rw [show tyD Tryz.prog 144 = _ from Tryz.underlying144]; rfl) (by rw [show tyD Tryz.prog 9 = _ from Tryz.underlying9]; rfl) rfl
theorem al145 (rs : Array ResultVar) (K : Value → GH → Prop) (s : List It) (ops : List Oper) (md : Option GH) (d : Option Nat) (l : List Oper) (f : Fr) (G : GH) : Yal Tryz.prog rs K s ops md d l f G 145 = Ynew' Tryz.prog rs K s ops md d l f G (.cells #[] 145 (0, 0)) (fun r => .pointer (some ⟨r, 0, none⟩)) := Yal_eq rs K s ops md d l f G zv145
theorem al146 (rs : Array ResultVar) (K : Value → GH → Prop) (s : List It) (ops : List Oper) (md : Option GH) (d : Option Nat) (l : List Oper) (f : Fr) (G : GH) : Yal Tryz.prog rs K s ops md d l f G 146 = Ynew' Tryz.prog rs K s ops md d l f G (.cells #[] 146 (0, 0)) (fun r => .pointer (some ⟨r, 0, none⟩)) := Yal_eq rs K s ops md d l f G zv146
theorem al147 (rs : Array ResultVar) (K : Value → GH → Prop) (s : List It) (ops : List Oper) (md : Option GH) (d : Option Nat) (l : List Oper) (f : Fr) (G : GH) : Yal Tryz.prog rs K s ops md d l f G 147 = Ynew' Tryz.prog rs K s ops md d l f G (.cells #[] 147 (0, 0)) (fun r => .pointer (some ⟨r, 0, none⟩)) := Yal_eq rs K s ops md d l f G zv147
theorem ld149 (a : Addr) (G : GH) : pvLoad Tryz.prog 149 (.pointer (some a)) G = gcell G a := pvLoad_one ag149 a G
theorem st149 (rs : Array ResultVar) (K : Value → GH → Prop) (s : List It) (ops : List Oper) (md : Option GH) (d : Option Nat) (l : List Oper) (f : Fr) (G : GH) (a : Addr) (v : Value) (h : oneV v = true) : Yst Tryz.prog rs K s ops md d l f G 149 (.pointer (some a)) v = Yset Tryz.prog rs K s ops md d l f G a [v] := Yst_ptr rs K s ops md d l f G ⟨by rw [sz149]; decide, by rw [sz149]; rfl⟩ (one_cells h) (by simp [h])
theorem al149 (rs : Array ResultVar) (K : Value → GH → Prop) (s : List It) (ops : List Oper) (md : Option GH) (d : Option Nat) (l : List Oper) (f : Fr) (G : GH) : Yal Tryz.prog rs K s ops md d l f G 149 = Ynew' Tryz.prog rs K s ops md d l f G (.cells #[.int .u8 0] 149 (0, 0)) (fun r => .pointer (some ⟨r, 0, none⟩)) := Yal_eq rs K s ops md d l f G zv149
theorem ld150 (a : Addr) (G : GH) : pvLoad Tryz.prog 150 (.pointer (some a)) G = gcell G a := pvLoad_one ag150 a G
theorem st150 (rs : Array ResultVar) (K : Value → GH → Prop) (s : List It) (ops : List Oper) (md : Option GH) (d : Option Nat) (l : List Oper) (f : Fr) (G : GH) (a : Addr) (v : Value) (h : oneV v = true) : Yst Tryz.prog rs K s ops md d l f G 150 (.pointer (some a)) v = Yset Tryz.prog rs K s ops md d l f G a [v] := Yst_ptr rs K s ops md d l f G ⟨by rw [sz150]; decide, by rw [sz150]; rfl⟩ (one_cells h) (by simp [h])
theorem al150 (rs : Array ResultVar) (K : Value → GH → Prop) (s : List It) (ops : List Oper) (md : Option GH) (d : Option Nat) (l : List Oper) (f : Fr) (G : GH) : Yal Tryz.prog rs K s ops md d l f G 150 = Ynew' Tryz.prog rs K s ops md d l f G (.cells #[.int .u8 0] 150 (0, 0)) (fun r => .pointer (some ⟨r, 0, none⟩)) := Yal_eq rs K s ops md d l f G zv150
theorem ld152 (a : Addr) (G : GH) : pvLoad Tryz.prog 152 (.pointer (some a)) G = gcell G a := pvLoad_one ag152 a G
theorem st152 (rs : Array ResultVar) (K : Value → GH → Prop) (s : List It) (ops : List Oper) (md : Option GH) (d : Option Nat) (l : List Oper) (f : Fr) (G : GH) (a : Addr) (v : Value) (h : oneV v = true) : Yst Tryz.prog rs K s ops md d l f G 152 (.pointer (some a)) v = Yset Tryz.prog rs K s ops md d l f G a [v] := Yst_ptr rs K s ops md d l f G ⟨by rw [sz152]; decide, by rw [sz152]; rfl⟩ (one_cells h) (by simp [h])
theorem al152 (rs : Array ResultVar) (K : Value → GH → Prop) (s : List It) (ops : List Oper) (md : Option GH) (d : Option Nat) (l : List Oper) (f : Fr) (G : GH) : Yal Tryz.prog rs K s ops md d l f G 152 = Ynew' Tryz.prog rs K s ops md d l f G (.cells #[.pointer none] 152 (0, 0)) (fun r => .pointer (some ⟨r, 0, none⟩)) := Yal_eq rs K s ops md d l f G zv152
theorem ld153 (a : Addr) (G : GH) : pvLoad Tryz.prog 153 (.pointer (some a)) G = gcell G a := pvLoad_one ag153 a G
theorem st153 (rs : Array ResultVar) (K : Value → GH → Prop) (s : List It) (ops : List Oper) (md : Option GH) (d : Option Nat) (l : List Oper) (f : Fr) (G : GH) (a : Addr) (v : Value) (h : oneV v = true) : Yst Tryz.prog rs K s ops md d l f G 153 (.pointer (some a)) v = Yset Tryz.prog rs K s ops md d l f G a [v] := Yst_ptr rs K s ops md d l f G ⟨by rw [sz153]; decide, by rw [sz153]; rfl⟩ (one_cells h) (by simp [h])
theorem al153 (rs : Array ResultVar) (K : Value → GH → Prop) (s : List It) (ops : List Oper) (md : Option GH) (d : Option Nat) (l : List Oper) (f : Fr) (G : GH) : Yal Tryz.prog rs K s ops md d l f G 153 = Ynew' Tryz.prog rs K s ops md d l f G (.cells #[.int .i32 0] 153 (0, 0)) (fun r => .pointer (some ⟨r, 0, none⟩)) := Yal_eq rs K s ops md d l f G zv153
theorem ld154 (a : Addr) (G : GH) : pvLoad Tryz.prog 154 (.pointer (some a)) G = gcell G a := pvLoad_one ag154 a G
theorem st154 (rs : Array ResultVar) (K : Value → GH → Prop) (s : List It) (ops : List Oper) (md : Option GH) (d : Option Nat) (l : List Oper) (f : Fr) (G : GH) (a : Addr) (v : Value) (h : oneV v = true) : Yst Tryz.prog rs K s ops md d l f G 154 (.pointer (some a)) v = Yset Tryz.prog rs K s ops md d l f G a [v] := Yst_ptr rs K s ops md d l f G ⟨by rw [sz154]; decide, by rw [sz154]; rfl⟩ (one_cells h) (by simp [h])
theorem al154 (rs : Array ResultVar) (K : Value → GH → Prop) (s : List It) (ops : List Oper) (md : Option GH) (d : Option Nat) (l : List Oper) (f : Fr) (G : GH) : Yal Tryz.prog rs K s ops md d l f G 154 = Ynew' Tryz.prog rs K s ops md d l f G (.cells #[.int .i32 0] 154 (0, 0)) (fun r => .pointer (some ⟨r, 0, none⟩)) := Yal_eq rs K s ops md d l f G zv154
theorem ld155 (a : Addr) (G : GH) : pvLoad Tryz.prog 155 (.pointer (some a)) G = (gcells G a 11).map fun cs => .agg cs.toArray := pvLoad_agg ag155 sz155 (by decide) a G
theorem st155 (rs : Array ResultVar) (K : Value → GH → Prop) (s : List It) (ops : List Oper) (md : Option GH) (d : Option Nat) (l : List Oper) (f : Fr) (G : GH) (a : Addr) (x0 x1 x2 x3 x4 x5 x6 x7 x8 x9 x10 : Value) (h : [x0, x1, x2, x3, x4, x5, x6, x7, x8, x9, x10].all oneV = true) : Yst Tryz.prog rs K s ops md d l f G 155 (.pointer (some a)) (.agg #[x0, x1, x2, x3, x4, x5, x6, x7, x8, x9, x10]) = Yset Tryz.prog rs K s ops md d l f G a [x0, x1, x2, x3, x4, x5, x6, x7, x8, x9, x10] := Yst_ptr rs K s ops md d l f G ⟨by rw [sz155]; decide, by rw [sz155]; rfl⟩ rfl h
theorem al155 (rs : Array ResultVar) (K : Value → GH → Prop) (s : List It) (ops : List Oper) (md : Option GH) (d : Option Nat) (l : List Oper) (f : Fr) (G : GH) : Yal Tryz.prog rs K s ops md d l f G 155 = Ynew' Tryz.prog rs K s ops md d l f G (.cells #[.int .u64 0, .int .u64 0, .int .u32 0, .int .u8 0, .int .u8 0, .int .u8 0, .int .u8 0, .nilFunc, .pointer none, .int .i32 0, .int .i32 0] 155 (0, 0)) (fun r => .pointer (some ⟨r, 0, none⟩)) := Yal_eq rs K s ops md d l f G zv155
theorem fa155_0 (a : Addr) : pvFA Tryz.prog 155 (.pointer (some a)) 0 = some (.pointer (some (a.add 0))) := pvFA_eq (F := 12) (by unfold tyFld; rw [show tyD Tryz.prog 155 = _ from Tryz.underlying155]; rfl) (by rw [show tySz Tryz.prog 12 = 1 from by kernel_rfl]; decide) a
theorem fl155_0 (x0 x1 x2 x3 x4 x5 x6 x7 x8 x9 x10 : Value) : pvField Tryz.prog 155 (.agg #[x0, x1, x2, x3, x4, x5, x6, x7, x8, x9, x10]) 0 = some x0 := pvField_one (F := 12) (i := 0) (off := 0) (cs := [x0, x1, x2, x3, x4, x5, x6, x7, x8, x9, x10]) (by unfold tyFld; rw [show tyD Tryz.prog 155 = _ from Tryz.underlying155]; rfl) (by rw [show tyD Tryz.prog 12 = _ from Tryz.underlying12]; rfl) rfl
theorem fa155_1 (a : Addr) : pvFA Tryz.prog 155 (.pointer (some a)) 1 = some (.pointer (some (a.add 1))) := pvFA_eq (F := 12) (by unfold tyFld; rw [show tyD Tryz.prog 155 = _ from Tryz.underlying155]; rfl) (by rw [show tySz Tryz.prog 12 = 1 from by kernel_rfl]; decide) a
theorem fl155_1 (x0 x1 x2 x3 x4 x5 x6 x7 x8 x9 x10 : Value) : pvField Tryz.prog 155 (.agg #[x0, x1, x2, x3, x4, x5, x6, x7, x8, x9, x10]) 1 = some x1 := pvField_one (F := 12) (i := 1) (off := 1) (cs := [x0, x1, x2, x3, x4, x5, x6, x7, x8, x9, x10]) (by unfold tyFld; rw [show tyD Tryz.prog 155 = _ from Tryz.underlying155]; rfl) (by rw [show tyD Tryz.prog 12 = _ from Tryz.underlying12]; rfl) rfl
theorem fa155_2 (a : Addr) : pvFA Tryz.prog 155 (.pointer (some a)) 2 = some (.pointer (some (a.add 2))) := pvFA_eq (F := 123) (by unfold tyFld; rw [show tyD Tryz.prog 155 = _ from Tryz.underlying155]; rfl) (by rw [show tySz Tryz.prog 123 = 1 from by kernel_rfl]; decide) a
theorem fl155_2 (x0 x1 x2 x3 x4 x5 x6 x7 x8 x9 x10 : Value) : pvField Tryz.prog 155 (.agg #[x0, x1, x2, x3, x4, x5, x6, x7, x8, x9, x10]) 2 = some x2 := pvField_one (F := 123) (i := 2) (off := 2) (cs := [x0, x1, x2, x3, x4, x5, x6, x7, x8, x9, x10]) (by unfold tyFld; rw [show tyD Tryz.prog 155 = _ from Tryz.underlying155]; rfl) (by rw [show tyD Tryz.prog 123 = _ from Tryz.underlying123]; rfl) rfl
theorem fa155_3 (a : Addr) : pvFA Tryz.prog 155 (.pointer (some a)) 3 = some (.pointer (some (a.add 3))) := pvFA_eq (F := 149) (by unfold tyFld; rw [show tyD Tryz.prog 155 = _ from Tryz.underlying155]; rfl) (by rw [show tySz Tryz.prog 149 = 1 from by kernel_rfl]; decide) a
theorem fl155_3 (x0 x1 x2 x3 x4 x5 x6 x7 x8 x9 x10 : Value) : pvField Tryz.prog 155 (.agg #[x0, x1, x2, x3, x4, x5, x6, x7, x8, x9, x10]) 3 = some x3 := pvField_one (F := 149) (i := 3) (off := 3) (cs := [x0, x1, x2, x3, x4, x5, x6, x7, x8, x9, x10]) (by unfold tyFld; rw [show tyD Tryz.prog 155 = _ from Tryz.underlying155]; rfl) (by rw [show tyD Tryz.prog 149 = _ from Tryz.underlying149]; rfl) rfl
theorem fa155_4 (a : Addr) : pvFA Tryz.prog 155 (.pointer (some a)) 4 = some (.pointer (some (a.add 4))) := pvFA_eq (F := 5) (by unfold tyFld; rw [show tyD Tryz.prog 155 = _ from Tryz.underlying155]; rfl) (by rw [show tySz Tryz.prog 5 = 1 from by kernel_rfl]; decide) a
theorem fl155_4 (x0 x1 x2 x3 x4 x5 x6 x7 x8 x9 x10 : Value) : pvField Tryz.prog 155 (.agg #[x0, x1, x2, x3, x4, x5, x6, x7, x8, x9, x10]) 4 = some x4 := pvField_one (F := 5) (i := 4) (off := 4) (cs := [x0, x1, x2, x3, x4, x5, x6, x7, x8, x9, x10]) (by unfold tyFld; rw [show tyD Tryz.prog 155 = _ from Tryz.underlying155]; rfl) (by rw [show tyD Tryz.prog 5 = _ from Tryz.underlying5]; rfl) rfl
theorem fa155_5 (a : Addr) : pvFA Tryz.prog 155 (.pointer (some a)) 5 = some (.pointer (some (a.add 5))) := pvFA_eq (F := 5) (by unfold tyFld; rw [show tyD Tryz.prog 155 = _ from Tryz.underlying155]; rfl) (by rw [show tySz Tryz.prog 5 = 1 from by kernel_rfl]; decide) a
theorem fl155_5 (x0 x1 x2 x3 x4 x5 x6 x7 x8 x9 x10 : Value) : pvField Tryz.prog 155 (.agg #[x0, x1, x2, x3, x4, x5, x6, x7, x8, x9, x10]) 5 = some x5 := pvField_one (F := 5) (i := 5) (off := 5) (cs := [x0, x1, x2, x3, x4, x5, x6, x7, x8, x9, x10]) (by unfold tyFld; rw [show tyD Tryz.prog 155 = _ from Tryz.underlying155]; rfl) (by rw [show tyD Tryz.prog 5 = _ from Tryz.underlying5]; rfl) rfl
theorem fa155_6 (a : Addr) : pvFA Tryz.prog 155 (.pointer (some a)) 6 = some (.pointer (some (a.add 6))) := pvFA_eq (F := 150) (by unfold tyFld; rw [show tyD Tryz.prog 155 = _ from Tryz.underlying155]; rfl) (by rw [show tySz Tryz.prog 150 = 1 from by kernel_rfl]; decide) a
theorem fl155_6 (x0 x1 x2 x3 x4 x5 x6 x7 x8 x9 x10 : Value) : pvField Tryz.prog 155 (.agg #[x0, x1, x2, x3, x4, x5, x6, x7, x8, x9, x10]) 6 = some x6 := pvField_one (F := 150) (i := 6) (off := 6) (cs := [x0, x1, x2, x3, x4, x5, x6, x7, x8, x9, x10]) (by unfold tyFld; rw [show tyD Tryz.prog 155 = _ from Tryz.underlying155]; rfl) (by rw [show tyD Tryz.prog 150 = _ from Tryz.underlying150]; rfl) rfl
theorem fa155_7 (a : Addr) : pvFA Tryz.prog 155 (.pointer (some a)) 7 = some (.pointer (some (a.add 7))) := pvFA_eq (F := 151) (by unfold tyFld; rw [show tyD Tryz.prog 155 = _ from Tryz.underlying155]; rfl) (by rw [show tySz Tryz.prog 151 = 1 from by kernel_rfl]; decide) a
theorem fl155_7 (x0 x1 x2 x3 x4 x5 x6 x7 x8 x9 x10 : Value) : pvField Tryz.prog 155 (.agg #[x0, x1, x2, x3, x4, x5, x6, x7, x8, x9, x10]) 7 = some x7 := pvField_one (F := 151) (i := 7) (off := 7) (cs := [x0, x1, x2, x3, x4, x5, x6, x7, x8, x9, x10]) (by unfold tyFld; rw [show tyD Tryz.prog 155 = _ from Tryz.underlying155]; rfl) (by rw [show tyD Tryz.prog 151 = _ from Tryz.underlying151]; rfl) rfl
theorem fa155_8 (a : Addr) : pvFA Tryz.prog 155 (.pointer (some a)) 8 = some (.pointer (some (a.add 8))) := pvFA_eq (F := 152) (by unfold tyFld; rw [show tyD Tryz.prog 155 = _ from Tryz.underlying155]; rfl) (by rw [show tySz Tryz.prog 152 = 1 from by kernel_rfl]; decide) a
theorem fl155_8 (x0 x1 x2 x3 x4 x5 x6 x7 x8 x9 x10 : Value) : pvField Tryz.prog 155 (.agg #[x0, x1, x2, x3, x4, x5, x6, x7, x8, x9, x10]) 8 = some x8 := pvField_one (F := 152) (i := 8) (off := 8) (cs := [x0, x1, x2, x3, x4, x5, x6, x7, x8, x9, x10]) (by unfold tyFld; rw [show tyD Tryz.prog 155 = _ from Tryz.underlying155]; rfl) (by rw [show tyD Tryz.prog 152 = _ from Tryz.underlying152]; rfl) rfl
theorem fa155_9 (a : Addr) : pvFA Tryz.prog 155 (.pointer (some a)) 9 = some (.pointer (some (a.add 9))) := pvFA_eq (F := 153) (by unfold tyFld; rw [show tyD Tryz.prog 155 = _ from Tryz.underlying155]; rfl) (by rw [show tySz Tryz.prog 153 = 1 from by kernel_rfl]; decide) a
theorem fl155_9 (x0 x1 x2 x3 x4 x5 x6 x7 x8 x9 x10 : Value) : pvField Tryz.prog 155 (.agg #[x0, x1, x2, x3, x4, x5, x6, x7, x8, x9, x10]) 9 = some x9 := pvField_one (F := 153) (i := 9) (off := 9) (cs := [x0, x1, x2, x3, x4, x5, x6, x7, x8, x9, x10]) (by unfold tyFld; rw [show tyD Tryz.prog 155 = _ from Tryz.underlying155]; rfl) (by rw [show tyD Tryz.prog 153 = _ from Tryz.underlying153]; rfl) rfl
theorem fa155_10 (a : Addr) : pvFA Tryz.prog 155 (.pointer (some a)) 10 = some (.pointer (some (a.add 10))) := pvFA_eq (F := 154) (by unfold tyFld; rw [show tyD Tryz.prog 155 = _ from Tryz.underlying155]; rfl) (by rw [show tySz Tryz.prog 154 = 1 from by kernel_rfl]; decide) a
theorem fl155_10 (x0 x1 x2 x3 x4 x5 x6 x7 x8 x9 x10 : Value) : pvField Tryz.prog 155 (.agg #[x0, x1, x2, x3, x4, x5, x6, x7, x8, x9, x10]) 10 = some x10 := pvField_one (F := 154) (i := 10) (off := 10) (cs := [x0, x1, x2, x3, x4, x5, x6, x7, x8, x9, x10]) (by unfold tyFld; rw [show tyD Tryz.prog 155 = _ from Tryz.underlying155]; rfl) (by rw [show tyD Tryz.prog 154 = _ from Tryz.underlying154]; rfl) rfl
theorem ld156 (a : Addr) (G : GH) : pvLoad Tryz.prog 156 (.pointer (some a)) G = (gcells G a 11).map fun cs => .agg cs.toArray := pvLoad_agg ag156 sz156 (by decide) a G
theorem st156 (rs : Array ResultVar) (K : Value → GH → Prop) (s : List It) (ops : List Oper) (md : Option GH) (d : Option Nat) (l : List Oper) (f : Fr) (G : GH) (a : Addr) (x0 x1 x2 x3 x4 x5 x6 x7 x8 x9 x10 : Value) (h : [x0, x1, x2, x3, x4, x5, x6, x7, x8, x9, x10].all oneV = true) : Yst Tryz.prog rs K s ops md d l f G 156 (.pointer (some a)) (.agg #[x0, x1, x2, x3, x4, x5, x6, x7, x8, x9, x10]) = Yset Tryz.prog rs K s ops md d l f G a [x0, x1, x2, x3, x4, x5, x6, x7, x8, x9, x10] := Yst_ptr rs K s ops md d l f G ⟨by rw [sz156]; decide, by rw [sz156]; rfl⟩ rfl h
theorem al156 (rs : Array ResultVar) (K : Value → GH → Prop) (s : List It) (ops : List Oper) (md : Option GH) (d : Option Nat) (l : List Oper) (f : Fr) (G : GH) : Yal Tryz.prog rs K s ops md d l f G 156 = Ynew' Tryz.prog rs K s ops md d l f G (.cells #[.int .u64 0, .int .u64 0, .int .u32 0, .int .u8 0, .int .u8 0, .int .u8 0, .int .u8 0, .nilFunc, .pointer none, .int .i32 0, .int .i32 0] 156 (0, 0)) (fun r => .pointer (some ⟨r, 0, none⟩)) := Yal_eq rs K s ops md d l f G zv156
theorem fa156_0 (a : Addr) : pvFA Tryz.prog 156 (.pointer (some a)) 0 = some (.pointer (some (a.add 0))) := pvFA_eq (F := 12) (by unfold tyFld; rw [show tyD Tryz.prog 156 = _ from Tryz.underlying156]; rfl) (by rw [show tySz Tryz.prog 12 = 1 from by kernel_rfl]; decide) a
theorem fl156_0 (x0 x1 x2 x3 x4 x5 x6 x7 x8 x9 x10 : Value) : pvField Tryz.prog 156 (.agg #[x0, x1, x2, x3, x4, x5, x6, x7, x8, x9, x10]) 0 = some x0 := pvField_one (F := 12) (i := 0) (off := 0) (cs := [x0, x1, x2, x3, x4, x5, x6, x7, x8, x9, x10]) (by unfold tyFld; rw [show tyD Tryz.prog 156 = _ from Tryz.underlying156]; rfl) (by rw [show tyD Tryz.prog 12 = _ from Tryz.underlying12]; rfl) rfl
theorem fa156_1 (a : Addr) : pvFA Tryz.prog 156 (.pointer (some a)) 1 = some (.pointer (some (a.add 1))) := pvFA_eq (F := 12) (by unfold tyFld; rw [show tyD Tryz.prog 156 = _ from Tryz.underlying156]; rfl) (by rw [show tySz Tryz.prog 12 = 1 from by kernel_rfl]; decide) a
theorem fl156_1 (x0 x1 x2 x3 x4 x5 x6 x7 x8 x9 x10 : Value) : pvField Tryz.prog 156 (.agg #[x0, x1, x2, x3, x4, x5, x6, x7, x8, x9, x10]) 1 = some x1 := pvField_one (F := 12) (i := 1) (off := 1) (cs := [x0, x1, x2, x3, x4, x5, x6, x7, x8, x9, x10]) (by unfold tyFld; rw [show tyD Tryz.prog 156 = _ from Tryz.underlying156]; rfl) (by rw [show tyD Tryz.prog 12 = _ from Tryz.underlying12]; rfl) rfl
theorem fa156_2 (a : Addr) : pvFA Tryz.prog 156 (.pointer (some a)) 2 = some (.pointer (some (a.add 2))) := pvFA_eq (F := 123) (by unfold tyFld; rw [show tyD Tryz.prog 156 = _ from Tryz.underlying156]; rfl) (by rw [show tySz Tryz.prog 123 = 1 from by kernel_rfl]; decide) a
theorem fl156_2 (x0 x1 x2 x3 x4 x5 x6 x7 x8 x9 x10 : Value) : pvField Tryz.prog 156 (.agg #[x0, x1, x2, x3, x4, x5, x6, x7, x8, x9, x10]) 2 = some x2 := pvField_one (F := 123) (i := 2) (off := 2) (cs := [x0, x1, x2, x3, x4, x5, x6, x7, x8, x9, x10]) (by unfold tyFld; rw [show tyD Tryz.prog 156 = _ from Tryz.underlying156]; rfl) (by rw [show tyD Tryz.prog 123 = _ from Tryz.underlying123]; rfl) rfl
theorem fa156_3 (a : Addr) : pvFA Tryz.prog 156 (.pointer (some a)) 3 = some (.pointer (some (a.add 3))) := pvFA_eq (F := 149) (by unfold tyFld; rw [show tyD Tryz.prog 156 = _ from Tryz.underlying156]; rfl) (by rw [show tySz Tryz.prog 149 = 1 from by kernel_rfl]; decide) a
theorem fl156_3 (x0 x1 x2 x3 x4 x5 x6 x7 x8 x9 x10 : Value) : pvField Tryz.prog 156 (.agg #[x0, x1, x2, x3, x4, x5, x6, x7, x8, x9, x10]) 3 = some x3 := pvField_one (F := 149) (i := 3) (off := 3) (cs := [x0, x1, x2, x3, x4, x5, x6, x7, x8, x9, x10]) (by unfold tyFld; rw [show tyD Tryz.prog 156 = _ from Tryz.underlying156]; rfl) (by rw [show tyD Tryz.prog 149 = _ from Tryz.underlying149]; rfl) rfl
theorem fa156_4 (a : Addr) : pvFA Tryz.prog 156 (.pointer (some a)) 4 = some (.pointer (some (a.add 4))) := pvFA_eq (F := 5) (by unfold tyFld; rw [show tyD Tryz.prog 156 = _ from Tryz.underlying156]; rfl) (by rw [show tySz Tryz.prog 5 = 1 from by kernel_rfl]; decide) a
theorem fl156_4 (x0 x1 x2 x3 x4 x5 x6 x7 x8 x9 x10 : Value) : pvField Tryz.prog 156 (.agg #[x0, x1, x2, x3, x4, x5, x6, x7, x8, x9, x10]) 4 = some x4 := pvField_one (F := 5) (i := 4) (off := 4) (cs := [x0, x1, x2, x3, x4, x5, x6, x7, x8, x9, x10]) (by unfold tyFld; rw [show tyD Tryz.prog 156 = _ from Tryz.underlying156]; rfl) (by rw [show tyD Tryz.prog 5 = _ from Tryz.underlying5]; rfl) rfl
theorem fa156_5 (a : Addr) : pvFA Tryz.prog 156 (.pointer (some a)) 5 = some (.pointer (some (a.add 5))) := pvFA_eq (F := 5) (by unfold tyFld; rw [show tyD Tryz.prog 156 = _ from Tryz.underlying156]; rfl) (by rw [show tySz Tryz.prog 5 = 1 from by kernel_rfl]; decide) a
theorem fl156_5 (x0 x1 x2 x3 x4 x5 x6 x7 x8 x9 x10 : Value) : pvField Tryz.prog 156 (.agg #[x0, x1, x2, x3, x4, x5, x6, x7, x8, x9, x10]) 5 = some x5 := pvField_one (F := 5) (i := 5) (off := 5) (cs := [x0, x1, x2, x3, x4, x5, x6, x7, x8, x9, x10]) (by unfold tyFld; rw [show tyD Tryz.prog 156 = _ from Tryz.underlying156]; rfl) (by rw [show tyD Tryz.prog 5 = _ from Tryz.underlying5]; rfl) rfl
theorem fa156_6 (a : Addr) : pvFA Tryz.prog 156 (.pointer (some a)) 6 = some (.pointer (some (a.add 6))) := pvFA_eq (F := 150) (by unfold tyFld; rw [show tyD Tryz.prog 156 = _ from Tryz.underlying156]; rfl) (by rw [show tySz Tryz.prog 150 = 1 from by kernel_rfl]; decide) a
theorem fl156_6 (x0 x1 x2 x3 x4 x5 x6 x7 x8 x9 x10 : Value) : pvField Tryz.prog 156 (.agg #[x0, x1, x2, x3, x4, x5, x6, x7, x8, x9, x10]) 6 = some x6 := pvField_one (F := 150) (i := 6) (off := 6) (cs := [x0, x1, x2, x3, x4, x5, x6, x7, x8, x9, x10]) (by unfold tyFld; rw [show tyD Tryz.prog 156 = _ from Tryz.underlying156]; rfl) (by rw [show tyD Tryz.prog 150 = _ from Tryz.underlying150]; rfl) rfl
theorem fa156_7 (a : Addr) : pvFA Tryz.prog 156 (.pointer (some a)) 7 = some (.pointer (some (a.add 7))) := pvFA_eq (F := 151) (by unfold tyFld; rw [show tyD Tryz.prog 156 = _ from Tryz.underlying156]; rfl) (by rw [show tySz Tryz.prog 151 = 1 from by kernel_rfl]; decide) a
theorem fl156_7 (x0 x1 x2 x3 x4 x5 x6 x7 x8 x9 x10 : Value) : pvField Tryz.prog 156 (.agg #[x0, x1, x2, x3, x4, x5, x6, x7, x8, x9, x10]) 7 = some x7 := pvField_one (F := 151) (i := 7) (off := 7) (cs := [x0, x1, x2, x3, x4, x5, x6, x7, x8, x9, x10]) (by unfold tyFld; rw [show tyD Tryz.prog 156 = _ from Tryz.underlying156]; rfl) (by rw [show tyD Tryz.prog 151 = _ from Tryz.underlying151]; rfl) rfl
theorem fa156_8 (a : Addr) : pvFA Tryz.prog 156 (.pointer (some a)) 8 = some (.pointer (some (a.add 8))) := pvFA_eq (F := 152) (by unfold tyFld; rw [show tyD Tryz.prog 156 = _ from Tryz.underlying156]; rfl) (by rw [show tySz Tryz.prog 152 = 1 from by kernel_rfl]; decide) a
theorem fl156_8 (x0 x1 x2 x3 x4 x5 x6 x7 x8 x9 x10 : Value) : pvField Tryz.prog 156 (.agg #[x0, x1, x2, x3, x4, x5, x6, x7, x8, x9, x10]) 8 = some x8 := pvField_one (F := 152) (i := 8) (off := 8) (cs := [x0, x1, x2, x3, x4, x5, x6, x7, x8, x9, x10]) (by unfold tyFld; rw [show tyD Tryz.prog 156 = _ from Tryz.underlying156]; rfl) (by rw [show tyD Tryz.prog 152 = _ from Tryz.underlying152]; rfl) rfl
theorem fa156_9 (a : Addr) : pvFA Tryz.prog 156 (.pointer (some a)) 9 = some (.pointer (some (a.add 9))) := pvFA_eq (F := 153) (by unfold tyFld; rw [show tyD Tryz.prog 156 = _ from Tryz.underlying156]; rfl) (by rw [show tySz Tryz.prog 153 = 1 from by kernel_rfl]; decide) a
theorem fl156_9 (x0 x1 x2 x3 x4 x5 x6 x7 x8 x9 x10 : Value) : pvField Tryz.prog 156 (.agg #[x0, x1, x2, x3, x4, x5, x6, x7, x8, x9, x10]) 9 = some x9 := pvField_one (F := 153) (i := 9) (off := 9) (cs := [x0, x1, x2, x3, x4, x5, x6, x7, x8, x9, x10]) (by unfold tyFld; rw [show tyD Tryz.prog 156 = _ from Tryz.underlying156]; rfl) (by rw [show tyD Tryz.prog 153 = _ from Tryz.underlying153]; rfl) rfl
theorem fa156_10 (a : Addr) : pvFA Tryz.prog 156 (.pointer (some a)) 10 = some (.pointer (some (a.add 10))) := pvFA_eq (F := 154) (by unfold tyFld; rw [show tyD Tryz.prog 156 = _ from Tryz.underlying156]; rfl) (by rw [show tySz Tryz.prog 154 = 1 from by kernel_rfl]; decide) a
theorem fl156_10 (x0 x1 x2 x3 x4 x5 x6 x7 x8 x9 x10 : Value) : pvField Tryz.prog 156 (.agg #[x0, x1, x2, x3, x4, x5, x6, x7, x8, x9, x10]) 10 = some x10 := pvField_one (F := 154) (i := 10) (off := 10) (cs := [x0, x1, x2, x3, x4, x5, x6, x7, x8, x9, x10]) (by unfold tyFld; rw [show tyD Tryz.prog 156 = _ from Tryz.underlying156]; rfl) (by rw [show tyD Tryz.prog 154 = _ from Tryz.underlying154]; rfl) rfl
theorem ld157 (a : Addr) (G : GH) : pvLoad Tryz.prog 157 (.pointer (some a)) G = gcell G a := pvLoad_one ag157 a G
theorem st157 (rs : Array ResultVar) (K : Value → GH → Prop) (s : List It) (ops : List Oper) (md : Option GH) (d : Option Nat) (l : List Oper) (f : Fr) (G : GH) (a : Addr) (v : Value) (h : oneV v = true) : Yst Tryz.prog rs K s ops md d l f G 157 (.pointer (some a)) v = Yset Tryz.prog rs K s ops md d l f G a [v] := Yst_ptr rs K s ops md d l f G ⟨by rw [sz157]; decide, by rw [sz157]; rfl⟩ (one_cells h) (by simp [h])
theorem al157 (rs : Array ResultVar) (K : Value → GH → Prop) (s : List It) (ops : List Oper) (md : Option GH) (d : Option Nat) (l : List Oper) (f : Fr) (G : GH) : Yal Tryz.prog rs K s ops md d l f G 157 = Ynew' Tryz.prog rs K s ops md d l f G (.cells #[.pointer none] 157 (0, 0)) (fun r => .pointer (some ⟨r, 0, none⟩)) := Yal_eq rs K s ops md d l f G zv157
theorem sl22 : SlTy Tryz.prog 22 59 3 := ⟨Tryz.underlying22, sz59, by decide, ⟨_, zv59, rfl⟩, by rw [show tyBytes Tryz.prog 59 = 32 from by kernel_rfl]; decide⟩
theorem sl23 : SlTy Tryz.prog 23 56 5 := ⟨Tryz.underlying23, sz56, by decide, ⟨_, zv56, rfl⟩, by rw [show tyBytes Tryz.prog 56 = 80 from by kernel_rfl]; decide⟩
theorem sl24 : SlTy Tryz.prog 24 62 2 := ⟨Tryz.underlying24, sz62, by decide, ⟨_, zv62, rfl⟩, by rw [show tyBytes Tryz.prog 62 = 32 from by kernel_rfl]; decide⟩
theorem sl27 : SlTy Tryz.prog 27 9 1 := ⟨Tryz.underlying27, sz9, by decide, ⟨_, zv9, rfl⟩, by rw [show tyBytes Tryz.prog 9 = 16 from by kernel_rfl]; decide⟩
theorem sl28 : SlTy Tryz.prog 28 3 1 := ⟨Tryz.underlying28, sz3, by decide, ⟨_, zv3, rfl⟩, by rw [show tyBytes Tryz.prog 3 = 8 from by kernel_rfl]; decide⟩
theorem sl54 : SlTy Tryz.prog 54 70 2 := ⟨Tryz.underlying54, sz70, by decide, ⟨_, zv70, rfl⟩, by rw [show tyBytes Tryz.prog 70 = 16 from by kernel_rfl]; decide⟩
theorem sl72 : SlTy Tryz.prog 72 29 1 := ⟨Tryz.underlying72, sz29, by decide, ⟨_, zv29, rfl⟩, by rw [show tyBytes Tryz.prog 29 = 8 from by kernel_rfl]; decide⟩
end Go.Proofs.YtjhfhacdjmokaaaGreatDoor
namespace Go.Proofs.YtjhfhacdjmokaaaGreatDoor
open Go Go.GL
theorem mixed : Tryz.prog.follows .mixedOrders = true := by kernel_rfl
theorem en3 : GL.Enters Tryz.prog 3 = True := eq_true ⟨Tryz.f3, Tryz.func3, by decide +kernel, rfl⟩
theorem en4 : GL.Enters Tryz.prog 4 = True := eq_true ⟨Tryz.f4, Tryz.func4, by decide +kernel, rfl⟩
theorem en5 : GL.Enters Tryz.prog 5 = True := eq_true ⟨Tryz.f5, Tryz.func5, by decide +kernel, rfl⟩
theorem en6 : GL.Enters Tryz.prog 6 = True := eq_true ⟨Tryz.f6, Tryz.func6, by decide +kernel, rfl⟩
theorem en7 : GL.Enters Tryz.prog 7 = True := eq_true ⟨Tryz.f7, Tryz.func7, by decide +kernel, rfl⟩
theorem en8 : GL.Enters Tryz.prog 8 = True := eq_true ⟨Tryz.f8, Tryz.func8, by decide +kernel, rfl⟩
theorem en9 : GL.Enters Tryz.prog 9 = True := eq_true ⟨Tryz.f9, Tryz.func9, by decide +kernel, rfl⟩
theorem en10 : GL.Enters Tryz.prog 10 = True := eq_true ⟨Tryz.f10, Tryz.func10, by decide +kernel, rfl⟩
theorem en11 : GL.Enters Tryz.prog 11 = True := eq_true ⟨Tryz.f11, Tryz.func11, by decide +kernel, rfl⟩
theorem en12 : GL.Enters Tryz.prog 12 = True := eq_true ⟨Tryz.f12, Tryz.func12, by decide +kernel, rfl⟩
theorem en13 : GL.Enters Tryz.prog 13 = True := eq_true ⟨Tryz.f13, Tryz.func13, by decide +kernel, rfl⟩
theorem en14 : GL.Enters Tryz.prog 14 = True := eq_true ⟨Tryz.f14, Tryz.func14, by decide +kernel, rfl⟩
theorem en15 : GL.Enters Tryz.prog 15 = True := eq_true ⟨Tryz.f15, Tryz.func15, by decide +kernel, rfl⟩
theorem en16 : GL.Enters Tryz.prog 16 = True := eq_true ⟨Tryz.f16, Tryz.func16, by decide +kernel, rfl⟩
theorem en17 : GL.Enters Tryz.prog 17 = True := eq_true ⟨Tryz.f17, Tryz.func17, by decide +kernel, rfl⟩
theorem en18 : GL.Enters Tryz.prog 18 = True := eq_true ⟨Tryz.f18, Tryz.func18, by decide +kernel, rfl⟩
theorem en19 : GL.Enters Tryz.prog 19 = True := eq_true ⟨Tryz.f19, Tryz.func19, by decide +kernel, rfl⟩
theorem en20 : GL.Enters Tryz.prog 20 = True := eq_true ⟨Tryz.f20, Tryz.func20, by decide +kernel, rfl⟩
theorem en21 : GL.Enters Tryz.prog 21 = True := eq_true ⟨Tryz.f21, Tryz.func21, by decide +kernel, rfl⟩
theorem en22 : GL.Enters Tryz.prog 22 = True := eq_true ⟨Tryz.f22, Tryz.func22, by decide +kernel, rfl⟩
theorem en23 : GL.Enters Tryz.prog 23 = True := eq_true ⟨Tryz.f23, Tryz.func23, by decide +kernel, rfl⟩
theorem en24 : GL.Enters Tryz.prog 24 = True := eq_true ⟨Tryz.f24, Tryz.func24, by decide +kernel, rfl⟩
theorem en25 : GL.Enters Tryz.prog 25 = True := eq_true ⟨Tryz.f25, Tryz.func25, by decide +kernel, rfl⟩
theorem en26 : GL.Enters Tryz.prog 26 = True := eq_true ⟨Tryz.f26, Tryz.func26, by decide +kernel, rfl⟩
theorem en27 : GL.Enters Tryz.prog 27 = True := eq_true ⟨Tryz.f27, Tryz.func27, by decide +kernel, rfl⟩
theorem en28 : GL.Enters Tryz.prog 28 = True := eq_true ⟨Tryz.f28, Tryz.func28, by decide +kernel, rfl⟩
theorem en29 : GL.Enters Tryz.prog 29 = True := eq_true ⟨Tryz.f29, Tryz.func29, by decide +kernel, rfl⟩
theorem en30 : GL.Enters Tryz.prog 30 = True := eq_true ⟨Tryz.f30, Tryz.func30, by decide +kernel, rfl⟩
theorem en31 : GL.Enters Tryz.prog 31 = True := eq_true ⟨Tryz.f31, Tryz.func31, by decide +kernel, rfl⟩
theorem en32 : GL.Enters Tryz.prog 32 = True := eq_true ⟨Tryz.f32, Tryz.func32, by decide +kernel, rfl⟩
theorem en33 : GL.Enters Tryz.prog 33 = True := eq_true ⟨Tryz.f33, Tryz.func33, by decide +kernel, rfl⟩
theorem en34 : GL.Enters Tryz.prog 34 = True := eq_true ⟨Tryz.f34, Tryz.func34, by decide +kernel, rfl⟩
theorem en35 : GL.Enters Tryz.prog 35 = True := eq_true ⟨Tryz.f35, Tryz.func35, by decide +kernel, rfl⟩
theorem en36 : GL.Enters Tryz.prog 36 = True := eq_true ⟨Tryz.f36, Tryz.func36, by decide +kernel, rfl⟩
theorem en37 : GL.Enters Tryz.prog 37 = True := eq_true ⟨Tryz.f37, Tryz.func37, by decide +kernel, rfl⟩
theorem en38 : GL.Enters Tryz.prog 38 = True := eq_true ⟨Tryz.f38, Tryz.func38, by decide +kernel, rfl⟩
theorem en39 : GL.Enters Tryz.prog 39 = True := eq_true ⟨Tryz.f39, Tryz.func39, by decide +kernel, rfl⟩
theorem en40 : GL.Enters Tryz.prog 40 = True := eq_true ⟨Tryz.f40, Tryz.func40, by decide +kernel, rfl⟩
theorem en41 : GL.Enters Tryz.prog 41 = True := eq_true ⟨Tryz.f41, Tryz.func41, by decide +kernel, rfl⟩
theorem en42 : GL.Enters Tryz.prog 42 = True := eq_true ⟨Tryz.f42, Tryz.func42, by decide +kernel, rfl⟩
theorem en43 : GL.Enters Tryz.prog 43 = True := eq_true ⟨Tryz.f43, Tryz.func43, by decide +kernel, rfl⟩
theorem en44 : GL.Enters Tryz.prog 44 = True := eq_true ⟨Tryz.f44, Tryz.func44, by decide +kernel, rfl⟩
theorem en45 : GL.Enters Tryz.prog 45 = True := eq_true ⟨Tryz.f45, Tryz.func45, by decide +kernel, rfl⟩
theorem en46 : GL.Enters Tryz.prog 46 = True := eq_true ⟨Tryz.f46, Tryz.func46, by decide +kernel, rfl⟩
theorem en47 : GL.Enters Tryz.prog 47 = True := eq_true ⟨Tryz.f47, Tryz.func47, by decide +kernel, rfl⟩
theorem en48 : GL.Enters Tryz.prog 48 = True := eq_true ⟨Tryz.f48, Tryz.func48, by decide +kernel, rfl⟩
theorem en49 : GL.Enters Tryz.prog 49 = True := eq_true ⟨Tryz.f49, Tryz.func49, by decide +kernel, rfl⟩
theorem en50 : GL.Enters Tryz.prog 50 = True := eq_true ⟨Tryz.f50, Tryz.func50, by decide +kernel, rfl⟩
theorem en51 : GL.Enters Tryz.prog 51 = True := eq_true ⟨Tryz.f51, Tryz.func51, by decide +kernel, rfl⟩
theorem en52 : GL.Enters Tryz.prog 52 = True := eq_true ⟨Tryz.f52, Tryz.func52, by decide +kernel, rfl⟩
theorem en53 : GL.Enters Tryz.prog 53 = True := eq_true ⟨Tryz.f53, Tryz.func53, by decide +kernel, rfl⟩
theorem en54 : GL.Enters Tryz.prog 54 = True := eq_true ⟨Tryz.f54, Tryz.func54, by decide +kernel, rfl⟩
theorem en55 : GL.Enters Tryz.prog 55 = True := eq_true ⟨Tryz.f55, Tryz.func55, by decide +kernel, rfl⟩
theorem en56 : GL.Enters Tryz.prog 56 = True := eq_true ⟨Tryz.f56, Tryz.func56, by decide +kernel, rfl⟩
theorem en57 : GL.Enters Tryz.prog 57 = True := eq_true ⟨Tryz.f57, Tryz.func57, by decide +kernel, rfl⟩
theorem en58 : GL.Enters Tryz.prog 58 = True := eq_true ⟨Tryz.f58, Tryz.func58, by decide +kernel, rfl⟩
theorem en59 : GL.Enters Tryz.prog 59 = True := eq_true ⟨Tryz.f59, Tryz.func59, by decide +kernel, rfl⟩
theorem en60 : GL.Enters Tryz.prog 60 = True := eq_true ⟨Tryz.f60, Tryz.func60, by decide +kernel, rfl⟩
theorem en61 : GL.Enters Tryz.prog 61 = True := eq_true ⟨Tryz.f61, Tryz.func61, by decide +kernel, rfl⟩
theorem en62 : GL.Enters Tryz.prog 62 = True := eq_true ⟨Tryz.f62, Tryz.func62, by decide +kernel, rfl⟩
theorem en63 : GL.Enters Tryz.prog 63 = True := eq_true ⟨Tryz.f63, Tryz.func63, by decide +kernel, rfl⟩
theorem en64 : GL.Enters Tryz.prog 64 = True := eq_true ⟨Tryz.f64, Tryz.func64, by decide +kernel, rfl⟩
theorem en65 : GL.Enters Tryz.prog 65 = True := eq_true ⟨Tryz.f65, Tryz.func65, by decide +kernel, rfl⟩
theorem en66 : GL.Enters Tryz.prog 66 = True := eq_true ⟨Tryz.f66, Tryz.func66, by decide +kernel, rfl⟩
theorem en67 : GL.Enters Tryz.prog 67 = True := eq_true ⟨Tryz.f67, Tryz.func67, by decide +kernel, rfl⟩
theorem en68 : GL.Enters Tryz.prog 68 = True := eq_true ⟨Tryz.f68, Tryz.func68, by decide +kernel, rfl⟩
theorem en69 : GL.Enters Tryz.prog 69 = True := eq_true ⟨Tryz.f69, Tryz.func69, by decide +kernel, rfl⟩
theorem en70 : GL.Enters Tryz.prog 70 = True := eq_true ⟨Tryz.f70, Tryz.func70, by decide +kernel, rfl⟩
theorem en71 : GL.Enters Tryz.prog 71 = True := eq_true ⟨Tryz.f71, Tryz.func71, by decide +kernel, rfl⟩
theorem en72 : GL.Enters Tryz.prog 72 = True := eq_true ⟨Tryz.f72, Tryz.func72, by decide +kernel, rfl⟩
theorem en73 : GL.Enters Tryz.prog 73 = True := eq_true ⟨Tryz.f73, Tryz.func73, by decide +kernel, rfl⟩
theorem en74 : GL.Enters Tryz.prog 74 = True := eq_true ⟨Tryz.f74, Tryz.func74, by decide +kernel, rfl⟩
theorem en75 : GL.Enters Tryz.prog 75 = True := eq_true ⟨Tryz.f75, Tryz.func75, by decide +kernel, rfl⟩
theorem en76 : GL.Enters Tryz.prog 76 = True := eq_true ⟨Tryz.f76, Tryz.func76, by decide +kernel, rfl⟩
theorem en77 : GL.Enters Tryz.prog 77 = True := eq_true ⟨Tryz.f77, Tryz.func77, by decide +kernel, rfl⟩
theorem en79 : GL.Enters Tryz.prog 79 = True := eq_true ⟨Tryz.f79, Tryz.func79, by decide +kernel, rfl⟩
theorem en80 : GL.Enters Tryz.prog 80 = True := eq_true ⟨Tryz.f80, Tryz.func80, by decide +kernel, rfl⟩
theorem en81 : GL.Enters Tryz.prog 81 = True := eq_true ⟨Tryz.f81, Tryz.func81, by decide +kernel, rfl⟩
theorem en82 : GL.Enters Tryz.prog 82 = True := eq_true ⟨Tryz.f82, Tryz.func82, by decide +kernel, rfl⟩
theorem en84 : GL.Enters Tryz.prog 84 = True := eq_true ⟨Tryz.f84, Tryz.func84, by decide +kernel, rfl⟩
theorem en85 : GL.Enters Tryz.prog 85 = True := eq_true ⟨Tryz.f85, Tryz.func85, by decide +kernel, rfl⟩
theorem en86 : GL.Enters Tryz.prog 86 = True := eq_true ⟨Tryz.f86, Tryz.func86, by decide +kernel, rfl⟩
theorem en87 : GL.Enters Tryz.prog 87 = True := eq_true ⟨Tryz.f87, Tryz.func87, by decide +kernel, rfl⟩
theorem en88 : GL.Enters Tryz.prog 88 = True := eq_true ⟨Tryz.f88, Tryz.func88, by decide +kernel, rfl⟩
theorem en89 : GL.Enters Tryz.prog 89 = True := eq_true ⟨Tryz.f89, Tryz.func89, by decide +kernel, rfl⟩
theorem en90 : GL.Enters Tryz.prog 90 = True := eq_true ⟨Tryz.f90, Tryz.func90, by decide +kernel, rfl⟩
theorem en91 : GL.Enters Tryz.prog 91 = True := eq_true ⟨Tryz.f91, Tryz.func91, by decide +kernel, rfl⟩
theorem en92 : GL.Enters Tryz.prog 92 = True := eq_true ⟨Tryz.f92, Tryz.func92, by decide +kernel, rfl⟩
theorem en93 : GL.Enters Tryz.prog 93 = True := eq_true ⟨Tryz.f93, Tryz.func93, by decide +kernel, rfl⟩
theorem en94 : GL.Enters Tryz.prog 94 = True := eq_true ⟨Tryz.f94, Tryz.func94, by decide +kernel, rfl⟩
theorem en95 : GL.Enters Tryz.prog 95 = True := eq_true ⟨Tryz.f95, Tryz.func95, by decide +kernel, rfl⟩
theorem en96 : GL.Enters Tryz.prog 96 = True := eq_true ⟨Tryz.f96, Tryz.func96, by decide +kernel, rfl⟩
theorem en97 : GL.Enters Tryz.prog 97 = True := eq_true ⟨Tryz.f97, Tryz.func97, by decide +kernel, rfl⟩
theorem en98 : GL.Enters Tryz.prog 98 = True := eq_true ⟨Tryz.f98, Tryz.func98, by decide +kernel, rfl⟩
theorem en99 : GL.Enters Tryz.prog 99 = True := eq_true ⟨Tryz.f99, Tryz.func99, by decide +kernel, rfl⟩
theorem en100 : GL.Enters Tryz.prog 100 = True := eq_true ⟨Tryz.f100, Tryz.func100, by decide +kernel, rfl⟩
theorem en101 : GL.Enters Tryz.prog 101 = True := eq_true ⟨Tryz.f101, Tryz.func101, by decide +kernel, rfl⟩
theorem en102 : GL.Enters Tryz.prog 102 = True := eq_true ⟨Tryz.f102, Tryz.func102, by decide +kernel, rfl⟩
theorem en103 : GL.Enters Tryz.prog 103 = True := eq_true ⟨Tryz.f103, Tryz.func103, by decide +kernel, rfl⟩
theorem en104 : GL.Enters Tryz.prog 104 = True := eq_true ⟨Tryz.f104, Tryz.func104, by decide +kernel, rfl⟩
theorem en105 : GL.Enters Tryz.prog 105 = True := eq_true ⟨Tryz.f105, Tryz.func105, by decide +kernel, rfl⟩
theorem en107 : GL.Enters Tryz.prog 107 = True := eq_true ⟨Tryz.f107, Tryz.func107, by decide +kernel, rfl⟩
end Go.Proofs.YtjhfhacdjmokaaaGreatDoor
namespace Go.Proofs.YtjhfhacdjmokaaaGreatDoor
open Go Go.GL
theorem bd26_0_1 (x0 x1 : Value) (hx0 : oneV x0 = true) (hx1 : oneV x1 = true) : pvBuild Tryz.prog 26 [(0, x0), (1, x1)] = some (.agg #[x0, x1, .slice none 0 0]) := pvBuild_struct (pl := [(0, 1), (1, 1), (2, 1)]) (show tyD Tryz.prog 26 = _ from Tryz.underlying26) zv26 (by kernel_rfl) (by decide +kernel) (by simp [Instr.fill, agg_cells, int_cells, bool_cells, string_cells, slice_cells, pointer_cells, map_cells, nilFunc_cells, nilIface_cells, one_cells hx0, one_cells hx1])
theorem bd26_0_2 (x0 x1 : Value) (hx0 : oneV x0 = true) (hx1 : oneV x1 = true) : pvBuild Tryz.prog 26 [(0, x0), (2, x1)] = some (.agg #[x0, .slice none 0 0, x1]) := pvBuild_struct (pl := [(0, 1), (1, 1), (2, 1)]) (show tyD Tryz.prog 26 = _ from Tryz.underlying26) zv26 (by kernel_rfl) (by decide +kernel) (by simp [Instr.fill, agg_cells, int_cells, bool_cells, string_cells, slice_cells, pointer_cells, map_cells, nilFunc_cells, nilIface_cells, one_cells hx0, one_cells hx1])
theorem bd56_0_1_2_3_4 (x0 x1 x2 x3 x4 : Value) (hx0 : oneV x0 = true) (hx1 : oneV x1 = true) (hx2 : oneV x2 = true) (hx3 : oneV x3 = true) (hx4 : oneV x4 = true) : pvBuild Tryz.prog 56 [(0, x0), (1, x1), (2, x2), (3, x3), (4, x4)] = some (.agg #[x0, x1, x2, x3, x4]) := pvBuild_struct (pl := [(0, 1), (1, 1), (2, 1), (3, 1), (4, 1)]) (show tyD Tryz.prog 56 = _ from Tryz.underlying56) zv56 (by kernel_rfl) (by decide +kernel) (by simp [Instr.fill, agg_cells, int_cells, bool_cells, string_cells, slice_cells, pointer_cells, map_cells, nilFunc_cells, nilIface_cells, one_cells hx0, one_cells hx1, one_cells hx2, one_cells hx3, one_cells hx4])
theorem bd59_0 (x0 : Value) (hx0 : oneV x0 = true) : pvBuild Tryz.prog 59 [(0, x0)] = some (.agg #[x0, .int .i64 0, .int .i64 0]) := pvBuild_struct (pl := [(0, 1), (1, 1), (2, 1)]) (show tyD Tryz.prog 59 = _ from Tryz.underlying59) zv59 (by kernel_rfl) (by decide +kernel) (by simp [Instr.fill, agg_cells, int_cells, bool_cells, string_cells, slice_cells, pointer_cells, map_cells, nilFunc_cells, nilIface_cells, one_cells hx0])
theorem bd62_0_1 (x0 x1 : Value) (hx0 : oneV x0 = true) (hx1 : oneV x1 = true) : pvBuild Tryz.prog 62 [(0, x0), (1, x1)] = some (.agg #[x0, x1]) := pvBuild_struct (pl := [(0, 1), (1, 1)]) (show tyD Tryz.prog 62 = _ from Tryz.underlying62) zv62 (by kernel_rfl) (by decide +kernel) (by simp [Instr.fill, agg_cells, int_cells, bool_cells, string_cells, slice_cells, pointer_cells, map_cells, nilFunc_cells, nilIface_cells, one_cells hx0, one_cells hx1])
theorem bd70_0_1 (x0 x1 : Value) (hx0 : oneV x0 = true) (hx1 : oneV x1 = true) : pvBuild Tryz.prog 70 [(0, x0), (1, x1)] = some (.agg #[x0, x1]) := pvBuild_struct (pl := [(0, 1), (1, 1)]) (show tyD Tryz.prog 70 = _ from Tryz.underlying70) zv70 (by kernel_rfl) (by decide +kernel) (by simp [Instr.fill, agg_cells, int_cells, bool_cells, string_cells, slice_cells, pointer_cells, map_cells, nilFunc_cells, nilIface_cells, one_cells hx0, one_cells hx1])
theorem bs22_0  : bsCells Tryz.prog 22 0 [] = some ([], 59) := bsCells_all [] (show tyD Tryz.prog 22 = _ from Tryz.underlying22) sz59 (by decide) (by decide) zv59 rfl rfl
theorem bs22_1 (x0 x1 x2 : Value) : bsCells Tryz.prog 22 1 [(0, .agg #[x0, x1, x2])] = some ([x0, x1, x2], 59) := bsCells_all [.agg #[x0, x1, x2]] (show tyD Tryz.prog 22 = _ from Tryz.underlying22) sz59 (by decide) (by decide) zv59 rfl rfl
theorem bs23_1 (x0 x1 x2 x3 x4 : Value) : bsCells Tryz.prog 23 1 [(0, .agg #[x0, x1, x2, x3, x4])] = some ([x0, x1, x2, x3, x4], 56) := bsCells_all [.agg #[x0, x1, x2, x3, x4]] (show tyD Tryz.prog 23 = _ from Tryz.underlying23) sz56 (by decide) (by decide) zv56 rfl rfl
theorem bs24_0  : bsCells Tryz.prog 24 0 [] = some ([], 62) := bsCells_all [] (show tyD Tryz.prog 24 = _ from Tryz.underlying24) sz62 (by decide) (by decide) zv62 rfl rfl
theorem bs27_0   : bsCells Tryz.prog 27 0 [] = some ([], 9) := bsCells_eq (show tyD Tryz.prog 27 = _ from Tryz.underlying27) sz9 (by decide) (by decide) zv9 (by simp [Instr.fill, agg_cells, int_cells, bool_cells, string_cells, slice_cells, pointer_cells, map_cells, nilFunc_cells, nilIface_cells, Array.range] <;> rfl)
theorem bs27_2 (x0 x1 : Value) (hx0 : oneV x0 = true) (hx1 : oneV x1 = true) : bsCells Tryz.prog 27 2 [(0, x0), (1, x1)] = some ([x0, x1], 9) := bsCells_eq (show tyD Tryz.prog 27 = _ from Tryz.underlying27) sz9 (by decide) (by decide) zv9 (by simp [Instr.fill, agg_cells, int_cells, bool_cells, string_cells, slice_cells, pointer_cells, map_cells, nilFunc_cells, nilIface_cells, Array.range, one_cells hx0, one_cells hx1] <;> rfl)
theorem bs28_1 (x0 : Value) (hx0 : oneV x0 = true) : bsCells Tryz.prog 28 1 [(0, x0)] = some ([x0], 3) := bsCells_eq (show tyD Tryz.prog 28 = _ from Tryz.underlying28) sz3 (by decide) (by decide) zv3 (by simp [Instr.fill, agg_cells, int_cells, bool_cells, string_cells, slice_cells, pointer_cells, map_cells, nilFunc_cells, nilIface_cells, Array.range, one_cells hx0] <;> rfl)
theorem bs28_2 (x0 x1 : Value) (hx0 : oneV x0 = true) (hx1 : oneV x1 = true) : bsCells Tryz.prog 28 2 [(0, x0), (1, x1)] = some ([x0, x1], 3) := bsCells_eq (show tyD Tryz.prog 28 = _ from Tryz.underlying28) sz3 (by decide) (by decide) zv3 (by simp [Instr.fill, agg_cells, int_cells, bool_cells, string_cells, slice_cells, pointer_cells, map_cells, nilFunc_cells, nilIface_cells, Array.range, one_cells hx0, one_cells hx1] <;> rfl)
theorem bs54_0  : bsCells Tryz.prog 54 0 [] = some ([], 70) := bsCells_all [] (show tyD Tryz.prog 54 = _ from Tryz.underlying54) sz70 (by decide) (by decide) zv70 rfl rfl
theorem bs54_1 (x0 x1 : Value) : bsCells Tryz.prog 54 1 [(0, .agg #[x0, x1])] = some ([x0, x1], 70) := bsCells_all [.agg #[x0, x1]] (show tyD Tryz.prog 54 = _ from Tryz.underlying54) sz70 (by decide) (by decide) zv70 rfl rfl
theorem bs54_2 (x0 x1 x2 x3 : Value) : bsCells Tryz.prog 54 2 [(0, .agg #[x0, x1]), (1, .agg #[x2, x3])] = some ([x0, x1, x2, x3], 70) := bsCells_all [.agg #[x0, x1], .agg #[x2, x3]] (show tyD Tryz.prog 54 = _ from Tryz.underlying54) sz70 (by decide) (by decide) zv70 rfl rfl
theorem bs72_2 (x0 x1 : Value) (hx0 : oneV x0 = true) (hx1 : oneV x1 = true) : bsCells Tryz.prog 72 2 [(0, x0), (1, x1)] = some ([x0, x1], 29) := bsCells_eq (show tyD Tryz.prog 72 = _ from Tryz.underlying72) sz29 (by decide) (by decide) zv29 (by simp [Instr.fill, agg_cells, int_cells, bool_cells, string_cells, slice_cells, pointer_cells, map_cells, nilFunc_cells, nilIface_cells, Array.range, one_cells hx0, one_cells hx1] <;> rfl)
theorem cv3_98 (k : IntKind) (n : Int) : pvConv Tryz.prog 3 98 (.int k n) = some (.int .u64 (IntKind.u64.wrap n)) := pvConv_int 3 98 Tryz.underlying98 Tryz.underlying3 k n
theorem cv3_127 (k : IntKind) (n : Int) : pvConv Tryz.prog 3 127 (.int k n) = some (.int .u64 (IntKind.u64.wrap n)) := pvConv_int 3 127 Tryz.underlying127 Tryz.underlying3 k n
theorem cv5_3 (k : IntKind) (n : Int) : pvConv Tryz.prog 5 3 (.int k n) = some (.int .i64 (IntKind.i64.wrap n)) := pvConv_int 5 3 Tryz.underlying3 Tryz.underlying5 k n
theorem cv5_21 (k : IntKind) (n : Int) : pvConv Tryz.prog 5 21 (.int k n) = some (.int .i32 (IntKind.i32.wrap n)) := pvConv_int 5 21 Tryz.underlying21 Tryz.underlying5 k n
theorem cv21_5 (k : IntKind) (n : Int) : pvConv Tryz.prog 21 5 (.int k n) = some (.int .u8 (IntKind.u8.wrap n)) := pvConv_int 21 5 Tryz.underlying5 Tryz.underlying21 k n
theorem cv98_3 (k : IntKind) (n : Int) : pvConv Tryz.prog 98 3 (.int k n) = some (.int .i64 (IntKind.i64.wrap n)) := pvConv_int 98 3 Tryz.underlying3 Tryz.underlying98 k n
theorem cv98_123 (k : IntKind) (n : Int) : pvConv Tryz.prog 98 123 (.int k n) = some (.int .u32 (IntKind.u32.wrap n)) := pvConv_int 98 123 Tryz.underlying123 Tryz.underlying98 k n
theorem cv123_5 (k : IntKind) (n : Int) : pvConv Tryz.prog 123 5 (.int k n) = some (.int .u8 (IntKind.u8.wrap n)) := pvConv_int 123 5 Tryz.underlying5 Tryz.underlying123 k n
theorem cv125_5 (k : IntKind) (n : Int) : pvConv Tryz.prog 125 5 (.int k n) = some (.int .u8 (IntKind.u8.wrap n)) := pvConv_int 125 5 Tryz.underlying5 Tryz.underlying125 k n
end Go.Proofs.YtjhfhacdjmokaaaGreatDoor
namespace Go.Proofs.YtjhfhacdjmokaaaGreatDoor
open Go Go.GL
theorem pt9 (cs : Array Value) (off : Nat) : calm Tryz.prog (part 9 cs off) = cs[off]? := calm_part_one ag9 cs off
theorem eq9 (d : Nat) (a b : ByteArray) : calm Tryz.prog (Op.equalIn (d + 1) 9 (.string a) (.string b)) = some (decide (a = b)) := calm_eq_string Tryz.underlying9 d a b
theorem ck9 (em : Bool) (n : Nat) (v : Value) : calm Tryz.prog (Instr.checkKey em (n + 1) 9 v) = some () := calm_check_plain Tryz.underlying9 rfl em n v
theorem eq62 (d : Nat) (x0 y0 : ByteArray) (x1 y1 : ByteArray) : calm Tryz.prog (Op.equalIn (d + 2) 62 (.agg #[.string x0, .string x1]) (.agg #[.string y0, .string y1])) = some (decide (x0 = y0) && decide (x1 = y1)) := by
  rw [calm_equal_struct (d + 1) 62 _ _ (show Tryz.prog.underlying 62 = _ from Tryz.underlying62) (by kernel_rfl)]
  simp [eqFields_cons, eqFields_nil, eq9, pt9]
  (try by_cases h0 : x0 = y0) <;> (try by_cases h1 : x1 = y1) <;> (try simp [*])
theorem aeq62 (a b : Operand) (x0 y0 : ByteArray) (x1 y1 : ByteArray) : pvB Tryz.prog .eql 62 a b (.agg #[.string x0, .string x1]) (.agg #[.string y0, .string y1]) = some (.bool (decide (x0 = y0) && decide (x1 = y1))) := gwp_aggEq (by kernel_rfl) (eq62 9998 x0 y0 x1 y1)
theorem ane62 (a b : Operand) (x0 y0 : ByteArray) (x1 y1 : ByteArray) : pvB Tryz.prog .neq 62 a b (.agg #[.string x0, .string x1]) (.agg #[.string y0, .string y1]) = some (.bool (!(decide (x0 = y0) && decide (x1 = y1)))) := gwp_aggNe (by kernel_rfl) (eq62 9998 x0 y0 x1 y1)
theorem ck62 (em : Bool) (n : Nat) (x0 : ByteArray) (x1 : ByteArray) : calm Tryz.prog (Instr.checkKey em (n + 2) 62 (.agg #[.string x0, .string x1])) = some () := by
  rw [calm_check_struct em (n + 1) 62 _ (show Tryz.prog.underlying 62 = _ from Tryz.underlying62)]
  simp [chkFields, ck9, pt9]
theorem kf62 (x0 : ByteArray) (x1 : ByteArray) {es : List MapEntry} (h : ∀ e ∈ es, ∃ y0 y1, e.key = .agg #[.string y0, .string y1]) : KeyFit Tryz.prog 62 (.agg #[.string x0, .string x1]) es := ⟨fun em => ck62 em 9998 x0 x1, by simp [Instr.sameBits, bytes_beq], by rw [show Op.equal 62 (.agg #[.string x0, .string x1]) (.agg #[.string x0, .string x1]) = Op.equalIn (9998 + 2) 62 (.agg #[.string x0, .string x1]) (.agg #[.string x0, .string x1]) from rfl, eq62]; simp, fun e he => by
  obtain ⟨y0, y1, hy⟩ := h e he
  rw [hy, show Op.equal 62 (.agg #[.string x0, .string x1]) (.agg #[.string y0, .string y1]) = Op.equalIn (9998 + 2) 62 (.agg #[.string x0, .string x1]) (.agg #[.string y0, .string y1]) from rfl, eq62]
  rw [Option.some.injEq, Bool.eq_iff_iff]
  simp [and_assoc]⟩
end Go.Proofs.YtjhfhacdjmokaaaGreatDoor
namespace Go.Proofs.YtjhfhacdjmokaaaGreatDoor
open Go Go.GL
set_option linter.defProp false in
def gT := (And.intro (And.intro (And.intro (And.intro (And.intro (And.intro (And.intro (And.intro (And.intro @ld2 @st2) (And.intro @al2 @ld3)) (And.intro (And.intro @st3 @al3) (And.intro @ld4 @st4))) (And.intro (And.intro (And.intro @al4 @be4) (And.intro @bn4 @ld5)) (And.intro (And.intro @st5 @al5) (And.intro @ld6 @st6)))) (And.intro (And.intro (And.intro (And.intro @al6 @ld7) (And.intro @st7 @al7)) (And.intro (And.intro @fa7_0 @fl7_0) (And.intro @fa7_1 @fl7_1))) (And.intro (And.intro (And.intro @fa7_2 @fl7_2) (And.intro @fa7_3 @fl7_3)) (And.intro (And.intro @ld8 @st8) (And.intro @al8 (And.intro @fa8_0 @fl8_0)))))) (And.intro (And.intro (And.intro (And.intro (And.intro @fa8_1 @fl8_1) (And.intro @fa8_2 @fl8_2)) (And.intro (And.intro @fa8_3 @fl8_3) (And.intro @ld9 @st9))) (And.intro (And.intro (And.intro @al9 @ln9) (And.intro @ix9 @ld10)) (And.intro (And.intro @st10 @al10) (And.intro @ln10 (And.intro @ix10 @ld11))))) (And.intro (And.intro (And.intro (And.intro @st11 @al11) (And.intro @ln11 @ix11)) (And.intro (And.intro @ld12 @st12) (And.intro @al12 @ld13))) (And.intro (And.intro (And.intro @st13 @al13) (And.intro @fa13_0 @fl13_0)) (And.intro (And.intro @fa13_1 @fl13_1) (And.intro @ld14 (And.intro @st14 @al14))))))) (And.intro (And.intro (And.intro (And.intro (And.intro (And.intro @fa14_0 @fl14_0) (And.intro @fa14_1 @fl14_1)) (And.intro (And.intro @ld15 @st15) (And.intro @al15 @ld16))) (And.intro (And.intro (And.intro @st16 @al16) (And.intro @ld17 @st17)) (And.intro (And.intro @al17 @ld18) (And.intro @st18 (And.intro @al18 @fa18_0))))) (And.intro (And.intro (And.intro (And.intro @fl18_0 @ld19) (And.intro @st19 @al19)) (And.intro (And.intro @fa19_0 @fl19_0) (And.intro @ld21 @st21))) (And.intro (And.intro (And.intro @al21 @ld22) (And.intro @st22 @al22)) (And.intro (And.intro @ia22 @ln22) (And.intro @cp22 (And.intro @sxh22 @sxl22)))))) (And.intro (And.intro (And.intro (And.intro (And.intro @sxb22 @sxm22) (And.intro @sn22 @snn22)) (And.intro (And.intro @ld23 @st23) (And.intro @al23 @ia23))) (And.intro (And.intro (And.intro @ln23 @cp23) (And.intro @sxh23 @sxl23)) (And.intro (And.intro @sxb23 @sxm23) (And.intro @sn23 (And.intro @snn23 @ld24))))) (And.intro (And.intro (And.intro (And.intro @st24 @al24) (And.intro @ia24 @ln24)) (And.intro (And.intro @cp24 @sxh24) (And.intro @sxl24 @sxb24))) (And.intro (And.intro (And.intro @sxm24 @sn24) (And.intro @snn24 @ld25)) (And.intro (And.intro @st25 @al25) (And.intro @fa25_0 (And.intro @fl25_0 @fa25_1)))))))) (And.intro (And.intro (And.intro (And.intro (And.intro (And.intro (And.intro @fl25_1 @fa25_2) (And.intro @fl25_2 @ld26)) (And.intro (And.intro @st26 @al26) (And.intro @fa26_0 @fl26_0))) (And.intro (And.intro (And.intro @fa26_1 @fl26_1) (And.intro @fa26_2 @fl26_2)) (And.intro (And.intro @ld27 @st27) (And.intro @al27 @ia27)))) (And.intro (And.intro (And.intro (And.intro @ln27 @cp27) (And.intro @sxh27 @sxl27)) (And.intro (And.intro @sxb27 @sxm27) (And.intro @sn27 @snn27))) (And.intro (And.intro (And.intro @ld28 @st28) (And.intro @al28 @ia28)) (And.intro (And.intro @ln28 @cp28) (And.intro @sxh28 (And.intro @sxl28 @sxb28)))))) (And.intro (And.intro (And.intro (And.intro (And.intro @sxm28 @sn28) (And.intro @snn28 @ld29)) (And.intro (And.intro @st29 @al29) (And.intro @ld49 @st49))) (And.intro (And.intro (And.intro @al49 @ld53) (And.intro @st53 @al53)) (And.intro (And.intro @ld54 @st54) (And.intro @al54 (And.intro @ia54 @ln54))))) (And.intro (And.intro (And.intro (And.intro @cp54 @sxh54) (And.intro @sxl54 @sxb54)) (And.intro (And.intro @sxm54 @sn54) (And.intro @snn54 @ld55))) (And.intro (And.intro (And.intro @st55 @al55) (And.intro @fa55_0 @fl55_0)) (And.intro (And.intro @fa55_1 @fl55_1) (And.intro @fa55_2 (And.intro @fl55_2 @fa55_3))))))) (And.intro (And.intro (And.intro (And.intro (And.intro (And.intro @fl55_3 @fa55_4) (And.intro @fl55_4 @ld56)) (And.intro (And.intro @st56 @al56) (And.intro @fa56_0 @fl56_0))) (And.intro (And.intro (And.intro @fa56_1 @fl56_1) (And.intro @fa56_2 @fl56_2)) (And.intro (And.intro @fa56_3 @fl56_3) (And.intro @fa56_4 (And.intro @fl56_4 @ld58))))) (And.intro (And.intro (And.intro (And.intro @st58 @al58) (And.intro @fa58_0 @fl58_0)) (And.intro (And.intro @fa58_1 @fl58_1) (And.intro @fa58_2 @fl58_2))) (And.intro (And.intro (And.intro @ld59 @st59) (And.intro @al59 @fa59_0)) (And.intro (And.intro @fl59_0 @fa59_1) (And.intro @fl59_1 (And.intro @fa59_2 @fl59_2)))))) (And.intro (And.intro (And.intro (And.intro (And.intro @ld61 @st61) (And.intro @al61 @fa61_0)) (And.intro (And.intro @fl61_0 @fa61_1) (And.intro @fl61_1 @ld62))) (And.intro (And.intro (And.intro @st62 @al62) (And.intro @fa62_0 @fl62_0)) (And.intro (And.intro @fa62_1 @fl62_1) (And.intro @ld69 (And.intro @st69 @al69))))) (And.intro (And.intro (And.intro (And.intro @fa69_0 @fl69_0) (And.intro @fa69_1 @fl69_1)) (And.intro (And.intro @ld70 @st70) (And.intro @al70 @fa70_0))) (And.intro (And.intro (And.intro @fl70_0 @fa70_1) (And.intro @fl70_1 @ld72)) (And.intro (And.intro @st72 @al72) (And.intro @ia72 (And.intro @ln72 @cp72))))))))) (And.intro (And.intro (And.intro (And.intro (And.intro (And.intro (And.intro (And.intro @sxh72 @sxl72) (And.intro @sxb72 @sxm72)) (And.intro (And.intro @sn72 @snn72) (And.intro @ld98 @st98))) (And.intro (And.intro (And.intro @al98 @ld106) (And.intro @st106 @al106)) (And.intro (And.intro @ld115 @st115) (And.intro @al115 @ld123)))) (And.intro (And.intro (And.intro (And.intro @st123 @al123) (And.intro @ld125 @st125)) (And.intro (And.intro @al125 @ld127) (And.intro @st127 @al127))) (And.intro (And.intro (And.intro @ld131 @st131) (And.intro @al131 @ld134)) (And.intro (And.intro @st134 @al134) (And.intro @fa134_0 (And.intro @fl134_0 @fa134_1)))))) (And.intro (And.intro (And.intro (And.intro (And.intro @fl134_1 @ld135) (And.intro @st135 @al135)) (And.intro (And.intro @fa135_0 @fl135_0) (And.intro @fa135_1 @fl135_1))) (And.intro (And.intro (And.intro @ld136 @st136) (And.intro @al136 @ld139)) (And.intro (And.intro @st139 @al139) (And.intro @ld143 (And.intro @st143 @al143))))) (And.intro (And.intro (And.intro (And.intro @fa143_0 @fl143_0) (And.intro @fa143_1 @fl143_1)) (And.intro (And.intro @fa143_2 @fl143_2) (And.intro @fa143_3 @fl143_3))) (And.intro (And.intro (And.intro @ld144 @st144) (And.intro @al144 @fa144_0)) (And.intro (And.intro @fl144_0 @fa144_1) (And.intro @fl144_1 (And.intro @fa144_2 @fl144_2))))))) (And.intro (And.intro (And.intro (And.intro (And.intro (And.intro @fa144_3 @fl144_3) (And.intro @al145 @al146)) (And.intro (And.intro @al147 @ld149) (And.intro @st149 @al149))) (And.intro (And.intro (And.intro @ld150 @st150) (And.intro @al150 @ld152)) (And.intro (And.intro @st152 @al152) (And.intro @ld153 (And.intro @st153 @al153))))) (And.intro (And.intro (And.intro (And.intro @ld154 @st154) (And.intro @al154 @ld155)) (And.intro (And.intro @st155 @al155) (And.intro @fa155_0 @fl155_0))) (And.intro (And.intro (And.intro @fa155_1 @fl155_1) (And.intro @fa155_2 @fl155_2)) (And.intro (And.intro @fa155_3 @fl155_3) (And.intro @fa155_4 (And.intro @fl155_4 @fa155_5)))))) (And.intro (And.intro (And.intro (And.intro (And.intro @fl155_5 @fa155_6) (And.intro @fl155_6 @fa155_7)) (And.intro (And.intro @fl155_7 @fa155_8) (And.intro @fl155_8 @fa155_9))) (And.intro (And.intro (And.intro @fl155_9 @fa155_10) (And.intro @fl155_10 @ld156)) (And.intro (And.intro @st156 @al156) (And.intro @fa156_0 (And.intro @fl156_0 @fa156_1))))) (And.intro (And.intro (And.intro (And.intro @fl156_1 @fa156_2) (And.intro @fl156_2 @fa156_3)) (And.intro (And.intro @fl156_3 @fa156_4) (And.intro @fl156_4 @fa156_5))) (And.intro (And.intro (And.intro @fl156_5 @fa156_6) (And.intro @fl156_6 @fa156_7)) (And.intro (And.intro @fl156_7 @fa156_8) (And.intro @fl156_8 (And.intro @fa156_9 @fl156_9)))))))) (And.intro (And.intro (And.intro (And.intro (And.intro (And.intro (And.intro @fa156_10 @fl156_10) (And.intro @ld157 @st157)) (And.intro (And.intro @al157 @en3) (And.intro @en4 @en5))) (And.intro (And.intro (And.intro @en6 @en7) (And.intro @en8 @en9)) (And.intro (And.intro @en10 @en11) (And.intro @en12 (And.intro @en13 @en14))))) (And.intro (And.intro (And.intro (And.intro @en15 @en16) (And.intro @en17 @en18)) (And.intro (And.intro @en19 @en20) (And.intro @en21 @en22))) (And.intro (And.intro (And.intro @en23 @en24) (And.intro @en25 @en26)) (And.intro (And.intro @en27 @en28) (And.intro @en29 (And.intro @en30 @en31)))))) (And.intro (And.intro (And.intro (And.intro (And.intro @en32 @en33) (And.intro @en34 @en35)) (And.intro (And.intro @en36 @en37) (And.intro @en38 @en39))) (And.intro (And.intro (And.intro @en40 @en41) (And.intro @en42 @en43)) (And.intro (And.intro @en44 @en45) (And.intro @en46 (And.intro @en47 @en48))))) (And.intro (And.intro (And.intro (And.intro @en49 @en50) (And.intro @en51 @en52)) (And.intro (And.intro @en53 @en54) (And.intro @en55 @en56))) (And.intro (And.intro (And.intro @en57 @en58) (And.intro @en59 @en60)) (And.intro (And.intro @en61 @en62) (And.intro @en63 (And.intro @en64 @en65))))))) (And.intro (And.intro (And.intro (And.intro (And.intro (And.intro @en66 @en67) (And.intro @en68 @en69)) (And.intro (And.intro @en70 @en71) (And.intro @en72 @en73))) (And.intro (And.intro (And.intro @en74 @en75) (And.intro @en76 @en77)) (And.intro (And.intro @en79 @en80) (And.intro @en81 (And.intro @en82 @en84))))) (And.intro (And.intro (And.intro (And.intro @en85 @en86) (And.intro @en87 @en88)) (And.intro (And.intro @en89 @en90) (And.intro @en91 @en92))) (And.intro (And.intro (And.intro @en93 @en94) (And.intro @en95 @en96)) (And.intro (And.intro @en97 @en98) (And.intro @en99 (And.intro @en100 @en101)))))) (And.intro (And.intro (And.intro (And.intro (And.intro @en102 @en103) (And.intro @en104 @en105)) (And.intro (And.intro @en107 @bd26_0_1) (And.intro @bd26_0_2 @bd56_0_1_2_3_4))) (And.intro (And.intro (And.intro @bd59_0 @bd62_0_1) (And.intro @bd70_0_1 @bs22_0)) (And.intro (And.intro @bs22_1 @bs23_1) (And.intro @bs24_0 (And.intro @bs27_0 @bs27_2))))) (And.intro (And.intro (And.intro (And.intro @bs28_1 @bs28_2) (And.intro @bs54_0 @bs54_1)) (And.intro (And.intro @bs54_2 @bs72_2) (And.intro @cv3_98 @cv3_127))) (And.intro (And.intro (And.intro @cv5_3 @cv5_21) (And.intro @cv21_5 @cv98_3)) (And.intro (And.intro @cv98_123 @cv123_5) (And.intro @cv125_5 (And.intro @aeq62 @ane62))))))))))
end Go.Proofs.YtjhfhacdjmokaaaGreatDoor
namespace Go.Proofs.YtjhfhacdjmokaaaGreatDoor
open Go Go.GL
attribute [local irreducible] Ycall GCalls
set_option maxRecDepth 10000
set_option maxHeartbeats 0
def within (a lo hi : Int) : Bool := decide (lo ≤ a) && decide (a ≤ hi)
theorem out_within (a lo hi : Int) : (decide (a < lo) || decide (hi < a)) = !within a lo hi := by
  unfold within
  by_cases h1 : a < lo <;> by_cases h2 : hi < a <;> simp [h1, h2] <;> omega
theorem within_iff {a lo hi : Int} : within a lo hi = true ↔ lo ≤ a ∧ a ≤ hi := by simp [within]
def moment (a : Int) : Bool := within a 0 345686399999
def coord (a : Int) : Bool := within a (-10000) 10000
def sized (a : Int) : Bool := within a 1 10000
def zoned (a : Int) : Bool := within a (-1440) 1440
def point (a b : Int) : Bool := coord a && coord b
def bi (b : Bool) : Int := if b then 0 else 1
theorem p38 {G0 : GH} {a lo hi : Int}  : Pure Tryz.prog G0 38 [V a, V lo, V hi] (.bool (!within a lo hi)) := by
  intro G hG
  clear hG G0
  refine enter Tryz.func38 15 #[.tmp 6] rfl Tryz.ntmps38 rfl (by decide +kernel) rfl ?_
  rw [← out_within]
  focus
    simp (maxDischargeDepth := 9) only [↓gB, gV, gT, reduceIte, reduceCtorEq, Nat.reduceEqDiff, Nat.reduceAdd, Nat.reduceSub, Nat.reduceLeDiff, Nat.reduceLT, Int.reduceEq, Nat.reduceMul]
    by_cases c1 : (a : Int) < lo
    rotate_left 1
    focus
      simp (maxDischargeDepth := 9) only [↓gB, gV, gT, reduceIte, reduceCtorEq, Nat.reduceEqDiff, Nat.reduceAdd, Nat.reduceSub, Nat.reduceLeDiff, Nat.reduceLT, Int.reduceEq, Nat.reduceMul, c1]
      exact Kup_val (le_refl _) rfl
    rotate_right 1
    simp (maxDischargeDepth := 9) only [↓gB, gV, gT, reduceIte, reduceCtorEq, Nat.reduceEqDiff, Nat.reduceAdd, Nat.reduceSub, Nat.reduceLeDiff, Nat.reduceLT, Int.reduceEq, Nat.reduceMul, c1]
    exact Kup_val (le_refl _) rfl
theorem p28 {G0 : GH} {a lo hi : Int}  : Pure Tryz.prog G0 28 [V a, V lo, V hi] (.bool (within a lo hi)) := by
  intro G hG
  clear hG G0
  refine enter Tryz.func28 15 #[.tmp 6] rfl Tryz.ntmps28 rfl (by decide +kernel) rfl ?_
  focus
    simp (maxDischargeDepth := 9) only [↓gB, gV, gT, reduceIte, reduceCtorEq, Nat.reduceEqDiff, Nat.reduceAdd, Nat.reduceSub, Nat.reduceLeDiff, Nat.reduceLT, Int.reduceEq, Nat.reduceMul, within]
    by_cases c1 : (lo : Int) ≤ a
    rotate_left 1
    focus
      simp (maxDischargeDepth := 9) only [↓gB, gV, gT, reduceIte, reduceCtorEq, Nat.reduceEqDiff, Nat.reduceAdd, Nat.reduceSub, Nat.reduceLeDiff, Nat.reduceLT, Int.reduceEq, Nat.reduceMul, c1, within]
      exact Kup_val (le_refl _) rfl
    rotate_right 1
    simp (maxDischargeDepth := 9) only [↓gB, gV, gT, reduceIte, reduceCtorEq, Nat.reduceEqDiff, Nat.reduceAdd, Nat.reduceSub, Nat.reduceLeDiff, Nat.reduceLT, Int.reduceEq, Nat.reduceMul, c1, within]
    exact Kup_val (le_refl _) rfl
theorem p20 {G0 : GH} {a : Int}  : Pure Tryz.prog G0 20 [V a] (.bool (moment a)) := by
  intro G hG
  clear hG G0
  refine enter Tryz.func20 6 #[.tmp 2] rfl Tryz.ntmps20 rfl (by decide +kernel) rfl ?_
  simp (maxDischargeDepth := 9) only [↓gB, gV, gT, reduceIte, reduceCtorEq, Nat.reduceEqDiff, Nat.reduceAdd, Nat.reduceSub, Nat.reduceLeDiff, Nat.reduceLT, Int.reduceEq, Nat.reduceMul, moment]
  refine Ycp (p38) ?_
  simp (maxDischargeDepth := 9) only [↓gB, gV, gT, reduceIte, reduceCtorEq, Nat.reduceEqDiff, Nat.reduceAdd, Nat.reduceSub, Nat.reduceLeDiff, Nat.reduceLT, Int.reduceEq, Nat.reduceMul, moment]
  exact Kup_val (le_refl _) rfl
def fdiv (a s : Int) : Int := if a.tmod s < 0 then IntKind.i64.wrap (IntKind.i64.wrap (a.tdiv s) - 1) else IntKind.i64.wrap (a.tdiv s)
theorem p62 {G0 : GH} {a s : Int} (hs : s ≠ 0) : Pure Tryz.prog G0 62 [V a, V s] (V (fdiv a s)) := by
  intro G hG
  clear hG G0
  refine enter Tryz.func62 16 #[.tmp 4] rfl Tryz.ntmps62 rfl (by decide +kernel) rfl ?_
  focus
    simp (maxDischargeDepth := 9) only [↓gB, gV, gT, reduceIte, reduceCtorEq, Nat.reduceEqDiff, Nat.reduceAdd, Nat.reduceSub, Nat.reduceLeDiff, Nat.reduceLT, Int.reduceEq, Nat.reduceMul, fdiv]
    refine vguard_intro (by omega) ?_
    refine vguard_intro (by omega) ?_
    refine Xc_split _ _ _ _ _ (fun c1 => ?_) (fun c1 => ?_)
    rotate_left 1
    focus
      simp (maxDischargeDepth := 9) only [↓gB, gV, gT, reduceIte, reduceCtorEq, Nat.reduceEqDiff, Nat.reduceAdd, Nat.reduceSub, Nat.reduceLeDiff, Nat.reduceLT, Int.reduceEq, Nat.reduceMul, c1, fdiv]
      exact Kup_val (le_refl _) rfl
    rotate_right 1
    simp (maxDischargeDepth := 9) only [↓gB, gV, gT, reduceIte, reduceCtorEq, Nat.reduceEqDiff, Nat.reduceAdd, Nat.reduceSub, Nat.reduceLeDiff, Nat.reduceLT, Int.reduceEq, Nat.reduceMul, c1, fdiv]
    exact Kup_val (le_refl _) rfl
def w64 (x : Int) : Int := IntKind.i64.wrap x
def inWeek (t : Int) : Int := w64 (t - w64 (fdiv t 604800000 * 604800000))
def hour1 (at_ zone : Int) : Int := w64 ((inWeek (w64 (at_ + w64 (zone * 60000)))).tdiv 3600000)
def hour2 (at_ zone : Int) : Int := w64 (fdiv (w64 (at_ + w64 (zone * 60000))) 3600000 - w64 (fdiv (fdiv (w64 (at_ + w64 (zone * 60000))) 3600000) 168 * 168))
theorem p14 {G0 : GH} {a : Int}  : Pure Tryz.prog G0 14 [V a] (V (bi (moment a))) := by
  intro G hG
  clear hG G0
  refine enter Tryz.func14 6 #[.tmp 2] rfl Tryz.ntmps14 rfl (by decide +kernel) rfl ?_
  focus
    simp (maxDischargeDepth := 9) only [↓gB, gV, gT, reduceIte, reduceCtorEq, Nat.reduceEqDiff, Nat.reduceAdd, Nat.reduceSub, Nat.reduceLeDiff, Nat.reduceLT, Int.reduceEq, Nat.reduceMul, bi, moment]
    refine Ycp (p28) ?_
    simp (maxDischargeDepth := 9) only [↓gB, gV, gT, reduceIte, reduceCtorEq, Nat.reduceEqDiff, Nat.reduceAdd, Nat.reduceSub, Nat.reduceLeDiff, Nat.reduceLT, Int.reduceEq, Nat.reduceMul, bi, moment]
    rcases bool_tf (Go.Proofs.YtjhfhacdjmokaaaGreatDoor.within a 0 345686399999) with c1 | c1
    rotate_left 1
    focus
      simp (maxDischargeDepth := 9) only [↓gB, gV, gT, reduceIte, reduceCtorEq, Nat.reduceEqDiff, Nat.reduceAdd, Nat.reduceSub, Nat.reduceLeDiff, Nat.reduceLT, Int.reduceEq, Nat.reduceMul, c1, bi, moment]
      exact Kup_val (le_refl _) rfl
    rotate_right 1
    simp (maxDischargeDepth := 9) only [↓gB, gV, gT, reduceIte, reduceCtorEq, Nat.reduceEqDiff, Nat.reduceAdd, Nat.reduceSub, Nat.reduceLeDiff, Nat.reduceLT, Int.reduceEq, Nat.reduceMul, c1, bi, moment]
    exact Kup_val (le_refl _) rfl
def houred (a : Int) : Bool := within a 0 167
theorem p66 {G0 : GH} {a : Int}  : Pure Tryz.prog G0 66 [V a] (.bool false) := by
  intro G hG
  clear hG G0
  refine enter Tryz.func66 6 #[.tmp 2] rfl Tryz.ntmps66 rfl (by decide +kernel) rfl ?_
  simp (maxDischargeDepth := 9) only [↓gB, gV, gT, reduceIte, reduceCtorEq, Nat.reduceEqDiff, Nat.reduceAdd, Nat.reduceSub, Nat.reduceLeDiff, Nat.reduceLT, Int.reduceEq, Nat.reduceMul]
  exact Kup_val (le_refl _) rfl
def cmp3 (a b : Int) : Int := if a < b then -1 else if b < a then 1 else 0
theorem p47 {G0 : GH} {a b : Int}  : Pure Tryz.prog G0 47 [V a, V b] (V (cmp3 a b)) := by
  intro G hG
  clear hG G0
  refine enter Tryz.func47 20 #[.tmp 4] rfl Tryz.ntmps47 rfl (by decide +kernel) rfl ?_
  focus
    simp (maxDischargeDepth := 9) only [↓gB, gV, gT, reduceIte, reduceCtorEq, Nat.reduceEqDiff, Nat.reduceAdd, Nat.reduceSub, Nat.reduceLeDiff, Nat.reduceLT, Int.reduceEq, Nat.reduceMul, cmp3]
    refine Ycp (p66) ?_
    simp (maxDischargeDepth := 9) only [↓gB, gV, gT, reduceIte, reduceCtorEq, Nat.reduceEqDiff, Nat.reduceAdd, Nat.reduceSub, Nat.reduceLeDiff, Nat.reduceLT, Int.reduceEq, Nat.reduceMul, cmp3]
    refine Ycp (p66) ?_
    simp (maxDischargeDepth := 9) only [↓gB, gV, gT, reduceIte, reduceCtorEq, Nat.reduceEqDiff, Nat.reduceAdd, Nat.reduceSub, Nat.reduceLeDiff, Nat.reduceLT, Int.reduceEq, Nat.reduceMul, cmp3]
    refine Xc_split _ _ _ _ _ (fun c1 => ?_) (fun c1 => ?_)
    rotate_left 1
    focus
      simp (maxDischargeDepth := 9) only [↓gB, gV, gT, reduceIte, reduceCtorEq, Nat.reduceEqDiff, Nat.reduceAdd, Nat.reduceSub, Nat.reduceLeDiff, Nat.reduceLT, Int.reduceEq, Nat.reduceMul, c1, cmp3]
      refine Xc_split _ _ _ _ _ (fun c2 => ?_) (fun c2 => ?_)
      rotate_left 1
      focus
        simp (maxDischargeDepth := 9) only [↓gB, gV, gT, reduceIte, reduceCtorEq, Nat.reduceEqDiff, Nat.reduceAdd, Nat.reduceSub, Nat.reduceLeDiff, Nat.reduceLT, Int.reduceEq, Nat.reduceMul, c1, c2, cmp3]
        exact Kup_val (le_refl _) rfl
      rotate_right 1
      simp (maxDischargeDepth := 9) only [↓gB, gV, gT, reduceIte, reduceCtorEq, Nat.reduceEqDiff, Nat.reduceAdd, Nat.reduceSub, Nat.reduceLeDiff, Nat.reduceLT, Int.reduceEq, Nat.reduceMul, c1, c2, cmp3]
      exact Kup_val (le_refl _) rfl
    rotate_right 1
    simp (maxDischargeDepth := 9) only [↓gB, gV, gT, reduceIte, reduceCtorEq, Nat.reduceEqDiff, Nat.reduceAdd, Nat.reduceSub, Nat.reduceLeDiff, Nat.reduceLT, Int.reduceEq, Nat.reduceMul, c1, cmp3]
    exact Kup_val (le_refl _) rfl
def windowed (a b : Int) : Bool := within a 0 b && decide (b ≤ 345686400000)
theorem p16 {G0 : GH} {b : Bool} {e : Int}  : Pure Tryz.prog G0 16 [.bool b, V e] (V (if b then e else 0)) := by
  intro G hG
  clear hG G0
  refine enter Tryz.func16 7 #[.tmp 4] rfl Tryz.ntmps16 rfl (by decide +kernel) rfl ?_
  focus
    simp (maxDischargeDepth := 9) only [↓gB, gV, gT, reduceIte, reduceCtorEq, Nat.reduceEqDiff, Nat.reduceAdd, Nat.reduceSub, Nat.reduceLeDiff, Nat.reduceLT, Int.reduceEq, Nat.reduceMul]
    rcases bool_tf (b) with c1 | c1
    rotate_left 1
    focus
      simp (maxDischargeDepth := 9) only [↓gB, gV, gT, reduceIte, reduceCtorEq, Nat.reduceEqDiff, Nat.reduceAdd, Nat.reduceSub, Nat.reduceLeDiff, Nat.reduceLT, Int.reduceEq, Nat.reduceMul, c1]
      exact Kup_val (le_refl _) rfl
    rotate_right 1
    simp (maxDischargeDepth := 9) only [↓gB, gV, gT, reduceIte, reduceCtorEq, Nat.reduceEqDiff, Nat.reduceAdd, Nat.reduceSub, Nat.reduceLeDiff, Nat.reduceLT, Int.reduceEq, Nat.reduceMul, c1]
    exact Kup_val (le_refl _) rfl
def cellCmp (a b c d : Int) : Int := if cmp3 a c = 0 then cmp3 b d else cmp3 a c
def orOf : List Int → Int
  | [] => 0
  | x :: l => if x ≠ 0 then x else orOf l
end Go.Proofs.YtjhfhacdjmokaaaGreatDoor
namespace Go.Proofs.YtjhfhacdjmokaaaGreatDoor
open Go Go.GL
attribute [local irreducible] Ycall GCalls
set_option maxRecDepth 10000
set_option maxHeartbeats 0
theorem orE_gen {G0 : GH} {l : List Int} {r : Nat} {e : TypeId} {t : Bool} {fr : Nat × Nat} (hn : (l.length : Int) ≤ 9223372036854775807) (hr : G0 r = some (.cells (l.map V).toArray e fr, t)) : Pure Tryz.prog G0 12 [.slice (some ⟨r, 0, none⟩) l.length l.length] (V (orOf l)) := by
  intro G hG; replace hr := hG _ _ hr; clear hG G0
  refine enter Tryz.func12 18 #[.tmp 2] rfl Tryz.ntmps12 rfl (by decide +kernel) rfl ?_
  simp (maxDischargeDepth := 9) only [↓gB, gV, gT, reduceIte, reduceCtorEq, Nat.reduceEqDiff, Nat.reduceAdd, Nat.reduceSub, Nat.reduceLeDiff, Nat.reduceLT, Int.reduceEq, Nat.reduceMul, hr]
  focus
    refine Xloop_intro _ _ _ _ _ (fun k f G' => ∃ (i : Nat), k = l.length - i ∧ (i ≤ l.length) ∧ (orOf l = orOf (l.drop i)) ∧ (G = G') ∧ f 8 = V i ∧ f 3 = Go.Value.int Go.IntKind.i64 0 ∧ f 6 = Go.Value.slice (Option.some { block := r, off := 0 }) l.length l.length ∧ f 7 = Go.Value.int Go.IntKind.i64 ↑l.length) _ ⟨0, rfl, ?_, ?_, rfl, by simp (maxDischargeDepth := 9) only [↓gB, gV, gT, reduceIte, reduceCtorEq, Nat.reduceEqDiff, Nat.reduceAdd, Nat.reduceSub, Nat.reduceLeDiff, Nat.reduceLT, Int.reduceEq, Nat.reduceMul, hr, and_self]⟩ ?_
    · omega
    · rfl
    rintro k f G' ⟨i, rfl, hi, h, rfl, f8, f3, f6, f7⟩
  simp (maxDischargeDepth := 9) only [↓gB, gV, gT, reduceIte, reduceCtorEq, Nat.reduceEqDiff, Nat.reduceAdd, Nat.reduceSub, Nat.reduceLeDiff, Nat.reduceLT, Int.reduceEq, Nat.reduceMul, hr, f8, f3, f6, f7]
  refine Xc_split _ _ _ _ _ (fun hlt => ?_) (fun hlt => ?_)
  · obtain ⟨x, hx⟩ : ∃ x, l[i]? = some x := ⟨l[i]'(by omega), List.getElem?_eq_getElem (by omega)⟩
    have hd := drop_at hx
    focus
      simp (maxDischargeDepth := 9) only [↓gB, gV, gT, reduceIte, reduceCtorEq, Nat.reduceEqDiff, Nat.reduceAdd, Nat.reduceSub, Nat.reduceLeDiff, Nat.reduceLT, Int.reduceEq, Nat.reduceMul, hr, f8, f3, f6, f7, List.getElem?_map, hx]
      refine vguard_intro (by omega) ?_
      refine Xc_split _ _ _ _ _ (fun c1 => ?_) (fun c1 => ?_)
      rotate_left 1
      focus
        simp (maxDischargeDepth := 9) only [↓gB, gV, gT, reduceIte, reduceCtorEq, Nat.reduceEqDiff, Nat.reduceAdd, Nat.reduceSub, Nat.reduceLeDiff, Nat.reduceLT, Int.reduceEq, Nat.reduceMul, hr, f8, f3, f6, f7, c1, List.getElem?_map, hx]
        have q1 : Go.IntKind.i64.wrap (↑i + 1) = ↑i + 1 := wrap_id (by omega)
        simp (maxDischargeDepth := 9) only [↓gB, gV, gT, reduceIte, reduceCtorEq, Nat.reduceEqDiff, Nat.reduceAdd, Nat.reduceSub, Nat.reduceLeDiff, Nat.reduceLT, Int.reduceEq, Nat.reduceMul, hr, f8, f3, f6, f7, c1, q1, List.getElem?_map, hx]
        rw [N_lp]
        refine ⟨_, ?_, _, ?_, i + 1, rfl, ?_, ?_, rfl, by simp (maxDischargeDepth := 9) only [↓gB, gV, gT, reduceIte, reduceCtorEq, Nat.reduceEqDiff, Nat.reduceAdd, Nat.reduceSub, Nat.reduceLeDiff, Nat.reduceLT, Int.reduceEq, Nat.reduceMul, hr, f8, f3, f6, f7, c1, q1, List.getElem?_map, hx, nat_succ, and_self]⟩
        · omega
        · exact sub_refl _
        · omega
        · (rw [h, hd]; simp [orOf, *]; done)
      rotate_right 1
      simp (maxDischargeDepth := 9) only [↓gB, gV, gT, reduceIte, reduceCtorEq, Nat.reduceEqDiff, Nat.reduceAdd, Nat.reduceSub, Nat.reduceLeDiff, Nat.reduceLT, Int.reduceEq, Nat.reduceMul, hr, f8, f3, f6, f7, c1, List.getElem?_map, hx]
      refine Kup_val (le_refl _) ?_
      focus (rw [h, hd]; simp [orOf, *]; done)
  · simp (maxDischargeDepth := 9) only [↓gB, gV, gT, reduceIte, reduceCtorEq, Nat.reduceEqDiff, Nat.reduceAdd, Nat.reduceSub, Nat.reduceLeDiff, Nat.reduceLT, Int.reduceEq, Nat.reduceMul, hr, f8, f3, f6, f7]
    refine Kup_val (le_refl _) ?_
    focus (rw [h, List.drop_eq_nil_of_le (by omega)]; rfl; done)
theorem orI_gen {G0 : GH} {l : List Int} {r : Nat} {e : TypeId} {t : Bool} {fr : Nat × Nat} (hn : (l.length : Int) ≤ 9223372036854775807) (hr : G0 r = some (.cells (l.map V).toArray e fr, t)) : Pure Tryz.prog G0 56 [.slice (some ⟨r, 0, none⟩) l.length l.length] (V (orOf l)) := by
  intro G hG; replace hr := hG _ _ hr; clear hG G0
  refine enter Tryz.func56 18 #[.tmp 2] rfl Tryz.ntmps56 rfl (by decide +kernel) rfl ?_
  simp (maxDischargeDepth := 9) only [↓gB, gV, gT, reduceIte, reduceCtorEq, Nat.reduceEqDiff, Nat.reduceAdd, Nat.reduceSub, Nat.reduceLeDiff, Nat.reduceLT, Int.reduceEq, Nat.reduceMul, hr]
  focus
    refine Xloop_intro _ _ _ _ _ (fun k f G' => ∃ (i : Nat), k = l.length - i ∧ (i ≤ l.length) ∧ (orOf l = orOf (l.drop i)) ∧ (G = G') ∧ f 8 = V i ∧ f 3 = Go.Value.int Go.IntKind.i64 0 ∧ f 6 = Go.Value.slice (Option.some { block := r, off := 0 }) l.length l.length ∧ f 7 = Go.Value.int Go.IntKind.i64 ↑l.length) _ ⟨0, rfl, ?_, ?_, rfl, by simp (maxDischargeDepth := 9) only [↓gB, gV, gT, reduceIte, reduceCtorEq, Nat.reduceEqDiff, Nat.reduceAdd, Nat.reduceSub, Nat.reduceLeDiff, Nat.reduceLT, Int.reduceEq, Nat.reduceMul, hr, and_self]⟩ ?_
    · omega
    · rfl
    rintro k f G' ⟨i, rfl, hi, h, rfl, f8, f3, f6, f7⟩
  simp (maxDischargeDepth := 9) only [↓gB, gV, gT, reduceIte, reduceCtorEq, Nat.reduceEqDiff, Nat.reduceAdd, Nat.reduceSub, Nat.reduceLeDiff, Nat.reduceLT, Int.reduceEq, Nat.reduceMul, hr, f8, f3, f6, f7]
  refine Xc_split _ _ _ _ _ (fun hlt => ?_) (fun hlt => ?_)
  · obtain ⟨x, hx⟩ : ∃ x, l[i]? = some x := ⟨l[i]'(by omega), List.getElem?_eq_getElem (by omega)⟩
    have hd := drop_at hx
    focus
      simp (maxDischargeDepth := 9) only [↓gB, gV, gT, reduceIte, reduceCtorEq, Nat.reduceEqDiff, Nat.reduceAdd, Nat.reduceSub, Nat.reduceLeDiff, Nat.reduceLT, Int.reduceEq, Nat.reduceMul, hr, f8, f3, f6, f7, List.getElem?_map, hx]
      refine vguard_intro (by omega) ?_
      refine Xc_split _ _ _ _ _ (fun c1 => ?_) (fun c1 => ?_)
      rotate_left 1
      focus
        simp (maxDischargeDepth := 9) only [↓gB, gV, gT, reduceIte, reduceCtorEq, Nat.reduceEqDiff, Nat.reduceAdd, Nat.reduceSub, Nat.reduceLeDiff, Nat.reduceLT, Int.reduceEq, Nat.reduceMul, hr, f8, f3, f6, f7, c1, List.getElem?_map, hx]
        have q1 : Go.IntKind.i64.wrap (↑i + 1) = ↑i + 1 := wrap_id (by omega)
        simp (maxDischargeDepth := 9) only [↓gB, gV, gT, reduceIte, reduceCtorEq, Nat.reduceEqDiff, Nat.reduceAdd, Nat.reduceSub, Nat.reduceLeDiff, Nat.reduceLT, Int.reduceEq, Nat.reduceMul, hr, f8, f3, f6, f7, c1, q1, List.getElem?_map, hx]
        rw [N_lp]
        refine ⟨_, ?_, _, ?_, i + 1, rfl, ?_, ?_, rfl, by simp (maxDischargeDepth := 9) only [↓gB, gV, gT, reduceIte, reduceCtorEq, Nat.reduceEqDiff, Nat.reduceAdd, Nat.reduceSub, Nat.reduceLeDiff, Nat.reduceLT, Int.reduceEq, Nat.reduceMul, hr, f8, f3, f6, f7, c1, q1, List.getElem?_map, hx, nat_succ, and_self]⟩
        · omega
        · exact sub_refl _
        · omega
        · (rw [h, hd]; simp [orOf, *]; done)
      rotate_right 1
      simp (maxDischargeDepth := 9) only [↓gB, gV, gT, reduceIte, reduceCtorEq, Nat.reduceEqDiff, Nat.reduceAdd, Nat.reduceSub, Nat.reduceLeDiff, Nat.reduceLT, Int.reduceEq, Nat.reduceMul, hr, f8, f3, f6, f7, c1, List.getElem?_map, hx]
      refine Kup_val (le_refl _) ?_
      focus (rw [h, hd]; simp [orOf, *]; done)
  · simp (maxDischargeDepth := 9) only [↓gB, gV, gT, reduceIte, reduceCtorEq, Nat.reduceEqDiff, Nat.reduceAdd, Nat.reduceSub, Nat.reduceLeDiff, Nat.reduceLT, Int.reduceEq, Nat.reduceMul, hr, f8, f3, f6, f7]
    refine Kup_val (le_refl _) ?_
    focus (rw [h, List.drop_eq_nil_of_le (by omega)]; rfl; done)
theorem p12 {G0 : GH} {x y : Int} {r : Nat} {e : TypeId} {t : Bool} {fr : Nat × Nat} (hr : G0 r = some (.cells [V x, V y].toArray e fr, t)) : Pure Tryz.prog G0 12 [.slice (some ⟨r, 0, none⟩) 2 2] (V (orOf [x, y])) := orE_gen (l := [x, y]) (by simp) hr
theorem p12b {G0 : GH} {x y z : Int} {r : Nat} {e : TypeId} {t : Bool} {fr : Nat × Nat} (hr : G0 r = some (.cells [V x, V y, V z].toArray e fr, t)) : Pure Tryz.prog G0 12 [.slice (some ⟨r, 0, none⟩) 3 3] (V (orOf [x, y, z])) := orE_gen (l := [x, y, z]) (by simp) hr
theorem p12c {G0 : GH} {x y z u : Int} {r : Nat} {e : TypeId} {t : Bool} {fr : Nat × Nat} (hr : G0 r = some (.cells [V x, V y, V z, V u].toArray e fr, t)) : Pure Tryz.prog G0 12 [.slice (some ⟨r, 0, none⟩) 4 4] (V (orOf [x, y, z, u])) := orE_gen (l := [x, y, z, u]) (by simp) hr
theorem p12d {G0 : GH} {x y z u w : Int} {r : Nat} {e : TypeId} {t : Bool} {fr : Nat × Nat} (hr : G0 r = some (.cells [V x, V y, V z, V u, V w].toArray e fr, t)) : Pure Tryz.prog G0 12 [.slice (some ⟨r, 0, none⟩) 5 5] (V (orOf [x, y, z, u, w])) := orE_gen (l := [x, y, z, u, w]) (by simp) hr
theorem p56 {G0 : GH} {x y : Int} {r : Nat} {e : TypeId} {t : Bool} {fr : Nat × Nat} (hr : G0 r = some (.cells [V x, V y].toArray e fr, t)) : Pure Tryz.prog G0 56 [.slice (some ⟨r, 0, none⟩) 2 2] (V (orOf [x, y])) := orI_gen (l := [x, y]) (by simp) hr
theorem orOf2 (x y : Int) : orOf [x, y] = if x = 0 then y else x := by
  unfold orOf; by_cases h : x = 0
  · subst h; simp [orOf]; omega
  · simp [h]
def tallyCmp (a b h c d k : Int) : Int := if cellCmp a b c d = 0 then cmp3 h k else cellCmp a b c d
end Go.Proofs.YtjhfhacdjmokaaaGreatDoor
namespace Go.Proofs.YtjhfhacdjmokaaaGreatDoor
open Go Go.GL
attribute [local irreducible] Ycall GCalls
set_option maxRecDepth 10000
set_option maxHeartbeats 0
def prevOf {α : Type} (l : List α) (i : Nat) : Option α := if i = 0 then none else l[i-1]?
theorem prevOf_s {α : Type} (l : List α) (i : Nat) : prevOf l (i + 1) = l[i]? := by simp [prevOf]
theorem prevOf_0 {α : Type} (l : List α) : prevOf l 0 = none := rfl
theorem prevOf_z {α : Type} {l : List α} {i : Nat} (h : ¬ (0:Int) < i) : prevOf l i = none := by simp [prevOf]; omega
theorem prevOf_p {α : Type} {l : List α} {i : Nat} (h : (0:Int) < i) : prevOf l i = l[i-1]? := by simp [prevOf]; omega
def kb (b : UInt8) : Bool := (decide (97 ≤ b.toNat) && decide (b.toNat ≤ 122)) || (decide (48 ≤ b.toNat) && decide (b.toNat ≤ 57)) || decide (b.toNat = 45) || decide (b.toNat = 95)
def isKey (s : ByteArray) : Bool := match s.data.toList with
  | [] => false
  | c :: l => decide (s.size ≤ 40) && decide (97 ≤ c.toNat) && decide (c.toNat ≤ 122) && (c :: l).all kb
theorem getD_at {l : List UInt8} {i : Nat} (h : i < l.length) : ∃ b, l[i]? = some b ∧ l.getD i 0 = b := ⟨l[i], List.getElem?_eq_getElem h, by simp [List.getD_eq_getElem?_getD, List.getElem?_eq_getElem h]⟩
theorem p37 {G0 : GH} {s : ByteArray}  : Pure Tryz.prog G0 37 [.string s] (.bool (isKey s)) := by
  intro G hG
  clear hG G0
  refine enter Tryz.func37 54 #[.tmp 2] rfl Tryz.ntmps37 rfl (by decide +kernel) rfl ?_
  by_cases he : s = ⟨#[]⟩
  · subst he
    simp (maxDischargeDepth := 9) only [↓gB, gV, gT, reduceIte, reduceCtorEq, Nat.reduceEqDiff, Nat.reduceAdd, Nat.reduceSub, Nat.reduceLeDiff, Nat.reduceLT, Int.reduceEq, Nat.reduceMul]
    exact Kup_val (le_refl _) rfl
  · have hs : 0 < s.size := by
      rcases Nat.eq_zero_or_pos s.size with h | h
      · exact absurd ((empty_iff s).2 h) he
      · exact h
    obtain ⟨c, l, hl⟩ := bytes_cons s hs
    have h0 : s.data.toList.getD (Int.toNat 0) 0 = c := by rw [hl]; rfl
    have hk : isKey s = (decide (s.size ≤ 40) && decide (97 ≤ c.toNat) && decide (c.toNat ≤ 122) && s.data.toList.all kb) := by unfold isKey; rw [hl]
    by_cases c1 : (40 : Int) < s.size
    · simp (maxDischargeDepth := 9) only [↓gB, gV, gT, reduceIte, reduceCtorEq, Nat.reduceEqDiff, Nat.reduceAdd, Nat.reduceSub, Nat.reduceLeDiff, Nat.reduceLT, Int.reduceEq, Nat.reduceMul, hk, c1, he, h0]
      exact Kup_val (le_refl _) (by simp [*, he, h0]; omega)
    · focus
        simp (maxDischargeDepth := 9) only [↓gB, gV, gT, reduceIte, reduceCtorEq, Nat.reduceEqDiff, Nat.reduceAdd, Nat.reduceSub, Nat.reduceLeDiff, Nat.reduceLT, Int.reduceEq, Nat.reduceMul, hk, c1, he, h0]
        refine vguard_intro (by omega) ?_
        by_cases c2 : (↑c.toNat : Int) < 97
        rotate_left 1
        focus
          simp (maxDischargeDepth := 9) only [↓gB, gV, gT, reduceIte, reduceCtorEq, Nat.reduceEqDiff, Nat.reduceAdd, Nat.reduceSub, Nat.reduceLeDiff, Nat.reduceLT, Int.reduceEq, Nat.reduceMul, hk, c1, c2, he, h0]
          refine vguard_intro (by omega) ?_
          refine Xc_split _ _ _ _ _ (fun c3 => ?_) (fun c3 => ?_)
          rotate_left 1
          focus
            simp (maxDischargeDepth := 9) only [↓gB, gV, gT, reduceIte, reduceCtorEq, Nat.reduceEqDiff, Nat.reduceAdd, Nat.reduceSub, Nat.reduceLeDiff, Nat.reduceLT, Int.reduceEq, Nat.reduceMul, hk, c1, c2, c3, he, h0]
          rotate_right 1
          simp (maxDischargeDepth := 9) only [↓gB, gV, gT, reduceIte, reduceCtorEq, Nat.reduceEqDiff, Nat.reduceAdd, Nat.reduceSub, Nat.reduceLeDiff, Nat.reduceLT, Int.reduceEq, Nat.reduceMul, hk, c1, c2, c3, he, h0]
          exact Kup_val (le_refl _) (by simp [*, he, h0]; omega)
        rotate_right 1
        simp (maxDischargeDepth := 9) only [↓gB, gV, gT, reduceIte, reduceCtorEq, Nat.reduceEqDiff, Nat.reduceAdd, Nat.reduceSub, Nat.reduceLeDiff, Nat.reduceLT, Int.reduceEq, Nat.reduceMul, hk, c1, c2, he, h0]
        exact Kup_val (le_refl _) (by simp [*, he, h0]; omega)
      have hsz : (s.size : Int) ≤ 40 := by omega
      focus
        refine Xloop_intro _ _ _ _ _ (fun k f G' => ∃ (i : Nat), k = s.size - i ∧ (i ≤ s.size) ∧ ((s.data.toList.take i).all kb = true) ∧ (G = G') ∧ f 24 = V i ∧ f 0 = Go.Value.string s ∧ f 23 = Go.Value.int Go.IntKind.i64 ↑s.size) _ ⟨0, rfl, ?_, ?_, rfl, by simp (maxDischargeDepth := 9) only [↓gB, gV, gT, reduceIte, reduceCtorEq, Nat.reduceEqDiff, Nat.reduceAdd, Nat.reduceSub, Nat.reduceLeDiff, Nat.reduceLT, Int.reduceEq, Nat.reduceMul, hk, c1, c2, c3, and_self]⟩ ?_
        · omega
        · rfl
        rintro k f G' ⟨i, rfl, hi, h, rfl, f24, f0, f23⟩
      rcases Nat.lt_or_ge i s.size with hlt | hge
      · obtain ⟨b, hb, hd⟩ := getD_at (l := s.data.toList) (i := i) (by rw [← size_len]; exact hlt)
        have hall : kb b = false → s.data.toList.all kb = false := fun q => by
          rw [List.all_eq_false]; exact ⟨b, List.mem_of_getElem? hb, by simp [q]⟩
        have hnext : kb b = true → (s.data.toList.take (i + 1)).all kb = true := fun q => by
          rw [take_at hb, List.all_append, h]; simp [q]
        focus
          simp (maxDischargeDepth := 9) only [↓gB, gV, gT, reduceIte, reduceCtorEq, Nat.reduceEqDiff, Nat.reduceAdd, Nat.reduceSub, Nat.reduceLeDiff, Nat.reduceLT, Int.reduceEq, Nat.reduceMul, hk, c1, c2, c3, h, f24, f0, f23, hd]
          refine Xc_pos _ _ _ _ _ (by omega) ?_
          simp (maxDischargeDepth := 9) only [↓gB, gV, gT, reduceIte, reduceCtorEq, Nat.reduceEqDiff, Nat.reduceAdd, Nat.reduceSub, Nat.reduceLeDiff, Nat.reduceLT, Int.reduceEq, Nat.reduceMul, hk, c1, c2, c3, h, f24, f0, f23, hd]
          refine vguard_intro (by omega) ?_
          by_cases c4 : (97 : Int) ≤ ↑b.toNat
          rotate_left 1
          focus
            simp (maxDischargeDepth := 9) only [↓gB, gV, gT, reduceIte, reduceCtorEq, Nat.reduceEqDiff, Nat.reduceAdd, Nat.reduceSub, Nat.reduceLeDiff, Nat.reduceLT, Int.reduceEq, Nat.reduceMul, hk, c1, c2, c3, h, f24, f0, f23, c4, hd]
            by_cases c5 : (48 : Int) ≤ ↑b.toNat
            rotate_left 1
            focus
              simp (maxDischargeDepth := 9) only [↓gB, gV, gT, reduceIte, reduceCtorEq, Nat.reduceEqDiff, Nat.reduceAdd, Nat.reduceSub, Nat.reduceLeDiff, Nat.reduceLT, Int.reduceEq, Nat.reduceMul, hk, c1, c2, c3, h, f24, f0, f23, c4, c5, hd]
              by_cases c6 : (↑b.toNat : Int) = 45
              rotate_left 1
              focus
                simp (maxDischargeDepth := 9) only [↓gB, gV, gT, reduceIte, reduceCtorEq, Nat.reduceEqDiff, Nat.reduceAdd, Nat.reduceSub, Nat.reduceLeDiff, Nat.reduceLT, Int.reduceEq, Nat.reduceMul, hk, c1, c2, c3, h, f24, f0, f23, c4, c5, c6, hd]
                by_cases c7 : (↑b.toNat : Int) = 95
                rotate_left 1
                focus
                  simp (maxDischargeDepth := 9) only [↓gB, gV, gT, reduceIte, reduceCtorEq, Nat.reduceEqDiff, Nat.reduceAdd, Nat.reduceSub, Nat.reduceLeDiff, Nat.reduceLT, Int.reduceEq, Nat.reduceMul, hk, c1, c2, c3, h, f24, f0, f23, c4, c5, c6, c7, hd]
                  refine Kup_val (le_refl _) ?_
                  focus (rw [hall (by simp [kb]; omega)]; simp; done)
                rotate_right 1
                simp (maxDischargeDepth := 9) only [↓gB, gV, gT, reduceIte, reduceCtorEq, Nat.reduceEqDiff, Nat.reduceAdd, Nat.reduceSub, Nat.reduceLeDiff, Nat.reduceLT, Int.reduceEq, Nat.reduceMul, hk, c1, c2, c3, h, f24, f0, f23, c4, c5, c6, c7, hd]
                have q1 : Go.IntKind.i64.wrap (↑i + 1) = ↑i + 1 := wrap_id (by omega)
                simp (maxDischargeDepth := 9) only [↓gB, gV, gT, reduceIte, reduceCtorEq, Nat.reduceEqDiff, Nat.reduceAdd, Nat.reduceSub, Nat.reduceLeDiff, Nat.reduceLT, Int.reduceEq, Nat.reduceMul, hk, c1, c2, c3, h, f24, f0, f23, c4, c5, c6, c7, q1, hd]
                rw [N_lp]
                refine ⟨_, ?_, _, ?_, i + 1, rfl, ?_, ?_, rfl, by simp (maxDischargeDepth := 9) only [↓gB, gV, gT, reduceIte, reduceCtorEq, Nat.reduceEqDiff, Nat.reduceAdd, Nat.reduceSub, Nat.reduceLeDiff, Nat.reduceLT, Int.reduceEq, Nat.reduceMul, hk, c1, c2, c3, h, f24, f0, f23, c4, c5, c6, c7, q1, hd, nat_succ, and_self]⟩
                · omega
                · omega
                · assumption
                · omega
              rotate_right 1
              simp (maxDischargeDepth := 9) only [↓gB, gV, gT, reduceIte, reduceCtorEq, Nat.reduceEqDiff, Nat.reduceAdd, Nat.reduceSub, Nat.reduceLeDiff, Nat.reduceLT, Int.reduceEq, Nat.reduceMul, hk, c1, c2, c3, h, f24, f0, f23, c4, c5, c6, hd]
              have q1 : Go.IntKind.i64.wrap (↑i + 1) = ↑i + 1 := wrap_id (by omega)
              simp (maxDischargeDepth := 9) only [↓gB, gV, gT, reduceIte, reduceCtorEq, Nat.reduceEqDiff, Nat.reduceAdd, Nat.reduceSub, Nat.reduceLeDiff, Nat.reduceLT, Int.reduceEq, Nat.reduceMul, hk, c1, c2, c3, h, f24, f0, f23, c4, c5, c6, q1, hd]
              rw [N_lp]
              refine ⟨_, ?_, _, ?_, i + 1, rfl, ?_, ?_, rfl, by simp (maxDischargeDepth := 9) only [↓gB, gV, gT, reduceIte, reduceCtorEq, Nat.reduceEqDiff, Nat.reduceAdd, Nat.reduceSub, Nat.reduceLeDiff, Nat.reduceLT, Int.reduceEq, Nat.reduceMul, hk, c1, c2, c3, h, f24, f0, f23, c4, c5, c6, q1, hd, nat_succ, and_self]⟩
              · omega
              · exact sub_refl _
              · assumption
              · (exact hnext (by simp [kb]; omega); done)
            rotate_right 1
            simp (maxDischargeDepth := 9) only [↓gB, gV, gT, reduceIte, reduceCtorEq, Nat.reduceEqDiff, Nat.reduceAdd, Nat.reduceSub, Nat.reduceLeDiff, Nat.reduceLT, Int.reduceEq, Nat.reduceMul, hk, c1, c2, c3, h, f24, f0, f23, c4, c5, hd]
            by_cases c6 : (↑b.toNat : Int) ≤ 57
            rotate_left 1
            focus
              simp (maxDischargeDepth := 9) only [↓gB, gV, gT, reduceIte, reduceCtorEq, Nat.reduceEqDiff, Nat.reduceAdd, Nat.reduceSub, Nat.reduceLeDiff, Nat.reduceLT, Int.reduceEq, Nat.reduceMul, hk, c1, c2, c3, h, f24, f0, f23, c4, c5, c6, hd]
              by_cases c7 : (↑b.toNat : Int) = 45
              rotate_left 1
              focus
                simp (maxDischargeDepth := 9) only [↓gB, gV, gT, reduceIte, reduceCtorEq, Nat.reduceEqDiff, Nat.reduceAdd, Nat.reduceSub, Nat.reduceLeDiff, Nat.reduceLT, Int.reduceEq, Nat.reduceMul, hk, c1, c2, c3, h, f24, f0, f23, c4, c5, c6, c7, hd]
                by_cases c8 : (↑b.toNat : Int) = 95
                rotate_left 1
                focus
                  simp (maxDischargeDepth := 9) only [↓gB, gV, gT, reduceIte, reduceCtorEq, Nat.reduceEqDiff, Nat.reduceAdd, Nat.reduceSub, Nat.reduceLeDiff, Nat.reduceLT, Int.reduceEq, Nat.reduceMul, hk, c1, c2, c3, h, f24, f0, f23, c4, c5, c6, c7, c8, hd]
                  refine Kup_val (le_refl _) ?_
                  focus (rw [hall (by simp [kb]; omega)]; simp; done)
                rotate_right 1
                simp (maxDischargeDepth := 9) only [↓gB, gV, gT, reduceIte, reduceCtorEq, Nat.reduceEqDiff, Nat.reduceAdd, Nat.reduceSub, Nat.reduceLeDiff, Nat.reduceLT, Int.reduceEq, Nat.reduceMul, hk, c1, c2, c3, h, f24, f0, f23, c4, c5, c6, c7, c8, hd]
                have q1 : Go.IntKind.i64.wrap (↑i + 1) = ↑i + 1 := wrap_id (by omega)
                simp (maxDischargeDepth := 9) only [↓gB, gV, gT, reduceIte, reduceCtorEq, Nat.reduceEqDiff, Nat.reduceAdd, Nat.reduceSub, Nat.reduceLeDiff, Nat.reduceLT, Int.reduceEq, Nat.reduceMul, hk, c1, c2, c3, h, f24, f0, f23, c4, c5, c6, c7, c8, q1, hd]
                rw [N_lp]
                refine ⟨_, ?_, _, ?_, i + 1, rfl, ?_, ?_, rfl, by simp (maxDischargeDepth := 9) only [↓gB, gV, gT, reduceIte, reduceCtorEq, Nat.reduceEqDiff, Nat.reduceAdd, Nat.reduceSub, Nat.reduceLeDiff, Nat.reduceLT, Int.reduceEq, Nat.reduceMul, hk, c1, c2, c3, h, f24, f0, f23, c4, c5, c6, c7, c8, q1, hd, nat_succ, and_self]⟩
                · omega
                · exact sub_refl _
                · assumption
                · (exact hnext (by simp [kb]; omega); done)
              rotate_right 1
              simp (maxDischargeDepth := 9) only [↓gB, gV, gT, reduceIte, reduceCtorEq, Nat.reduceEqDiff, Nat.reduceAdd, Nat.reduceSub, Nat.reduceLeDiff, Nat.reduceLT, Int.reduceEq, Nat.reduceMul, hk, c1, c2, c3, h, f24, f0, f23, c4, c5, c6, c7, hd]
              have q1 : Go.IntKind.i64.wrap (↑i + 1) = ↑i + 1 := wrap_id (by omega)
              simp (maxDischargeDepth := 9) only [↓gB, gV, gT, reduceIte, reduceCtorEq, Nat.reduceEqDiff, Nat.reduceAdd, Nat.reduceSub, Nat.reduceLeDiff, Nat.reduceLT, Int.reduceEq, Nat.reduceMul, hk, c1, c2, c3, h, f24, f0, f23, c4, c5, c6, c7, q1, hd]
              rw [N_lp]
              refine ⟨_, ?_, _, ?_, i + 1, rfl, ?_, ?_, rfl, by simp (maxDischargeDepth := 9) only [↓gB, gV, gT, reduceIte, reduceCtorEq, Nat.reduceEqDiff, Nat.reduceAdd, Nat.reduceSub, Nat.reduceLeDiff, Nat.reduceLT, Int.reduceEq, Nat.reduceMul, hk, c1, c2, c3, h, f24, f0, f23, c4, c5, c6, c7, q1, hd, nat_succ, and_self]⟩
              · omega
              · omega
              · assumption
              · omega
            rotate_right 1
            simp (maxDischargeDepth := 9) only [↓gB, gV, gT, reduceIte, reduceCtorEq, Nat.reduceEqDiff, Nat.reduceAdd, Nat.reduceSub, Nat.reduceLeDiff, Nat.reduceLT, Int.reduceEq, Nat.reduceMul, hk, c1, c2, c3, h, f24, f0, f23, c4, c5, c6, hd]
            have q1 : Go.IntKind.i64.wrap (↑i + 1) = ↑i + 1 := wrap_id (by omega)
            simp (maxDischargeDepth := 9) only [↓gB, gV, gT, reduceIte, reduceCtorEq, Nat.reduceEqDiff, Nat.reduceAdd, Nat.reduceSub, Nat.reduceLeDiff, Nat.reduceLT, Int.reduceEq, Nat.reduceMul, hk, c1, c2, c3, h, f24, f0, f23, c4, c5, c6, q1, hd]
            rw [N_lp]
            refine ⟨_, ?_, _, ?_, i + 1, rfl, ?_, ?_, rfl, by simp (maxDischargeDepth := 9) only [↓gB, gV, gT, reduceIte, reduceCtorEq, Nat.reduceEqDiff, Nat.reduceAdd, Nat.reduceSub, Nat.reduceLeDiff, Nat.reduceLT, Int.reduceEq, Nat.reduceMul, hk, c1, c2, c3, h, f24, f0, f23, c4, c5, c6, q1, hd, nat_succ, and_self]⟩
            · omega
            · exact sub_refl _
            · assumption
            · (exact hnext (by simp [kb]; omega); done)
          rotate_right 1
          simp (maxDischargeDepth := 9) only [↓gB, gV, gT, reduceIte, reduceCtorEq, Nat.reduceEqDiff, Nat.reduceAdd, Nat.reduceSub, Nat.reduceLeDiff, Nat.reduceLT, Int.reduceEq, Nat.reduceMul, hk, c1, c2, c3, h, f24, f0, f23, c4, hd]
          by_cases c5 : (↑b.toNat : Int) ≤ 122
          rotate_left 1
          focus
            simp (maxDischargeDepth := 9) only [↓gB, gV, gT, reduceIte, reduceCtorEq, Nat.reduceEqDiff, Nat.reduceAdd, Nat.reduceSub, Nat.reduceLeDiff, Nat.reduceLT, Int.reduceEq, Nat.reduceMul, hk, c1, c2, c3, h, f24, f0, f23, c4, c5, hd]
            by_cases c6 : (48 : Int) ≤ ↑b.toNat
            rotate_left 1
            focus
              simp (maxDischargeDepth := 9) only [↓gB, gV, gT, reduceIte, reduceCtorEq, Nat.reduceEqDiff, Nat.reduceAdd, Nat.reduceSub, Nat.reduceLeDiff, Nat.reduceLT, Int.reduceEq, Nat.reduceMul, hk, c1, c2, c3, h, f24, f0, f23, c4, c5, c6, hd]
              by_cases c7 : (↑b.toNat : Int) = 45
              rotate_left 1
              focus
                simp (maxDischargeDepth := 9) only [↓gB, gV, gT, reduceIte, reduceCtorEq, Nat.reduceEqDiff, Nat.reduceAdd, Nat.reduceSub, Nat.reduceLeDiff, Nat.reduceLT, Int.reduceEq, Nat.reduceMul, hk, c1, c2, c3, h, f24, f0, f23, c4, c5, c6, c7, hd]
                by_cases c8 : (↑b.toNat : Int) = 95
                rotate_left 1
                focus
                  simp (maxDischargeDepth := 9) only [↓gB, gV, gT, reduceIte, reduceCtorEq, Nat.reduceEqDiff, Nat.reduceAdd, Nat.reduceSub, Nat.reduceLeDiff, Nat.reduceLT, Int.reduceEq, Nat.reduceMul, hk, c1, c2, c3, h, f24, f0, f23, c4, c5, c6, c7, c8, hd]
                  exact Kup_val (le_refl _) (by simp [*, hd]; omega)
                rotate_right 1
                simp (maxDischargeDepth := 9) only [↓gB, gV, gT, reduceIte, reduceCtorEq, Nat.reduceEqDiff, Nat.reduceAdd, Nat.reduceSub, Nat.reduceLeDiff, Nat.reduceLT, Int.reduceEq, Nat.reduceMul, hk, c1, c2, c3, h, f24, f0, f23, c4, c5, c6, c7, c8, hd]
                have q1 : Go.IntKind.i64.wrap (↑i + 1) = ↑i + 1 := wrap_id (by omega)
                simp (maxDischargeDepth := 9) only [↓gB, gV, gT, reduceIte, reduceCtorEq, Nat.reduceEqDiff, Nat.reduceAdd, Nat.reduceSub, Nat.reduceLeDiff, Nat.reduceLT, Int.reduceEq, Nat.reduceMul, hk, c1, c2, c3, h, f24, f0, f23, c4, c5, c6, c7, c8, q1, hd]
                rw [N_lp]
                refine ⟨_, ?_, _, ?_, i + 1, rfl, ?_, ?_, rfl, by simp (maxDischargeDepth := 9) only [↓gB, gV, gT, reduceIte, reduceCtorEq, Nat.reduceEqDiff, Nat.reduceAdd, Nat.reduceSub, Nat.reduceLeDiff, Nat.reduceLT, Int.reduceEq, Nat.reduceMul, hk, c1, c2, c3, h, f24, f0, f23, c4, c5, c6, c7, c8, q1, hd, nat_succ, and_self]⟩
                · omega
                · omega
                · assumption
                · omega
              rotate_right 1
              simp (maxDischargeDepth := 9) only [↓gB, gV, gT, reduceIte, reduceCtorEq, Nat.reduceEqDiff, Nat.reduceAdd, Nat.reduceSub, Nat.reduceLeDiff, Nat.reduceLT, Int.reduceEq, Nat.reduceMul, hk, c1, c2, c3, h, f24, f0, f23, c4, c5, c6, c7, hd]
              have q1 : Go.IntKind.i64.wrap (↑i + 1) = ↑i + 1 := wrap_id (by omega)
              simp (maxDischargeDepth := 9) only [↓gB, gV, gT, reduceIte, reduceCtorEq, Nat.reduceEqDiff, Nat.reduceAdd, Nat.reduceSub, Nat.reduceLeDiff, Nat.reduceLT, Int.reduceEq, Nat.reduceMul, hk, c1, c2, c3, h, f24, f0, f23, c4, c5, c6, c7, q1, hd]
              rw [N_lp]
              refine ⟨_, ?_, _, ?_, i + 1, rfl, ?_, ?_, rfl, by simp (maxDischargeDepth := 9) only [↓gB, gV, gT, reduceIte, reduceCtorEq, Nat.reduceEqDiff, Nat.reduceAdd, Nat.reduceSub, Nat.reduceLeDiff, Nat.reduceLT, Int.reduceEq, Nat.reduceMul, hk, c1, c2, c3, h, f24, f0, f23, c4, c5, c6, c7, q1, hd, nat_succ, and_self]⟩
              · omega
              · omega
              · assumption
              · omega
            rotate_right 1
            simp (maxDischargeDepth := 9) only [↓gB, gV, gT, reduceIte, reduceCtorEq, Nat.reduceEqDiff, Nat.reduceAdd, Nat.reduceSub, Nat.reduceLeDiff, Nat.reduceLT, Int.reduceEq, Nat.reduceMul, hk, c1, c2, c3, h, f24, f0, f23, c4, c5, c6, hd]
            by_cases c7 : (↑b.toNat : Int) ≤ 57
            rotate_left 1
            focus
              simp (maxDischargeDepth := 9) only [↓gB, gV, gT, reduceIte, reduceCtorEq, Nat.reduceEqDiff, Nat.reduceAdd, Nat.reduceSub, Nat.reduceLeDiff, Nat.reduceLT, Int.reduceEq, Nat.reduceMul, hk, c1, c2, c3, h, f24, f0, f23, c4, c5, c6, c7, hd]
              by_cases c8 : (↑b.toNat : Int) = 45
              rotate_left 1
              focus
                simp (maxDischargeDepth := 9) only [↓gB, gV, gT, reduceIte, reduceCtorEq, Nat.reduceEqDiff, Nat.reduceAdd, Nat.reduceSub, Nat.reduceLeDiff, Nat.reduceLT, Int.reduceEq, Nat.reduceMul, hk, c1, c2, c3, h, f24, f0, f23, c4, c5, c6, c7, c8, hd]
                by_cases c9 : (↑b.toNat : Int) = 95
                rotate_left 1
                focus
                  simp (maxDischargeDepth := 9) only [↓gB, gV, gT, reduceIte, reduceCtorEq, Nat.reduceEqDiff, Nat.reduceAdd, Nat.reduceSub, Nat.reduceLeDiff, Nat.reduceLT, Int.reduceEq, Nat.reduceMul, hk, c1, c2, c3, h, f24, f0, f23, c4, c5, c6, c7, c8, c9, hd]
                  refine Kup_val (le_refl _) ?_
                  focus (rw [hall (by simp [kb]; omega)]; simp; done)
                rotate_right 1
                simp (maxDischargeDepth := 9) only [↓gB, gV, gT, reduceIte, reduceCtorEq, Nat.reduceEqDiff, Nat.reduceAdd, Nat.reduceSub, Nat.reduceLeDiff, Nat.reduceLT, Int.reduceEq, Nat.reduceMul, hk, c1, c2, c3, h, f24, f0, f23, c4, c5, c6, c7, c8, c9, hd]
                have q1 : Go.IntKind.i64.wrap (↑i + 1) = ↑i + 1 := wrap_id (by omega)
                simp (maxDischargeDepth := 9) only [↓gB, gV, gT, reduceIte, reduceCtorEq, Nat.reduceEqDiff, Nat.reduceAdd, Nat.reduceSub, Nat.reduceLeDiff, Nat.reduceLT, Int.reduceEq, Nat.reduceMul, hk, c1, c2, c3, h, f24, f0, f23, c4, c5, c6, c7, c8, c9, q1, hd]
                rw [N_lp]
                refine ⟨_, ?_, _, ?_, i + 1, rfl, ?_, ?_, rfl, by simp (maxDischargeDepth := 9) only [↓gB, gV, gT, reduceIte, reduceCtorEq, Nat.reduceEqDiff, Nat.reduceAdd, Nat.reduceSub, Nat.reduceLeDiff, Nat.reduceLT, Int.reduceEq, Nat.reduceMul, hk, c1, c2, c3, h, f24, f0, f23, c4, c5, c6, c7, c8, c9, q1, hd, nat_succ, and_self]⟩
                · omega
                · omega
                · assumption
                · omega
              rotate_right 1
              simp (maxDischargeDepth := 9) only [↓gB, gV, gT, reduceIte, reduceCtorEq, Nat.reduceEqDiff, Nat.reduceAdd, Nat.reduceSub, Nat.reduceLeDiff, Nat.reduceLT, Int.reduceEq, Nat.reduceMul, hk, c1, c2, c3, h, f24, f0, f23, c4, c5, c6, c7, c8, hd]
              have q1 : Go.IntKind.i64.wrap (↑i + 1) = ↑i + 1 := wrap_id (by omega)
              simp (maxDischargeDepth := 9) only [↓gB, gV, gT, reduceIte, reduceCtorEq, Nat.reduceEqDiff, Nat.reduceAdd, Nat.reduceSub, Nat.reduceLeDiff, Nat.reduceLT, Int.reduceEq, Nat.reduceMul, hk, c1, c2, c3, h, f24, f0, f23, c4, c5, c6, c7, c8, q1, hd]
              rw [N_lp]
              refine ⟨_, ?_, _, ?_, i + 1, rfl, ?_, ?_, rfl, by simp (maxDischargeDepth := 9) only [↓gB, gV, gT, reduceIte, reduceCtorEq, Nat.reduceEqDiff, Nat.reduceAdd, Nat.reduceSub, Nat.reduceLeDiff, Nat.reduceLT, Int.reduceEq, Nat.reduceMul, hk, c1, c2, c3, h, f24, f0, f23, c4, c5, c6, c7, c8, q1, hd, nat_succ, and_self]⟩
              · omega
              · omega
              · assumption
              · omega
            rotate_right 1
            simp (maxDischargeDepth := 9) only [↓gB, gV, gT, reduceIte, reduceCtorEq, Nat.reduceEqDiff, Nat.reduceAdd, Nat.reduceSub, Nat.reduceLeDiff, Nat.reduceLT, Int.reduceEq, Nat.reduceMul, hk, c1, c2, c3, h, f24, f0, f23, c4, c5, c6, c7, hd]
            have q1 : Go.IntKind.i64.wrap (↑i + 1) = ↑i + 1 := wrap_id (by omega)
            simp (maxDischargeDepth := 9) only [↓gB, gV, gT, reduceIte, reduceCtorEq, Nat.reduceEqDiff, Nat.reduceAdd, Nat.reduceSub, Nat.reduceLeDiff, Nat.reduceLT, Int.reduceEq, Nat.reduceMul, hk, c1, c2, c3, h, f24, f0, f23, c4, c5, c6, c7, q1, hd]
            rw [N_lp]
            refine ⟨_, ?_, _, ?_, i + 1, rfl, ?_, ?_, rfl, by simp (maxDischargeDepth := 9) only [↓gB, gV, gT, reduceIte, reduceCtorEq, Nat.reduceEqDiff, Nat.reduceAdd, Nat.reduceSub, Nat.reduceLeDiff, Nat.reduceLT, Int.reduceEq, Nat.reduceMul, hk, c1, c2, c3, h, f24, f0, f23, c4, c5, c6, c7, q1, hd, nat_succ, and_self]⟩
            · omega
            · omega
            · assumption
            · omega
          rotate_right 1
          simp (maxDischargeDepth := 9) only [↓gB, gV, gT, reduceIte, reduceCtorEq, Nat.reduceEqDiff, Nat.reduceAdd, Nat.reduceSub, Nat.reduceLeDiff, Nat.reduceLT, Int.reduceEq, Nat.reduceMul, hk, c1, c2, c3, h, f24, f0, f23, c4, c5, hd]
          have q1 : Go.IntKind.i64.wrap (↑i + 1) = ↑i + 1 := wrap_id (by omega)
          simp (maxDischargeDepth := 9) only [↓gB, gV, gT, reduceIte, reduceCtorEq, Nat.reduceEqDiff, Nat.reduceAdd, Nat.reduceSub, Nat.reduceLeDiff, Nat.reduceLT, Int.reduceEq, Nat.reduceMul, hk, c1, c2, c3, h, f24, f0, f23, c4, c5, q1, hd]
          rw [N_lp]
          refine ⟨_, ?_, _, ?_, i + 1, rfl, ?_, ?_, rfl, by simp (maxDischargeDepth := 9) only [↓gB, gV, gT, reduceIte, reduceCtorEq, Nat.reduceEqDiff, Nat.reduceAdd, Nat.reduceSub, Nat.reduceLeDiff, Nat.reduceLT, Int.reduceEq, Nat.reduceMul, hk, c1, c2, c3, h, f24, f0, f23, c4, c5, q1, hd, nat_succ, and_self]⟩
          · omega
          · exact sub_refl _
          · assumption
          · (exact hnext (by simp [kb]; omega); done)
      · have hf : s.data.toList.all kb = true := by rw [List.take_of_length_le (by rw [← size_len]; omega)] at h; exact h
        simp (maxDischargeDepth := 9) only [↓gB, gV, gT, reduceIte, reduceCtorEq, Nat.reduceEqDiff, Nat.reduceAdd, Nat.reduceSub, Nat.reduceLeDiff, Nat.reduceLT, Int.reduceEq, Nat.reduceMul, hk, c1, c2, c3, h, f24, f0, f23, hf]
        refine Xc_neg _ _ _ _ _ (by omega) ?_
        simp (maxDischargeDepth := 9) only [↓gB, gV, gT, reduceIte, reduceCtorEq, Nat.reduceEqDiff, Nat.reduceAdd, Nat.reduceSub, Nat.reduceLeDiff, Nat.reduceLT, Int.reduceEq, Nat.reduceMul, hk, c1, c2, c3, h, f24, f0, f23, hf]
        exact Kup_val (le_refl _) (by simp [*]; omega)
end Go.Proofs.YtjhfhacdjmokaaaGreatDoor
namespace Go.Proofs.YtjhfhacdjmokaaaGreatDoor
open Go Go.GL
attribute [local irreducible] Ycall GCalls
set_option maxRecDepth 10000
set_option maxHeartbeats 0
theorem h256 : (Tryz.prog.info? (Tryz.layTrim_ren.t 116)).map (fun i => (i.zero, i.size)) = some (some (.agg (Array.replicate 256 (.bool false))), 256) := by kernel_rfl
def keySet : ByteArray := ⟨#[97, 98, 99, 100, 101, 102, 103, 104, 105, 106, 107, 108, 109, 110, 111, 112, 113, 114, 115, 116, 117, 118, 119, 120, 121, 122, 48, 49, 50, 51, 52, 53, 54, 55, 56, 57, 45, 95]⟩
def smalls : ByteArray := ⟨#[97, 98, 99, 100, 101, 102, 103, 104, 105, 106, 107, 108, 109, 110, 111, 112, 113, 114, 115, 116, 117, 118, 119, 120, 121, 122]⟩
theorem trim_calls (s : ByteArray) (h0 : 0 < s.size) (hs : s.size ≤ 9223372036854775807) (w : World) : Calls Tryz.prog 52 #[.string s, .string keySet] w fun e w' => e = .returned (.string ⟨(Lib.trimS s.data.toList keySet.data.toList).toArray⟩) ∧ ∀ w0 G, Holds w0 G w → Holds w0 G w' := by
  have h := Any.strings_Trim_set Tryz.layTrim (zero_of_info h256).1 (zero_of_info h256).2 s keySet w (by decide) h0 hs (by decide) (ascii_of_all (by decide))
  refine Calls.mono (show Calls Tryz.prog 52 _ _ _ from h) ?_
  rintro e w' ⟨h1, q, rfl⟩
  exact ⟨h1, fun w0 G hw => ((hw.alloc _).alloc _).drewN q⟩
theorem trim_nil {l cs : List UInt8} : Lib.trimS l cs = [] ↔ l.all (cs.contains ·) = true := by
  have key : ∀ (p : UInt8 → Bool) (l : List UInt8), l.dropWhile p = [] ↔ l.all p = true := by
    intro p l
    induction l with
    | nil => simp
    | cons x l ih => by_cases h : p x = true <;> simp [List.dropWhile_cons, h, ih]
  unfold Lib.trimS Lib.trimRightS Lib.trimLeftS
  rw [key, List.all_reverse]
  constructor
  · intro h
    rw [List.all_eq_true] at *
    intro x hx
    rcases Bool.eq_false_or_eq_true (cs.contains x) with q | q
    · exact q
    · have hm : x ∈ l.reverse.dropWhile (cs.contains ·) := by
        have : ∀ (l : List UInt8), x ∈ l → x ∈ l.dropWhile (cs.contains ·) := by
          intro l hl
          induction l with
          | nil => cases hl
          | cons y l ih =>
            rw [List.dropWhile_cons]
            split
            · rename_i hy
              rcases List.mem_cons.1 hl with rfl | hl
              · rw [q] at hy; cases hy
              · exact ih hl
            · exact hl
        exact this _ (List.mem_reverse.2 hx)
      exact h x hm
  · intro h
    rw [List.all_eq_true] at *
    intro x hx
    exact h x (List.mem_reverse.1 ((List.dropWhile_sublist _).mem hx))
theorem u8_all {q r : UInt8 → Bool} (h : (List.range 256).all (fun n => q (UInt8.ofNat n) == r (UInt8.ofNat n)) = true) (b : UInt8) : q b = r b := by
  rw [List.all_eq_true] at h
  have := h b.toNat (List.mem_range.2 (UInt8.toNat_lt b))
  simpa using this
theorem set_kb (b : UInt8) : keySet.data.toList.contains b = kb b := u8_all (q := fun b => keySet.data.toList.contains b) (r := kb) (by decide +kernel) b
theorem idx_small (b : UInt8) : decide (0 ≤ Lib.indexByte smalls.data.toList b) = (decide (97 ≤ b.toNat) && decide (b.toNat ≤ 122)) := u8_all (q := fun b => decide (0 ≤ Lib.indexByte smalls.data.toList b)) (r := fun b => decide (97 ≤ b.toNat) && decide (b.toNat ≤ 122)) (by decide +kernel) b
theorem p52 {G0 : GH} {s : ByteArray} (h0 : 0 < s.size) (hs : s.size ≤ 40) : Pure Tryz.prog G0 52 [.string s, .string ⟨#[97, 98, 99, 100, 101, 102, 103, 104, 105, 106, 107, 108, 109, 110, 111, 112, 113, 114, 115, 116, 117, 118, 119, 120, 121, 122, 48, 49, 50, 51, 52, 53, 54, 55, 56, 57, 45, 95]⟩] (.string ⟨(Lib.trimS s.data.toList keySet.data.toList).toArray⟩) :=
  pure_of_calls2 G0 (fun w => trim_calls s h0 (by omega) w)
theorem p53 {G0 : GH} {s : ByteArray} {c : Int} : Pure Tryz.prog G0 53 [.string s, .int .u8 c] (V (Lib.indexByte s.data.toList c.toNat.toUInt8)) :=
  pure_of_calls G0 (fun w => Any.strings_IndexByte Tryz.layIdx s c w)
theorem trim_eq (s : ByteArray) : decide ((⟨(Lib.trimS s.data.toList keySet.data.toList).toArray⟩ : ByteArray) = ⟨#[]⟩) = s.data.toList.all kb := by
  have e : s.data.toList.all kb = s.data.toList.all (keySet.data.toList.contains ·) := by
    congr 1; funext b; exact (set_kb b).symm
  rw [e, Bool.eq_iff_iff, decide_eq_true_iff, ← trim_nil]
  simp
theorem p27 {G0 : GH} {s : ByteArray}  : Pure Tryz.prog G0 27 [.string s] (.bool (isKey s)) := by
  intro G hG
  clear hG G0
  refine enter Tryz.func27 17 #[.tmp 2] rfl Tryz.ntmps27 rfl (by decide +kernel) rfl ?_
  by_cases hin : 1 ≤ s.size ∧ s.size ≤ 40
  · obtain ⟨c, l, hl⟩ := bytes_cons s hin.1
    have hk : isKey s = (decide (s.size ≤ 40) && decide (97 ≤ c.toNat) && decide (c.toNat ≤ 122) && s.data.toList.all kb) := by unfold isKey; rw [hl]
    have hw : within (s.size : Int) 1 40 = true := within_iff.2 (by omega)
    have h0 : s.data.toList.getD (Int.toNat 0) 0 = c := by rw [hl]; rfl
    have h40 : decide (s.size ≤ 40) = true := decide_eq_true hin.2
    have hi := idx_small c
    have hc : c.toNat.toUInt8 = c := by simp
    have ht := trim_eq s
    cases ha : s.data.toList.all kb
    · simp (maxDischargeDepth := 9) only [↓gB, gV, gT, reduceIte, reduceCtorEq, Nat.reduceEqDiff, Nat.reduceAdd, Nat.reduceSub, Nat.reduceLeDiff, Nat.reduceLT, Int.reduceEq, Nat.reduceMul, hk, hw, h40, hi, ht, ha]
      refine Ycp (p28) ?_
      simp (maxDischargeDepth := 9) only [↓gB, gV, gT, reduceIte, reduceCtorEq, Nat.reduceEqDiff, Nat.reduceAdd, Nat.reduceSub, Nat.reduceLeDiff, Nat.reduceLT, Int.reduceEq, Nat.reduceMul, hk, hw, h40, hi, ht, ha]
      refine Ycp (p52 (by omega) (by omega)) ?_
      simp (maxDischargeDepth := 9) only [↓gB, gV, gT, reduceIte, reduceCtorEq, Nat.reduceEqDiff, Nat.reduceAdd, Nat.reduceSub, Nat.reduceLeDiff, Nat.reduceLT, Int.reduceEq, Nat.reduceMul, hk, hw, h40, hi, ht, ha]
      exact Kup_val (le_refl _) rfl
    · simp (maxDischargeDepth := 9) only [↓gB, gV, gT, reduceIte, reduceCtorEq, Nat.reduceEqDiff, Nat.reduceAdd, Nat.reduceSub, Nat.reduceLeDiff, Nat.reduceLT, Int.reduceEq, Nat.reduceMul, hk, hw, h40, hi, ht, ha, h0, hc]
      refine Ycp (p28) ?_
      simp (maxDischargeDepth := 9) only [↓gB, gV, gT, reduceIte, reduceCtorEq, Nat.reduceEqDiff, Nat.reduceAdd, Nat.reduceSub, Nat.reduceLeDiff, Nat.reduceLT, Int.reduceEq, Nat.reduceMul, hk, hw, h40, hi, ht, ha, h0, hc]
      refine Ycp (p52 (by omega) (by omega)) ?_
      simp (maxDischargeDepth := 9) only [↓gB, gV, gT, reduceIte, reduceCtorEq, Nat.reduceEqDiff, Nat.reduceAdd, Nat.reduceSub, Nat.reduceLeDiff, Nat.reduceLT, Int.reduceEq, Nat.reduceMul, hk, hw, h40, hi, ht, ha, h0, hc]
      refine vguard_intro (by omega) ?_
      refine Ycp (p53) ?_
      simp (maxDischargeDepth := 9) only [↓gB, gV, gT, reduceIte, reduceCtorEq, Nat.reduceEqDiff, Nat.reduceAdd, Nat.reduceSub, Nat.reduceLeDiff, Nat.reduceLT, Int.reduceEq, Nat.reduceMul, hk, hw, h40, hi, ht, ha, h0, hc]
      refine Kup_val (le_refl _) ?_
      focus (exact congrArg Value.bool hi; done)
  · have hw : within (s.size : Int) 1 40 = false := by
      rw [← Bool.not_eq_true, within_iff]; omega
    have hk : isKey s = false := by
      unfold isKey
      split
      · rfl
      · rename_i c l hl
        have : s.size = (c :: l).length := by rw [size_len, hl]
        simp only [List.length_cons] at this
        rw [decide_eq_false (by omega)]; simp
    simp (maxDischargeDepth := 9) only [↓gB, gV, gT, reduceIte, reduceCtorEq, Nat.reduceEqDiff, Nat.reduceAdd, Nat.reduceSub, Nat.reduceLeDiff, Nat.reduceLT, Int.reduceEq, Nat.reduceMul, hw, hk]
    refine Ycp (p28) ?_
    simp (maxDischargeDepth := 9) only [↓gB, gV, gT, reduceIte, reduceCtorEq, Nat.reduceEqDiff, Nat.reduceAdd, Nat.reduceSub, Nat.reduceLeDiff, Nat.reduceLT, Int.reduceEq, Nat.reduceMul, hw, hk]
    exact Kup_val (le_refl _) rfl
end Go.Proofs.YtjhfhacdjmokaaaGreatDoor
namespace Go.Proofs.YtjhfhacdjmokaaaGreatDoor
open Go Go.GL
attribute [local irreducible] Ycall GCalls
set_option maxRecDepth 10000
set_option maxHeartbeats 0
theorem g6 {G0 : GH} {v : Value} {l : List ByteArray} (hv : RSl Rp.str G0 v l) (hn : l.length ≤ 1000000000) : Gives Tryz.prog G0 6 [v] (fun u G' => RSl Rp.str G' u l) := by
  intro G hG; replace hv := hv.le hG
  clear hG G0
  refine enter Tryz.func6 8 #[.tmp 2] rfl Tryz.ntmps6 rfl (by decide +kernel) rfl ?_
  obtain ⟨a, c, rfl⟩ := hv.val
  simp (maxDischargeDepth := 9) only [↓gB, gV, gT, reduceIte, reduceCtorEq, Nat.reduceEqDiff, Nat.reduceAdd, Nat.reduceSub, Nat.reduceLeDiff, Nat.reduceLT, Int.reduceEq, Nat.reduceMul]
  cases a with
  | none =>
    simp (maxDischargeDepth := 9) only [↓gB, gV, gT, reduceIte, reduceCtorEq, Nat.reduceEqDiff, Nat.reduceAdd, Nat.reduceSub, Nat.reduceLeDiff, Nat.reduceLT, Int.reduceEq, Nat.reduceMul, Option.isNone_none]
    have : l = [] := by
      cases l with
      | nil => rfl
      | cons x l => obtain ⟨ad, _, e, _⟩ := hv.get (i := 0) (x := x) rfl; cases e
    subst this
    exact Kup_gives (sub_refl _) (le_refl _) (RSl.nil _ _)
  | some ad =>
    simp (maxDischargeDepth := 9) only [↓gB, gV, gT, reduceIte, reduceCtorEq, Nat.reduceEqDiff, Nat.reduceAdd, Nat.reduceSub, Nat.reduceLeDiff, Nat.reduceLT, Int.reduceEq, Nat.reduceMul, Option.isNone_some]
    refine Yn1 fun r1 h1 => ?_
    simp (maxDischargeDepth := 9) only [↓gB, gV, gT, reduceIte, reduceCtorEq, Nat.reduceEqDiff, Nat.reduceAdd, Nat.reduceSub, Nat.reduceLeDiff, Nat.reduceLT, Int.reduceEq, Nat.reduceMul, h1, Option.isNone_some]
    obtain ⟨ds, h1, h2⟩ := (hv.le (le_put h1 (.cells #[] 9 (0, 0), true))).read
    refine Row.append sl27 (ρ := Rp.str) (G0 := G) (xs := []) (ys := l) ⟨[], ⟨rfl, .inr ⟨r1, 0, #[], rfl, by assumption, put_self _ _ _, rfl, Nat.le_refl _, rfl⟩⟩, Cellsof.nil _ _⟩ h1 h2 (by simp; omega) (le_put (by assumption) _) ?_
    intro v' G' hrow hk hle
    simp (maxDischargeDepth := 9) only [↓gB, gV, gT, reduceIte, reduceCtorEq, Nat.reduceEqDiff, Nat.reduceAdd, Nat.reduceSub, Nat.reduceLeDiff, Nat.reduceLT, Int.reduceEq, Nat.reduceMul, h1, hk]
    obtain ⟨G2, hs, hl, hr⟩ := hrow.fin hle
    exact Kup_gives hs hl (by simpa using hr)
def sCmp (s t : ByteArray) : Int := if sLt s t then -1 else if sLt t s then 1 else 0
theorem sCmp_lt (s t : ByteArray) : sCmp s t < 0 ↔ sLt s t = true := by
  unfold sCmp; split
  · rename_i h; simp [h]
  · rename_i h; split <;> simp [h]
theorem sCmp_eq (s t : ByteArray) : sCmp s t = 0 ↔ s = t := by
  unfold sCmp
  cases h1 : sLt s t <;> cases h2 : sLt t s
  · simp [sLt_tri h1 h2]
  · simp; rintro rfl; rw [sLt_irrefl] at h2; cases h2
  · simp; rintro rfl; rw [sLt_irrefl] at h1; cases h1
  · simp; rintro rfl; rw [sLt_irrefl] at h1; cases h1
def has (t : ByteArray) (l : List ByteArray) : Bool := l.any (fun x => decide (x = t))
theorem has_iff {t : ByteArray} {l : List ByteArray} : has t l = true ↔ t ∈ l := by simp [has]
theorem has_not {t : ByteArray} {l : List ByteArray} : has t l = false ↔ t ∉ l := by rw [← Bool.not_eq_true, has_iff]
def sorted (l : List ByteArray) : Prop := l.Pairwise (fun x y => sLt x y = true)
theorem pos_at {l : List ByteArray} {t : ByteArray} {i : Nat} (hi : i ≤ l.length) (h1 : ∀ (k : Nat) x, k < i → l[k]? = some x → sLt x t = true) (h2 : ∀ (k : Nat) x, i ≤ k → l[k]? = some x → sLt x t = false) : bsPos (fun x => sCmp x t) l = i :=
  bsPos_at hi (fun k x hk hx => (sCmp_lt x t).2 (h1 k x hk hx)) (fun k x hk hx => by rw [sCmp_lt, h2 k x hk hx]; simp)
theorem mem_at {l : List ByteArray} {t : ByteArray} {i : Nat} (h1 : ∀ (k : Nat) x, k < i → l[k]? = some x → sLt x t = true) (hs : sorted l) : (t ∈ l) ↔ l[i]? = some t ∨ ∃ k, i < k ∧ l[k]? = some t := by
  constructor
  · intro h
    obtain ⟨k, hk⟩ := List.mem_iff_getElem?.1 h
    rcases Nat.lt_trichotomy k i with q | q | q
    · have := h1 k t q hk; rw [sLt_irrefl] at this; cases this
    · exact .inl (q ▸ hk)
    · exact .inr ⟨k, q, hk⟩
  · rintro (h | ⟨k, _, h⟩) <;> exact List.mem_of_getElem? h
theorem sorted_at {l : List ByteArray} (hs : sorted l) {i j : Nat} {x y : ByteArray} (hij : i < j) (hx : l[i]? = some x) (hy : l[j]? = some y) : sLt x y = true := by
  obtain ⟨hi, rfl⟩ := List.getElem?_eq_some_iff.1 hx
  obtain ⟨hj, rfl⟩ := List.getElem?_eq_some_iff.1 hy
  exact List.pairwise_iff_getElem.1 hs i j hi hj hij
theorem has_pos {l : List ByteArray} {t : ByteArray} {i : Nat} (hs : sorted l) (h1 : ∀ (k : Nat) x, k < i → l[k]? = some x → sLt x t = true) (h2 : ∀ (k : Nat) x, i ≤ k → l[k]? = some x → sLt x t = false) : has t l = match l[i]? with | some x => decide (x = t) | none => false := by
  cases hx : l[i]? with
  | none =>
    rw [has_not, mem_at h1 hs, hx]
    rintro (h | ⟨k, hk, h⟩)
    · cases h
    · rw [List.getElem?_eq_none_iff] at hx
      rw [List.getElem?_eq_none (by omega)] at h; cases h
  | some x =>
    by_cases e : x = t
    · subst e; simp only [decide_true]; exact has_iff.2 (List.mem_of_getElem? hx)
    · simp only [e, decide_false]
      rw [has_not, mem_at h1 hs, hx]
      rintro (h | ⟨k, hk, h⟩)
      · cases h; exact e rfl
      · have := sorted_at hs hk hx h
        rw [h2 i x (Nat.le_refl _) hx] at this; cases this
theorem p103 {G0 : GH} {a : ByteArray}  : Pure Tryz.prog G0 103 [.string a] (.bool false) := by
  intro G hG
  clear hG G0
  refine enter Tryz.func103 6 #[.tmp 2] rfl Tryz.ntmps103 rfl (by decide +kernel) rfl ?_
  simp (maxDischargeDepth := 9) only [↓gB, gV, gT, reduceIte, reduceCtorEq, Nat.reduceEqDiff, Nat.reduceAdd, Nat.reduceSub, Nat.reduceLeDiff, Nat.reduceLT, Int.reduceEq, Nat.reduceMul]
  exact Kup_val (le_refl _) rfl
theorem p90 {G0 : GH} {a b : ByteArray}  : Pure Tryz.prog G0 90 [.string a, .string b] (.bool (sLt a b)) := by
  intro G hG
  clear hG G0
  refine enter Tryz.func90 17 #[.tmp 4] rfl Tryz.ntmps90 rfl (by decide +kernel) rfl ?_
  simp (maxDischargeDepth := 9) only [↓gB, gV, gT, reduceIte, reduceCtorEq, Nat.reduceEqDiff, Nat.reduceAdd, Nat.reduceSub, Nat.reduceLeDiff, Nat.reduceLT, Int.reduceEq, Nat.reduceMul]
  refine Ycp (p103) ?_
  simp (maxDischargeDepth := 9) only [↓gB, gV, gT, reduceIte, reduceCtorEq, Nat.reduceEqDiff, Nat.reduceAdd, Nat.reduceSub, Nat.reduceLeDiff, Nat.reduceLT, Int.reduceEq, Nat.reduceMul]
  exact Kup_val (le_refl _) rfl
end Go.Proofs.YtjhfhacdjmokaaaGreatDoor
