/- Facts on the types of this program. Conditions: none. -/
import Derived.Test.YtknonjnbeajooaaAbX4
import Derived.Test.YtknonjnbeajooaaProg
namespace Go.Proofs.Ytknonjnbeajooaa
open Go.Ab
theorem ty_sz0 : szOf Try.prog 0 = some 1 := by kernel_rfl
theorem ty_by0 : bytesOf Try.prog 0 = some 0 := by kernel_rfl
theorem ty_ki0 : kindT Try.prog 0 = .other := by kernel_rfl
theorem ty_sz1 : szOf Try.prog 1 = some 1 := by kernel_rfl
theorem ty_by1 : bytesOf Try.prog 1 = some 8 := by kernel_rfl
theorem ty_ki1 : kindT Try.prog 1 = .other := by kernel_rfl
theorem ty_ze1 : zeroOf Try.prog 1 = some [.any] := by kernel_rfl
theorem ty_zz1 : szZ Try.prog 1 = some 1 := by kernel_rfl
theorem ty_sz2 : szOf Try.prog 2 = some 1 := by kernel_rfl
theorem ty_by2 : bytesOf Try.prog 2 = some 8 := by kernel_rfl
theorem ty_ki2 : kindT Try.prog 2 = .int .i64 := by kernel_rfl
theorem ty_ze2 : zeroOf Try.prog 2 = some [.d (.int .i64 0)] := by kernel_rfl
theorem ty_zz2 : szZ Try.prog 2 = some 1 := by kernel_rfl
theorem ty_sz3 : szOf Try.prog 3 = some 1 := by kernel_rfl
theorem ty_by3 : bytesOf Try.prog 3 = some 8 := by kernel_rfl
theorem ty_ki3 : kindT Try.prog 3 = .int .i64 := by kernel_rfl
theorem ty_ze3 : zeroOf Try.prog 3 = some [.d (.int .i64 0)] := by kernel_rfl
theorem ty_zz3 : szZ Try.prog 3 = some 1 := by kernel_rfl
theorem ty_sz4 : szOf Try.prog 4 = some 1 := by kernel_rfl
theorem ty_by4 : bytesOf Try.prog 4 = some 1 := by kernel_rfl
theorem ty_ki4 : kindT Try.prog 4 = .bool := by kernel_rfl
theorem ty_ze4 : zeroOf Try.prog 4 = some [.d (.bool false)] := by kernel_rfl
theorem ty_zz4 : szZ Try.prog 4 = some 1 := by kernel_rfl
theorem ty_sz5 : szOf Try.prog 5 = some 1 := by kernel_rfl
theorem ty_by5 : bytesOf Try.prog 5 = some 1 := by kernel_rfl
theorem ty_ki5 : kindT Try.prog 5 = .int .u8 := by kernel_rfl
theorem ty_ze5 : zeroOf Try.prog 5 = some [.d (.int .u8 0)] := by kernel_rfl
theorem ty_zz5 : szZ Try.prog 5 = some 1 := by kernel_rfl
theorem ty_sz7 : szOf Try.prog 7 = some 4 := by kernel_rfl
theorem ty_by7 : bytesOf Try.prog 7 = some 24 := by kernel_rfl
theorem ty_ki7 : kindT Try.prog 7 = .st := by kernel_rfl
theorem ty_ze7 : zeroOf Try.prog 7 = some [.d (.int .i64 0), .d (.int .i64 0), .d (.bool false), .d (.int .u8 0)] := by kernel_rfl
theorem ty_fl7_0 : fld Try.prog 7 0 = some (0, 1, 2) := by kernel_rfl
theorem ty_fl7_1 : fld Try.prog 7 1 = some (1, 1, 3) := by kernel_rfl
theorem ty_fl7_2 : fld Try.prog 7 2 = some (2, 1, 4) := by kernel_rfl
theorem ty_fl7_3 : fld Try.prog 7 3 = some (3, 1, 6) := by kernel_rfl
theorem ty_eq7 : eqFs Try.prog 7 = some [(2, 0), (3, 1), (4, 2), (6, 3)] := by kernel_rfl
theorem ty_bz7 : buildZ Try.prog 7 = some [.d (.int .i64 0), .d (.int .i64 0), .d (.bool false), .d (.int .u8 0)] := by kernel_rfl
theorem ty_zz7 : szZ Try.prog 7 = some 4 := by kernel_rfl
theorem ty_sz9 : szOf Try.prog 9 = some 1 := by kernel_rfl
theorem ty_by9 : bytesOf Try.prog 9 = some 16 := by kernel_rfl
theorem ty_ki9 : kindT Try.prog 9 = .str := by kernel_rfl
theorem ty_ze9 : zeroOf Try.prog 9 = some [.d (.str [])] := by kernel_rfl
theorem ty_zz9 : szZ Try.prog 9 = some 1 := by kernel_rfl
theorem ty_sz12 : szOf Try.prog 12 = some 1 := by kernel_rfl
theorem ty_by12 : bytesOf Try.prog 12 = some 8 := by kernel_rfl
theorem ty_ki12 : kindT Try.prog 12 = .int .u64 := by kernel_rfl
theorem ty_ze12 : zeroOf Try.prog 12 = some [.d (.int .u64 0)] := by kernel_rfl
theorem ty_zz12 : szZ Try.prog 12 = some 1 := by kernel_rfl
theorem ty_sz13 : szOf Try.prog 13 = some 2 := by kernel_rfl
theorem ty_by13 : bytesOf Try.prog 13 = some 24 := by kernel_rfl
theorem ty_ki13 : kindT Try.prog 13 = .st := by kernel_rfl
theorem ty_ze13 : zeroOf Try.prog 13 = some [.d (.str []), .d (.int .u64 0)] := by kernel_rfl
theorem ty_fl13_0 : fld Try.prog 13 0 = some (0, 1, 9) := by kernel_rfl
theorem ty_fl13_1 : fld Try.prog 13 1 = some (1, 1, 12) := by kernel_rfl
theorem ty_bz13 : buildZ Try.prog 13 = some [.d (.str []), .d (.int .u64 0)] := by kernel_rfl
theorem ty_zz13 : szZ Try.prog 13 = some 2 := by kernel_rfl
theorem ty_sz20 : szOf Try.prog 20 = some 1 := by kernel_rfl
theorem ty_by20 : bytesOf Try.prog 20 = some 16 := by kernel_rfl
theorem ty_ki20 : kindT Try.prog 20 = .ifc := by kernel_rfl
theorem ty_ze20 : zeroOf Try.prog 20 = some [.any] := by kernel_rfl
theorem ty_zz20 : szZ Try.prog 20 = some 1 := by kernel_rfl
theorem ty_sz21 : szOf Try.prog 21 = some 1 := by kernel_rfl
theorem ty_by21 : bytesOf Try.prog 21 = some 4 := by kernel_rfl
theorem ty_ki21 : kindT Try.prog 21 = .int .i32 := by kernel_rfl
theorem ty_ze21 : zeroOf Try.prog 21 = some [.d (.int .i32 0)] := by kernel_rfl
theorem ty_zz21 : szZ Try.prog 21 = some 1 := by kernel_rfl
theorem ty_sz22 : szOf Try.prog 22 = some 1 := by kernel_rfl
theorem ty_by22 : bytesOf Try.prog 22 = some 8 := by kernel_rfl
theorem ty_ki22 : kindT Try.prog 22 = .other := by kernel_rfl
theorem ty_ze22 : zeroOf Try.prog 22 = some [.any] := by kernel_rfl
theorem ty_zz22 : szZ Try.prog 22 = some 1 := by kernel_rfl
theorem ty_sz23 : szOf Try.prog 23 = some 1 := by kernel_rfl
theorem ty_by23 : bytesOf Try.prog 23 = some 24 := by kernel_rfl
theorem ty_ki23 : kindT Try.prog 23 = .sl 35 := by kernel_rfl
theorem ty_ze23 : zeroOf Try.prog 23 = some [.full []] := by kernel_rfl
theorem ty_zz23 : szZ Try.prog 23 = some 1 := by kernel_rfl
theorem ty_sz24 : szOf Try.prog 24 = some 1 := by kernel_rfl
theorem ty_by24 : bytesOf Try.prog 24 = some 8 := by kernel_rfl
theorem ty_ki24 : kindT Try.prog 24 = .int .i64 := by kernel_rfl
theorem ty_ze24 : zeroOf Try.prog 24 = some [.d (.int .i64 0)] := by kernel_rfl
theorem ty_zz24 : szZ Try.prog 24 = some 1 := by kernel_rfl
theorem ty_sz25 : szOf Try.prog 25 = some 2 := by kernel_rfl
theorem ty_by25 : bytesOf Try.prog 25 = some 16 := by kernel_rfl
theorem ty_ki25 : kindT Try.prog 25 = .st := by kernel_rfl
theorem ty_ze25 : zeroOf Try.prog 25 = some [.d (.int .i64 0), .d (.int .i64 0)] := by kernel_rfl
theorem ty_fl25_0 : fld Try.prog 25 0 = some (0, 1, 3) := by kernel_rfl
theorem ty_fl25_1 : fld Try.prog 25 1 = some (1, 1, 3) := by kernel_rfl
theorem ty_eq25 : eqFs Try.prog 25 = some [(3, 0), (3, 1)] := by kernel_rfl
theorem ty_bz25 : buildZ Try.prog 25 = some [.d (.int .i64 0), .d (.int .i64 0)] := by kernel_rfl
theorem ty_zz25 : szZ Try.prog 25 = some 2 := by kernel_rfl
theorem ty_sz26 : szOf Try.prog 26 = some 2 := by kernel_rfl
theorem ty_by26 : bytesOf Try.prog 26 = some 16 := by kernel_rfl
theorem ty_ki26 : kindT Try.prog 26 = .st := by kernel_rfl
theorem ty_ze26 : zeroOf Try.prog 26 = some [.d (.int .i64 0), .d (.int .i64 0)] := by kernel_rfl
theorem ty_fl26_0 : fld Try.prog 26 0 = some (0, 1, 3) := by kernel_rfl
theorem ty_fl26_1 : fld Try.prog 26 1 = some (1, 1, 3) := by kernel_rfl
theorem ty_eq26 : eqFs Try.prog 26 = some [(3, 0), (3, 1)] := by kernel_rfl
theorem ty_bz26 : buildZ Try.prog 26 = some [.d (.int .i64 0), .d (.int .i64 0)] := by kernel_rfl
theorem ty_zz26 : szZ Try.prog 26 = some 2 := by kernel_rfl
theorem ty_sz27 : szOf Try.prog 27 = some 4 := by kernel_rfl
theorem ty_by27 : bytesOf Try.prog 27 = some 32 := by kernel_rfl
theorem ty_ki27 : kindT Try.prog 27 = .st := by kernel_rfl
theorem ty_ze27 : zeroOf Try.prog 27 = some [.d (.int .i64 0), .d (.int .i64 0), .d (.int .i64 0), .d (.int .i64 0)] := by kernel_rfl
theorem ty_fl27_0 : fld Try.prog 27 0 = some (0, 1, 3) := by kernel_rfl
theorem ty_fl27_1 : fld Try.prog 27 1 = some (1, 1, 24) := by kernel_rfl
theorem ty_fl27_2 : fld Try.prog 27 2 = some (2, 2, 26) := by kernel_rfl
theorem ty_eq27 : eqFs Try.prog 27 = some [(3, 0), (24, 1), (26, 2)] := by kernel_rfl
theorem ty_bz27 : buildZ Try.prog 27 = some [.d (.int .i64 0), .d (.int .i64 0), .d (.int .i64 0), .d (.int .i64 0)] := by kernel_rfl
theorem ty_zz27 : szZ Try.prog 27 = some 4 := by kernel_rfl
theorem ty_sz28 : szOf Try.prog 28 = some 4 := by kernel_rfl
theorem ty_by28 : bytesOf Try.prog 28 = some 32 := by kernel_rfl
theorem ty_ki28 : kindT Try.prog 28 = .st := by kernel_rfl
theorem ty_ze28 : zeroOf Try.prog 28 = some [.d (.int .i64 0), .d (.int .i64 0), .d (.int .i64 0), .d (.int .i64 0)] := by kernel_rfl
theorem ty_fl28_0 : fld Try.prog 28 0 = some (0, 1, 3) := by kernel_rfl
theorem ty_fl28_1 : fld Try.prog 28 1 = some (1, 1, 24) := by kernel_rfl
theorem ty_fl28_2 : fld Try.prog 28 2 = some (2, 2, 26) := by kernel_rfl
theorem ty_eq28 : eqFs Try.prog 28 = some [(3, 0), (24, 1), (26, 2)] := by kernel_rfl
theorem ty_bz28 : buildZ Try.prog 28 = some [.d (.int .i64 0), .d (.int .i64 0), .d (.int .i64 0), .d (.int .i64 0)] := by kernel_rfl
theorem ty_zz28 : szZ Try.prog 28 = some 4 := by kernel_rfl
theorem ty_sz29 : szOf Try.prog 29 = some 1 := by kernel_rfl
theorem ty_by29 : bytesOf Try.prog 29 = some 0 := by kernel_rfl
theorem ty_ki29 : kindT Try.prog 29 = .other := by kernel_rfl
theorem ty_sz30 : szOf Try.prog 30 = some 1 := by kernel_rfl
theorem ty_by30 : bytesOf Try.prog 30 = some 8 := by kernel_rfl
theorem ty_ki30 : kindT Try.prog 30 = .other := by kernel_rfl
theorem ty_ze30 : zeroOf Try.prog 30 = some [.any] := by kernel_rfl
theorem ty_zz30 : szZ Try.prog 30 = some 1 := by kernel_rfl
theorem ty_sz31 : szOf Try.prog 31 = some 1 := by kernel_rfl
theorem ty_by31 : bytesOf Try.prog 31 = some 8 := by kernel_rfl
theorem ty_ki31 : kindT Try.prog 31 = .other := by kernel_rfl
theorem ty_ze31 : zeroOf Try.prog 31 = some [.any] := by kernel_rfl
theorem ty_zz31 : szZ Try.prog 31 = some 1 := by kernel_rfl
theorem ty_sz32 : szOf Try.prog 32 = some 1 := by kernel_rfl
theorem ty_by32 : bytesOf Try.prog 32 = some 8 := by kernel_rfl
theorem ty_ki32 : kindT Try.prog 32 = .other := by kernel_rfl
theorem ty_ze32 : zeroOf Try.prog 32 = some [.any] := by kernel_rfl
theorem ty_zz32 : szZ Try.prog 32 = some 1 := by kernel_rfl
theorem ty_sz33 : szOf Try.prog 33 = some 1 := by kernel_rfl
theorem ty_by33 : bytesOf Try.prog 33 = some 8 := by kernel_rfl
theorem ty_ki33 : kindT Try.prog 33 = .other := by kernel_rfl
theorem ty_ze33 : zeroOf Try.prog 33 = some [.any] := by kernel_rfl
theorem ty_zz33 : szZ Try.prog 33 = some 1 := by kernel_rfl
theorem ty_sz34 : szOf Try.prog 34 = some 5 := by kernel_rfl
theorem ty_by34 : bytesOf Try.prog 34 = some 48 := by kernel_rfl
theorem ty_ki34 : kindT Try.prog 34 = .st := by kernel_rfl
theorem ty_ze34 : zeroOf Try.prog 34 = some [.d (.int .i64 0), .d (.str []), .d (.int .i64 0), .d (.int .i64 0), .d (.int .i64 0)] := by kernel_rfl
theorem ty_fl34_0 : fld Try.prog 34 0 = some (0, 1, 3) := by kernel_rfl
theorem ty_fl34_1 : fld Try.prog 34 1 = some (1, 1, 9) := by kernel_rfl
theorem ty_fl34_2 : fld Try.prog 34 2 = some (2, 1, 2) := by kernel_rfl
theorem ty_fl34_3 : fld Try.prog 34 3 = some (3, 2, 26) := by kernel_rfl
theorem ty_eq34 : eqFs Try.prog 34 = some [(3, 0), (9, 1), (2, 2), (26, 3)] := by kernel_rfl
theorem ty_bz34 : buildZ Try.prog 34 = some [.d (.int .i64 0), .d (.str []), .d (.int .i64 0), .d (.int .i64 0), .d (.int .i64 0)] := by kernel_rfl
theorem ty_zz34 : szZ Try.prog 34 = some 5 := by kernel_rfl
theorem ty_sz35 : szOf Try.prog 35 = some 5 := by kernel_rfl
theorem ty_by35 : bytesOf Try.prog 35 = some 48 := by kernel_rfl
theorem ty_ki35 : kindT Try.prog 35 = .st := by kernel_rfl
theorem ty_ze35 : zeroOf Try.prog 35 = some [.d (.int .i64 0), .d (.str []), .d (.int .i64 0), .d (.int .i64 0), .d (.int .i64 0)] := by kernel_rfl
theorem ty_fl35_0 : fld Try.prog 35 0 = some (0, 1, 3) := by kernel_rfl
theorem ty_fl35_1 : fld Try.prog 35 1 = some (1, 1, 9) := by kernel_rfl
theorem ty_fl35_2 : fld Try.prog 35 2 = some (2, 1, 2) := by kernel_rfl
theorem ty_fl35_3 : fld Try.prog 35 3 = some (3, 2, 26) := by kernel_rfl
theorem ty_eq35 : eqFs Try.prog 35 = some [(3, 0), (9, 1), (2, 2), (26, 3)] := by kernel_rfl
theorem ty_bz35 : buildZ Try.prog 35 = some [.d (.int .i64 0), .d (.str []), .d (.int .i64 0), .d (.int .i64 0), .d (.int .i64 0)] := by kernel_rfl
theorem ty_zz35 : szZ Try.prog 35 = some 5 := by kernel_rfl
theorem ty_sz36 : szOf Try.prog 36 = some 1 := by kernel_rfl
theorem ty_by36 : bytesOf Try.prog 36 = some 8 := by kernel_rfl
theorem ty_ki36 : kindT Try.prog 36 = .other := by kernel_rfl
theorem ty_ze36 : zeroOf Try.prog 36 = some [.any] := by kernel_rfl
theorem ty_zz36 : szZ Try.prog 36 = some 1 := by kernel_rfl
theorem ty_sz37 : szOf Try.prog 37 = some 1 := by kernel_rfl
theorem ty_by37 : bytesOf Try.prog 37 = some 8 := by kernel_rfl
theorem ty_ki37 : kindT Try.prog 37 = .other := by kernel_rfl
theorem ty_ze37 : zeroOf Try.prog 37 = some [.any] := by kernel_rfl
theorem ty_zz37 : szZ Try.prog 37 = some 1 := by kernel_rfl
theorem ty_sz38 : szOf Try.prog 38 = some 1 := by kernel_rfl
theorem ty_by38 : bytesOf Try.prog 38 = some 8 := by kernel_rfl
theorem ty_ki38 : kindT Try.prog 38 = .other := by kernel_rfl
theorem ty_ze38 : zeroOf Try.prog 38 = some [.any] := by kernel_rfl
theorem ty_zz38 : szZ Try.prog 38 = some 1 := by kernel_rfl
theorem ty_sz39 : szOf Try.prog 39 = some 1 := by kernel_rfl
theorem ty_by39 : bytesOf Try.prog 39 = some 8 := by kernel_rfl
theorem ty_ki39 : kindT Try.prog 39 = .other := by kernel_rfl
theorem ty_ze39 : zeroOf Try.prog 39 = some [.any] := by kernel_rfl
theorem ty_zz39 : szZ Try.prog 39 = some 1 := by kernel_rfl
theorem ty_sz40 : szOf Try.prog 40 = some 1 := by kernel_rfl
theorem ty_by40 : bytesOf Try.prog 40 = some 8 := by kernel_rfl
theorem ty_ki40 : kindT Try.prog 40 = .other := by kernel_rfl
theorem ty_ze40 : zeroOf Try.prog 40 = some [.any] := by kernel_rfl
theorem ty_zz40 : szZ Try.prog 40 = some 1 := by kernel_rfl
theorem ty_sz41 : szOf Try.prog 41 = some 1 := by kernel_rfl
theorem ty_by41 : bytesOf Try.prog 41 = some 8 := by kernel_rfl
theorem ty_ki41 : kindT Try.prog 41 = .other := by kernel_rfl
theorem ty_ze41 : zeroOf Try.prog 41 = some [.any] := by kernel_rfl
theorem ty_zz41 : szZ Try.prog 41 = some 1 := by kernel_rfl
theorem ty_sz42 : szOf Try.prog 42 = some 1 := by kernel_rfl
theorem ty_by42 : bytesOf Try.prog 42 = some 8 := by kernel_rfl
theorem ty_ki42 : kindT Try.prog 42 = .other := by kernel_rfl
theorem ty_ze42 : zeroOf Try.prog 42 = some [.any] := by kernel_rfl
theorem ty_zz42 : szZ Try.prog 42 = some 1 := by kernel_rfl
theorem ty_sz43 : szOf Try.prog 43 = some 1 := by kernel_rfl
theorem ty_by43 : bytesOf Try.prog 43 = some 0 := by kernel_rfl
theorem ty_ki43 : kindT Try.prog 43 = .other := by kernel_rfl
theorem ty_sz44 : szOf Try.prog 44 = some 1 := by kernel_rfl
theorem ty_by44 : bytesOf Try.prog 44 = some 8 := by kernel_rfl
theorem ty_ki44 : kindT Try.prog 44 = .other := by kernel_rfl
theorem ty_ze44 : zeroOf Try.prog 44 = some [.any] := by kernel_rfl
theorem ty_zz44 : szZ Try.prog 44 = some 1 := by kernel_rfl
theorem ty_sz45 : szOf Try.prog 45 = some 1 := by kernel_rfl
theorem ty_by45 : bytesOf Try.prog 45 = some 8 := by kernel_rfl
theorem ty_ki45 : kindT Try.prog 45 = .other := by kernel_rfl
theorem ty_ze45 : zeroOf Try.prog 45 = some [.any] := by kernel_rfl
theorem ty_zz45 : szZ Try.prog 45 = some 1 := by kernel_rfl
theorem ty_sz46 : szOf Try.prog 46 = some 1 := by kernel_rfl
theorem ty_by46 : bytesOf Try.prog 46 = some 8 := by kernel_rfl
theorem ty_ki46 : kindT Try.prog 46 = .ptr := by kernel_rfl
theorem ty_ze46 : zeroOf Try.prog 46 = some [.d .nilp] := by kernel_rfl
theorem ty_zz46 : szZ Try.prog 46 = some 1 := by kernel_rfl
theorem ty_sz47 : szOf Try.prog 47 = some 3 := by kernel_rfl
theorem ty_by47 : bytesOf Try.prog 47 = some 32 := by kernel_rfl
theorem ty_ki47 : kindT Try.prog 47 = .st := by kernel_rfl
theorem ty_ze47 : zeroOf Try.prog 47 = some [.d (.str []), .d (.int .i64 0), .d (.int .i64 0)] := by kernel_rfl
theorem ty_fl47_0 : fld Try.prog 47 0 = some (0, 1, 9) := by kernel_rfl
theorem ty_fl47_1 : fld Try.prog 47 1 = some (1, 2, 26) := by kernel_rfl
theorem ty_eq47 : eqFs Try.prog 47 = some [(9, 0), (26, 1)] := by kernel_rfl
theorem ty_bz47 : buildZ Try.prog 47 = some [.d (.str []), .d (.int .i64 0), .d (.int .i64 0)] := by kernel_rfl
theorem ty_zz47 : szZ Try.prog 47 = some 3 := by kernel_rfl
theorem ty_sz48 : szOf Try.prog 48 = some 3 := by kernel_rfl
theorem ty_by48 : bytesOf Try.prog 48 = some 32 := by kernel_rfl
theorem ty_ki48 : kindT Try.prog 48 = .st := by kernel_rfl
theorem ty_ze48 : zeroOf Try.prog 48 = some [.d (.str []), .d (.int .i64 0), .d (.int .i64 0)] := by kernel_rfl
theorem ty_fl48_0 : fld Try.prog 48 0 = some (0, 1, 9) := by kernel_rfl
theorem ty_fl48_1 : fld Try.prog 48 1 = some (1, 2, 26) := by kernel_rfl
theorem ty_eq48 : eqFs Try.prog 48 = some [(9, 0), (26, 1)] := by kernel_rfl
theorem ty_bz48 : buildZ Try.prog 48 = some [.d (.str []), .d (.int .i64 0), .d (.int .i64 0)] := by kernel_rfl
theorem ty_zz48 : szZ Try.prog 48 = some 3 := by kernel_rfl
theorem ty_sz49 : szOf Try.prog 49 = some 1 := by kernel_rfl
theorem ty_by49 : bytesOf Try.prog 49 = some 8 := by kernel_rfl
theorem ty_ki49 : kindT Try.prog 49 = .other := by kernel_rfl
theorem ty_ze49 : zeroOf Try.prog 49 = some [.any] := by kernel_rfl
theorem ty_zz49 : szZ Try.prog 49 = some 1 := by kernel_rfl
theorem ty_sz50 : szOf Try.prog 50 = some 1 := by kernel_rfl
theorem ty_by50 : bytesOf Try.prog 50 = some 24 := by kernel_rfl
theorem ty_ki50 : kindT Try.prog 50 = .sl 9 := by kernel_rfl
theorem ty_ze50 : zeroOf Try.prog 50 = some [.full []] := by kernel_rfl
theorem ty_zz50 : szZ Try.prog 50 = some 1 := by kernel_rfl
theorem ty_sz51 : szOf Try.prog 51 = some 1 := by kernel_rfl
theorem ty_by51 : bytesOf Try.prog 51 = some 8 := by kernel_rfl
theorem ty_ki51 : kindT Try.prog 51 = .other := by kernel_rfl
theorem ty_ze51 : zeroOf Try.prog 51 = some [.any] := by kernel_rfl
theorem ty_zz51 : szZ Try.prog 51 = some 1 := by kernel_rfl
theorem ty_sz52 : szOf Try.prog 52 = some 1 := by kernel_rfl
theorem ty_by52 : bytesOf Try.prog 52 = some 8 := by kernel_rfl
theorem ty_ki52 : kindT Try.prog 52 = .other := by kernel_rfl
theorem ty_ze52 : zeroOf Try.prog 52 = some [.any] := by kernel_rfl
theorem ty_zz52 : szZ Try.prog 52 = some 1 := by kernel_rfl
theorem ty_sz53 : szOf Try.prog 53 = some 1 := by kernel_rfl
theorem ty_by53 : bytesOf Try.prog 53 = some 8 := by kernel_rfl
theorem ty_ki53 : kindT Try.prog 53 = .other := by kernel_rfl
theorem ty_ze53 : zeroOf Try.prog 53 = some [.any] := by kernel_rfl
theorem ty_zz53 : szZ Try.prog 53 = some 1 := by kernel_rfl
theorem ty_sz54 : szOf Try.prog 54 = some 1 := by kernel_rfl
theorem ty_by54 : bytesOf Try.prog 54 = some 8 := by kernel_rfl
theorem ty_ki54 : kindT Try.prog 54 = .other := by kernel_rfl
theorem ty_ze54 : zeroOf Try.prog 54 = some [.any] := by kernel_rfl
theorem ty_zz54 : szZ Try.prog 54 = some 1 := by kernel_rfl
theorem ty_sz55 : szOf Try.prog 55 = some 1 := by kernel_rfl
theorem ty_by55 : bytesOf Try.prog 55 = some 8 := by kernel_rfl
theorem ty_ki55 : kindT Try.prog 55 = .other := by kernel_rfl
theorem ty_ze55 : zeroOf Try.prog 55 = some [.any] := by kernel_rfl
theorem ty_zz55 : szZ Try.prog 55 = some 1 := by kernel_rfl
theorem ty_sz56 : szOf Try.prog 56 = some 1 := by kernel_rfl
theorem ty_by56 : bytesOf Try.prog 56 = some 8 := by kernel_rfl
theorem ty_ki56 : kindT Try.prog 56 = .other := by kernel_rfl
theorem ty_ze56 : zeroOf Try.prog 56 = some [.any] := by kernel_rfl
theorem ty_zz56 : szZ Try.prog 56 = some 1 := by kernel_rfl
theorem ty_sz57 : szOf Try.prog 57 = some 1 := by kernel_rfl
theorem ty_by57 : bytesOf Try.prog 57 = some 8 := by kernel_rfl
theorem ty_ki57 : kindT Try.prog 57 = .other := by kernel_rfl
theorem ty_ze57 : zeroOf Try.prog 57 = some [.any] := by kernel_rfl
theorem ty_zz57 : szZ Try.prog 57 = some 1 := by kernel_rfl
theorem ty_sz58 : szOf Try.prog 58 = some 1 := by kernel_rfl
theorem ty_by58 : bytesOf Try.prog 58 = some 8 := by kernel_rfl
theorem ty_ki58 : kindT Try.prog 58 = .other := by kernel_rfl
theorem ty_ze58 : zeroOf Try.prog 58 = some [.any] := by kernel_rfl
theorem ty_zz58 : szZ Try.prog 58 = some 1 := by kernel_rfl
theorem ty_sz59 : szOf Try.prog 59 = some 1 := by kernel_rfl
theorem ty_by59 : bytesOf Try.prog 59 = some 8 := by kernel_rfl
theorem ty_ki59 : kindT Try.prog 59 = .ptr := by kernel_rfl
theorem ty_ze59 : zeroOf Try.prog 59 = some [.d .nilp] := by kernel_rfl
theorem ty_zz59 : szZ Try.prog 59 = some 1 := by kernel_rfl
theorem ty_sz60 : szOf Try.prog 60 = some 1 := by kernel_rfl
theorem ty_by60 : bytesOf Try.prog 60 = some 24 := by kernel_rfl
theorem ty_ki60 : kindT Try.prog 60 = .sl 5 := by kernel_rfl
theorem ty_ze60 : zeroOf Try.prog 60 = some [.full []] := by kernel_rfl
theorem ty_zz60 : szZ Try.prog 60 = some 1 := by kernel_rfl
theorem ty_sz61 : szOf Try.prog 61 = some 2 := by kernel_rfl
theorem ty_by61 : bytesOf Try.prog 61 = some 32 := by kernel_rfl
theorem ty_ki61 : kindT Try.prog 61 = .st := by kernel_rfl
theorem ty_ze61 : zeroOf Try.prog 61 = some [.d .nilp, .full []] := by kernel_rfl
theorem ty_fl61_0 : fld Try.prog 61 0 = some (0, 1, 59) := by kernel_rfl
theorem ty_fl61_1 : fld Try.prog 61 1 = some (1, 1, 60) := by kernel_rfl
theorem ty_eq61 : eqFs Try.prog 61 = some [(59, 0), (60, 1)] := by kernel_rfl
theorem ty_bz61 : buildZ Try.prog 61 = some [.d .nilp, .full []] := by kernel_rfl
theorem ty_zz61 : szZ Try.prog 61 = some 2 := by kernel_rfl
theorem ty_sz62 : szOf Try.prog 62 = some 2 := by kernel_rfl
theorem ty_by62 : bytesOf Try.prog 62 = some 32 := by kernel_rfl
theorem ty_ki62 : kindT Try.prog 62 = .st := by kernel_rfl
theorem ty_ze62 : zeroOf Try.prog 62 = some [.d .nilp, .full []] := by kernel_rfl
theorem ty_fl62_0 : fld Try.prog 62 0 = some (0, 1, 59) := by kernel_rfl
theorem ty_fl62_1 : fld Try.prog 62 1 = some (1, 1, 60) := by kernel_rfl
theorem ty_eq62 : eqFs Try.prog 62 = some [(59, 0), (60, 1)] := by kernel_rfl
theorem ty_bz62 : buildZ Try.prog 62 = some [.d .nilp, .full []] := by kernel_rfl
theorem ty_zz62 : szZ Try.prog 62 = some 2 := by kernel_rfl
theorem ty_sz63 : szOf Try.prog 63 = some 1 := by kernel_rfl
theorem ty_by63 : bytesOf Try.prog 63 = some 8 := by kernel_rfl
theorem ty_ki63 : kindT Try.prog 63 = .other := by kernel_rfl
theorem ty_ze63 : zeroOf Try.prog 63 = some [.any] := by kernel_rfl
theorem ty_zz63 : szZ Try.prog 63 = some 1 := by kernel_rfl
theorem ty_sz64 : szOf Try.prog 64 = some 1 := by kernel_rfl
theorem ty_by64 : bytesOf Try.prog 64 = some 16 := by kernel_rfl
theorem ty_ki64 : kindT Try.prog 64 = .ifc := by kernel_rfl
theorem ty_ze64 : zeroOf Try.prog 64 = some [.any] := by kernel_rfl
theorem ty_zz64 : szZ Try.prog 64 = some 1 := by kernel_rfl
theorem ty_sz65 : szOf Try.prog 65 = some 1 := by kernel_rfl
theorem ty_by65 : bytesOf Try.prog 65 = some 16 := by kernel_rfl
theorem ty_ki65 : kindT Try.prog 65 = .ifc := by kernel_rfl
theorem ty_ze65 : zeroOf Try.prog 65 = some [.any] := by kernel_rfl
theorem ty_zz65 : szZ Try.prog 65 = some 1 := by kernel_rfl
theorem ty_sz66 : szOf Try.prog 66 = some 1 := by kernel_rfl
theorem ty_by66 : bytesOf Try.prog 66 = some 0 := by kernel_rfl
theorem ty_ki66 : kindT Try.prog 66 = .other := by kernel_rfl
theorem ty_sz67 : szOf Try.prog 67 = some 1 := by kernel_rfl
theorem ty_by67 : bytesOf Try.prog 67 = some 8 := by kernel_rfl
theorem ty_ki67 : kindT Try.prog 67 = .other := by kernel_rfl
theorem ty_ze67 : zeroOf Try.prog 67 = some [.any] := by kernel_rfl
theorem ty_zz67 : szZ Try.prog 67 = some 1 := by kernel_rfl
theorem ty_sz68 : szOf Try.prog 68 = some 1 := by kernel_rfl
theorem ty_by68 : bytesOf Try.prog 68 = some 8 := by kernel_rfl
theorem ty_ki68 : kindT Try.prog 68 = .other := by kernel_rfl
theorem ty_ze68 : zeroOf Try.prog 68 = some [.any] := by kernel_rfl
theorem ty_zz68 : szZ Try.prog 68 = some 1 := by kernel_rfl
theorem ty_sz69 : szOf Try.prog 69 = some 1 := by kernel_rfl
theorem ty_by69 : bytesOf Try.prog 69 = some 8 := by kernel_rfl
theorem ty_ki69 : kindT Try.prog 69 = .other := by kernel_rfl
theorem ty_ze69 : zeroOf Try.prog 69 = some [.any] := by kernel_rfl
theorem ty_zz69 : szZ Try.prog 69 = some 1 := by kernel_rfl
theorem ty_sz70 : szOf Try.prog 70 = some 1 := by kernel_rfl
theorem ty_by70 : bytesOf Try.prog 70 = some 8 := by kernel_rfl
theorem ty_ki70 : kindT Try.prog 70 = .other := by kernel_rfl
theorem ty_ze70 : zeroOf Try.prog 70 = some [.any] := by kernel_rfl
theorem ty_zz70 : szZ Try.prog 70 = some 1 := by kernel_rfl
theorem ty_sz71 : szOf Try.prog 71 = some 1 := by kernel_rfl
theorem ty_by71 : bytesOf Try.prog 71 = some 8 := by kernel_rfl
theorem ty_ki71 : kindT Try.prog 71 = .ptr := by kernel_rfl
theorem ty_ze71 : zeroOf Try.prog 71 = some [.d .nilp] := by kernel_rfl
theorem ty_zz71 : szZ Try.prog 71 = some 1 := by kernel_rfl
theorem ty_sz72 : szOf Try.prog 72 = some 1 := by kernel_rfl
theorem ty_by72 : bytesOf Try.prog 72 = some 8 := by kernel_rfl
theorem ty_ki72 : kindT Try.prog 72 = .other := by kernel_rfl
theorem ty_ze72 : zeroOf Try.prog 72 = some [.any] := by kernel_rfl
theorem ty_zz72 : szZ Try.prog 72 = some 1 := by kernel_rfl
theorem ty_sz73 : szOf Try.prog 73 = some 1 := by kernel_rfl
theorem ty_by73 : bytesOf Try.prog 73 = some 8 := by kernel_rfl
theorem ty_ki73 : kindT Try.prog 73 = .other := by kernel_rfl
theorem ty_ze73 : zeroOf Try.prog 73 = some [.d .nilp] := by kernel_rfl
theorem ty_zz73 : szZ Try.prog 73 = some 1 := by kernel_rfl
theorem ty_sz74 : szOf Try.prog 74 = some 1 := by kernel_rfl
theorem ty_by74 : bytesOf Try.prog 74 = some 8 := by kernel_rfl
theorem ty_ki74 : kindT Try.prog 74 = .other := by kernel_rfl
theorem ty_ze74 : zeroOf Try.prog 74 = some [.any] := by kernel_rfl
theorem ty_zz74 : szZ Try.prog 74 = some 1 := by kernel_rfl
theorem ty_sz75 : szOf Try.prog 75 = some 1 := by kernel_rfl
theorem ty_by75 : bytesOf Try.prog 75 = some 8 := by kernel_rfl
theorem ty_ki75 : kindT Try.prog 75 = .other := by kernel_rfl
theorem ty_ze75 : zeroOf Try.prog 75 = some [.any] := by kernel_rfl
theorem ty_zz75 : szZ Try.prog 75 = some 1 := by kernel_rfl
theorem ty_sz76 : szOf Try.prog 76 = some 4 := by kernel_rfl
theorem ty_by76 : bytesOf Try.prog 76 = some 40 := by kernel_rfl
theorem ty_ki76 : kindT Try.prog 76 = .st := by kernel_rfl
theorem ty_ze76 : zeroOf Try.prog 76 = some [.d .nilp, .d .nilp, .d .nilp, .d (.str [])] := by kernel_rfl
theorem ty_fl76_0 : fld Try.prog 76 0 = some (0, 1, 17) := by kernel_rfl
theorem ty_fl76_1 : fld Try.prog 76 1 = some (1, 1, 17) := by kernel_rfl
theorem ty_fl76_2 : fld Try.prog 76 2 = some (2, 1, 17) := by kernel_rfl
theorem ty_fl76_3 : fld Try.prog 76 3 = some (3, 1, 9) := by kernel_rfl
theorem ty_bz76 : buildZ Try.prog 76 = some [.d .nilp, .d .nilp, .d .nilp, .d (.str [])] := by kernel_rfl
theorem ty_zz76 : szZ Try.prog 76 = some 4 := by kernel_rfl
theorem ty_sz78 : szOf Try.prog 78 = some 0 := by kernel_rfl
theorem ty_by78 : bytesOf Try.prog 78 = some 0 := by kernel_rfl
theorem ty_ki78 : kindT Try.prog 78 = .arr 0 16 := by kernel_rfl
theorem ty_ze78 : zeroOf Try.prog 78 = some [] := by kernel_rfl
theorem ty_sz79 : szOf Try.prog 79 = some 0 := by kernel_rfl
theorem ty_by79 : bytesOf Try.prog 79 = some 0 := by kernel_rfl
theorem ty_ki79 : kindT Try.prog 79 = .st := by kernel_rfl
theorem ty_ze79 : zeroOf Try.prog 79 = some [] := by kernel_rfl
theorem ty_fl79_0 : fld Try.prog 79 0 = some (0, 0, 78) := by kernel_rfl
theorem ty_bz79 : buildZ Try.prog 79 = some [] := by kernel_rfl
theorem ty_sz81 : szOf Try.prog 81 = some 1 := by kernel_rfl
theorem ty_by81 : bytesOf Try.prog 81 = some 8 := by kernel_rfl
theorem ty_ki81 : kindT Try.prog 81 = .other := by kernel_rfl
theorem ty_ze81 : zeroOf Try.prog 81 = some [.any] := by kernel_rfl
theorem ty_zz81 : szZ Try.prog 81 = some 1 := by kernel_rfl
theorem ty_sz82 : szOf Try.prog 82 = some 1 := by kernel_rfl
theorem ty_by82 : bytesOf Try.prog 82 = some 4 := by kernel_rfl
theorem ty_ki82 : kindT Try.prog 82 = .int .u32 := by kernel_rfl
theorem ty_ze82 : zeroOf Try.prog 82 = some [.d (.int .u32 0)] := by kernel_rfl
theorem ty_zz82 : szZ Try.prog 82 = some 1 := by kernel_rfl
theorem ty_sz85 : szOf Try.prog 85 = some 1 := by kernel_rfl
theorem ty_by85 : bytesOf Try.prog 85 = some 8 := by kernel_rfl
theorem ty_ki85 : kindT Try.prog 85 = .other := by kernel_rfl
theorem ty_ze85 : zeroOf Try.prog 85 = some [.any] := by kernel_rfl
theorem ty_zz85 : szZ Try.prog 85 = some 1 := by kernel_rfl
theorem ty_sz88 : szOf Try.prog 88 = some 11 := by kernel_rfl
theorem ty_by88 : bytesOf Try.prog 88 = some 48 := by kernel_rfl
theorem ty_ki88 : kindT Try.prog 88 = .st := by kernel_rfl
theorem ty_ze88 : zeroOf Try.prog 88 = some [.d (.int .u64 0), .d (.int .u64 0), .d (.int .u32 0), .d (.int .u8 0), .d (.int .u8 0), .d (.int .u8 0), .d (.int .u8 0), .any, .d .nilp, .d (.int .i32 0), .d (.int .i32 0)] := by kernel_rfl
theorem ty_fl88_0 : fld Try.prog 88 0 = some (0, 1, 12) := by kernel_rfl
theorem ty_fl88_1 : fld Try.prog 88 1 = some (1, 1, 12) := by kernel_rfl
theorem ty_fl88_2 : fld Try.prog 88 2 = some (2, 1, 82) := by kernel_rfl
theorem ty_fl88_3 : fld Try.prog 88 3 = some (3, 1, 83) := by kernel_rfl
theorem ty_fl88_4 : fld Try.prog 88 4 = some (4, 1, 5) := by kernel_rfl
theorem ty_fl88_5 : fld Try.prog 88 5 = some (5, 1, 5) := by kernel_rfl
theorem ty_fl88_6 : fld Try.prog 88 6 = some (6, 1, 84) := by kernel_rfl
theorem ty_fl88_7 : fld Try.prog 88 7 = some (7, 1, 85) := by kernel_rfl
theorem ty_fl88_8 : fld Try.prog 88 8 = some (8, 1, 71) := by kernel_rfl
theorem ty_fl88_9 : fld Try.prog 88 9 = some (9, 1, 86) := by kernel_rfl
theorem ty_fl88_10 : fld Try.prog 88 10 = some (10, 1, 87) := by kernel_rfl
theorem ty_bz88 : buildZ Try.prog 88 = some [.d (.int .u64 0), .d (.int .u64 0), .d (.int .u32 0), .d (.int .u8 0), .d (.int .u8 0), .d (.int .u8 0), .d (.int .u8 0), .any, .d .nilp, .d (.int .i32 0), .d (.int .i32 0)] := by kernel_rfl
theorem ty_zz88 : szZ Try.prog 88 = some 11 := by kernel_rfl
attribute [go_sem] ty_sz0 ty_by0 ty_ki0 ty_sz1 ty_by1 ty_ki1 ty_ze1 ty_zz1 ty_sz2 ty_by2 ty_ki2 ty_ze2
attribute [go_sem] ty_zz2 ty_sz3 ty_by3 ty_ki3 ty_ze3 ty_zz3 ty_sz4 ty_by4 ty_ki4 ty_ze4 ty_zz4 ty_sz5
attribute [go_sem] ty_by5 ty_ki5 ty_ze5 ty_zz5 ty_sz7 ty_by7 ty_ki7 ty_ze7 ty_fl7_0 ty_fl7_1 ty_fl7_2 ty_fl7_3
attribute [go_sem] ty_eq7 ty_bz7 ty_zz7 ty_sz9 ty_by9 ty_ki9 ty_ze9 ty_zz9 ty_sz12 ty_by12 ty_ki12 ty_ze12
attribute [go_sem] ty_zz12 ty_sz13 ty_by13 ty_ki13 ty_ze13 ty_fl13_0 ty_fl13_1 ty_bz13 ty_zz13 ty_sz20 ty_by20 ty_ki20
attribute [go_sem] ty_ze20 ty_zz20 ty_sz21 ty_by21 ty_ki21 ty_ze21 ty_zz21 ty_sz22 ty_by22 ty_ki22 ty_ze22 ty_zz22
attribute [go_sem] ty_sz23 ty_by23 ty_ki23 ty_ze23 ty_zz23 ty_sz24 ty_by24 ty_ki24 ty_ze24 ty_zz24 ty_sz25 ty_by25
attribute [go_sem] ty_ki25 ty_ze25 ty_fl25_0 ty_fl25_1 ty_eq25 ty_bz25 ty_zz25 ty_sz26 ty_by26 ty_ki26 ty_ze26 ty_fl26_0
attribute [go_sem] ty_fl26_1 ty_eq26 ty_bz26 ty_zz26 ty_sz27 ty_by27 ty_ki27 ty_ze27 ty_fl27_0 ty_fl27_1 ty_fl27_2 ty_eq27
attribute [go_sem] ty_bz27 ty_zz27 ty_sz28 ty_by28 ty_ki28 ty_ze28 ty_fl28_0 ty_fl28_1 ty_fl28_2 ty_eq28 ty_bz28 ty_zz28
attribute [go_sem] ty_sz29 ty_by29 ty_ki29 ty_sz30 ty_by30 ty_ki30 ty_ze30 ty_zz30 ty_sz31 ty_by31 ty_ki31 ty_ze31
attribute [go_sem] ty_zz31 ty_sz32 ty_by32 ty_ki32 ty_ze32 ty_zz32 ty_sz33 ty_by33 ty_ki33 ty_ze33 ty_zz33 ty_sz34
attribute [go_sem] ty_by34 ty_ki34 ty_ze34 ty_fl34_0 ty_fl34_1 ty_fl34_2 ty_fl34_3 ty_eq34 ty_bz34 ty_zz34 ty_sz35 ty_by35
attribute [go_sem] ty_ki35 ty_ze35 ty_fl35_0 ty_fl35_1 ty_fl35_2 ty_fl35_3 ty_eq35 ty_bz35 ty_zz35 ty_sz36 ty_by36 ty_ki36
attribute [go_sem] ty_ze36 ty_zz36 ty_sz37 ty_by37 ty_ki37 ty_ze37 ty_zz37 ty_sz38 ty_by38 ty_ki38 ty_ze38 ty_zz38
attribute [go_sem] ty_sz39 ty_by39 ty_ki39 ty_ze39 ty_zz39 ty_sz40 ty_by40 ty_ki40 ty_ze40 ty_zz40 ty_sz41 ty_by41
attribute [go_sem] ty_ki41 ty_ze41 ty_zz41 ty_sz42 ty_by42 ty_ki42 ty_ze42 ty_zz42 ty_sz43 ty_by43 ty_ki43 ty_sz44
attribute [go_sem] ty_by44 ty_ki44 ty_ze44 ty_zz44 ty_sz45 ty_by45 ty_ki45 ty_ze45 ty_zz45 ty_sz46 ty_by46 ty_ki46
attribute [go_sem] ty_ze46 ty_zz46 ty_sz47 ty_by47 ty_ki47 ty_ze47 ty_fl47_0 ty_fl47_1 ty_eq47 ty_bz47 ty_zz47 ty_sz48
attribute [go_sem] ty_by48 ty_ki48 ty_ze48 ty_fl48_0 ty_fl48_1 ty_eq48 ty_bz48 ty_zz48 ty_sz49 ty_by49 ty_ki49 ty_ze49
attribute [go_sem] ty_zz49 ty_sz50 ty_by50 ty_ki50 ty_ze50 ty_zz50 ty_sz51 ty_by51 ty_ki51 ty_ze51 ty_zz51 ty_sz52
attribute [go_sem] ty_by52 ty_ki52 ty_ze52 ty_zz52 ty_sz53 ty_by53 ty_ki53 ty_ze53 ty_zz53 ty_sz54 ty_by54 ty_ki54
attribute [go_sem] ty_ze54 ty_zz54 ty_sz55 ty_by55 ty_ki55 ty_ze55 ty_zz55 ty_sz56 ty_by56 ty_ki56 ty_ze56 ty_zz56
attribute [go_sem] ty_sz57 ty_by57 ty_ki57 ty_ze57 ty_zz57 ty_sz58 ty_by58 ty_ki58 ty_ze58 ty_zz58 ty_sz59 ty_by59
attribute [go_sem] ty_ki59 ty_ze59 ty_zz59 ty_sz60 ty_by60 ty_ki60 ty_ze60 ty_zz60 ty_sz61 ty_by61 ty_ki61 ty_ze61
attribute [go_sem] ty_fl61_0 ty_fl61_1 ty_eq61 ty_bz61 ty_zz61 ty_sz62 ty_by62 ty_ki62 ty_ze62 ty_fl62_0 ty_fl62_1 ty_eq62
attribute [go_sem] ty_bz62 ty_zz62 ty_sz63 ty_by63 ty_ki63 ty_ze63 ty_zz63 ty_sz64 ty_by64 ty_ki64 ty_ze64 ty_zz64
attribute [go_sem] ty_sz65 ty_by65 ty_ki65 ty_ze65 ty_zz65 ty_sz66 ty_by66 ty_ki66 ty_sz67 ty_by67 ty_ki67 ty_ze67
attribute [go_sem] ty_zz67 ty_sz68 ty_by68 ty_ki68 ty_ze68 ty_zz68 ty_sz69 ty_by69 ty_ki69 ty_ze69 ty_zz69 ty_sz70
attribute [go_sem] ty_by70 ty_ki70 ty_ze70 ty_zz70 ty_sz71 ty_by71 ty_ki71 ty_ze71 ty_zz71 ty_sz72 ty_by72 ty_ki72
attribute [go_sem] ty_ze72 ty_zz72 ty_sz73 ty_by73 ty_ki73 ty_ze73 ty_zz73 ty_sz74 ty_by74 ty_ki74 ty_ze74 ty_zz74
attribute [go_sem] ty_sz75 ty_by75 ty_ki75 ty_ze75 ty_zz75 ty_sz76 ty_by76 ty_ki76 ty_ze76 ty_fl76_0 ty_fl76_1 ty_fl76_2
attribute [go_sem] ty_fl76_3 ty_bz76 ty_zz76 ty_sz78 ty_by78 ty_ki78 ty_ze78 ty_sz79 ty_by79 ty_ki79 ty_ze79 ty_fl79_0
attribute [go_sem] ty_bz79 ty_sz81 ty_by81 ty_ki81 ty_ze81 ty_zz81 ty_sz82 ty_by82 ty_ki82 ty_ze82 ty_zz82 ty_sz85
attribute [go_sem] ty_by85 ty_ki85 ty_ze85 ty_zz85 ty_sz88 ty_by88 ty_ki88 ty_ze88 ty_fl88_0 ty_fl88_1 ty_fl88_2 ty_fl88_3
attribute [go_sem] ty_fl88_4 ty_fl88_5 ty_fl88_6 ty_fl88_7 ty_fl88_8 ty_fl88_9 ty_fl88_10 ty_bz88 ty_zz88
end Go.Proofs.Ytknonjnbeajooaa
