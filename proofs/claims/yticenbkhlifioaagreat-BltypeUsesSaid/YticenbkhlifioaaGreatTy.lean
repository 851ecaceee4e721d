/- Facts on the types of this program. Conditions: none. -/
import Derived.Test.YticenbkhlifioaaGreatAbX4
import Derived.Test.YticenbkhlifioaaGreatProg
namespace Go.Proofs.YticenbkhlifioaaGreat
open Go.Ab
theorem ty_sz0 : szOf Tryz.prog 0 = some 1 := by kernel_rfl
theorem ty_by0 : bytesOf Tryz.prog 0 = some 0 := by kernel_rfl
theorem ty_ki0 : kindT Tryz.prog 0 = .other := by kernel_rfl
theorem ty_sz1 : szOf Tryz.prog 1 = some 1 := by kernel_rfl
theorem ty_by1 : bytesOf Tryz.prog 1 = some 8 := by kernel_rfl
theorem ty_ki1 : kindT Tryz.prog 1 = .other := by kernel_rfl
theorem ty_ze1 : zeroOf Tryz.prog 1 = some [.any] := by kernel_rfl
theorem ty_zz1 : szZ Tryz.prog 1 = some 1 := by kernel_rfl
theorem ty_sz2 : szOf Tryz.prog 2 = some 1 := by kernel_rfl
theorem ty_by2 : bytesOf Tryz.prog 2 = some 8 := by kernel_rfl
theorem ty_ki2 : kindT Tryz.prog 2 = .int .i64 := by kernel_rfl
theorem ty_ze2 : zeroOf Tryz.prog 2 = some [.d (.int .i64 0)] := by kernel_rfl
theorem ty_zz2 : szZ Tryz.prog 2 = some 1 := by kernel_rfl
theorem ty_sz3 : szOf Tryz.prog 3 = some 1 := by kernel_rfl
theorem ty_by3 : bytesOf Tryz.prog 3 = some 8 := by kernel_rfl
theorem ty_ki3 : kindT Tryz.prog 3 = .int .i64 := by kernel_rfl
theorem ty_ze3 : zeroOf Tryz.prog 3 = some [.d (.int .i64 0)] := by kernel_rfl
theorem ty_zz3 : szZ Tryz.prog 3 = some 1 := by kernel_rfl
theorem ty_sz4 : szOf Tryz.prog 4 = some 1 := by kernel_rfl
theorem ty_by4 : bytesOf Tryz.prog 4 = some 1 := by kernel_rfl
theorem ty_ki4 : kindT Tryz.prog 4 = .bool := by kernel_rfl
theorem ty_ze4 : zeroOf Tryz.prog 4 = some [.d (.bool false)] := by kernel_rfl
theorem ty_zz4 : szZ Tryz.prog 4 = some 1 := by kernel_rfl
theorem ty_sz5 : szOf Tryz.prog 5 = some 1 := by kernel_rfl
theorem ty_by5 : bytesOf Tryz.prog 5 = some 1 := by kernel_rfl
theorem ty_ki5 : kindT Tryz.prog 5 = .int .u8 := by kernel_rfl
theorem ty_ze5 : zeroOf Tryz.prog 5 = some [.d (.int .u8 0)] := by kernel_rfl
theorem ty_zz5 : szZ Tryz.prog 5 = some 1 := by kernel_rfl
theorem ty_sz7 : szOf Tryz.prog 7 = some 4 := by kernel_rfl
theorem ty_by7 : bytesOf Tryz.prog 7 = some 24 := by kernel_rfl
theorem ty_ki7 : kindT Tryz.prog 7 = .st := by kernel_rfl
theorem ty_ze7 : zeroOf Tryz.prog 7 = some [.d (.int .i64 0), .d (.int .i64 0), .d (.bool false), .d (.int .u8 0)] := by kernel_rfl
theorem ty_fl7_0 : fld Tryz.prog 7 0 = some (0, 1, 2) := by kernel_rfl
theorem ty_fl7_1 : fld Tryz.prog 7 1 = some (1, 1, 3) := by kernel_rfl
theorem ty_fl7_2 : fld Tryz.prog 7 2 = some (2, 1, 4) := by kernel_rfl
theorem ty_fl7_3 : fld Tryz.prog 7 3 = some (3, 1, 6) := by kernel_rfl
theorem ty_eq7 : eqFs Tryz.prog 7 = some [(2, 0), (3, 1), (4, 2), (6, 3)] := by kernel_rfl
theorem ty_bz7 : buildZ Tryz.prog 7 = some [.d (.int .i64 0), .d (.int .i64 0), .d (.bool false), .d (.int .u8 0)] := by kernel_rfl
theorem ty_zz7 : szZ Tryz.prog 7 = some 4 := by kernel_rfl
theorem ty_sz9 : szOf Tryz.prog 9 = some 1 := by kernel_rfl
theorem ty_by9 : bytesOf Tryz.prog 9 = some 16 := by kernel_rfl
theorem ty_ki9 : kindT Tryz.prog 9 = .str := by kernel_rfl
theorem ty_ze9 : zeroOf Tryz.prog 9 = some [.d (.str [])] := by kernel_rfl
theorem ty_zz9 : szZ Tryz.prog 9 = some 1 := by kernel_rfl
theorem ty_sz12 : szOf Tryz.prog 12 = some 1 := by kernel_rfl
theorem ty_by12 : bytesOf Tryz.prog 12 = some 8 := by kernel_rfl
theorem ty_ki12 : kindT Tryz.prog 12 = .int .u64 := by kernel_rfl
theorem ty_ze12 : zeroOf Tryz.prog 12 = some [.d (.int .u64 0)] := by kernel_rfl
theorem ty_zz12 : szZ Tryz.prog 12 = some 1 := by kernel_rfl
theorem ty_sz13 : szOf Tryz.prog 13 = some 2 := by kernel_rfl
theorem ty_by13 : bytesOf Tryz.prog 13 = some 24 := by kernel_rfl
theorem ty_ki13 : kindT Tryz.prog 13 = .st := by kernel_rfl
theorem ty_ze13 : zeroOf Tryz.prog 13 = some [.d (.str []), .d (.int .u64 0)] := by kernel_rfl
theorem ty_fl13_0 : fld Tryz.prog 13 0 = some (0, 1, 9) := by kernel_rfl
theorem ty_fl13_1 : fld Tryz.prog 13 1 = some (1, 1, 12) := by kernel_rfl
theorem ty_bz13 : buildZ Tryz.prog 13 = some [.d (.str []), .d (.int .u64 0)] := by kernel_rfl
theorem ty_zz13 : szZ Tryz.prog 13 = some 2 := by kernel_rfl
theorem ty_sz20 : szOf Tryz.prog 20 = some 1 := by kernel_rfl
theorem ty_by20 : bytesOf Tryz.prog 20 = some 16 := by kernel_rfl
theorem ty_ki20 : kindT Tryz.prog 20 = .ifc := by kernel_rfl
theorem ty_ze20 : zeroOf Tryz.prog 20 = some [.any] := by kernel_rfl
theorem ty_zz20 : szZ Tryz.prog 20 = some 1 := by kernel_rfl
theorem ty_sz21 : szOf Tryz.prog 21 = some 1 := by kernel_rfl
theorem ty_by21 : bytesOf Tryz.prog 21 = some 4 := by kernel_rfl
theorem ty_ki21 : kindT Tryz.prog 21 = .int .i32 := by kernel_rfl
theorem ty_ze21 : zeroOf Tryz.prog 21 = some [.d (.int .i32 0)] := by kernel_rfl
theorem ty_zz21 : szZ Tryz.prog 21 = some 1 := by kernel_rfl
theorem ty_sz22 : szOf Tryz.prog 22 = some 1 := by kernel_rfl
theorem ty_by22 : bytesOf Tryz.prog 22 = some 24 := by kernel_rfl
theorem ty_ki22 : kindT Tryz.prog 22 = .sl 73 := by kernel_rfl
theorem ty_ze22 : zeroOf Tryz.prog 22 = some [.full []] := by kernel_rfl
theorem ty_zz22 : szZ Tryz.prog 22 = some 1 := by kernel_rfl
theorem ty_sz23 : szOf Tryz.prog 23 = some 1 := by kernel_rfl
theorem ty_by23 : bytesOf Tryz.prog 23 = some 24 := by kernel_rfl
theorem ty_ki23 : kindT Tryz.prog 23 = .sl 44 := by kernel_rfl
theorem ty_ze23 : zeroOf Tryz.prog 23 = some [.full []] := by kernel_rfl
theorem ty_zz23 : szZ Tryz.prog 23 = some 1 := by kernel_rfl
theorem ty_sz24 : szOf Tryz.prog 24 = some 2 := by kernel_rfl
theorem ty_by24 : bytesOf Tryz.prog 24 = some 48 := by kernel_rfl
theorem ty_ki24 : kindT Tryz.prog 24 = .st := by kernel_rfl
theorem ty_ze24 : zeroOf Tryz.prog 24 = some [.full [], .full []] := by kernel_rfl
theorem ty_fl24_0 : fld Tryz.prog 24 0 = some (0, 1, 22) := by kernel_rfl
theorem ty_fl24_1 : fld Tryz.prog 24 1 = some (1, 1, 23) := by kernel_rfl
theorem ty_eq24 : eqFs Tryz.prog 24 = some [(22, 0), (23, 1)] := by kernel_rfl
theorem ty_bz24 : buildZ Tryz.prog 24 = some [.full [], .full []] := by kernel_rfl
theorem ty_zz24 : szZ Tryz.prog 24 = some 2 := by kernel_rfl
theorem ty_sz25 : szOf Tryz.prog 25 = some 2 := by kernel_rfl
theorem ty_by25 : bytesOf Tryz.prog 25 = some 48 := by kernel_rfl
theorem ty_ki25 : kindT Tryz.prog 25 = .st := by kernel_rfl
theorem ty_ze25 : zeroOf Tryz.prog 25 = some [.full [], .full []] := by kernel_rfl
theorem ty_fl25_0 : fld Tryz.prog 25 0 = some (0, 1, 22) := by kernel_rfl
theorem ty_fl25_1 : fld Tryz.prog 25 1 = some (1, 1, 23) := by kernel_rfl
theorem ty_eq25 : eqFs Tryz.prog 25 = some [(22, 0), (23, 1)] := by kernel_rfl
theorem ty_bz25 : buildZ Tryz.prog 25 = some [.full [], .full []] := by kernel_rfl
theorem ty_zz25 : szZ Tryz.prog 25 = some 2 := by kernel_rfl
theorem ty_sz26 : szOf Tryz.prog 26 = some 1 := by kernel_rfl
theorem ty_by26 : bytesOf Tryz.prog 26 = some 8 := by kernel_rfl
theorem ty_ki26 : kindT Tryz.prog 26 = .other := by kernel_rfl
theorem ty_ze26 : zeroOf Tryz.prog 26 = some [.any] := by kernel_rfl
theorem ty_zz26 : szZ Tryz.prog 26 = some 1 := by kernel_rfl
theorem ty_sz27 : szOf Tryz.prog 27 = some 1 := by kernel_rfl
theorem ty_by27 : bytesOf Tryz.prog 27 = some 8 := by kernel_rfl
theorem ty_ki27 : kindT Tryz.prog 27 = .other := by kernel_rfl
theorem ty_ze27 : zeroOf Tryz.prog 27 = some [.any] := by kernel_rfl
theorem ty_zz27 : szZ Tryz.prog 27 = some 1 := by kernel_rfl
theorem ty_sz28 : szOf Tryz.prog 28 = some 1 := by kernel_rfl
theorem ty_by28 : bytesOf Tryz.prog 28 = some 24 := by kernel_rfl
theorem ty_ki28 : kindT Tryz.prog 28 = .sl 33 := by kernel_rfl
theorem ty_ze28 : zeroOf Tryz.prog 28 = some [.full []] := by kernel_rfl
theorem ty_zz28 : szZ Tryz.prog 28 = some 1 := by kernel_rfl
theorem ty_sz29 : szOf Tryz.prog 29 = some 1 := by kernel_rfl
theorem ty_by29 : bytesOf Tryz.prog 29 = some 8 := by kernel_rfl
theorem ty_ki29 : kindT Tryz.prog 29 = .other := by kernel_rfl
theorem ty_ze29 : zeroOf Tryz.prog 29 = some [.any] := by kernel_rfl
theorem ty_zz29 : szZ Tryz.prog 29 = some 1 := by kernel_rfl
theorem ty_sz30 : szOf Tryz.prog 30 = some 1 := by kernel_rfl
theorem ty_by30 : bytesOf Tryz.prog 30 = some 24 := by kernel_rfl
theorem ty_ki30 : kindT Tryz.prog 30 = .sl 34 := by kernel_rfl
theorem ty_ze30 : zeroOf Tryz.prog 30 = some [.full []] := by kernel_rfl
theorem ty_zz30 : szZ Tryz.prog 30 = some 1 := by kernel_rfl
theorem ty_sz31 : szOf Tryz.prog 31 = some 1 := by kernel_rfl
theorem ty_by31 : bytesOf Tryz.prog 31 = some 8 := by kernel_rfl
theorem ty_ki31 : kindT Tryz.prog 31 = .other := by kernel_rfl
theorem ty_ze31 : zeroOf Tryz.prog 31 = some [.any] := by kernel_rfl
theorem ty_zz31 : szZ Tryz.prog 31 = some 1 := by kernel_rfl
theorem ty_sz32 : szOf Tryz.prog 32 = some 2 := by kernel_rfl
theorem ty_by32 : bytesOf Tryz.prog 32 = some 16 := by kernel_rfl
theorem ty_ki32 : kindT Tryz.prog 32 = .st := by kernel_rfl
theorem ty_ze32 : zeroOf Tryz.prog 32 = some [.d (.int .i64 0), .d (.int .i64 0)] := by kernel_rfl
theorem ty_fl32_0 : fld Tryz.prog 32 0 = some (0, 1, 3) := by kernel_rfl
theorem ty_fl32_1 : fld Tryz.prog 32 1 = some (1, 1, 3) := by kernel_rfl
theorem ty_eq32 : eqFs Tryz.prog 32 = some [(3, 0), (3, 1)] := by kernel_rfl
theorem ty_bz32 : buildZ Tryz.prog 32 = some [.d (.int .i64 0), .d (.int .i64 0)] := by kernel_rfl
theorem ty_zz32 : szZ Tryz.prog 32 = some 2 := by kernel_rfl
theorem ty_sz33 : szOf Tryz.prog 33 = some 2 := by kernel_rfl
theorem ty_by33 : bytesOf Tryz.prog 33 = some 16 := by kernel_rfl
theorem ty_ki33 : kindT Tryz.prog 33 = .st := by kernel_rfl
theorem ty_ze33 : zeroOf Tryz.prog 33 = some [.d (.int .i64 0), .d (.int .i64 0)] := by kernel_rfl
theorem ty_fl33_0 : fld Tryz.prog 33 0 = some (0, 1, 3) := by kernel_rfl
theorem ty_fl33_1 : fld Tryz.prog 33 1 = some (1, 1, 3) := by kernel_rfl
theorem ty_eq33 : eqFs Tryz.prog 33 = some [(3, 0), (3, 1)] := by kernel_rfl
theorem ty_bz33 : buildZ Tryz.prog 33 = some [.d (.int .i64 0), .d (.int .i64 0)] := by kernel_rfl
theorem ty_zz33 : szZ Tryz.prog 33 = some 2 := by kernel_rfl
theorem ty_sz34 : szOf Tryz.prog 34 = some 2 := by kernel_rfl
theorem ty_by34 : bytesOf Tryz.prog 34 = some 16 := by kernel_rfl
theorem ty_ki34 : kindT Tryz.prog 34 = .st := by kernel_rfl
theorem ty_ze34 : zeroOf Tryz.prog 34 = some [.d (.int .i64 0), .d (.int .i64 0)] := by kernel_rfl
theorem ty_fl34_0 : fld Tryz.prog 34 0 = some (0, 1, 3) := by kernel_rfl
theorem ty_fl34_1 : fld Tryz.prog 34 1 = some (1, 1, 3) := by kernel_rfl
theorem ty_eq34 : eqFs Tryz.prog 34 = some [(3, 0), (3, 1)] := by kernel_rfl
theorem ty_bz34 : buildZ Tryz.prog 34 = some [.d (.int .i64 0), .d (.int .i64 0)] := by kernel_rfl
theorem ty_zz34 : szZ Tryz.prog 34 = some 2 := by kernel_rfl
theorem ty_sz35 : szOf Tryz.prog 35 = some 1 := by kernel_rfl
theorem ty_by35 : bytesOf Tryz.prog 35 = some 8 := by kernel_rfl
theorem ty_ki35 : kindT Tryz.prog 35 = .other := by kernel_rfl
theorem ty_ze35 : zeroOf Tryz.prog 35 = some [.any] := by kernel_rfl
theorem ty_zz35 : szZ Tryz.prog 35 = some 1 := by kernel_rfl
theorem ty_sz36 : szOf Tryz.prog 36 = some 1 := by kernel_rfl
theorem ty_by36 : bytesOf Tryz.prog 36 = some 24 := by kernel_rfl
theorem ty_ki36 : kindT Tryz.prog 36 = .sl 40 := by kernel_rfl
theorem ty_ze36 : zeroOf Tryz.prog 36 = some [.full []] := by kernel_rfl
theorem ty_zz36 : szZ Tryz.prog 36 = some 1 := by kernel_rfl
theorem ty_sz37 : szOf Tryz.prog 37 = some 2 := by kernel_rfl
theorem ty_by37 : bytesOf Tryz.prog 37 = some 24 := by kernel_rfl
theorem ty_ki37 : kindT Tryz.prog 37 = .st := by kernel_rfl
theorem ty_ze37 : zeroOf Tryz.prog 37 = some [.d (.bool false), .d (.str [])] := by kernel_rfl
theorem ty_fl37_0 : fld Tryz.prog 37 0 = some (0, 1, 4) := by kernel_rfl
theorem ty_fl37_1 : fld Tryz.prog 37 1 = some (1, 1, 9) := by kernel_rfl
theorem ty_eq37 : eqFs Tryz.prog 37 = some [(4, 0), (9, 1)] := by kernel_rfl
theorem ty_bz37 : buildZ Tryz.prog 37 = some [.d (.bool false), .d (.str [])] := by kernel_rfl
theorem ty_zz37 : szZ Tryz.prog 37 = some 2 := by kernel_rfl
theorem ty_sz38 : szOf Tryz.prog 38 = some 2 := by kernel_rfl
theorem ty_by38 : bytesOf Tryz.prog 38 = some 24 := by kernel_rfl
theorem ty_ki38 : kindT Tryz.prog 38 = .st := by kernel_rfl
theorem ty_ze38 : zeroOf Tryz.prog 38 = some [.d (.bool false), .d (.str [])] := by kernel_rfl
theorem ty_fl38_0 : fld Tryz.prog 38 0 = some (0, 1, 4) := by kernel_rfl
theorem ty_fl38_1 : fld Tryz.prog 38 1 = some (1, 1, 9) := by kernel_rfl
theorem ty_eq38 : eqFs Tryz.prog 38 = some [(4, 0), (9, 1)] := by kernel_rfl
theorem ty_bz38 : buildZ Tryz.prog 38 = some [.d (.bool false), .d (.str [])] := by kernel_rfl
theorem ty_zz38 : szZ Tryz.prog 38 = some 2 := by kernel_rfl
theorem ty_sz39 : szOf Tryz.prog 39 = some 3 := by kernel_rfl
theorem ty_by39 : bytesOf Tryz.prog 39 = some 32 := by kernel_rfl
theorem ty_ki39 : kindT Tryz.prog 39 = .st := by kernel_rfl
theorem ty_ze39 : zeroOf Tryz.prog 39 = some [.d (.bool false), .d (.str []), .d (.int .i64 0)] := by kernel_rfl
theorem ty_fl39_0 : fld Tryz.prog 39 0 = some (0, 2, 38) := by kernel_rfl
theorem ty_fl39_1 : fld Tryz.prog 39 1 = some (2, 1, 3) := by kernel_rfl
theorem ty_eq39 : eqFs Tryz.prog 39 = some [(38, 0), (3, 2)] := by kernel_rfl
theorem ty_bz39 : buildZ Tryz.prog 39 = some [.d (.bool false), .d (.str []), .d (.int .i64 0)] := by kernel_rfl
theorem ty_zz39 : szZ Tryz.prog 39 = some 3 := by kernel_rfl
theorem ty_sz40 : szOf Tryz.prog 40 = some 3 := by kernel_rfl
theorem ty_by40 : bytesOf Tryz.prog 40 = some 32 := by kernel_rfl
theorem ty_ki40 : kindT Tryz.prog 40 = .st := by kernel_rfl
theorem ty_ze40 : zeroOf Tryz.prog 40 = some [.d (.bool false), .d (.str []), .d (.int .i64 0)] := by kernel_rfl
theorem ty_fl40_0 : fld Tryz.prog 40 0 = some (0, 2, 38) := by kernel_rfl
theorem ty_fl40_1 : fld Tryz.prog 40 1 = some (2, 1, 3) := by kernel_rfl
theorem ty_eq40 : eqFs Tryz.prog 40 = some [(38, 0), (3, 2)] := by kernel_rfl
theorem ty_bz40 : buildZ Tryz.prog 40 = some [.d (.bool false), .d (.str []), .d (.int .i64 0)] := by kernel_rfl
theorem ty_zz40 : szZ Tryz.prog 40 = some 3 := by kernel_rfl
theorem ty_sz41 : szOf Tryz.prog 41 = some 1 := by kernel_rfl
theorem ty_by41 : bytesOf Tryz.prog 41 = some 24 := by kernel_rfl
theorem ty_ki41 : kindT Tryz.prog 41 = .sl 3 := by kernel_rfl
theorem ty_ze41 : zeroOf Tryz.prog 41 = some [.full []] := by kernel_rfl
theorem ty_zz41 : szZ Tryz.prog 41 = some 1 := by kernel_rfl
theorem ty_sz42 : szOf Tryz.prog 42 = some 1 := by kernel_rfl
theorem ty_by42 : bytesOf Tryz.prog 42 = some 24 := by kernel_rfl
theorem ty_ki42 : kindT Tryz.prog 42 = .sl 48 := by kernel_rfl
theorem ty_ze42 : zeroOf Tryz.prog 42 = some [.full []] := by kernel_rfl
theorem ty_zz42 : szZ Tryz.prog 42 = some 1 := by kernel_rfl
theorem ty_sz43 : szOf Tryz.prog 43 = some 8 := by kernel_rfl
theorem ty_by43 : bytesOf Tryz.prog 43 = some 128 := by kernel_rfl
theorem ty_ki43 : kindT Tryz.prog 43 = .st := by kernel_rfl
theorem ty_ze43 : zeroOf Tryz.prog 43 = some [.d (.str []), .d (.int .i64 0), .full [], .d (.bool false), .d (.str []), .d (.int .i64 0), .full [], .full []] := by kernel_rfl
theorem ty_fl43_0 : fld Tryz.prog 43 0 = some (0, 1, 9) := by kernel_rfl
theorem ty_fl43_1 : fld Tryz.prog 43 1 = some (1, 1, 3) := by kernel_rfl
theorem ty_fl43_2 : fld Tryz.prog 43 2 = some (2, 1, 36) := by kernel_rfl
theorem ty_fl43_3 : fld Tryz.prog 43 3 = some (3, 3, 40) := by kernel_rfl
theorem ty_fl43_4 : fld Tryz.prog 43 4 = some (6, 1, 41) := by kernel_rfl
theorem ty_fl43_5 : fld Tryz.prog 43 5 = some (7, 1, 42) := by kernel_rfl
theorem ty_eq43 : eqFs Tryz.prog 43 = some [(9, 0), (3, 1), (36, 2), (40, 3), (41, 6), (42, 7)] := by kernel_rfl
theorem ty_bz43 : buildZ Tryz.prog 43 = some [.d (.str []), .d (.int .i64 0), .full [], .d (.bool false), .d (.str []), .d (.int .i64 0), .full [], .full []] := by kernel_rfl
theorem ty_zz43 : szZ Tryz.prog 43 = some 8 := by kernel_rfl
theorem ty_sz44 : szOf Tryz.prog 44 = some 8 := by kernel_rfl
theorem ty_by44 : bytesOf Tryz.prog 44 = some 128 := by kernel_rfl
theorem ty_ki44 : kindT Tryz.prog 44 = .st := by kernel_rfl
theorem ty_ze44 : zeroOf Tryz.prog 44 = some [.d (.str []), .d (.int .i64 0), .full [], .d (.bool false), .d (.str []), .d (.int .i64 0), .full [], .full []] := by kernel_rfl
theorem ty_fl44_0 : fld Tryz.prog 44 0 = some (0, 1, 9) := by kernel_rfl
theorem ty_fl44_1 : fld Tryz.prog 44 1 = some (1, 1, 3) := by kernel_rfl
theorem ty_fl44_2 : fld Tryz.prog 44 2 = some (2, 1, 36) := by kernel_rfl
theorem ty_fl44_3 : fld Tryz.prog 44 3 = some (3, 3, 40) := by kernel_rfl
theorem ty_fl44_4 : fld Tryz.prog 44 4 = some (6, 1, 41) := by kernel_rfl
theorem ty_fl44_5 : fld Tryz.prog 44 5 = some (7, 1, 42) := by kernel_rfl
theorem ty_eq44 : eqFs Tryz.prog 44 = some [(9, 0), (3, 1), (36, 2), (40, 3), (41, 6), (42, 7)] := by kernel_rfl
theorem ty_bz44 : buildZ Tryz.prog 44 = some [.d (.str []), .d (.int .i64 0), .full [], .d (.bool false), .d (.str []), .d (.int .i64 0), .full [], .full []] := by kernel_rfl
theorem ty_zz44 : szZ Tryz.prog 44 = some 8 := by kernel_rfl
theorem ty_sz45 : szOf Tryz.prog 45 = some 2 := by kernel_rfl
theorem ty_by45 : bytesOf Tryz.prog 45 = some 16 := by kernel_rfl
theorem ty_ki45 : kindT Tryz.prog 45 = .st := by kernel_rfl
theorem ty_ze45 : zeroOf Tryz.prog 45 = some [.d (.int .i64 0), .d (.int .i64 0)] := by kernel_rfl
theorem ty_fl45_0 : fld Tryz.prog 45 0 = some (0, 1, 3) := by kernel_rfl
theorem ty_fl45_1 : fld Tryz.prog 45 1 = some (1, 1, 3) := by kernel_rfl
theorem ty_eq45 : eqFs Tryz.prog 45 = some [(3, 0), (3, 1)] := by kernel_rfl
theorem ty_bz45 : buildZ Tryz.prog 45 = some [.d (.int .i64 0), .d (.int .i64 0)] := by kernel_rfl
theorem ty_zz45 : szZ Tryz.prog 45 = some 2 := by kernel_rfl
theorem ty_sz46 : szOf Tryz.prog 46 = some 2 := by kernel_rfl
theorem ty_by46 : bytesOf Tryz.prog 46 = some 16 := by kernel_rfl
theorem ty_ki46 : kindT Tryz.prog 46 = .st := by kernel_rfl
theorem ty_ze46 : zeroOf Tryz.prog 46 = some [.d (.int .i64 0), .d (.int .i64 0)] := by kernel_rfl
theorem ty_fl46_0 : fld Tryz.prog 46 0 = some (0, 1, 3) := by kernel_rfl
theorem ty_fl46_1 : fld Tryz.prog 46 1 = some (1, 1, 3) := by kernel_rfl
theorem ty_eq46 : eqFs Tryz.prog 46 = some [(3, 0), (3, 1)] := by kernel_rfl
theorem ty_bz46 : buildZ Tryz.prog 46 = some [.d (.int .i64 0), .d (.int .i64 0)] := by kernel_rfl
theorem ty_zz46 : szZ Tryz.prog 46 = some 2 := by kernel_rfl
theorem ty_sz47 : szOf Tryz.prog 47 = some 13 := by kernel_rfl
theorem ty_by47 : bytesOf Tryz.prog 47 = some 144 := by kernel_rfl
theorem ty_ki47 : kindT Tryz.prog 47 = .st := by kernel_rfl
theorem ty_ze47 : zeroOf Tryz.prog 47 = some [.d (.int .i64 0), .d (.int .i64 0), .d (.int .i64 0), .d (.int .i64 0), .d (.int .i64 0), .d (.int .i64 0), .d (.str []), .full [], .full [], .d (.int .i64 0), .d (.int .i64 0), .d (.int .i64 0), .d (.int .i64 0)] := by kernel_rfl
theorem ty_fl47_0 : fld Tryz.prog 47 0 = some (0, 1, 3) := by kernel_rfl
theorem ty_fl47_1 : fld Tryz.prog 47 1 = some (1, 1, 3) := by kernel_rfl
theorem ty_fl47_2 : fld Tryz.prog 47 2 = some (2, 1, 3) := by kernel_rfl
theorem ty_fl47_3 : fld Tryz.prog 47 3 = some (3, 1, 3) := by kernel_rfl
theorem ty_fl47_4 : fld Tryz.prog 47 4 = some (4, 1, 3) := by kernel_rfl
theorem ty_fl47_5 : fld Tryz.prog 47 5 = some (5, 1, 2) := by kernel_rfl
theorem ty_fl47_6 : fld Tryz.prog 47 6 = some (6, 1, 9) := by kernel_rfl
theorem ty_fl47_7 : fld Tryz.prog 47 7 = some (7, 1, 41) := by kernel_rfl
theorem ty_fl47_8 : fld Tryz.prog 47 8 = some (8, 1, 41) := by kernel_rfl
theorem ty_fl47_9 : fld Tryz.prog 47 9 = some (9, 1, 3) := by kernel_rfl
theorem ty_fl47_10 : fld Tryz.prog 47 10 = some (10, 1, 3) := by kernel_rfl
theorem ty_fl47_11 : fld Tryz.prog 47 11 = some (11, 2, 46) := by kernel_rfl
theorem ty_eq47 : eqFs Tryz.prog 47 = some [(3, 0), (3, 1), (3, 2), (3, 3), (3, 4), (2, 5), (9, 6), (41, 7), (41, 8), (3, 9), (3, 10), (46, 11)] := by kernel_rfl
theorem ty_bz47 : buildZ Tryz.prog 47 = some [.d (.int .i64 0), .d (.int .i64 0), .d (.int .i64 0), .d (.int .i64 0), .d (.int .i64 0), .d (.int .i64 0), .d (.str []), .full [], .full [], .d (.int .i64 0), .d (.int .i64 0), .d (.int .i64 0), .d (.int .i64 0)] := by kernel_rfl
theorem ty_zz47 : szZ Tryz.prog 47 = some 13 := by kernel_rfl
theorem ty_sz48 : szOf Tryz.prog 48 = some 13 := by kernel_rfl
theorem ty_by48 : bytesOf Tryz.prog 48 = some 144 := by kernel_rfl
theorem ty_ki48 : kindT Tryz.prog 48 = .st := by kernel_rfl
theorem ty_ze48 : zeroOf Tryz.prog 48 = some [.d (.int .i64 0), .d (.int .i64 0), .d (.int .i64 0), .d (.int .i64 0), .d (.int .i64 0), .d (.int .i64 0), .d (.str []), .full [], .full [], .d (.int .i64 0), .d (.int .i64 0), .d (.int .i64 0), .d (.int .i64 0)] := by kernel_rfl
theorem ty_fl48_0 : fld Tryz.prog 48 0 = some (0, 1, 3) := by kernel_rfl
theorem ty_fl48_1 : fld Tryz.prog 48 1 = some (1, 1, 3) := by kernel_rfl
theorem ty_fl48_2 : fld Tryz.prog 48 2 = some (2, 1, 3) := by kernel_rfl
theorem ty_fl48_3 : fld Tryz.prog 48 3 = some (3, 1, 3) := by kernel_rfl
theorem ty_fl48_4 : fld Tryz.prog 48 4 = some (4, 1, 3) := by kernel_rfl
theorem ty_fl48_5 : fld Tryz.prog 48 5 = some (5, 1, 2) := by kernel_rfl
theorem ty_fl48_6 : fld Tryz.prog 48 6 = some (6, 1, 9) := by kernel_rfl
theorem ty_fl48_7 : fld Tryz.prog 48 7 = some (7, 1, 41) := by kernel_rfl
theorem ty_fl48_8 : fld Tryz.prog 48 8 = some (8, 1, 41) := by kernel_rfl
theorem ty_fl48_9 : fld Tryz.prog 48 9 = some (9, 1, 3) := by kernel_rfl
theorem ty_fl48_10 : fld Tryz.prog 48 10 = some (10, 1, 3) := by kernel_rfl
theorem ty_fl48_11 : fld Tryz.prog 48 11 = some (11, 2, 46) := by kernel_rfl
theorem ty_eq48 : eqFs Tryz.prog 48 = some [(3, 0), (3, 1), (3, 2), (3, 3), (3, 4), (2, 5), (9, 6), (41, 7), (41, 8), (3, 9), (3, 10), (46, 11)] := by kernel_rfl
theorem ty_bz48 : buildZ Tryz.prog 48 = some [.d (.int .i64 0), .d (.int .i64 0), .d (.int .i64 0), .d (.int .i64 0), .d (.int .i64 0), .d (.int .i64 0), .d (.str []), .full [], .full [], .d (.int .i64 0), .d (.int .i64 0), .d (.int .i64 0), .d (.int .i64 0)] := by kernel_rfl
theorem ty_zz48 : szZ Tryz.prog 48 = some 13 := by kernel_rfl
theorem ty_sz49 : szOf Tryz.prog 49 = some 1 := by kernel_rfl
theorem ty_by49 : bytesOf Tryz.prog 49 = some 8 := by kernel_rfl
theorem ty_ki49 : kindT Tryz.prog 49 = .other := by kernel_rfl
theorem ty_ze49 : zeroOf Tryz.prog 49 = some [.any] := by kernel_rfl
theorem ty_zz49 : szZ Tryz.prog 49 = some 1 := by kernel_rfl
theorem ty_sz50 : szOf Tryz.prog 50 = some 1 := by kernel_rfl
theorem ty_by50 : bytesOf Tryz.prog 50 = some 8 := by kernel_rfl
theorem ty_ki50 : kindT Tryz.prog 50 = .other := by kernel_rfl
theorem ty_ze50 : zeroOf Tryz.prog 50 = some [.any] := by kernel_rfl
theorem ty_zz50 : szZ Tryz.prog 50 = some 1 := by kernel_rfl
theorem ty_sz51 : szOf Tryz.prog 51 = some 1 := by kernel_rfl
theorem ty_by51 : bytesOf Tryz.prog 51 = some 8 := by kernel_rfl
theorem ty_ki51 : kindT Tryz.prog 51 = .other := by kernel_rfl
theorem ty_ze51 : zeroOf Tryz.prog 51 = some [.any] := by kernel_rfl
theorem ty_zz51 : szZ Tryz.prog 51 = some 1 := by kernel_rfl
theorem ty_sz52 : szOf Tryz.prog 52 = some 1 := by kernel_rfl
theorem ty_by52 : bytesOf Tryz.prog 52 = some 8 := by kernel_rfl
theorem ty_ki52 : kindT Tryz.prog 52 = .int .i64 := by kernel_rfl
theorem ty_ze52 : zeroOf Tryz.prog 52 = some [.d (.int .i64 0)] := by kernel_rfl
theorem ty_zz52 : szZ Tryz.prog 52 = some 1 := by kernel_rfl
theorem ty_sz53 : szOf Tryz.prog 53 = some 4 := by kernel_rfl
theorem ty_by53 : bytesOf Tryz.prog 53 = some 32 := by kernel_rfl
theorem ty_ki53 : kindT Tryz.prog 53 = .st := by kernel_rfl
theorem ty_ze53 : zeroOf Tryz.prog 53 = some [.d (.int .i64 0), .d (.int .i64 0), .d (.int .i64 0), .d (.int .i64 0)] := by kernel_rfl
theorem ty_fl53_0 : fld Tryz.prog 53 0 = some (0, 1, 3) := by kernel_rfl
theorem ty_fl53_1 : fld Tryz.prog 53 1 = some (1, 1, 52) := by kernel_rfl
theorem ty_fl53_2 : fld Tryz.prog 53 2 = some (2, 2, 46) := by kernel_rfl
theorem ty_eq53 : eqFs Tryz.prog 53 = some [(3, 0), (52, 1), (46, 2)] := by kernel_rfl
theorem ty_bz53 : buildZ Tryz.prog 53 = some [.d (.int .i64 0), .d (.int .i64 0), .d (.int .i64 0), .d (.int .i64 0)] := by kernel_rfl
theorem ty_zz53 : szZ Tryz.prog 53 = some 4 := by kernel_rfl
theorem ty_sz54 : szOf Tryz.prog 54 = some 4 := by kernel_rfl
theorem ty_by54 : bytesOf Tryz.prog 54 = some 32 := by kernel_rfl
theorem ty_ki54 : kindT Tryz.prog 54 = .st := by kernel_rfl
theorem ty_ze54 : zeroOf Tryz.prog 54 = some [.d (.int .i64 0), .d (.int .i64 0), .d (.int .i64 0), .d (.int .i64 0)] := by kernel_rfl
theorem ty_fl54_0 : fld Tryz.prog 54 0 = some (0, 1, 3) := by kernel_rfl
theorem ty_fl54_1 : fld Tryz.prog 54 1 = some (1, 1, 52) := by kernel_rfl
theorem ty_fl54_2 : fld Tryz.prog 54 2 = some (2, 2, 46) := by kernel_rfl
theorem ty_eq54 : eqFs Tryz.prog 54 = some [(3, 0), (52, 1), (46, 2)] := by kernel_rfl
theorem ty_bz54 : buildZ Tryz.prog 54 = some [.d (.int .i64 0), .d (.int .i64 0), .d (.int .i64 0), .d (.int .i64 0)] := by kernel_rfl
theorem ty_zz54 : szZ Tryz.prog 54 = some 4 := by kernel_rfl
theorem ty_sz55 : szOf Tryz.prog 55 = some 1 := by kernel_rfl
theorem ty_by55 : bytesOf Tryz.prog 55 = some 8 := by kernel_rfl
theorem ty_ki55 : kindT Tryz.prog 55 = .other := by kernel_rfl
theorem ty_ze55 : zeroOf Tryz.prog 55 = some [.any] := by kernel_rfl
theorem ty_zz55 : szZ Tryz.prog 55 = some 1 := by kernel_rfl
theorem ty_sz56 : szOf Tryz.prog 56 = some 1 := by kernel_rfl
theorem ty_by56 : bytesOf Tryz.prog 56 = some 8 := by kernel_rfl
theorem ty_ki56 : kindT Tryz.prog 56 = .other := by kernel_rfl
theorem ty_ze56 : zeroOf Tryz.prog 56 = some [.any] := by kernel_rfl
theorem ty_zz56 : szZ Tryz.prog 56 = some 1 := by kernel_rfl
theorem ty_sz57 : szOf Tryz.prog 57 = some 1 := by kernel_rfl
theorem ty_by57 : bytesOf Tryz.prog 57 = some 8 := by kernel_rfl
theorem ty_ki57 : kindT Tryz.prog 57 = .other := by kernel_rfl
theorem ty_ze57 : zeroOf Tryz.prog 57 = some [.any] := by kernel_rfl
theorem ty_zz57 : szZ Tryz.prog 57 = some 1 := by kernel_rfl
theorem ty_sz58 : szOf Tryz.prog 58 = some 1 := by kernel_rfl
theorem ty_by58 : bytesOf Tryz.prog 58 = some 8 := by kernel_rfl
theorem ty_ki58 : kindT Tryz.prog 58 = .ptr := by kernel_rfl
theorem ty_ze58 : zeroOf Tryz.prog 58 = some [.d .nilp] := by kernel_rfl
theorem ty_zz58 : szZ Tryz.prog 58 = some 1 := by kernel_rfl
theorem ty_sz59 : szOf Tryz.prog 59 = some 1 := by kernel_rfl
theorem ty_by59 : bytesOf Tryz.prog 59 = some 24 := by kernel_rfl
theorem ty_ki59 : kindT Tryz.prog 59 = .st := by kernel_rfl
theorem ty_ze59 : zeroOf Tryz.prog 59 = some [.full []] := by kernel_rfl
theorem ty_fl59_0 : fld Tryz.prog 59 0 = some (0, 1, 28) := by kernel_rfl
theorem ty_eq59 : eqFs Tryz.prog 59 = some [(28, 0)] := by kernel_rfl
theorem ty_bz59 : buildZ Tryz.prog 59 = some [.full []] := by kernel_rfl
theorem ty_zz59 : szZ Tryz.prog 59 = some 1 := by kernel_rfl
theorem ty_sz60 : szOf Tryz.prog 60 = some 1 := by kernel_rfl
theorem ty_by60 : bytesOf Tryz.prog 60 = some 24 := by kernel_rfl
theorem ty_ki60 : kindT Tryz.prog 60 = .st := by kernel_rfl
theorem ty_ze60 : zeroOf Tryz.prog 60 = some [.full []] := by kernel_rfl
theorem ty_fl60_0 : fld Tryz.prog 60 0 = some (0, 1, 28) := by kernel_rfl
theorem ty_eq60 : eqFs Tryz.prog 60 = some [(28, 0)] := by kernel_rfl
theorem ty_bz60 : buildZ Tryz.prog 60 = some [.full []] := by kernel_rfl
theorem ty_zz60 : szZ Tryz.prog 60 = some 1 := by kernel_rfl
theorem ty_sz61 : szOf Tryz.prog 61 = some 1 := by kernel_rfl
theorem ty_by61 : bytesOf Tryz.prog 61 = some 8 := by kernel_rfl
theorem ty_ki61 : kindT Tryz.prog 61 = .other := by kernel_rfl
theorem ty_ze61 : zeroOf Tryz.prog 61 = some [.any] := by kernel_rfl
theorem ty_zz61 : szZ Tryz.prog 61 = some 1 := by kernel_rfl
theorem ty_sz62 : szOf Tryz.prog 62 = some 1 := by kernel_rfl
theorem ty_by62 : bytesOf Tryz.prog 62 = some 8 := by kernel_rfl
theorem ty_ki62 : kindT Tryz.prog 62 = .other := by kernel_rfl
theorem ty_ze62 : zeroOf Tryz.prog 62 = some [.any] := by kernel_rfl
theorem ty_zz62 : szZ Tryz.prog 62 = some 1 := by kernel_rfl
theorem ty_sz63 : szOf Tryz.prog 63 = some 1 := by kernel_rfl
theorem ty_by63 : bytesOf Tryz.prog 63 = some 8 := by kernel_rfl
theorem ty_ki63 : kindT Tryz.prog 63 = .other := by kernel_rfl
theorem ty_ze63 : zeroOf Tryz.prog 63 = some [.any] := by kernel_rfl
theorem ty_zz63 : szZ Tryz.prog 63 = some 1 := by kernel_rfl
theorem ty_sz64 : szOf Tryz.prog 64 = some 10 := by kernel_rfl
theorem ty_by64 : bytesOf Tryz.prog 64 = some 176 := by kernel_rfl
theorem ty_ki64 : kindT Tryz.prog 64 = .st := by kernel_rfl
theorem ty_ze64 : zeroOf Tryz.prog 64 = some [.full [], .full [], .d (.str []), .d (.int .i64 0), .full [], .d (.bool false), .d (.str []), .d (.int .i64 0), .full [], .full []] := by kernel_rfl
theorem ty_fl64_0 : fld Tryz.prog 64 0 = some (0, 2, 25) := by kernel_rfl
theorem ty_fl64_1 : fld Tryz.prog 64 1 = some (2, 8, 44) := by kernel_rfl
theorem ty_eq64 : eqFs Tryz.prog 64 = some [(25, 0), (44, 2)] := by kernel_rfl
theorem ty_bz64 : buildZ Tryz.prog 64 = some [.full [], .full [], .d (.str []), .d (.int .i64 0), .full [], .d (.bool false), .d (.str []), .d (.int .i64 0), .full [], .full []] := by kernel_rfl
theorem ty_zz64 : szZ Tryz.prog 64 = some 10 := by kernel_rfl
theorem ty_sz65 : szOf Tryz.prog 65 = some 10 := by kernel_rfl
theorem ty_by65 : bytesOf Tryz.prog 65 = some 176 := by kernel_rfl
theorem ty_ki65 : kindT Tryz.prog 65 = .st := by kernel_rfl
theorem ty_ze65 : zeroOf Tryz.prog 65 = some [.full [], .full [], .d (.str []), .d (.int .i64 0), .full [], .d (.bool false), .d (.str []), .d (.int .i64 0), .full [], .full []] := by kernel_rfl
theorem ty_fl65_0 : fld Tryz.prog 65 0 = some (0, 2, 25) := by kernel_rfl
theorem ty_fl65_1 : fld Tryz.prog 65 1 = some (2, 8, 44) := by kernel_rfl
theorem ty_eq65 : eqFs Tryz.prog 65 = some [(25, 0), (44, 2)] := by kernel_rfl
theorem ty_bz65 : buildZ Tryz.prog 65 = some [.full [], .full [], .d (.str []), .d (.int .i64 0), .full [], .d (.bool false), .d (.str []), .d (.int .i64 0), .full [], .full []] := by kernel_rfl
theorem ty_zz65 : szZ Tryz.prog 65 = some 10 := by kernel_rfl
theorem ty_sz66 : szOf Tryz.prog 66 = some 1 := by kernel_rfl
theorem ty_by66 : bytesOf Tryz.prog 66 = some 8 := by kernel_rfl
theorem ty_ki66 : kindT Tryz.prog 66 = .other := by kernel_rfl
theorem ty_ze66 : zeroOf Tryz.prog 66 = some [.any] := by kernel_rfl
theorem ty_zz66 : szZ Tryz.prog 66 = some 1 := by kernel_rfl
theorem ty_sz67 : szOf Tryz.prog 67 = some 1 := by kernel_rfl
theorem ty_by67 : bytesOf Tryz.prog 67 = some 8 := by kernel_rfl
theorem ty_ki67 : kindT Tryz.prog 67 = .other := by kernel_rfl
theorem ty_ze67 : zeroOf Tryz.prog 67 = some [.any] := by kernel_rfl
theorem ty_zz67 : szZ Tryz.prog 67 = some 1 := by kernel_rfl
theorem ty_sz68 : szOf Tryz.prog 68 = some 1 := by kernel_rfl
theorem ty_by68 : bytesOf Tryz.prog 68 = some 8 := by kernel_rfl
theorem ty_ki68 : kindT Tryz.prog 68 = .other := by kernel_rfl
theorem ty_ze68 : zeroOf Tryz.prog 68 = some [.any] := by kernel_rfl
theorem ty_zz68 : szZ Tryz.prog 68 = some 1 := by kernel_rfl
theorem ty_sz69 : szOf Tryz.prog 69 = some 1 := by kernel_rfl
theorem ty_by69 : bytesOf Tryz.prog 69 = some 8 := by kernel_rfl
theorem ty_ki69 : kindT Tryz.prog 69 = .other := by kernel_rfl
theorem ty_ze69 : zeroOf Tryz.prog 69 = some [.any] := by kernel_rfl
theorem ty_zz69 : szZ Tryz.prog 69 = some 1 := by kernel_rfl
theorem ty_sz70 : szOf Tryz.prog 70 = some 1 := by kernel_rfl
theorem ty_by70 : bytesOf Tryz.prog 70 = some 8 := by kernel_rfl
theorem ty_ki70 : kindT Tryz.prog 70 = .other := by kernel_rfl
theorem ty_ze70 : zeroOf Tryz.prog 70 = some [.any] := by kernel_rfl
theorem ty_zz70 : szZ Tryz.prog 70 = some 1 := by kernel_rfl
theorem ty_sz71 : szOf Tryz.prog 71 = some 1 := by kernel_rfl
theorem ty_by71 : bytesOf Tryz.prog 71 = some 24 := by kernel_rfl
theorem ty_ki71 : kindT Tryz.prog 71 = .sl 85 := by kernel_rfl
theorem ty_ze71 : zeroOf Tryz.prog 71 = some [.full []] := by kernel_rfl
theorem ty_zz71 : szZ Tryz.prog 71 = some 1 := by kernel_rfl
theorem ty_sz72 : szOf Tryz.prog 72 = some 4 := by kernel_rfl
theorem ty_by72 : bytesOf Tryz.prog 72 = some 56 := by kernel_rfl
theorem ty_ki72 : kindT Tryz.prog 72 = .st := by kernel_rfl
theorem ty_ze72 : zeroOf Tryz.prog 72 = some [.d (.str []), .full [], .d (.int .i64 0), .d (.int .i64 0)] := by kernel_rfl
theorem ty_fl72_0 : fld Tryz.prog 72 0 = some (0, 1, 9) := by kernel_rfl
theorem ty_fl72_1 : fld Tryz.prog 72 1 = some (1, 1, 71) := by kernel_rfl
theorem ty_fl72_2 : fld Tryz.prog 72 2 = some (2, 2, 46) := by kernel_rfl
theorem ty_eq72 : eqFs Tryz.prog 72 = some [(9, 0), (71, 1), (46, 2)] := by kernel_rfl
theorem ty_bz72 : buildZ Tryz.prog 72 = some [.d (.str []), .full [], .d (.int .i64 0), .d (.int .i64 0)] := by kernel_rfl
theorem ty_zz72 : szZ Tryz.prog 72 = some 4 := by kernel_rfl
theorem ty_sz73 : szOf Tryz.prog 73 = some 4 := by kernel_rfl
theorem ty_by73 : bytesOf Tryz.prog 73 = some 56 := by kernel_rfl
theorem ty_ki73 : kindT Tryz.prog 73 = .st := by kernel_rfl
theorem ty_ze73 : zeroOf Tryz.prog 73 = some [.d (.str []), .full [], .d (.int .i64 0), .d (.int .i64 0)] := by kernel_rfl
theorem ty_fl73_0 : fld Tryz.prog 73 0 = some (0, 1, 9) := by kernel_rfl
theorem ty_fl73_1 : fld Tryz.prog 73 1 = some (1, 1, 71) := by kernel_rfl
theorem ty_fl73_2 : fld Tryz.prog 73 2 = some (2, 2, 46) := by kernel_rfl
theorem ty_eq73 : eqFs Tryz.prog 73 = some [(9, 0), (71, 1), (46, 2)] := by kernel_rfl
theorem ty_bz73 : buildZ Tryz.prog 73 = some [.d (.str []), .full [], .d (.int .i64 0), .d (.int .i64 0)] := by kernel_rfl
theorem ty_zz73 : szZ Tryz.prog 73 = some 4 := by kernel_rfl
theorem ty_sz74 : szOf Tryz.prog 74 = some 1 := by kernel_rfl
theorem ty_by74 : bytesOf Tryz.prog 74 = some 8 := by kernel_rfl
theorem ty_ki74 : kindT Tryz.prog 74 = .other := by kernel_rfl
theorem ty_ze74 : zeroOf Tryz.prog 74 = some [.any] := by kernel_rfl
theorem ty_zz74 : szZ Tryz.prog 74 = some 1 := by kernel_rfl
theorem ty_sz75 : szOf Tryz.prog 75 = some 10 := by kernel_rfl
theorem ty_by75 : bytesOf Tryz.prog 75 = some 176 := by kernel_rfl
theorem ty_ki75 : kindT Tryz.prog 75 = .st := by kernel_rfl
theorem ty_ze75 : zeroOf Tryz.prog 75 = some [.full [], .full [], .d (.str []), .d (.int .i64 0), .full [], .d (.bool false), .d (.str []), .d (.int .i64 0), .full [], .full []] := by kernel_rfl
theorem ty_fl75_0 : fld Tryz.prog 75 0 = some (0, 2, 25) := by kernel_rfl
theorem ty_fl75_1 : fld Tryz.prog 75 1 = some (2, 8, 44) := by kernel_rfl
theorem ty_eq75 : eqFs Tryz.prog 75 = some [(25, 0), (44, 2)] := by kernel_rfl
theorem ty_bz75 : buildZ Tryz.prog 75 = some [.full [], .full [], .d (.str []), .d (.int .i64 0), .full [], .d (.bool false), .d (.str []), .d (.int .i64 0), .full [], .full []] := by kernel_rfl
theorem ty_zz75 : szZ Tryz.prog 75 = some 10 := by kernel_rfl
theorem ty_sz76 : szOf Tryz.prog 76 = some 10 := by kernel_rfl
theorem ty_by76 : bytesOf Tryz.prog 76 = some 176 := by kernel_rfl
theorem ty_ki76 : kindT Tryz.prog 76 = .st := by kernel_rfl
theorem ty_ze76 : zeroOf Tryz.prog 76 = some [.full [], .full [], .d (.str []), .d (.int .i64 0), .full [], .d (.bool false), .d (.str []), .d (.int .i64 0), .full [], .full []] := by kernel_rfl
theorem ty_fl76_0 : fld Tryz.prog 76 0 = some (0, 2, 25) := by kernel_rfl
theorem ty_fl76_1 : fld Tryz.prog 76 1 = some (2, 8, 44) := by kernel_rfl
theorem ty_eq76 : eqFs Tryz.prog 76 = some [(25, 0), (44, 2)] := by kernel_rfl
theorem ty_bz76 : buildZ Tryz.prog 76 = some [.full [], .full [], .d (.str []), .d (.int .i64 0), .full [], .d (.bool false), .d (.str []), .d (.int .i64 0), .full [], .full []] := by kernel_rfl
theorem ty_zz76 : szZ Tryz.prog 76 = some 10 := by kernel_rfl
theorem ty_sz77 : szOf Tryz.prog 77 = some 1 := by kernel_rfl
theorem ty_by77 : bytesOf Tryz.prog 77 = some 8 := by kernel_rfl
theorem ty_ki77 : kindT Tryz.prog 77 = .other := by kernel_rfl
theorem ty_ze77 : zeroOf Tryz.prog 77 = some [.any] := by kernel_rfl
theorem ty_zz77 : szZ Tryz.prog 77 = some 1 := by kernel_rfl
theorem ty_sz78 : szOf Tryz.prog 78 = some 1 := by kernel_rfl
theorem ty_by78 : bytesOf Tryz.prog 78 = some 8 := by kernel_rfl
theorem ty_ki78 : kindT Tryz.prog 78 = .other := by kernel_rfl
theorem ty_ze78 : zeroOf Tryz.prog 78 = some [.any] := by kernel_rfl
theorem ty_zz78 : szZ Tryz.prog 78 = some 1 := by kernel_rfl
theorem ty_sz79 : szOf Tryz.prog 79 = some 1 := by kernel_rfl
theorem ty_by79 : bytesOf Tryz.prog 79 = some 8 := by kernel_rfl
theorem ty_ki79 : kindT Tryz.prog 79 = .other := by kernel_rfl
theorem ty_ze79 : zeroOf Tryz.prog 79 = some [.any] := by kernel_rfl
theorem ty_zz79 : szZ Tryz.prog 79 = some 1 := by kernel_rfl
theorem ty_sz80 : szOf Tryz.prog 80 = some 1 := by kernel_rfl
theorem ty_by80 : bytesOf Tryz.prog 80 = some 8 := by kernel_rfl
theorem ty_ki80 : kindT Tryz.prog 80 = .other := by kernel_rfl
theorem ty_ze80 : zeroOf Tryz.prog 80 = some [.any] := by kernel_rfl
theorem ty_zz80 : szZ Tryz.prog 80 = some 1 := by kernel_rfl
theorem ty_sz81 : szOf Tryz.prog 81 = some 1 := by kernel_rfl
theorem ty_by81 : bytesOf Tryz.prog 81 = some 8 := by kernel_rfl
theorem ty_ki81 : kindT Tryz.prog 81 = .other := by kernel_rfl
theorem ty_ze81 : zeroOf Tryz.prog 81 = some [.any] := by kernel_rfl
theorem ty_zz81 : szZ Tryz.prog 81 = some 1 := by kernel_rfl
theorem ty_sz82 : szOf Tryz.prog 82 = some 1 := by kernel_rfl
theorem ty_by82 : bytesOf Tryz.prog 82 = some 8 := by kernel_rfl
theorem ty_ki82 : kindT Tryz.prog 82 = .other := by kernel_rfl
theorem ty_ze82 : zeroOf Tryz.prog 82 = some [.any] := by kernel_rfl
theorem ty_zz82 : szZ Tryz.prog 82 = some 1 := by kernel_rfl
theorem ty_sz83 : szOf Tryz.prog 83 = some 1 := by kernel_rfl
theorem ty_by83 : bytesOf Tryz.prog 83 = some 8 := by kernel_rfl
theorem ty_ki83 : kindT Tryz.prog 83 = .other := by kernel_rfl
theorem ty_ze83 : zeroOf Tryz.prog 83 = some [.any] := by kernel_rfl
theorem ty_zz83 : szZ Tryz.prog 83 = some 1 := by kernel_rfl
theorem ty_sz84 : szOf Tryz.prog 84 = some 5 := by kernel_rfl
theorem ty_by84 : bytesOf Tryz.prog 84 = some 56 := by kernel_rfl
theorem ty_ki84 : kindT Tryz.prog 84 = .st := by kernel_rfl
theorem ty_ze84 : zeroOf Tryz.prog 84 = some [.d (.str []), .d (.bool false), .d (.str []), .d (.int .i64 0), .d (.int .i64 0)] := by kernel_rfl
theorem ty_fl84_0 : fld Tryz.prog 84 0 = some (0, 1, 9) := by kernel_rfl
theorem ty_fl84_1 : fld Tryz.prog 84 1 = some (1, 2, 38) := by kernel_rfl
theorem ty_fl84_2 : fld Tryz.prog 84 2 = some (3, 2, 46) := by kernel_rfl
theorem ty_eq84 : eqFs Tryz.prog 84 = some [(9, 0), (38, 1), (46, 3)] := by kernel_rfl
theorem ty_bz84 : buildZ Tryz.prog 84 = some [.d (.str []), .d (.bool false), .d (.str []), .d (.int .i64 0), .d (.int .i64 0)] := by kernel_rfl
theorem ty_zz84 : szZ Tryz.prog 84 = some 5 := by kernel_rfl
theorem ty_sz85 : szOf Tryz.prog 85 = some 5 := by kernel_rfl
theorem ty_by85 : bytesOf Tryz.prog 85 = some 56 := by kernel_rfl
theorem ty_ki85 : kindT Tryz.prog 85 = .st := by kernel_rfl
theorem ty_ze85 : zeroOf Tryz.prog 85 = some [.d (.str []), .d (.bool false), .d (.str []), .d (.int .i64 0), .d (.int .i64 0)] := by kernel_rfl
theorem ty_fl85_0 : fld Tryz.prog 85 0 = some (0, 1, 9) := by kernel_rfl
theorem ty_fl85_1 : fld Tryz.prog 85 1 = some (1, 2, 38) := by kernel_rfl
theorem ty_fl85_2 : fld Tryz.prog 85 2 = some (3, 2, 46) := by kernel_rfl
theorem ty_eq85 : eqFs Tryz.prog 85 = some [(9, 0), (38, 1), (46, 3)] := by kernel_rfl
theorem ty_bz85 : buildZ Tryz.prog 85 = some [.d (.str []), .d (.bool false), .d (.str []), .d (.int .i64 0), .d (.int .i64 0)] := by kernel_rfl
theorem ty_zz85 : szZ Tryz.prog 85 = some 5 := by kernel_rfl
theorem ty_sz86 : szOf Tryz.prog 86 = some 1 := by kernel_rfl
theorem ty_by86 : bytesOf Tryz.prog 86 = some 8 := by kernel_rfl
theorem ty_ki86 : kindT Tryz.prog 86 = .other := by kernel_rfl
theorem ty_ze86 : zeroOf Tryz.prog 86 = some [.any] := by kernel_rfl
theorem ty_zz86 : szZ Tryz.prog 86 = some 1 := by kernel_rfl
theorem ty_sz87 : szOf Tryz.prog 87 = some 1 := by kernel_rfl
theorem ty_by87 : bytesOf Tryz.prog 87 = some 8 := by kernel_rfl
theorem ty_ki87 : kindT Tryz.prog 87 = .other := by kernel_rfl
theorem ty_ze87 : zeroOf Tryz.prog 87 = some [.any] := by kernel_rfl
theorem ty_zz87 : szZ Tryz.prog 87 = some 1 := by kernel_rfl
theorem ty_sz88 : szOf Tryz.prog 88 = some 1 := by kernel_rfl
theorem ty_by88 : bytesOf Tryz.prog 88 = some 8 := by kernel_rfl
theorem ty_ki88 : kindT Tryz.prog 88 = .other := by kernel_rfl
theorem ty_ze88 : zeroOf Tryz.prog 88 = some [.any] := by kernel_rfl
theorem ty_zz88 : szZ Tryz.prog 88 = some 1 := by kernel_rfl
theorem ty_sz89 : szOf Tryz.prog 89 = some 1 := by kernel_rfl
theorem ty_by89 : bytesOf Tryz.prog 89 = some 8 := by kernel_rfl
theorem ty_ki89 : kindT Tryz.prog 89 = .other := by kernel_rfl
theorem ty_ze89 : zeroOf Tryz.prog 89 = some [.any] := by kernel_rfl
theorem ty_zz89 : szZ Tryz.prog 89 = some 1 := by kernel_rfl
theorem ty_sz90 : szOf Tryz.prog 90 = some 1 := by kernel_rfl
theorem ty_by90 : bytesOf Tryz.prog 90 = some 8 := by kernel_rfl
theorem ty_ki90 : kindT Tryz.prog 90 = .other := by kernel_rfl
theorem ty_ze90 : zeroOf Tryz.prog 90 = some [.any] := by kernel_rfl
theorem ty_zz90 : szZ Tryz.prog 90 = some 1 := by kernel_rfl
theorem ty_sz91 : szOf Tryz.prog 91 = some 1 := by kernel_rfl
theorem ty_by91 : bytesOf Tryz.prog 91 = some 8 := by kernel_rfl
theorem ty_ki91 : kindT Tryz.prog 91 = .other := by kernel_rfl
theorem ty_ze91 : zeroOf Tryz.prog 91 = some [.any] := by kernel_rfl
theorem ty_zz91 : szZ Tryz.prog 91 = some 1 := by kernel_rfl
theorem ty_sz92 : szOf Tryz.prog 92 = some 1 := by kernel_rfl
theorem ty_by92 : bytesOf Tryz.prog 92 = some 8 := by kernel_rfl
theorem ty_ki92 : kindT Tryz.prog 92 = .other := by kernel_rfl
theorem ty_ze92 : zeroOf Tryz.prog 92 = some [.any] := by kernel_rfl
theorem ty_zz92 : szZ Tryz.prog 92 = some 1 := by kernel_rfl
theorem ty_sz93 : szOf Tryz.prog 93 = some 1 := by kernel_rfl
theorem ty_by93 : bytesOf Tryz.prog 93 = some 8 := by kernel_rfl
theorem ty_ki93 : kindT Tryz.prog 93 = .other := by kernel_rfl
theorem ty_ze93 : zeroOf Tryz.prog 93 = some [.any] := by kernel_rfl
theorem ty_zz93 : szZ Tryz.prog 93 = some 1 := by kernel_rfl
theorem ty_sz94 : szOf Tryz.prog 94 = some 1 := by kernel_rfl
theorem ty_by94 : bytesOf Tryz.prog 94 = some 8 := by kernel_rfl
theorem ty_ki94 : kindT Tryz.prog 94 = .other := by kernel_rfl
theorem ty_ze94 : zeroOf Tryz.prog 94 = some [.any] := by kernel_rfl
theorem ty_zz94 : szZ Tryz.prog 94 = some 1 := by kernel_rfl
theorem ty_sz95 : szOf Tryz.prog 95 = some 1 := by kernel_rfl
theorem ty_by95 : bytesOf Tryz.prog 95 = some 24 := by kernel_rfl
theorem ty_ki95 : kindT Tryz.prog 95 = .sl 38 := by kernel_rfl
theorem ty_ze95 : zeroOf Tryz.prog 95 = some [.full []] := by kernel_rfl
theorem ty_zz95 : szZ Tryz.prog 95 = some 1 := by kernel_rfl
theorem ty_sz96 : szOf Tryz.prog 96 = some 1 := by kernel_rfl
theorem ty_by96 : bytesOf Tryz.prog 96 = some 8 := by kernel_rfl
theorem ty_ki96 : kindT Tryz.prog 96 = .other := by kernel_rfl
theorem ty_ze96 : zeroOf Tryz.prog 96 = some [.any] := by kernel_rfl
theorem ty_zz96 : szZ Tryz.prog 96 = some 1 := by kernel_rfl
theorem ty_sz97 : szOf Tryz.prog 97 = some 1 := by kernel_rfl
theorem ty_by97 : bytesOf Tryz.prog 97 = some 8 := by kernel_rfl
theorem ty_ki97 : kindT Tryz.prog 97 = .other := by kernel_rfl
theorem ty_ze97 : zeroOf Tryz.prog 97 = some [.any] := by kernel_rfl
theorem ty_zz97 : szZ Tryz.prog 97 = some 1 := by kernel_rfl
theorem ty_sz98 : szOf Tryz.prog 98 = some 1 := by kernel_rfl
theorem ty_by98 : bytesOf Tryz.prog 98 = some 24 := by kernel_rfl
theorem ty_ki98 : kindT Tryz.prog 98 = .sl 9 := by kernel_rfl
theorem ty_ze98 : zeroOf Tryz.prog 98 = some [.full []] := by kernel_rfl
theorem ty_zz98 : szZ Tryz.prog 98 = some 1 := by kernel_rfl
theorem ty_sz99 : szOf Tryz.prog 99 = some 1 := by kernel_rfl
theorem ty_by99 : bytesOf Tryz.prog 99 = some 8 := by kernel_rfl
theorem ty_ki99 : kindT Tryz.prog 99 = .other := by kernel_rfl
theorem ty_ze99 : zeroOf Tryz.prog 99 = some [.any] := by kernel_rfl
theorem ty_zz99 : szZ Tryz.prog 99 = some 1 := by kernel_rfl
theorem ty_sz100 : szOf Tryz.prog 100 = some 1 := by kernel_rfl
theorem ty_by100 : bytesOf Tryz.prog 100 = some 8 := by kernel_rfl
theorem ty_ki100 : kindT Tryz.prog 100 = .other := by kernel_rfl
theorem ty_ze100 : zeroOf Tryz.prog 100 = some [.any] := by kernel_rfl
theorem ty_zz100 : szZ Tryz.prog 100 = some 1 := by kernel_rfl
theorem ty_sz101 : szOf Tryz.prog 101 = some 1 := by kernel_rfl
theorem ty_by101 : bytesOf Tryz.prog 101 = some 8 := by kernel_rfl
theorem ty_ki101 : kindT Tryz.prog 101 = .other := by kernel_rfl
theorem ty_ze101 : zeroOf Tryz.prog 101 = some [.any] := by kernel_rfl
theorem ty_zz101 : szZ Tryz.prog 101 = some 1 := by kernel_rfl
theorem ty_sz102 : szOf Tryz.prog 102 = some 1 := by kernel_rfl
theorem ty_by102 : bytesOf Tryz.prog 102 = some 8 := by kernel_rfl
theorem ty_ki102 : kindT Tryz.prog 102 = .other := by kernel_rfl
theorem ty_ze102 : zeroOf Tryz.prog 102 = some [.any] := by kernel_rfl
theorem ty_zz102 : szZ Tryz.prog 102 = some 1 := by kernel_rfl
theorem ty_sz103 : szOf Tryz.prog 103 = some 1 := by kernel_rfl
theorem ty_by103 : bytesOf Tryz.prog 103 = some 8 := by kernel_rfl
theorem ty_ki103 : kindT Tryz.prog 103 = .other := by kernel_rfl
theorem ty_ze103 : zeroOf Tryz.prog 103 = some [.any] := by kernel_rfl
theorem ty_zz103 : szZ Tryz.prog 103 = some 1 := by kernel_rfl
theorem ty_sz104 : szOf Tryz.prog 104 = some 1 := by kernel_rfl
theorem ty_by104 : bytesOf Tryz.prog 104 = some 8 := by kernel_rfl
theorem ty_ki104 : kindT Tryz.prog 104 = .other := by kernel_rfl
theorem ty_ze104 : zeroOf Tryz.prog 104 = some [.any] := by kernel_rfl
theorem ty_zz104 : szZ Tryz.prog 104 = some 1 := by kernel_rfl
theorem ty_sz105 : szOf Tryz.prog 105 = some 1 := by kernel_rfl
theorem ty_by105 : bytesOf Tryz.prog 105 = some 8 := by kernel_rfl
theorem ty_ki105 : kindT Tryz.prog 105 = .other := by kernel_rfl
theorem ty_ze105 : zeroOf Tryz.prog 105 = some [.any] := by kernel_rfl
theorem ty_zz105 : szZ Tryz.prog 105 = some 1 := by kernel_rfl
theorem ty_sz106 : szOf Tryz.prog 106 = some 1 := by kernel_rfl
theorem ty_by106 : bytesOf Tryz.prog 106 = some 8 := by kernel_rfl
theorem ty_ki106 : kindT Tryz.prog 106 = .other := by kernel_rfl
theorem ty_ze106 : zeroOf Tryz.prog 106 = some [.any] := by kernel_rfl
theorem ty_zz106 : szZ Tryz.prog 106 = some 1 := by kernel_rfl
theorem ty_sz107 : szOf Tryz.prog 107 = some 1 := by kernel_rfl
theorem ty_by107 : bytesOf Tryz.prog 107 = some 0 := by kernel_rfl
theorem ty_ki107 : kindT Tryz.prog 107 = .other := by kernel_rfl
theorem ty_sz108 : szOf Tryz.prog 108 = some 1 := by kernel_rfl
theorem ty_by108 : bytesOf Tryz.prog 108 = some 8 := by kernel_rfl
theorem ty_ki108 : kindT Tryz.prog 108 = .other := by kernel_rfl
theorem ty_ze108 : zeroOf Tryz.prog 108 = some [.any] := by kernel_rfl
theorem ty_zz108 : szZ Tryz.prog 108 = some 1 := by kernel_rfl
theorem ty_sz109 : szOf Tryz.prog 109 = some 1 := by kernel_rfl
theorem ty_by109 : bytesOf Tryz.prog 109 = some 8 := by kernel_rfl
theorem ty_ki109 : kindT Tryz.prog 109 = .other := by kernel_rfl
theorem ty_ze109 : zeroOf Tryz.prog 109 = some [.any] := by kernel_rfl
theorem ty_zz109 : szZ Tryz.prog 109 = some 1 := by kernel_rfl
theorem ty_sz110 : szOf Tryz.prog 110 = some 1 := by kernel_rfl
theorem ty_by110 : bytesOf Tryz.prog 110 = some 8 := by kernel_rfl
theorem ty_ki110 : kindT Tryz.prog 110 = .other := by kernel_rfl
theorem ty_ze110 : zeroOf Tryz.prog 110 = some [.any] := by kernel_rfl
theorem ty_zz110 : szZ Tryz.prog 110 = some 1 := by kernel_rfl
theorem ty_sz111 : szOf Tryz.prog 111 = some 1 := by kernel_rfl
theorem ty_by111 : bytesOf Tryz.prog 111 = some 8 := by kernel_rfl
theorem ty_ki111 : kindT Tryz.prog 111 = .other := by kernel_rfl
theorem ty_ze111 : zeroOf Tryz.prog 111 = some [.nilm] := by kernel_rfl
theorem ty_zz111 : szZ Tryz.prog 111 = some 1 := by kernel_rfl
theorem ty_mt111 : mapT Tryz.prog 111 = some (9, 4) := by kernel_rfl
theorem ty_zv4 : zeroV Tryz.prog 4 = some (.d (.bool false)) := by kernel_rfl
theorem ty_sz112 : szOf Tryz.prog 112 = some 1 := by kernel_rfl
theorem ty_by112 : bytesOf Tryz.prog 112 = some 8 := by kernel_rfl
theorem ty_ki112 : kindT Tryz.prog 112 = .other := by kernel_rfl
theorem ty_ze112 : zeroOf Tryz.prog 112 = some [.any] := by kernel_rfl
theorem ty_zz112 : szZ Tryz.prog 112 = some 1 := by kernel_rfl
theorem ty_sz113 : szOf Tryz.prog 113 = some 1 := by kernel_rfl
theorem ty_by113 : bytesOf Tryz.prog 113 = some 8 := by kernel_rfl
theorem ty_ki113 : kindT Tryz.prog 113 = .other := by kernel_rfl
theorem ty_ze113 : zeroOf Tryz.prog 113 = some [.any] := by kernel_rfl
theorem ty_zz113 : szZ Tryz.prog 113 = some 1 := by kernel_rfl
theorem ty_sz114 : szOf Tryz.prog 114 = some 1 := by kernel_rfl
theorem ty_by114 : bytesOf Tryz.prog 114 = some 8 := by kernel_rfl
theorem ty_ki114 : kindT Tryz.prog 114 = .other := by kernel_rfl
theorem ty_ze114 : zeroOf Tryz.prog 114 = some [.any] := by kernel_rfl
theorem ty_zz114 : szZ Tryz.prog 114 = some 1 := by kernel_rfl
theorem ty_sz115 : szOf Tryz.prog 115 = some 1 := by kernel_rfl
theorem ty_by115 : bytesOf Tryz.prog 115 = some 8 := by kernel_rfl
theorem ty_ki115 : kindT Tryz.prog 115 = .other := by kernel_rfl
theorem ty_ze115 : zeroOf Tryz.prog 115 = some [.any] := by kernel_rfl
theorem ty_zz115 : szZ Tryz.prog 115 = some 1 := by kernel_rfl
theorem ty_sz116 : szOf Tryz.prog 116 = some 1 := by kernel_rfl
theorem ty_by116 : bytesOf Tryz.prog 116 = some 8 := by kernel_rfl
theorem ty_ki116 : kindT Tryz.prog 116 = .other := by kernel_rfl
theorem ty_ze116 : zeroOf Tryz.prog 116 = some [.any] := by kernel_rfl
theorem ty_zz116 : szZ Tryz.prog 116 = some 1 := by kernel_rfl
theorem ty_sz117 : szOf Tryz.prog 117 = some 1 := by kernel_rfl
theorem ty_by117 : bytesOf Tryz.prog 117 = some 0 := by kernel_rfl
theorem ty_ki117 : kindT Tryz.prog 117 = .other := by kernel_rfl
theorem ty_sz118 : szOf Tryz.prog 118 = some 1 := by kernel_rfl
theorem ty_by118 : bytesOf Tryz.prog 118 = some 8 := by kernel_rfl
theorem ty_ki118 : kindT Tryz.prog 118 = .other := by kernel_rfl
theorem ty_ze118 : zeroOf Tryz.prog 118 = some [.any] := by kernel_rfl
theorem ty_zz118 : szZ Tryz.prog 118 = some 1 := by kernel_rfl
theorem ty_sz119 : szOf Tryz.prog 119 = some 1 := by kernel_rfl
theorem ty_by119 : bytesOf Tryz.prog 119 = some 8 := by kernel_rfl
theorem ty_ki119 : kindT Tryz.prog 119 = .other := by kernel_rfl
theorem ty_ze119 : zeroOf Tryz.prog 119 = some [.any] := by kernel_rfl
theorem ty_zz119 : szZ Tryz.prog 119 = some 1 := by kernel_rfl
theorem ty_sz120 : szOf Tryz.prog 120 = some 18 := by kernel_rfl
theorem ty_by120 : bytesOf Tryz.prog 120 = some 288 := by kernel_rfl
theorem ty_ki120 : kindT Tryz.prog 120 = .arr 18 9 := by kernel_rfl
theorem ty_ze120 : zeroOf Tryz.prog 120 = some [.d (.str []), .d (.str []), .d (.str []), .d (.str []), .d (.str []), .d (.str []), .d (.str []), .d (.str []), .d (.str []), .d (.str []), .d (.str []), .d (.str []), .d (.str []), .d (.str []), .d (.str []), .d (.str []), .d (.str []), .d (.str [])] := by kernel_rfl
theorem ty_zz120 : szZ Tryz.prog 120 = some 18 := by kernel_rfl
theorem ty_sz121 : szOf Tryz.prog 121 = some 1 := by kernel_rfl
theorem ty_by121 : bytesOf Tryz.prog 121 = some 0 := by kernel_rfl
theorem ty_ki121 : kindT Tryz.prog 121 = .other := by kernel_rfl
theorem ty_sz122 : szOf Tryz.prog 122 = some 1 := by kernel_rfl
theorem ty_by122 : bytesOf Tryz.prog 122 = some 8 := by kernel_rfl
theorem ty_ki122 : kindT Tryz.prog 122 = .other := by kernel_rfl
theorem ty_ze122 : zeroOf Tryz.prog 122 = some [.any] := by kernel_rfl
theorem ty_zz122 : szZ Tryz.prog 122 = some 1 := by kernel_rfl
theorem ty_sz123 : szOf Tryz.prog 123 = some 1 := by kernel_rfl
theorem ty_by123 : bytesOf Tryz.prog 123 = some 8 := by kernel_rfl
theorem ty_ki123 : kindT Tryz.prog 123 = .other := by kernel_rfl
theorem ty_ze123 : zeroOf Tryz.prog 123 = some [.any] := by kernel_rfl
theorem ty_zz123 : szZ Tryz.prog 123 = some 1 := by kernel_rfl
theorem ty_sz124 : szOf Tryz.prog 124 = some 1 := by kernel_rfl
theorem ty_by124 : bytesOf Tryz.prog 124 = some 8 := by kernel_rfl
theorem ty_ki124 : kindT Tryz.prog 124 = .other := by kernel_rfl
theorem ty_ze124 : zeroOf Tryz.prog 124 = some [.any] := by kernel_rfl
theorem ty_zz124 : szZ Tryz.prog 124 = some 1 := by kernel_rfl
theorem ty_sz125 : szOf Tryz.prog 125 = some 1 := by kernel_rfl
theorem ty_by125 : bytesOf Tryz.prog 125 = some 8 := by kernel_rfl
theorem ty_ki125 : kindT Tryz.prog 125 = .other := by kernel_rfl
theorem ty_ze125 : zeroOf Tryz.prog 125 = some [.any] := by kernel_rfl
theorem ty_zz125 : szZ Tryz.prog 125 = some 1 := by kernel_rfl
theorem ty_sz126 : szOf Tryz.prog 126 = some 1 := by kernel_rfl
theorem ty_by126 : bytesOf Tryz.prog 126 = some 8 := by kernel_rfl
theorem ty_ki126 : kindT Tryz.prog 126 = .other := by kernel_rfl
theorem ty_ze126 : zeroOf Tryz.prog 126 = some [.any] := by kernel_rfl
theorem ty_zz126 : szZ Tryz.prog 126 = some 1 := by kernel_rfl
theorem ty_sz127 : szOf Tryz.prog 127 = some 1 := by kernel_rfl
theorem ty_by127 : bytesOf Tryz.prog 127 = some 8 := by kernel_rfl
theorem ty_ki127 : kindT Tryz.prog 127 = .other := by kernel_rfl
theorem ty_ze127 : zeroOf Tryz.prog 127 = some [.any] := by kernel_rfl
theorem ty_zz127 : szZ Tryz.prog 127 = some 1 := by kernel_rfl
theorem ty_sz128 : szOf Tryz.prog 128 = some 1 := by kernel_rfl
theorem ty_by128 : bytesOf Tryz.prog 128 = some 8 := by kernel_rfl
theorem ty_ki128 : kindT Tryz.prog 128 = .other := by kernel_rfl
theorem ty_ze128 : zeroOf Tryz.prog 128 = some [.any] := by kernel_rfl
theorem ty_zz128 : szZ Tryz.prog 128 = some 1 := by kernel_rfl
theorem ty_sz129 : szOf Tryz.prog 129 = some 1 := by kernel_rfl
theorem ty_by129 : bytesOf Tryz.prog 129 = some 8 := by kernel_rfl
theorem ty_ki129 : kindT Tryz.prog 129 = .other := by kernel_rfl
theorem ty_ze129 : zeroOf Tryz.prog 129 = some [.any] := by kernel_rfl
theorem ty_zz129 : szZ Tryz.prog 129 = some 1 := by kernel_rfl
theorem ty_sz130 : szOf Tryz.prog 130 = some 1 := by kernel_rfl
theorem ty_by130 : bytesOf Tryz.prog 130 = some 8 := by kernel_rfl
theorem ty_ki130 : kindT Tryz.prog 130 = .other := by kernel_rfl
theorem ty_ze130 : zeroOf Tryz.prog 130 = some [.any] := by kernel_rfl
theorem ty_zz130 : szZ Tryz.prog 130 = some 1 := by kernel_rfl
theorem ty_sz131 : szOf Tryz.prog 131 = some 4 := by kernel_rfl
theorem ty_by131 : bytesOf Tryz.prog 131 = some 40 := by kernel_rfl
theorem ty_ki131 : kindT Tryz.prog 131 = .st := by kernel_rfl
theorem ty_ze131 : zeroOf Tryz.prog 131 = some [.d .nilp, .d .nilp, .d .nilp, .d (.str [])] := by kernel_rfl
theorem ty_fl131_0 : fld Tryz.prog 131 0 = some (0, 1, 17) := by kernel_rfl
theorem ty_fl131_1 : fld Tryz.prog 131 1 = some (1, 1, 17) := by kernel_rfl
theorem ty_fl131_2 : fld Tryz.prog 131 2 = some (2, 1, 17) := by kernel_rfl
theorem ty_fl131_3 : fld Tryz.prog 131 3 = some (3, 1, 9) := by kernel_rfl
theorem ty_bz131 : buildZ Tryz.prog 131 = some [.d .nilp, .d .nilp, .d .nilp, .d (.str [])] := by kernel_rfl
theorem ty_zz131 : szZ Tryz.prog 131 = some 4 := by kernel_rfl
theorem ty_sz133 : szOf Tryz.prog 133 = some 0 := by kernel_rfl
theorem ty_by133 : bytesOf Tryz.prog 133 = some 0 := by kernel_rfl
theorem ty_ki133 : kindT Tryz.prog 133 = .arr 0 16 := by kernel_rfl
theorem ty_ze133 : zeroOf Tryz.prog 133 = some [] := by kernel_rfl
theorem ty_sz134 : szOf Tryz.prog 134 = some 0 := by kernel_rfl
theorem ty_by134 : bytesOf Tryz.prog 134 = some 0 := by kernel_rfl
theorem ty_ki134 : kindT Tryz.prog 134 = .st := by kernel_rfl
theorem ty_ze134 : zeroOf Tryz.prog 134 = some [] := by kernel_rfl
theorem ty_fl134_0 : fld Tryz.prog 134 0 = some (0, 0, 133) := by kernel_rfl
theorem ty_bz134 : buildZ Tryz.prog 134 = some [] := by kernel_rfl
theorem ty_sz136 : szOf Tryz.prog 136 = some 1 := by kernel_rfl
theorem ty_by136 : bytesOf Tryz.prog 136 = some 8 := by kernel_rfl
theorem ty_ki136 : kindT Tryz.prog 136 = .other := by kernel_rfl
theorem ty_ze136 : zeroOf Tryz.prog 136 = some [.any] := by kernel_rfl
theorem ty_zz136 : szZ Tryz.prog 136 = some 1 := by kernel_rfl
theorem ty_sz137 : szOf Tryz.prog 137 = some 1 := by kernel_rfl
theorem ty_by137 : bytesOf Tryz.prog 137 = some 4 := by kernel_rfl
theorem ty_ki137 : kindT Tryz.prog 137 = .int .u32 := by kernel_rfl
theorem ty_ze137 : zeroOf Tryz.prog 137 = some [.d (.int .u32 0)] := by kernel_rfl
theorem ty_zz137 : szZ Tryz.prog 137 = some 1 := by kernel_rfl
theorem ty_sz140 : szOf Tryz.prog 140 = some 1 := by kernel_rfl
theorem ty_by140 : bytesOf Tryz.prog 140 = some 8 := by kernel_rfl
theorem ty_ki140 : kindT Tryz.prog 140 = .other := by kernel_rfl
theorem ty_ze140 : zeroOf Tryz.prog 140 = some [.any] := by kernel_rfl
theorem ty_zz140 : szZ Tryz.prog 140 = some 1 := by kernel_rfl
theorem ty_sz141 : szOf Tryz.prog 141 = some 1 := by kernel_rfl
theorem ty_by141 : bytesOf Tryz.prog 141 = some 8 := by kernel_rfl
theorem ty_ki141 : kindT Tryz.prog 141 = .ptr := by kernel_rfl
theorem ty_ze141 : zeroOf Tryz.prog 141 = some [.d .nilp] := by kernel_rfl
theorem ty_zz141 : szZ Tryz.prog 141 = some 1 := by kernel_rfl
theorem ty_sz144 : szOf Tryz.prog 144 = some 11 := by kernel_rfl
theorem ty_by144 : bytesOf Tryz.prog 144 = some 48 := by kernel_rfl
theorem ty_ki144 : kindT Tryz.prog 144 = .st := by kernel_rfl
theorem ty_ze144 : zeroOf Tryz.prog 144 = some [.d (.int .u64 0), .d (.int .u64 0), .d (.int .u32 0), .d (.int .u8 0), .d (.int .u8 0), .d (.int .u8 0), .d (.int .u8 0), .any, .d .nilp, .d (.int .i32 0), .d (.int .i32 0)] := by kernel_rfl
theorem ty_fl144_0 : fld Tryz.prog 144 0 = some (0, 1, 12) := by kernel_rfl
theorem ty_fl144_1 : fld Tryz.prog 144 1 = some (1, 1, 12) := by kernel_rfl
theorem ty_fl144_2 : fld Tryz.prog 144 2 = some (2, 1, 137) := by kernel_rfl
theorem ty_fl144_3 : fld Tryz.prog 144 3 = some (3, 1, 138) := by kernel_rfl
theorem ty_fl144_4 : fld Tryz.prog 144 4 = some (4, 1, 5) := by kernel_rfl
theorem ty_fl144_5 : fld Tryz.prog 144 5 = some (5, 1, 5) := by kernel_rfl
theorem ty_fl144_6 : fld Tryz.prog 144 6 = some (6, 1, 139) := by kernel_rfl
theorem ty_fl144_7 : fld Tryz.prog 144 7 = some (7, 1, 140) := by kernel_rfl
theorem ty_fl144_8 : fld Tryz.prog 144 8 = some (8, 1, 141) := by kernel_rfl
theorem ty_fl144_9 : fld Tryz.prog 144 9 = some (9, 1, 142) := by kernel_rfl
theorem ty_fl144_10 : fld Tryz.prog 144 10 = some (10, 1, 143) := by kernel_rfl
theorem ty_bz144 : buildZ Tryz.prog 144 = some [.d (.int .u64 0), .d (.int .u64 0), .d (.int .u32 0), .d (.int .u8 0), .d (.int .u8 0), .d (.int .u8 0), .d (.int .u8 0), .any, .d .nilp, .d (.int .i32 0), .d (.int .i32 0)] := by kernel_rfl
theorem ty_zz144 : szZ Tryz.prog 144 = some 11 := by kernel_rfl
theorem ty_sz146 : szOf Tryz.prog 146 = some 1 := by kernel_rfl
theorem ty_by146 : bytesOf Tryz.prog 146 = some 8 := by kernel_rfl
theorem ty_ki146 : kindT Tryz.prog 146 = .other := by kernel_rfl
theorem ty_ze146 : zeroOf Tryz.prog 146 = some [.d .nilp] := by kernel_rfl
theorem ty_zz146 : szZ Tryz.prog 146 = some 1 := by kernel_rfl
attribute [go_sem] ty_sz0 ty_by0 ty_ki0 ty_sz1 ty_by1 ty_ki1 ty_ze1 ty_zz1 ty_sz2 ty_by2 ty_ki2 ty_ze2
attribute [go_sem] ty_zz2 ty_sz3 ty_by3 ty_ki3 ty_ze3 ty_zz3 ty_sz4 ty_by4 ty_ki4 ty_ze4 ty_zz4 ty_sz5
attribute [go_sem] ty_by5 ty_ki5 ty_ze5 ty_zz5 ty_sz7 ty_by7 ty_ki7 ty_ze7 ty_fl7_0 ty_fl7_1 ty_fl7_2 ty_fl7_3
attribute [go_sem] ty_eq7 ty_bz7 ty_zz7 ty_sz9 ty_by9 ty_ki9 ty_ze9 ty_zz9 ty_sz12 ty_by12 ty_ki12 ty_ze12
attribute [go_sem] ty_zz12 ty_sz13 ty_by13 ty_ki13 ty_ze13 ty_fl13_0 ty_fl13_1 ty_bz13 ty_zz13 ty_sz20 ty_by20 ty_ki20
attribute [go_sem] ty_ze20 ty_zz20 ty_sz21 ty_by21 ty_ki21 ty_ze21 ty_zz21 ty_sz22 ty_by22 ty_ki22 ty_ze22 ty_zz22
attribute [go_sem] ty_sz23 ty_by23 ty_ki23 ty_ze23 ty_zz23 ty_sz24 ty_by24 ty_ki24 ty_ze24 ty_fl24_0 ty_fl24_1 ty_eq24
attribute [go_sem] ty_bz24 ty_zz24 ty_sz25 ty_by25 ty_ki25 ty_ze25 ty_fl25_0 ty_fl25_1 ty_eq25 ty_bz25 ty_zz25 ty_sz26
attribute [go_sem] ty_by26 ty_ki26 ty_ze26 ty_zz26 ty_sz27 ty_by27 ty_ki27 ty_ze27 ty_zz27 ty_sz28 ty_by28 ty_ki28
attribute [go_sem] ty_ze28 ty_zz28 ty_sz29 ty_by29 ty_ki29 ty_ze29 ty_zz29 ty_sz30 ty_by30 ty_ki30 ty_ze30 ty_zz30
attribute [go_sem] ty_sz31 ty_by31 ty_ki31 ty_ze31 ty_zz31 ty_sz32 ty_by32 ty_ki32 ty_ze32 ty_fl32_0 ty_fl32_1 ty_eq32
attribute [go_sem] ty_bz32 ty_zz32 ty_sz33 ty_by33 ty_ki33 ty_ze33 ty_fl33_0 ty_fl33_1 ty_eq33 ty_bz33 ty_zz33 ty_sz34
attribute [go_sem] ty_by34 ty_ki34 ty_ze34 ty_fl34_0 ty_fl34_1 ty_eq34 ty_bz34 ty_zz34 ty_sz35 ty_by35 ty_ki35 ty_ze35
attribute [go_sem] ty_zz35 ty_sz36 ty_by36 ty_ki36 ty_ze36 ty_zz36 ty_sz37 ty_by37 ty_ki37 ty_ze37 ty_fl37_0 ty_fl37_1
attribute [go_sem] ty_eq37 ty_bz37 ty_zz37 ty_sz38 ty_by38 ty_ki38 ty_ze38 ty_fl38_0 ty_fl38_1 ty_eq38 ty_bz38 ty_zz38
attribute [go_sem] ty_sz39 ty_by39 ty_ki39 ty_ze39 ty_fl39_0 ty_fl39_1 ty_eq39 ty_bz39 ty_zz39 ty_sz40 ty_by40 ty_ki40
attribute [go_sem] ty_ze40 ty_fl40_0 ty_fl40_1 ty_eq40 ty_bz40 ty_zz40 ty_sz41 ty_by41 ty_ki41 ty_ze41 ty_zz41 ty_sz42
attribute [go_sem] ty_by42 ty_ki42 ty_ze42 ty_zz42 ty_sz43 ty_by43 ty_ki43 ty_ze43 ty_fl43_0 ty_fl43_1 ty_fl43_2 ty_fl43_3
attribute [go_sem] ty_fl43_4 ty_fl43_5 ty_eq43 ty_bz43 ty_zz43 ty_sz44 ty_by44 ty_ki44 ty_ze44 ty_fl44_0 ty_fl44_1 ty_fl44_2
attribute [go_sem] ty_fl44_3 ty_fl44_4 ty_fl44_5 ty_eq44 ty_bz44 ty_zz44 ty_sz45 ty_by45 ty_ki45 ty_ze45 ty_fl45_0 ty_fl45_1
attribute [go_sem] ty_eq45 ty_bz45 ty_zz45 ty_sz46 ty_by46 ty_ki46 ty_ze46 ty_fl46_0 ty_fl46_1 ty_eq46 ty_bz46 ty_zz46
attribute [go_sem] ty_sz47 ty_by47 ty_ki47 ty_ze47 ty_fl47_0 ty_fl47_1 ty_fl47_2 ty_fl47_3 ty_fl47_4 ty_fl47_5 ty_fl47_6 ty_fl47_7
attribute [go_sem] ty_fl47_8 ty_fl47_9 ty_fl47_10 ty_fl47_11 ty_eq47 ty_bz47 ty_zz47 ty_sz48 ty_by48 ty_ki48 ty_ze48 ty_fl48_0
attribute [go_sem] ty_fl48_1 ty_fl48_2 ty_fl48_3 ty_fl48_4 ty_fl48_5 ty_fl48_6 ty_fl48_7 ty_fl48_8 ty_fl48_9 ty_fl48_10 ty_fl48_11 ty_eq48
attribute [go_sem] ty_bz48 ty_zz48 ty_sz49 ty_by49 ty_ki49 ty_ze49 ty_zz49 ty_sz50 ty_by50 ty_ki50 ty_ze50 ty_zz50
attribute [go_sem] ty_sz51 ty_by51 ty_ki51 ty_ze51 ty_zz51 ty_sz52 ty_by52 ty_ki52 ty_ze52 ty_zz52 ty_sz53 ty_by53
attribute [go_sem] ty_ki53 ty_ze53 ty_fl53_0 ty_fl53_1 ty_fl53_2 ty_eq53 ty_bz53 ty_zz53 ty_sz54 ty_by54 ty_ki54 ty_ze54
attribute [go_sem] ty_fl54_0 ty_fl54_1 ty_fl54_2 ty_eq54 ty_bz54 ty_zz54 ty_sz55 ty_by55 ty_ki55 ty_ze55 ty_zz55 ty_sz56
attribute [go_sem] ty_by56 ty_ki56 ty_ze56 ty_zz56 ty_sz57 ty_by57 ty_ki57 ty_ze57 ty_zz57 ty_sz58 ty_by58 ty_ki58
attribute [go_sem] ty_ze58 ty_zz58 ty_sz59 ty_by59 ty_ki59 ty_ze59 ty_fl59_0 ty_eq59 ty_bz59 ty_zz59 ty_sz60 ty_by60
attribute [go_sem] ty_ki60 ty_ze60 ty_fl60_0 ty_eq60 ty_bz60 ty_zz60 ty_sz61 ty_by61 ty_ki61 ty_ze61 ty_zz61 ty_sz62
attribute [go_sem] ty_by62 ty_ki62 ty_ze62 ty_zz62 ty_sz63 ty_by63 ty_ki63 ty_ze63 ty_zz63 ty_sz64 ty_by64 ty_ki64
attribute [go_sem] ty_ze64 ty_fl64_0 ty_fl64_1 ty_eq64 ty_bz64 ty_zz64 ty_sz65 ty_by65 ty_ki65 ty_ze65 ty_fl65_0 ty_fl65_1
attribute [go_sem] ty_eq65 ty_bz65 ty_zz65 ty_sz66 ty_by66 ty_ki66 ty_ze66 ty_zz66 ty_sz67 ty_by67 ty_ki67 ty_ze67
attribute [go_sem] ty_zz67 ty_sz68 ty_by68 ty_ki68 ty_ze68 ty_zz68 ty_sz69 ty_by69 ty_ki69 ty_ze69 ty_zz69 ty_sz70
attribute [go_sem] ty_by70 ty_ki70 ty_ze70 ty_zz70 ty_sz71 ty_by71 ty_ki71 ty_ze71 ty_zz71 ty_sz72 ty_by72 ty_ki72
attribute [go_sem] ty_ze72 ty_fl72_0 ty_fl72_1 ty_fl72_2 ty_eq72 ty_bz72 ty_zz72 ty_sz73 ty_by73 ty_ki73 ty_ze73 ty_fl73_0
attribute [go_sem] ty_fl73_1 ty_fl73_2 ty_eq73 ty_bz73 ty_zz73 ty_sz74 ty_by74 ty_ki74 ty_ze74 ty_zz74 ty_sz75 ty_by75
attribute [go_sem] ty_ki75 ty_ze75 ty_fl75_0 ty_fl75_1 ty_eq75 ty_bz75 ty_zz75 ty_sz76 ty_by76 ty_ki76 ty_ze76 ty_fl76_0
attribute [go_sem] ty_fl76_1 ty_eq76 ty_bz76 ty_zz76 ty_sz77 ty_by77 ty_ki77 ty_ze77 ty_zz77 ty_sz78 ty_by78 ty_ki78
attribute [go_sem] ty_ze78 ty_zz78 ty_sz79 ty_by79 ty_ki79 ty_ze79 ty_zz79 ty_sz80 ty_by80 ty_ki80 ty_ze80 ty_zz80
attribute [go_sem] ty_sz81 ty_by81 ty_ki81 ty_ze81 ty_zz81 ty_sz82 ty_by82 ty_ki82 ty_ze82 ty_zz82 ty_sz83 ty_by83
attribute [go_sem] ty_ki83 ty_ze83 ty_zz83 ty_sz84 ty_by84 ty_ki84 ty_ze84 ty_fl84_0 ty_fl84_1 ty_fl84_2 ty_eq84 ty_bz84
attribute [go_sem] ty_zz84 ty_sz85 ty_by85 ty_ki85 ty_ze85 ty_fl85_0 ty_fl85_1 ty_fl85_2 ty_eq85 ty_bz85 ty_zz85 ty_sz86
attribute [go_sem] ty_by86 ty_ki86 ty_ze86 ty_zz86 ty_sz87 ty_by87 ty_ki87 ty_ze87 ty_zz87 ty_sz88 ty_by88 ty_ki88
attribute [go_sem] ty_ze88 ty_zz88 ty_sz89 ty_by89 ty_ki89 ty_ze89 ty_zz89 ty_sz90 ty_by90 ty_ki90 ty_ze90 ty_zz90
attribute [go_sem] ty_sz91 ty_by91 ty_ki91 ty_ze91 ty_zz91 ty_sz92 ty_by92 ty_ki92 ty_ze92 ty_zz92 ty_sz93 ty_by93
attribute [go_sem] ty_ki93 ty_ze93 ty_zz93 ty_sz94 ty_by94 ty_ki94 ty_ze94 ty_zz94 ty_sz95 ty_by95 ty_ki95 ty_ze95
attribute [go_sem] ty_zz95 ty_sz96 ty_by96 ty_ki96 ty_ze96 ty_zz96 ty_sz97 ty_by97 ty_ki97 ty_ze97 ty_zz97 ty_sz98
attribute [go_sem] ty_by98 ty_ki98 ty_ze98 ty_zz98 ty_sz99 ty_by99 ty_ki99 ty_ze99 ty_zz99 ty_sz100 ty_by100 ty_ki100
attribute [go_sem] ty_ze100 ty_zz100 ty_sz101 ty_by101 ty_ki101 ty_ze101 ty_zz101 ty_sz102 ty_by102 ty_ki102 ty_ze102 ty_zz102
attribute [go_sem] ty_sz103 ty_by103 ty_ki103 ty_ze103 ty_zz103 ty_sz104 ty_by104 ty_ki104 ty_ze104 ty_zz104 ty_sz105 ty_by105
attribute [go_sem] ty_ki105 ty_ze105 ty_zz105 ty_sz106 ty_by106 ty_ki106 ty_ze106 ty_zz106 ty_sz107 ty_by107 ty_ki107 ty_sz108
attribute [go_sem] ty_by108 ty_ki108 ty_ze108 ty_zz108 ty_sz109 ty_by109 ty_ki109 ty_ze109 ty_zz109 ty_sz110 ty_by110 ty_ki110
attribute [go_sem] ty_ze110 ty_zz110 ty_sz111 ty_by111 ty_ki111 ty_ze111 ty_zz111 ty_mt111 ty_zv4 ty_sz112 ty_by112 ty_ki112
attribute [go_sem] ty_ze112 ty_zz112 ty_sz113 ty_by113 ty_ki113 ty_ze113 ty_zz113 ty_sz114 ty_by114 ty_ki114 ty_ze114 ty_zz114
attribute [go_sem] ty_sz115 ty_by115 ty_ki115 ty_ze115 ty_zz115 ty_sz116 ty_by116 ty_ki116 ty_ze116 ty_zz116 ty_sz117 ty_by117
attribute [go_sem] ty_ki117 ty_sz118 ty_by118 ty_ki118 ty_ze118 ty_zz118 ty_sz119 ty_by119 ty_ki119 ty_ze119 ty_zz119 ty_sz120
attribute [go_sem] ty_by120 ty_ki120 ty_ze120 ty_zz120 ty_sz121 ty_by121 ty_ki121 ty_sz122 ty_by122 ty_ki122 ty_ze122 ty_zz122
attribute [go_sem] ty_sz123 ty_by123 ty_ki123 ty_ze123 ty_zz123 ty_sz124 ty_by124 ty_ki124 ty_ze124 ty_zz124 ty_sz125 ty_by125
attribute [go_sem] ty_ki125 ty_ze125 ty_zz125 ty_sz126 ty_by126 ty_ki126 ty_ze126 ty_zz126 ty_sz127 ty_by127 ty_ki127 ty_ze127
attribute [go_sem] ty_zz127 ty_sz128 ty_by128 ty_ki128 ty_ze128 ty_zz128 ty_sz129 ty_by129 ty_ki129 ty_ze129 ty_zz129 ty_sz130
attribute [go_sem] ty_by130 ty_ki130 ty_ze130 ty_zz130 ty_sz131 ty_by131 ty_ki131 ty_ze131 ty_fl131_0 ty_fl131_1 ty_fl131_2 ty_fl131_3
attribute [go_sem] ty_bz131 ty_zz131 ty_sz133 ty_by133 ty_ki133 ty_ze133 ty_sz134 ty_by134 ty_ki134 ty_ze134 ty_fl134_0 ty_bz134
attribute [go_sem] ty_sz136 ty_by136 ty_ki136 ty_ze136 ty_zz136 ty_sz137 ty_by137 ty_ki137 ty_ze137 ty_zz137 ty_sz140 ty_by140
attribute [go_sem] ty_ki140 ty_ze140 ty_zz140 ty_sz141 ty_by141 ty_ki141 ty_ze141 ty_zz141 ty_sz144 ty_by144 ty_ki144 ty_ze144
attribute [go_sem] ty_fl144_0 ty_fl144_1 ty_fl144_2 ty_fl144_3 ty_fl144_4 ty_fl144_5 ty_fl144_6 ty_fl144_7 ty_fl144_8 ty_fl144_9 ty_fl144_10 ty_bz144
attribute [go_sem] ty_zz144 ty_sz146 ty_by146 ty_ki146 ty_ze146 ty_zz146
end Go.Proofs.YticenbkhlifioaaGreat
