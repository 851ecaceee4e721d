/- Facts on the types of this program. Conditions: none. -/
import Derived.Test.YtdmambkajegldaaAbX4
import Derived.Test.YtdmambkajegldaaProg
namespace Go.Proofs.Ytdmambkajegldaa
open Go.Ab
theorem ty_sz0 : szOf Try.prog 0 = some 1 := by kernel_rfl
theorem ty_by0 : bytesOf Try.prog 0 = some 0 := by kernel_rfl
theorem ty_ki0 : kindT Try.prog 0 = .other := by kernel_rfl
theorem ty_sz1 : szOf Try.prog 1 = some 1 := by kernel_rfl
theorem ty_by1 : bytesOf Try.prog 1 = some 8 := by kernel_rfl
theorem ty_ki1 : kindT Try.prog 1 = .other := by kernel_rfl
theorem ty_ze1 : zeroOf Try.prog 1 = some [.any] := by kernel_rfl
theorem ty_zz1 : szZ Try.prog 1 = some 1 := by kernel_rfl
theorem ty_sz2 : szOf Try.prog 2 = some 1 := by kernel_rfl
theorem ty_by2 : bytesOf Try.prog 2 = some 8 := by kernel_rfl
theorem ty_ki2 : kindT Try.prog 2 = .int .i64 := by kernel_rfl
theorem ty_ze2 : zeroOf Try.prog 2 = some [.d (.int .i64 0)] := by kernel_rfl
theorem ty_zz2 : szZ Try.prog 2 = some 1 := by kernel_rfl
theorem ty_sz3 : szOf Try.prog 3 = some 1 := by kernel_rfl
theorem ty_by3 : bytesOf Try.prog 3 = some 8 := by kernel_rfl
theorem ty_ki3 : kindT Try.prog 3 = .int .i64 := by kernel_rfl
theorem ty_ze3 : zeroOf Try.prog 3 = some [.d (.int .i64 0)] := by kernel_rfl
theorem ty_zz3 : szZ Try.prog 3 = some 1 := by kernel_rfl
theorem ty_sz4 : szOf Try.prog 4 = some 1 := by kernel_rfl
theorem ty_by4 : bytesOf Try.prog 4 = some 1 := by kernel_rfl
theorem ty_ki4 : kindT Try.prog 4 = .bool := by kernel_rfl
theorem ty_ze4 : zeroOf Try.prog 4 = some [.d (.bool false)] := by kernel_rfl
theorem ty_zz4 : szZ Try.prog 4 = some 1 := by kernel_rfl
theorem ty_sz5 : szOf Try.prog 5 = some 1 := by kernel_rfl
theorem ty_by5 : bytesOf Try.prog 5 = some 1 := by kernel_rfl
theorem ty_ki5 : kindT Try.prog 5 = .int .u8 := by kernel_rfl
theorem ty_ze5 : zeroOf Try.prog 5 = some [.d (.int .u8 0)] := by kernel_rfl
theorem ty_zz5 : szZ Try.prog 5 = some 1 := by kernel_rfl
theorem ty_sz7 : szOf Try.prog 7 = some 4 := by kernel_rfl
theorem ty_by7 : bytesOf Try.prog 7 = some 24 := by kernel_rfl
theorem ty_ki7 : kindT Try.prog 7 = .st := by kernel_rfl
theorem ty_ze7 : zeroOf Try.prog 7 = some [.d (.int .i64 0), .d (.int .i64 0), .d (.bool false), .d (.int .u8 0)] := by kernel_rfl
theorem ty_fl7_0 : fld Try.prog 7 0 = some (0, 1, 2) := by kernel_rfl
theorem ty_fl7_1 : fld Try.prog 7 1 = some (1, 1, 3) := by kernel_rfl
theorem ty_fl7_2 : fld Try.prog 7 2 = some (2, 1, 4) := by kernel_rfl
theorem ty_fl7_3 : fld Try.prog 7 3 = some (3, 1, 6) := by kernel_rfl
theorem ty_eq7 : eqFs Try.prog 7 = some [(2, 0), (3, 1), (4, 2), (6, 3)] := by kernel_rfl
theorem ty_bz7 : buildZ Try.prog 7 = some [.d (.int .i64 0), .d (.int .i64 0), .d (.bool false), .d (.int .u8 0)] := by kernel_rfl
theorem ty_zz7 : szZ Try.prog 7 = some 4 := by kernel_rfl
theorem ty_sz9 : szOf Try.prog 9 = some 1 := by kernel_rfl
theorem ty_by9 : bytesOf Try.prog 9 = some 16 := by kernel_rfl
theorem ty_ki9 : kindT Try.prog 9 = .str := by kernel_rfl
theorem ty_ze9 : zeroOf Try.prog 9 = some [.d (.str [])] := by kernel_rfl
theorem ty_zz9 : szZ Try.prog 9 = some 1 := by kernel_rfl
theorem ty_sz12 : szOf Try.prog 12 = some 1 := by kernel_rfl
theorem ty_by12 : bytesOf Try.prog 12 = some 8 := by kernel_rfl
theorem ty_ki12 : kindT Try.prog 12 = .int .u64 := by kernel_rfl
theorem ty_ze12 : zeroOf Try.prog 12 = some [.d (.int .u64 0)] := by kernel_rfl
theorem ty_zz12 : szZ Try.prog 12 = some 1 := by kernel_rfl
theorem ty_sz13 : szOf Try.prog 13 = some 2 := by kernel_rfl
theorem ty_by13 : bytesOf Try.prog 13 = some 24 := by kernel_rfl
theorem ty_ki13 : kindT Try.prog 13 = .st := by kernel_rfl
theorem ty_ze13 : zeroOf Try.prog 13 = some [.d (.str []), .d (.int .u64 0)] := by kernel_rfl
theorem ty_fl13_0 : fld Try.prog 13 0 = some (0, 1, 9) := by kernel_rfl
theorem ty_fl13_1 : fld Try.prog 13 1 = some (1, 1, 12) := by kernel_rfl
theorem ty_bz13 : buildZ Try.prog 13 = some [.d (.str []), .d (.int .u64 0)] := by kernel_rfl
theorem ty_zz13 : szZ Try.prog 13 = some 2 := by kernel_rfl
theorem ty_sz20 : szOf Try.prog 20 = some 1 := by kernel_rfl
theorem ty_by20 : bytesOf Try.prog 20 = some 16 := by kernel_rfl
theorem ty_ki20 : kindT Try.prog 20 = .ifc := by kernel_rfl
theorem ty_ze20 : zeroOf Try.prog 20 = some [.any] := by kernel_rfl
theorem ty_zz20 : szZ Try.prog 20 = some 1 := by kernel_rfl
theorem ty_sz21 : szOf Try.prog 21 = some 1 := by kernel_rfl
theorem ty_by21 : bytesOf Try.prog 21 = some 4 := by kernel_rfl
theorem ty_ki21 : kindT Try.prog 21 = .int .i32 := by kernel_rfl
theorem ty_ze21 : zeroOf Try.prog 21 = some [.d (.int .i32 0)] := by kernel_rfl
theorem ty_zz21 : szZ Try.prog 21 = some 1 := by kernel_rfl
theorem ty_sz22 : szOf Try.prog 22 = some 1 := by kernel_rfl
theorem ty_by22 : bytesOf Try.prog 22 = some 24 := by kernel_rfl
theorem ty_ki22 : kindT Try.prog 22 = .sl 3 := by kernel_rfl
theorem ty_ze22 : zeroOf Try.prog 22 = some [.full []] := by kernel_rfl
theorem ty_zz22 : szZ Try.prog 22 = some 1 := by kernel_rfl
theorem ty_sz23 : szOf Try.prog 23 = some 1 := by kernel_rfl
theorem ty_by23 : bytesOf Try.prog 23 = some 24 := by kernel_rfl
theorem ty_ki23 : kindT Try.prog 23 = .sl 4 := by kernel_rfl
theorem ty_ze23 : zeroOf Try.prog 23 = some [.full []] := by kernel_rfl
theorem ty_zz23 : szZ Try.prog 23 = some 1 := by kernel_rfl
theorem ty_sz24 : szOf Try.prog 24 = some 1 := by kernel_rfl
theorem ty_by24 : bytesOf Try.prog 24 = some 8 := by kernel_rfl
theorem ty_ki24 : kindT Try.prog 24 = .other := by kernel_rfl
theorem ty_ze24 : zeroOf Try.prog 24 = some [.any] := by kernel_rfl
theorem ty_zz24 : szZ Try.prog 24 = some 1 := by kernel_rfl
theorem ty_sz25 : szOf Try.prog 25 = some 1 := by kernel_rfl
theorem ty_by25 : bytesOf Try.prog 25 = some 8 := by kernel_rfl
theorem ty_ki25 : kindT Try.prog 25 = .other := by kernel_rfl
theorem ty_ze25 : zeroOf Try.prog 25 = some [.any] := by kernel_rfl
theorem ty_zz25 : szZ Try.prog 25 = some 1 := by kernel_rfl
theorem ty_sz26 : szOf Try.prog 26 = some 1 := by kernel_rfl
theorem ty_by26 : bytesOf Try.prog 26 = some 0 := by kernel_rfl
theorem ty_ki26 : kindT Try.prog 26 = .other := by kernel_rfl
theorem ty_sz27 : szOf Try.prog 27 = some 1 := by kernel_rfl
theorem ty_by27 : bytesOf Try.prog 27 = some 8 := by kernel_rfl
theorem ty_ki27 : kindT Try.prog 27 = .other := by kernel_rfl
theorem ty_ze27 : zeroOf Try.prog 27 = some [.any] := by kernel_rfl
theorem ty_zz27 : szZ Try.prog 27 = some 1 := by kernel_rfl
theorem ty_sz28 : szOf Try.prog 28 = some 1 := by kernel_rfl
theorem ty_by28 : bytesOf Try.prog 28 = some 24 := by kernel_rfl
theorem ty_ki28 : kindT Try.prog 28 = .sl 22 := by kernel_rfl
theorem ty_ze28 : zeroOf Try.prog 28 = some [.full []] := by kernel_rfl
theorem ty_zz28 : szZ Try.prog 28 = some 1 := by kernel_rfl
theorem ty_sz29 : szOf Try.prog 29 = some 2 := by kernel_rfl
theorem ty_by29 : bytesOf Try.prog 29 = some 32 := by kernel_rfl
theorem ty_ki29 : kindT Try.prog 29 = .st := by kernel_rfl
theorem ty_ze29 : zeroOf Try.prog 29 = some [.d (.int .i64 0), .full []] := by kernel_rfl
theorem ty_fl29_0 : fld Try.prog 29 0 = some (0, 1, 3) := by kernel_rfl
theorem ty_fl29_1 : fld Try.prog 29 1 = some (1, 1, 28) := by kernel_rfl
theorem ty_eq29 : eqFs Try.prog 29 = some [(3, 0), (28, 1)] := by kernel_rfl
theorem ty_bz29 : buildZ Try.prog 29 = some [.d (.int .i64 0), .full []] := by kernel_rfl
theorem ty_zz29 : szZ Try.prog 29 = some 2 := by kernel_rfl
theorem ty_sz30 : szOf Try.prog 30 = some 2 := by kernel_rfl
theorem ty_by30 : bytesOf Try.prog 30 = some 32 := by kernel_rfl
theorem ty_ki30 : kindT Try.prog 30 = .st := by kernel_rfl
theorem ty_ze30 : zeroOf Try.prog 30 = some [.d (.int .i64 0), .full []] := by kernel_rfl
theorem ty_fl30_0 : fld Try.prog 30 0 = some (0, 1, 3) := by kernel_rfl
theorem ty_fl30_1 : fld Try.prog 30 1 = some (1, 1, 28) := by kernel_rfl
theorem ty_eq30 : eqFs Try.prog 30 = some [(3, 0), (28, 1)] := by kernel_rfl
theorem ty_bz30 : buildZ Try.prog 30 = some [.d (.int .i64 0), .full []] := by kernel_rfl
theorem ty_zz30 : szZ Try.prog 30 = some 2 := by kernel_rfl
theorem ty_sz31 : szOf Try.prog 31 = some 1 := by kernel_rfl
theorem ty_by31 : bytesOf Try.prog 31 = some 8 := by kernel_rfl
theorem ty_ki31 : kindT Try.prog 31 = .other := by kernel_rfl
theorem ty_ze31 : zeroOf Try.prog 31 = some [.any] := by kernel_rfl
theorem ty_zz31 : szZ Try.prog 31 = some 1 := by kernel_rfl
theorem ty_sz32 : szOf Try.prog 32 = some 1 := by kernel_rfl
theorem ty_by32 : bytesOf Try.prog 32 = some 8 := by kernel_rfl
theorem ty_ki32 : kindT Try.prog 32 = .other := by kernel_rfl
theorem ty_ze32 : zeroOf Try.prog 32 = some [.any] := by kernel_rfl
theorem ty_zz32 : szZ Try.prog 32 = some 1 := by kernel_rfl
theorem ty_sz33 : szOf Try.prog 33 = some 1 := by kernel_rfl
theorem ty_by33 : bytesOf Try.prog 33 = some 8 := by kernel_rfl
theorem ty_ki33 : kindT Try.prog 33 = .other := by kernel_rfl
theorem ty_ze33 : zeroOf Try.prog 33 = some [.any] := by kernel_rfl
theorem ty_zz33 : szZ Try.prog 33 = some 1 := by kernel_rfl
theorem ty_sz34 : szOf Try.prog 34 = some 1 := by kernel_rfl
theorem ty_by34 : bytesOf Try.prog 34 = some 24 := by kernel_rfl
theorem ty_ki34 : kindT Try.prog 34 = .sl 39 := by kernel_rfl
theorem ty_ze34 : zeroOf Try.prog 34 = some [.full []] := by kernel_rfl
theorem ty_zz34 : szZ Try.prog 34 = some 1 := by kernel_rfl
theorem ty_sz35 : szOf Try.prog 35 = some 1 := by kernel_rfl
theorem ty_by35 : bytesOf Try.prog 35 = some 8 := by kernel_rfl
theorem ty_ki35 : kindT Try.prog 35 = .ptr := by kernel_rfl
theorem ty_ze35 : zeroOf Try.prog 35 = some [.d .nilp] := by kernel_rfl
theorem ty_zz35 : szZ Try.prog 35 = some 1 := by kernel_rfl
theorem ty_sz36 : szOf Try.prog 36 = some 1 := by kernel_rfl
theorem ty_by36 : bytesOf Try.prog 36 = some 8 := by kernel_rfl
theorem ty_ki36 : kindT Try.prog 36 = .other := by kernel_rfl
theorem ty_ze36 : zeroOf Try.prog 36 = some [.any] := by kernel_rfl
theorem ty_zz36 : szZ Try.prog 36 = some 1 := by kernel_rfl
theorem ty_sz37 : szOf Try.prog 37 = some 2 := by kernel_rfl
theorem ty_by37 : bytesOf Try.prog 37 = some 32 := by kernel_rfl
theorem ty_ki37 : kindT Try.prog 37 = .st := by kernel_rfl
theorem ty_ze37 : zeroOf Try.prog 37 = some [.d (.int .i64 0), .full []] := by kernel_rfl
theorem ty_fl37_0 : fld Try.prog 37 0 = some (0, 1, 3) := by kernel_rfl
theorem ty_fl37_1 : fld Try.prog 37 1 = some (1, 1, 28) := by kernel_rfl
theorem ty_eq37 : eqFs Try.prog 37 = some [(3, 0), (28, 1)] := by kernel_rfl
theorem ty_bz37 : buildZ Try.prog 37 = some [.d (.int .i64 0), .full []] := by kernel_rfl
theorem ty_zz37 : szZ Try.prog 37 = some 2 := by kernel_rfl
theorem ty_sz38 : szOf Try.prog 38 = some 5 := by kernel_rfl
theorem ty_by38 : bytesOf Try.prog 38 = some 72 := by kernel_rfl
theorem ty_ki38 : kindT Try.prog 38 = .st := by kernel_rfl
theorem ty_ze38 : zeroOf Try.prog 38 = some [.d (.int .i64 0), .d (.int .i64 0), .d (.int .i64 0), .full [], .full []] := by kernel_rfl
theorem ty_fl38_0 : fld Try.prog 38 0 = some (0, 1, 3) := by kernel_rfl
theorem ty_fl38_1 : fld Try.prog 38 1 = some (1, 1, 3) := by kernel_rfl
theorem ty_fl38_2 : fld Try.prog 38 2 = some (2, 1, 3) := by kernel_rfl
theorem ty_fl38_3 : fld Try.prog 38 3 = some (3, 1, 22) := by kernel_rfl
theorem ty_fl38_4 : fld Try.prog 38 4 = some (4, 1, 22) := by kernel_rfl
theorem ty_eq38 : eqFs Try.prog 38 = some [(3, 0), (3, 1), (3, 2), (22, 3), (22, 4)] := by kernel_rfl
theorem ty_bz38 : buildZ Try.prog 38 = some [.d (.int .i64 0), .d (.int .i64 0), .d (.int .i64 0), .full [], .full []] := by kernel_rfl
theorem ty_zz38 : szZ Try.prog 38 = some 5 := by kernel_rfl
theorem ty_sz39 : szOf Try.prog 39 = some 5 := by kernel_rfl
theorem ty_by39 : bytesOf Try.prog 39 = some 72 := by kernel_rfl
theorem ty_ki39 : kindT Try.prog 39 = .st := by kernel_rfl
theorem ty_ze39 : zeroOf Try.prog 39 = some [.d (.int .i64 0), .d (.int .i64 0), .d (.int .i64 0), .full [], .full []] := by kernel_rfl
theorem ty_fl39_0 : fld Try.prog 39 0 = some (0, 1, 3) := by kernel_rfl
theorem ty_fl39_1 : fld Try.prog 39 1 = some (1, 1, 3) := by kernel_rfl
theorem ty_fl39_2 : fld Try.prog 39 2 = some (2, 1, 3) := by kernel_rfl
theorem ty_fl39_3 : fld Try.prog 39 3 = some (3, 1, 22) := by kernel_rfl
theorem ty_fl39_4 : fld Try.prog 39 4 = some (4, 1, 22) := by kernel_rfl
theorem ty_eq39 : eqFs Try.prog 39 = some [(3, 0), (3, 1), (3, 2), (22, 3), (22, 4)] := by kernel_rfl
theorem ty_bz39 : buildZ Try.prog 39 = some [.d (.int .i64 0), .d (.int .i64 0), .d (.int .i64 0), .full [], .full []] := by kernel_rfl
theorem ty_zz39 : szZ Try.prog 39 = some 5 := by kernel_rfl
theorem ty_sz40 : szOf Try.prog 40 = some 1 := by kernel_rfl
theorem ty_by40 : bytesOf Try.prog 40 = some 8 := by kernel_rfl
theorem ty_ki40 : kindT Try.prog 40 = .other := by kernel_rfl
theorem ty_ze40 : zeroOf Try.prog 40 = some [.any] := by kernel_rfl
theorem ty_zz40 : szZ Try.prog 40 = some 1 := by kernel_rfl
theorem ty_sz41 : szOf Try.prog 41 = some 1 := by kernel_rfl
theorem ty_by41 : bytesOf Try.prog 41 = some 8 := by kernel_rfl
theorem ty_ki41 : kindT Try.prog 41 = .other := by kernel_rfl
theorem ty_ze41 : zeroOf Try.prog 41 = some [.any] := by kernel_rfl
theorem ty_zz41 : szZ Try.prog 41 = some 1 := by kernel_rfl
theorem ty_sz42 : szOf Try.prog 42 = some 1 := by kernel_rfl
theorem ty_by42 : bytesOf Try.prog 42 = some 8 := by kernel_rfl
theorem ty_ki42 : kindT Try.prog 42 = .other := by kernel_rfl
theorem ty_ze42 : zeroOf Try.prog 42 = some [.any] := by kernel_rfl
theorem ty_zz42 : szZ Try.prog 42 = some 1 := by kernel_rfl
theorem ty_sz43 : szOf Try.prog 43 = some 1 := by kernel_rfl
theorem ty_by43 : bytesOf Try.prog 43 = some 8 := by kernel_rfl
theorem ty_ki43 : kindT Try.prog 43 = .other := by kernel_rfl
theorem ty_ze43 : zeroOf Try.prog 43 = some [.any] := by kernel_rfl
theorem ty_zz43 : szZ Try.prog 43 = some 1 := by kernel_rfl
theorem ty_sz44 : szOf Try.prog 44 = some 1 := by kernel_rfl
theorem ty_by44 : bytesOf Try.prog 44 = some 8 := by kernel_rfl
theorem ty_ki44 : kindT Try.prog 44 = .other := by kernel_rfl
theorem ty_ze44 : zeroOf Try.prog 44 = some [.any] := by kernel_rfl
theorem ty_zz44 : szZ Try.prog 44 = some 1 := by kernel_rfl
theorem ty_sz45 : szOf Try.prog 45 = some 1 := by kernel_rfl
theorem ty_by45 : bytesOf Try.prog 45 = some 8 := by kernel_rfl
theorem ty_ki45 : kindT Try.prog 45 = .other := by kernel_rfl
theorem ty_ze45 : zeroOf Try.prog 45 = some [.any] := by kernel_rfl
theorem ty_zz45 : szZ Try.prog 45 = some 1 := by kernel_rfl
theorem ty_sz46 : szOf Try.prog 46 = some 1 := by kernel_rfl
theorem ty_by46 : bytesOf Try.prog 46 = some 8 := by kernel_rfl
theorem ty_ki46 : kindT Try.prog 46 = .other := by kernel_rfl
theorem ty_ze46 : zeroOf Try.prog 46 = some [.any] := by kernel_rfl
theorem ty_zz46 : szZ Try.prog 46 = some 1 := by kernel_rfl
theorem ty_sz47 : szOf Try.prog 47 = some 1 := by kernel_rfl
theorem ty_by47 : bytesOf Try.prog 47 = some 8 := by kernel_rfl
theorem ty_ki47 : kindT Try.prog 47 = .other := by kernel_rfl
theorem ty_ze47 : zeroOf Try.prog 47 = some [.any] := by kernel_rfl
theorem ty_zz47 : szZ Try.prog 47 = some 1 := by kernel_rfl
theorem ty_sz48 : szOf Try.prog 48 = some 1 := by kernel_rfl
theorem ty_by48 : bytesOf Try.prog 48 = some 8 := by kernel_rfl
theorem ty_ki48 : kindT Try.prog 48 = .other := by kernel_rfl
theorem ty_ze48 : zeroOf Try.prog 48 = some [.any] := by kernel_rfl
theorem ty_zz48 : szZ Try.prog 48 = some 1 := by kernel_rfl
theorem ty_sz49 : szOf Try.prog 49 = some 1 := by kernel_rfl
theorem ty_by49 : bytesOf Try.prog 49 = some 8 := by kernel_rfl
theorem ty_ki49 : kindT Try.prog 49 = .other := by kernel_rfl
theorem ty_ze49 : zeroOf Try.prog 49 = some [.any] := by kernel_rfl
theorem ty_zz49 : szZ Try.prog 49 = some 1 := by kernel_rfl
theorem ty_sz50 : szOf Try.prog 50 = some 1 := by kernel_rfl
theorem ty_by50 : bytesOf Try.prog 50 = some 8 := by kernel_rfl
theorem ty_ki50 : kindT Try.prog 50 = .other := by kernel_rfl
theorem ty_ze50 : zeroOf Try.prog 50 = some [.any] := by kernel_rfl
theorem ty_zz50 : szZ Try.prog 50 = some 1 := by kernel_rfl
theorem ty_sz51 : szOf Try.prog 51 = some 1 := by kernel_rfl
theorem ty_by51 : bytesOf Try.prog 51 = some 8 := by kernel_rfl
theorem ty_ki51 : kindT Try.prog 51 = .other := by kernel_rfl
theorem ty_ze51 : zeroOf Try.prog 51 = some [.any] := by kernel_rfl
theorem ty_zz51 : szZ Try.prog 51 = some 1 := by kernel_rfl
theorem ty_sz52 : szOf Try.prog 52 = some 1 := by kernel_rfl
theorem ty_by52 : bytesOf Try.prog 52 = some 8 := by kernel_rfl
theorem ty_ki52 : kindT Try.prog 52 = .other := by kernel_rfl
theorem ty_ze52 : zeroOf Try.prog 52 = some [.any] := by kernel_rfl
theorem ty_zz52 : szZ Try.prog 52 = some 1 := by kernel_rfl
theorem ty_sz53 : szOf Try.prog 53 = some 1 := by kernel_rfl
theorem ty_by53 : bytesOf Try.prog 53 = some 8 := by kernel_rfl
theorem ty_ki53 : kindT Try.prog 53 = .other := by kernel_rfl
theorem ty_ze53 : zeroOf Try.prog 53 = some [.any] := by kernel_rfl
theorem ty_zz53 : szZ Try.prog 53 = some 1 := by kernel_rfl
theorem ty_sz54 : szOf Try.prog 54 = some 1 := by kernel_rfl
theorem ty_by54 : bytesOf Try.prog 54 = some 8 := by kernel_rfl
theorem ty_ki54 : kindT Try.prog 54 = .other := by kernel_rfl
theorem ty_ze54 : zeroOf Try.prog 54 = some [.any] := by kernel_rfl
theorem ty_zz54 : szZ Try.prog 54 = some 1 := by kernel_rfl
theorem ty_sz55 : szOf Try.prog 55 = some 1 := by kernel_rfl
theorem ty_by55 : bytesOf Try.prog 55 = some 8 := by kernel_rfl
theorem ty_ki55 : kindT Try.prog 55 = .other := by kernel_rfl
theorem ty_ze55 : zeroOf Try.prog 55 = some [.any] := by kernel_rfl
theorem ty_zz55 : szZ Try.prog 55 = some 1 := by kernel_rfl
theorem ty_sz56 : szOf Try.prog 56 = some 1 := by kernel_rfl
theorem ty_by56 : bytesOf Try.prog 56 = some 8 := by kernel_rfl
theorem ty_ki56 : kindT Try.prog 56 = .other := by kernel_rfl
theorem ty_ze56 : zeroOf Try.prog 56 = some [.any] := by kernel_rfl
theorem ty_zz56 : szZ Try.prog 56 = some 1 := by kernel_rfl
theorem ty_sz57 : szOf Try.prog 57 = some 1 := by kernel_rfl
theorem ty_by57 : bytesOf Try.prog 57 = some 8 := by kernel_rfl
theorem ty_ki57 : kindT Try.prog 57 = .other := by kernel_rfl
theorem ty_ze57 : zeroOf Try.prog 57 = some [.any] := by kernel_rfl
theorem ty_zz57 : szZ Try.prog 57 = some 1 := by kernel_rfl
theorem ty_sz58 : szOf Try.prog 58 = some 1 := by kernel_rfl
theorem ty_by58 : bytesOf Try.prog 58 = some 8 := by kernel_rfl
theorem ty_ki58 : kindT Try.prog 58 = .other := by kernel_rfl
theorem ty_ze58 : zeroOf Try.prog 58 = some [.any] := by kernel_rfl
theorem ty_zz58 : szZ Try.prog 58 = some 1 := by kernel_rfl
theorem ty_sz59 : szOf Try.prog 59 = some 1 := by kernel_rfl
theorem ty_by59 : bytesOf Try.prog 59 = some 8 := by kernel_rfl
theorem ty_ki59 : kindT Try.prog 59 = .other := by kernel_rfl
theorem ty_ze59 : zeroOf Try.prog 59 = some [.any] := by kernel_rfl
theorem ty_zz59 : szZ Try.prog 59 = some 1 := by kernel_rfl
theorem ty_sz60 : szOf Try.prog 60 = some 1 := by kernel_rfl
theorem ty_by60 : bytesOf Try.prog 60 = some 8 := by kernel_rfl
theorem ty_ki60 : kindT Try.prog 60 = .other := by kernel_rfl
theorem ty_ze60 : zeroOf Try.prog 60 = some [.any] := by kernel_rfl
theorem ty_zz60 : szZ Try.prog 60 = some 1 := by kernel_rfl
theorem ty_sz61 : szOf Try.prog 61 = some 1 := by kernel_rfl
theorem ty_by61 : bytesOf Try.prog 61 = some 8 := by kernel_rfl
theorem ty_ki61 : kindT Try.prog 61 = .other := by kernel_rfl
theorem ty_ze61 : zeroOf Try.prog 61 = some [.any] := by kernel_rfl
theorem ty_zz61 : szZ Try.prog 61 = some 1 := by kernel_rfl
theorem ty_sz62 : szOf Try.prog 62 = some 2 := by kernel_rfl
theorem ty_by62 : bytesOf Try.prog 62 = some 32 := by kernel_rfl
theorem ty_ki62 : kindT Try.prog 62 = .st := by kernel_rfl
theorem ty_ze62 : zeroOf Try.prog 62 = some [.d (.int .i64 0), .full []] := by kernel_rfl
theorem ty_fl62_0 : fld Try.prog 62 0 = some (0, 2, 30) := by kernel_rfl
theorem ty_eq62 : eqFs Try.prog 62 = some [(30, 0)] := by kernel_rfl
theorem ty_bz62 : buildZ Try.prog 62 = some [.d (.int .i64 0), .full []] := by kernel_rfl
theorem ty_zz62 : szZ Try.prog 62 = some 2 := by kernel_rfl
theorem ty_sz63 : szOf Try.prog 63 = some 2 := by kernel_rfl
theorem ty_by63 : bytesOf Try.prog 63 = some 32 := by kernel_rfl
theorem ty_ki63 : kindT Try.prog 63 = .st := by kernel_rfl
theorem ty_ze63 : zeroOf Try.prog 63 = some [.d (.int .i64 0), .full []] := by kernel_rfl
theorem ty_fl63_0 : fld Try.prog 63 0 = some (0, 2, 30) := by kernel_rfl
theorem ty_eq63 : eqFs Try.prog 63 = some [(30, 0)] := by kernel_rfl
theorem ty_bz63 : buildZ Try.prog 63 = some [.d (.int .i64 0), .full []] := by kernel_rfl
theorem ty_zz63 : szZ Try.prog 63 = some 2 := by kernel_rfl
theorem ty_sz64 : szOf Try.prog 64 = some 1 := by kernel_rfl
theorem ty_by64 : bytesOf Try.prog 64 = some 8 := by kernel_rfl
theorem ty_ki64 : kindT Try.prog 64 = .other := by kernel_rfl
theorem ty_ze64 : zeroOf Try.prog 64 = some [.any] := by kernel_rfl
theorem ty_zz64 : szZ Try.prog 64 = some 1 := by kernel_rfl
theorem ty_sz65 : szOf Try.prog 65 = some 1 := by kernel_rfl
theorem ty_by65 : bytesOf Try.prog 65 = some 8 := by kernel_rfl
theorem ty_ki65 : kindT Try.prog 65 = .other := by kernel_rfl
theorem ty_ze65 : zeroOf Try.prog 65 = some [.any] := by kernel_rfl
theorem ty_zz65 : szZ Try.prog 65 = some 1 := by kernel_rfl
theorem ty_sz66 : szOf Try.prog 66 = some 1 := by kernel_rfl
theorem ty_by66 : bytesOf Try.prog 66 = some 8 := by kernel_rfl
theorem ty_ki66 : kindT Try.prog 66 = .other := by kernel_rfl
theorem ty_ze66 : zeroOf Try.prog 66 = some [.any] := by kernel_rfl
theorem ty_zz66 : szZ Try.prog 66 = some 1 := by kernel_rfl
theorem ty_sz67 : szOf Try.prog 67 = some 1 := by kernel_rfl
theorem ty_by67 : bytesOf Try.prog 67 = some 8 := by kernel_rfl
theorem ty_ki67 : kindT Try.prog 67 = .other := by kernel_rfl
theorem ty_ze67 : zeroOf Try.prog 67 = some [.any] := by kernel_rfl
theorem ty_zz67 : szZ Try.prog 67 = some 1 := by kernel_rfl
theorem ty_sz68 : szOf Try.prog 68 = some 1 := by kernel_rfl
theorem ty_by68 : bytesOf Try.prog 68 = some 8 := by kernel_rfl
theorem ty_ki68 : kindT Try.prog 68 = .other := by kernel_rfl
theorem ty_ze68 : zeroOf Try.prog 68 = some [.any] := by kernel_rfl
theorem ty_zz68 : szZ Try.prog 68 = some 1 := by kernel_rfl
theorem ty_sz69 : szOf Try.prog 69 = some 1 := by kernel_rfl
theorem ty_by69 : bytesOf Try.prog 69 = some 8 := by kernel_rfl
theorem ty_ki69 : kindT Try.prog 69 = .other := by kernel_rfl
theorem ty_ze69 : zeroOf Try.prog 69 = some [.any] := by kernel_rfl
theorem ty_zz69 : szZ Try.prog 69 = some 1 := by kernel_rfl
theorem ty_sz70 : szOf Try.prog 70 = some 1 := by kernel_rfl
theorem ty_by70 : bytesOf Try.prog 70 = some 8 := by kernel_rfl
theorem ty_ki70 : kindT Try.prog 70 = .other := by kernel_rfl
theorem ty_ze70 : zeroOf Try.prog 70 = some [.any] := by kernel_rfl
theorem ty_zz70 : szZ Try.prog 70 = some 1 := by kernel_rfl
theorem ty_sz71 : szOf Try.prog 71 = some 1 := by kernel_rfl
theorem ty_by71 : bytesOf Try.prog 71 = some 8 := by kernel_rfl
theorem ty_ki71 : kindT Try.prog 71 = .other := by kernel_rfl
theorem ty_ze71 : zeroOf Try.prog 71 = some [.any] := by kernel_rfl
theorem ty_zz71 : szZ Try.prog 71 = some 1 := by kernel_rfl
theorem ty_sz72 : szOf Try.prog 72 = some 1 := by kernel_rfl
theorem ty_by72 : bytesOf Try.prog 72 = some 8 := by kernel_rfl
theorem ty_ki72 : kindT Try.prog 72 = .other := by kernel_rfl
theorem ty_ze72 : zeroOf Try.prog 72 = some [.any] := by kernel_rfl
theorem ty_zz72 : szZ Try.prog 72 = some 1 := by kernel_rfl
theorem ty_sz73 : szOf Try.prog 73 = some 1 := by kernel_rfl
theorem ty_by73 : bytesOf Try.prog 73 = some 8 := by kernel_rfl
theorem ty_ki73 : kindT Try.prog 73 = .int .u64 := by kernel_rfl
theorem ty_ze73 : zeroOf Try.prog 73 = some [.d (.int .u64 0)] := by kernel_rfl
theorem ty_zz73 : szZ Try.prog 73 = some 1 := by kernel_rfl
theorem ty_sz74 : szOf Try.prog 74 = some 1 := by kernel_rfl
theorem ty_by74 : bytesOf Try.prog 74 = some 8 := by kernel_rfl
theorem ty_ki74 : kindT Try.prog 74 = .other := by kernel_rfl
theorem ty_ze74 : zeroOf Try.prog 74 = some [.any] := by kernel_rfl
theorem ty_zz74 : szZ Try.prog 74 = some 1 := by kernel_rfl
theorem ty_sz75 : szOf Try.prog 75 = some 1 := by kernel_rfl
theorem ty_by75 : bytesOf Try.prog 75 = some 8 := by kernel_rfl
theorem ty_ki75 : kindT Try.prog 75 = .other := by kernel_rfl
theorem ty_ze75 : zeroOf Try.prog 75 = some [.any] := by kernel_rfl
theorem ty_zz75 : szZ Try.prog 75 = some 1 := by kernel_rfl
theorem ty_sz76 : szOf Try.prog 76 = some 1 := by kernel_rfl
theorem ty_by76 : bytesOf Try.prog 76 = some 8 := by kernel_rfl
theorem ty_ki76 : kindT Try.prog 76 = .other := by kernel_rfl
theorem ty_ze76 : zeroOf Try.prog 76 = some [.any] := by kernel_rfl
theorem ty_zz76 : szZ Try.prog 76 = some 1 := by kernel_rfl
theorem ty_sz77 : szOf Try.prog 77 = some 1 := by kernel_rfl
theorem ty_by77 : bytesOf Try.prog 77 = some 8 := by kernel_rfl
theorem ty_ki77 : kindT Try.prog 77 = .other := by kernel_rfl
theorem ty_ze77 : zeroOf Try.prog 77 = some [.any] := by kernel_rfl
theorem ty_zz77 : szZ Try.prog 77 = some 1 := by kernel_rfl
theorem ty_sz78 : szOf Try.prog 78 = some 1 := by kernel_rfl
theorem ty_by78 : bytesOf Try.prog 78 = some 8 := by kernel_rfl
theorem ty_ki78 : kindT Try.prog 78 = .other := by kernel_rfl
theorem ty_ze78 : zeroOf Try.prog 78 = some [.any] := by kernel_rfl
theorem ty_zz78 : szZ Try.prog 78 = some 1 := by kernel_rfl
theorem ty_sz79 : szOf Try.prog 79 = some 1 := by kernel_rfl
theorem ty_by79 : bytesOf Try.prog 79 = some 8 := by kernel_rfl
theorem ty_ki79 : kindT Try.prog 79 = .other := by kernel_rfl
theorem ty_ze79 : zeroOf Try.prog 79 = some [.any] := by kernel_rfl
theorem ty_zz79 : szZ Try.prog 79 = some 1 := by kernel_rfl
theorem ty_sz80 : szOf Try.prog 80 = some 1 := by kernel_rfl
theorem ty_by80 : bytesOf Try.prog 80 = some 8 := by kernel_rfl
theorem ty_ki80 : kindT Try.prog 80 = .int .i64 := by kernel_rfl
theorem ty_ze80 : zeroOf Try.prog 80 = some [.d (.int .i64 0)] := by kernel_rfl
theorem ty_zz80 : szZ Try.prog 80 = some 1 := by kernel_rfl
theorem ty_sz81 : szOf Try.prog 81 = some 1 := by kernel_rfl
theorem ty_by81 : bytesOf Try.prog 81 = some 0 := by kernel_rfl
theorem ty_ki81 : kindT Try.prog 81 = .other := by kernel_rfl
theorem ty_sz82 : szOf Try.prog 82 = some 1 := by kernel_rfl
theorem ty_by82 : bytesOf Try.prog 82 = some 8 := by kernel_rfl
theorem ty_ki82 : kindT Try.prog 82 = .other := by kernel_rfl
theorem ty_ze82 : zeroOf Try.prog 82 = some [.any] := by kernel_rfl
theorem ty_zz82 : szZ Try.prog 82 = some 1 := by kernel_rfl
theorem ty_sz83 : szOf Try.prog 83 = some 1 := by kernel_rfl
theorem ty_by83 : bytesOf Try.prog 83 = some 8 := by kernel_rfl
theorem ty_ki83 : kindT Try.prog 83 = .other := by kernel_rfl
theorem ty_ze83 : zeroOf Try.prog 83 = some [.any] := by kernel_rfl
theorem ty_zz83 : szZ Try.prog 83 = some 1 := by kernel_rfl
theorem ty_sz84 : szOf Try.prog 84 = some 1 := by kernel_rfl
theorem ty_by84 : bytesOf Try.prog 84 = some 8 := by kernel_rfl
theorem ty_ki84 : kindT Try.prog 84 = .other := by kernel_rfl
theorem ty_ze84 : zeroOf Try.prog 84 = some [.any] := by kernel_rfl
theorem ty_zz84 : szZ Try.prog 84 = some 1 := by kernel_rfl
theorem ty_sz85 : szOf Try.prog 85 = some 1 := by kernel_rfl
theorem ty_by85 : bytesOf Try.prog 85 = some 0 := by kernel_rfl
theorem ty_ki85 : kindT Try.prog 85 = .other := by kernel_rfl
theorem ty_sz86 : szOf Try.prog 86 = some 1 := by kernel_rfl
theorem ty_by86 : bytesOf Try.prog 86 = some 8 := by kernel_rfl
theorem ty_ki86 : kindT Try.prog 86 = .other := by kernel_rfl
theorem ty_ze86 : zeroOf Try.prog 86 = some [.any] := by kernel_rfl
theorem ty_zz86 : szZ Try.prog 86 = some 1 := by kernel_rfl
theorem ty_sz87 : szOf Try.prog 87 = some 1 := by kernel_rfl
theorem ty_by87 : bytesOf Try.prog 87 = some 8 := by kernel_rfl
theorem ty_ki87 : kindT Try.prog 87 = .other := by kernel_rfl
theorem ty_ze87 : zeroOf Try.prog 87 = some [.any] := by kernel_rfl
theorem ty_zz87 : szZ Try.prog 87 = some 1 := by kernel_rfl
theorem ty_sz88 : szOf Try.prog 88 = some 1 := by kernel_rfl
theorem ty_by88 : bytesOf Try.prog 88 = some 4 := by kernel_rfl
theorem ty_ki88 : kindT Try.prog 88 = .int .u32 := by kernel_rfl
theorem ty_ze88 : zeroOf Try.prog 88 = some [.d (.int .u32 0)] := by kernel_rfl
theorem ty_zz88 : szZ Try.prog 88 = some 1 := by kernel_rfl
theorem ty_sz89 : szOf Try.prog 89 = some 1 := by kernel_rfl
theorem ty_by89 : bytesOf Try.prog 89 = some 8 := by kernel_rfl
theorem ty_ki89 : kindT Try.prog 89 = .other := by kernel_rfl
theorem ty_ze89 : zeroOf Try.prog 89 = some [.any] := by kernel_rfl
theorem ty_zz89 : szZ Try.prog 89 = some 1 := by kernel_rfl
theorem ty_sz90 : szOf Try.prog 90 = some 1 := by kernel_rfl
theorem ty_by90 : bytesOf Try.prog 90 = some 8 := by kernel_rfl
theorem ty_ki90 : kindT Try.prog 90 = .int .u64 := by kernel_rfl
theorem ty_ze90 : zeroOf Try.prog 90 = some [.d (.int .u64 0)] := by kernel_rfl
theorem ty_zz90 : szZ Try.prog 90 = some 1 := by kernel_rfl
theorem ty_sz91 : szOf Try.prog 91 = some 1 := by kernel_rfl
theorem ty_by91 : bytesOf Try.prog 91 = some 8 := by kernel_rfl
theorem ty_ki91 : kindT Try.prog 91 = .int .u64 := by kernel_rfl
theorem ty_ze91 : zeroOf Try.prog 91 = some [.d (.int .u64 0)] := by kernel_rfl
theorem ty_zz91 : szZ Try.prog 91 = some 1 := by kernel_rfl
theorem ty_sz92 : szOf Try.prog 92 = some 1 := by kernel_rfl
theorem ty_by92 : bytesOf Try.prog 92 = some 8 := by kernel_rfl
theorem ty_ki92 : kindT Try.prog 92 = .other := by kernel_rfl
theorem ty_ze92 : zeroOf Try.prog 92 = some [.any] := by kernel_rfl
theorem ty_zz92 : szZ Try.prog 92 = some 1 := by kernel_rfl
theorem ty_sz93 : szOf Try.prog 93 = some 1 := by kernel_rfl
theorem ty_by93 : bytesOf Try.prog 93 = some 8 := by kernel_rfl
theorem ty_ki93 : kindT Try.prog 93 = .other := by kernel_rfl
theorem ty_ze93 : zeroOf Try.prog 93 = some [.any] := by kernel_rfl
theorem ty_zz93 : szZ Try.prog 93 = some 1 := by kernel_rfl
theorem ty_sz94 : szOf Try.prog 94 = some 1 := by kernel_rfl
theorem ty_by94 : bytesOf Try.prog 94 = some 8 := by kernel_rfl
theorem ty_ki94 : kindT Try.prog 94 = .other := by kernel_rfl
theorem ty_ze94 : zeroOf Try.prog 94 = some [.any] := by kernel_rfl
theorem ty_zz94 : szZ Try.prog 94 = some 1 := by kernel_rfl
theorem ty_sz95 : szOf Try.prog 95 = some 1 := by kernel_rfl
theorem ty_by95 : bytesOf Try.prog 95 = some 8 := by kernel_rfl
theorem ty_ki95 : kindT Try.prog 95 = .ptr := by kernel_rfl
theorem ty_ze95 : zeroOf Try.prog 95 = some [.d .nilp] := by kernel_rfl
theorem ty_zz95 : szZ Try.prog 95 = some 1 := by kernel_rfl
theorem ty_sz96 : szOf Try.prog 96 = some 1 := by kernel_rfl
theorem ty_by96 : bytesOf Try.prog 96 = some 8 := by kernel_rfl
theorem ty_ki96 : kindT Try.prog 96 = .other := by kernel_rfl
theorem ty_ze96 : zeroOf Try.prog 96 = some [.any] := by kernel_rfl
theorem ty_zz96 : szZ Try.prog 96 = some 1 := by kernel_rfl
theorem ty_sz97 : szOf Try.prog 97 = some 1 := by kernel_rfl
theorem ty_by97 : bytesOf Try.prog 97 = some 8 := by kernel_rfl
theorem ty_ki97 : kindT Try.prog 97 = .ptr := by kernel_rfl
theorem ty_ze97 : zeroOf Try.prog 97 = some [.d .nilp] := by kernel_rfl
theorem ty_zz97 : szZ Try.prog 97 = some 1 := by kernel_rfl
theorem ty_sz98 : szOf Try.prog 98 = some 1 := by kernel_rfl
theorem ty_by98 : bytesOf Try.prog 98 = some 0 := by kernel_rfl
theorem ty_ki98 : kindT Try.prog 98 = .other := by kernel_rfl
theorem ty_sz99 : szOf Try.prog 99 = some 1 := by kernel_rfl
theorem ty_by99 : bytesOf Try.prog 99 = some 8 := by kernel_rfl
theorem ty_ki99 : kindT Try.prog 99 = .other := by kernel_rfl
theorem ty_ze99 : zeroOf Try.prog 99 = some [.any] := by kernel_rfl
theorem ty_zz99 : szZ Try.prog 99 = some 1 := by kernel_rfl
theorem ty_sz100 : szOf Try.prog 100 = some 1 := by kernel_rfl
theorem ty_by100 : bytesOf Try.prog 100 = some 8 := by kernel_rfl
theorem ty_ki100 : kindT Try.prog 100 = .other := by kernel_rfl
theorem ty_ze100 : zeroOf Try.prog 100 = some [.any] := by kernel_rfl
theorem ty_zz100 : szZ Try.prog 100 = some 1 := by kernel_rfl
theorem ty_sz101 : szOf Try.prog 101 = some 4 := by kernel_rfl
theorem ty_by101 : bytesOf Try.prog 101 = some 40 := by kernel_rfl
theorem ty_ki101 : kindT Try.prog 101 = .st := by kernel_rfl
theorem ty_ze101 : zeroOf Try.prog 101 = some [.d .nilp, .d .nilp, .d .nilp, .d (.str [])] := by kernel_rfl
theorem ty_fl101_0 : fld Try.prog 101 0 = some (0, 1, 17) := by kernel_rfl
theorem ty_fl101_1 : fld Try.prog 101 1 = some (1, 1, 17) := by kernel_rfl
theorem ty_fl101_2 : fld Try.prog 101 2 = some (2, 1, 17) := by kernel_rfl
theorem ty_fl101_3 : fld Try.prog 101 3 = some (3, 1, 9) := by kernel_rfl
theorem ty_bz101 : buildZ Try.prog 101 = some [.d .nilp, .d .nilp, .d .nilp, .d (.str [])] := by kernel_rfl
theorem ty_zz101 : szZ Try.prog 101 = some 4 := by kernel_rfl
theorem ty_sz103 : szOf Try.prog 103 = some 0 := by kernel_rfl
theorem ty_by103 : bytesOf Try.prog 103 = some 0 := by kernel_rfl
theorem ty_ki103 : kindT Try.prog 103 = .arr 0 16 := by kernel_rfl
theorem ty_ze103 : zeroOf Try.prog 103 = some [] := by kernel_rfl
theorem ty_sz104 : szOf Try.prog 104 = some 0 := by kernel_rfl
theorem ty_by104 : bytesOf Try.prog 104 = some 0 := by kernel_rfl
theorem ty_ki104 : kindT Try.prog 104 = .st := by kernel_rfl
theorem ty_ze104 : zeroOf Try.prog 104 = some [] := by kernel_rfl
theorem ty_fl104_0 : fld Try.prog 104 0 = some (0, 0, 103) := by kernel_rfl
theorem ty_bz104 : buildZ Try.prog 104 = some [] := by kernel_rfl
theorem ty_sz108 : szOf Try.prog 108 = some 1 := by kernel_rfl
theorem ty_by108 : bytesOf Try.prog 108 = some 8 := by kernel_rfl
theorem ty_ki108 : kindT Try.prog 108 = .other := by kernel_rfl
theorem ty_ze108 : zeroOf Try.prog 108 = some [.any] := by kernel_rfl
theorem ty_zz108 : szZ Try.prog 108 = some 1 := by kernel_rfl
theorem ty_sz109 : szOf Try.prog 109 = some 1 := by kernel_rfl
theorem ty_by109 : bytesOf Try.prog 109 = some 8 := by kernel_rfl
theorem ty_ki109 : kindT Try.prog 109 = .ptr := by kernel_rfl
theorem ty_ze109 : zeroOf Try.prog 109 = some [.d .nilp] := by kernel_rfl
theorem ty_zz109 : szZ Try.prog 109 = some 1 := by kernel_rfl
theorem ty_sz112 : szOf Try.prog 112 = some 11 := by kernel_rfl
theorem ty_by112 : bytesOf Try.prog 112 = some 48 := by kernel_rfl
theorem ty_ki112 : kindT Try.prog 112 = .st := by kernel_rfl
theorem ty_ze112 : zeroOf Try.prog 112 = some [.d (.int .u64 0), .d (.int .u64 0), .d (.int .u32 0), .d (.int .u8 0), .d (.int .u8 0), .d (.int .u8 0), .d (.int .u8 0), .any, .d .nilp, .d (.int .i32 0), .d (.int .i32 0)] := by kernel_rfl
theorem ty_fl112_0 : fld Try.prog 112 0 = some (0, 1, 12) := by kernel_rfl
theorem ty_fl112_1 : fld Try.prog 112 1 = some (1, 1, 12) := by kernel_rfl
theorem ty_fl112_2 : fld Try.prog 112 2 = some (2, 1, 88) := by kernel_rfl
theorem ty_fl112_3 : fld Try.prog 112 3 = some (3, 1, 106) := by kernel_rfl
theorem ty_fl112_4 : fld Try.prog 112 4 = some (4, 1, 5) := by kernel_rfl
theorem ty_fl112_5 : fld Try.prog 112 5 = some (5, 1, 5) := by kernel_rfl
theorem ty_fl112_6 : fld Try.prog 112 6 = some (6, 1, 107) := by kernel_rfl
theorem ty_fl112_7 : fld Try.prog 112 7 = some (7, 1, 108) := by kernel_rfl
theorem ty_fl112_8 : fld Try.prog 112 8 = some (8, 1, 109) := by kernel_rfl
theorem ty_fl112_9 : fld Try.prog 112 9 = some (9, 1, 110) := by kernel_rfl
theorem ty_fl112_10 : fld Try.prog 112 10 = some (10, 1, 111) := by kernel_rfl
theorem ty_bz112 : buildZ Try.prog 112 = some [.d (.int .u64 0), .d (.int .u64 0), .d (.int .u32 0), .d (.int .u8 0), .d (.int .u8 0), .d (.int .u8 0), .d (.int .u8 0), .any, .d .nilp, .d (.int .i32 0), .d (.int .i32 0)] := by kernel_rfl
theorem ty_zz112 : szZ Try.prog 112 = some 11 := by kernel_rfl
theorem ty_sz114 : szOf Try.prog 114 = some 1 := by kernel_rfl
theorem ty_by114 : bytesOf Try.prog 114 = some 8 := by kernel_rfl
theorem ty_ki114 : kindT Try.prog 114 = .other := by kernel_rfl
theorem ty_ze114 : zeroOf Try.prog 114 = some [.d .nilp] := by kernel_rfl
theorem ty_zz114 : szZ Try.prog 114 = some 1 := by kernel_rfl
attribute [go_sem] ty_sz0 ty_by0 ty_ki0 ty_sz1 ty_by1 ty_ki1 ty_ze1 ty_zz1 ty_sz2 ty_by2 ty_ki2 ty_ze2
attribute [go_sem] ty_zz2 ty_sz3 ty_by3 ty_ki3 ty_ze3 ty_zz3 ty_sz4 ty_by4 ty_ki4 ty_ze4 ty_zz4 ty_sz5
attribute [go_sem] ty_by5 ty_ki5 ty_ze5 ty_zz5 ty_sz7 ty_by7 ty_ki7 ty_ze7 ty_fl7_0 ty_fl7_1 ty_fl7_2 ty_fl7_3
attribute [go_sem] ty_eq7 ty_bz7 ty_zz7 ty_sz9 ty_by9 ty_ki9 ty_ze9 ty_zz9 ty_sz12 ty_by12 ty_ki12 ty_ze12
attribute [go_sem] ty_zz12 ty_sz13 ty_by13 ty_ki13 ty_ze13 ty_fl13_0 ty_fl13_1 ty_bz13 ty_zz13 ty_sz20 ty_by20 ty_ki20
attribute [go_sem] ty_ze20 ty_zz20 ty_sz21 ty_by21 ty_ki21 ty_ze21 ty_zz21 ty_sz22 ty_by22 ty_ki22 ty_ze22 ty_zz22
attribute [go_sem] ty_sz23 ty_by23 ty_ki23 ty_ze23 ty_zz23 ty_sz24 ty_by24 ty_ki24 ty_ze24 ty_zz24 ty_sz25 ty_by25
attribute [go_sem] ty_ki25 ty_ze25 ty_zz25 ty_sz26 ty_by26 ty_ki26 ty_sz27 ty_by27 ty_ki27 ty_ze27 ty_zz27 ty_sz28
attribute [go_sem] ty_by28 ty_ki28 ty_ze28 ty_zz28 ty_sz29 ty_by29 ty_ki29 ty_ze29 ty_fl29_0 ty_fl29_1 ty_eq29 ty_bz29
attribute [go_sem] ty_zz29 ty_sz30 ty_by30 ty_ki30 ty_ze30 ty_fl30_0 ty_fl30_1 ty_eq30 ty_bz30 ty_zz30 ty_sz31 ty_by31
attribute [go_sem] ty_ki31 ty_ze31 ty_zz31 ty_sz32 ty_by32 ty_ki32 ty_ze32 ty_zz32 ty_sz33 ty_by33 ty_ki33 ty_ze33
attribute [go_sem] ty_zz33 ty_sz34 ty_by34 ty_ki34 ty_ze34 ty_zz34 ty_sz35 ty_by35 ty_ki35 ty_ze35 ty_zz35 ty_sz36
attribute [go_sem] ty_by36 ty_ki36 ty_ze36 ty_zz36 ty_sz37 ty_by37 ty_ki37 ty_ze37 ty_fl37_0 ty_fl37_1 ty_eq37 ty_bz37
attribute [go_sem] ty_zz37 ty_sz38 ty_by38 ty_ki38 ty_ze38 ty_fl38_0 ty_fl38_1 ty_fl38_2 ty_fl38_3 ty_fl38_4 ty_eq38 ty_bz38
attribute [go_sem] ty_zz38 ty_sz39 ty_by39 ty_ki39 ty_ze39 ty_fl39_0 ty_fl39_1 ty_fl39_2 ty_fl39_3 ty_fl39_4 ty_eq39 ty_bz39
attribute [go_sem] ty_zz39 ty_sz40 ty_by40 ty_ki40 ty_ze40 ty_zz40 ty_sz41 ty_by41 ty_ki41 ty_ze41 ty_zz41 ty_sz42
attribute [go_sem] ty_by42 ty_ki42 ty_ze42 ty_zz42 ty_sz43 ty_by43 ty_ki43 ty_ze43 ty_zz43 ty_sz44 ty_by44 ty_ki44
attribute [go_sem] ty_ze44 ty_zz44 ty_sz45 ty_by45 ty_ki45 ty_ze45 ty_zz45 ty_sz46 ty_by46 ty_ki46 ty_ze46 ty_zz46
attribute [go_sem] ty_sz47 ty_by47 ty_ki47 ty_ze47 ty_zz47 ty_sz48 ty_by48 ty_ki48 ty_ze48 ty_zz48 ty_sz49 ty_by49
attribute [go_sem] ty_ki49 ty_ze49 ty_zz49 ty_sz50 ty_by50 ty_ki50 ty_ze50 ty_zz50 ty_sz51 ty_by51 ty_ki51 ty_ze51
attribute [go_sem] ty_zz51 ty_sz52 ty_by52 ty_ki52 ty_ze52 ty_zz52 ty_sz53 ty_by53 ty_ki53 ty_ze53 ty_zz53 ty_sz54
attribute [go_sem] ty_by54 ty_ki54 ty_ze54 ty_zz54 ty_sz55 ty_by55 ty_ki55 ty_ze55 ty_zz55 ty_sz56 ty_by56 ty_ki56
attribute [go_sem] ty_ze56 ty_zz56 ty_sz57 ty_by57 ty_ki57 ty_ze57 ty_zz57 ty_sz58 ty_by58 ty_ki58 ty_ze58 ty_zz58
attribute [go_sem] ty_sz59 ty_by59 ty_ki59 ty_ze59 ty_zz59 ty_sz60 ty_by60 ty_ki60 ty_ze60 ty_zz60 ty_sz61 ty_by61
attribute [go_sem] ty_ki61 ty_ze61 ty_zz61 ty_sz62 ty_by62 ty_ki62 ty_ze62 ty_fl62_0 ty_eq62 ty_bz62 ty_zz62 ty_sz63
attribute [go_sem] ty_by63 ty_ki63 ty_ze63 ty_fl63_0 ty_eq63 ty_bz63 ty_zz63 ty_sz64 ty_by64 ty_ki64 ty_ze64 ty_zz64
attribute [go_sem] ty_sz65 ty_by65 ty_ki65 ty_ze65 ty_zz65 ty_sz66 ty_by66 ty_ki66 ty_ze66 ty_zz66 ty_sz67 ty_by67
attribute [go_sem] ty_ki67 ty_ze67 ty_zz67 ty_sz68 ty_by68 ty_ki68 ty_ze68 ty_zz68 ty_sz69 ty_by69 ty_ki69 ty_ze69
attribute [go_sem] ty_zz69 ty_sz70 ty_by70 ty_ki70 ty_ze70 ty_zz70 ty_sz71 ty_by71 ty_ki71 ty_ze71 ty_zz71 ty_sz72
attribute [go_sem] ty_by72 ty_ki72 ty_ze72 ty_zz72 ty_sz73 ty_by73 ty_ki73 ty_ze73 ty_zz73 ty_sz74 ty_by74 ty_ki74
attribute [go_sem] ty_ze74 ty_zz74 ty_sz75 ty_by75 ty_ki75 ty_ze75 ty_zz75 ty_sz76 ty_by76 ty_ki76 ty_ze76 ty_zz76
attribute [go_sem] ty_sz77 ty_by77 ty_ki77 ty_ze77 ty_zz77 ty_sz78 ty_by78 ty_ki78 ty_ze78 ty_zz78 ty_sz79 ty_by79
attribute [go_sem] ty_ki79 ty_ze79 ty_zz79 ty_sz80 ty_by80 ty_ki80 ty_ze80 ty_zz80 ty_sz81 ty_by81 ty_ki81 ty_sz82
attribute [go_sem] ty_by82 ty_ki82 ty_ze82 ty_zz82 ty_sz83 ty_by83 ty_ki83 ty_ze83 ty_zz83 ty_sz84 ty_by84 ty_ki84
attribute [go_sem] ty_ze84 ty_zz84 ty_sz85 ty_by85 ty_ki85 ty_sz86 ty_by86 ty_ki86 ty_ze86 ty_zz86 ty_sz87 ty_by87
attribute [go_sem] ty_ki87 ty_ze87 ty_zz87 ty_sz88 ty_by88 ty_ki88 ty_ze88 ty_zz88 ty_sz89 ty_by89 ty_ki89 ty_ze89
attribute [go_sem] ty_zz89 ty_sz90 ty_by90 ty_ki90 ty_ze90 ty_zz90 ty_sz91 ty_by91 ty_ki91 ty_ze91 ty_zz91 ty_sz92
attribute [go_sem] ty_by92 ty_ki92 ty_ze92 ty_zz92 ty_sz93 ty_by93 ty_ki93 ty_ze93 ty_zz93 ty_sz94 ty_by94 ty_ki94
attribute [go_sem] ty_ze94 ty_zz94 ty_sz95 ty_by95 ty_ki95 ty_ze95 ty_zz95 ty_sz96 ty_by96 ty_ki96 ty_ze96 ty_zz96
attribute [go_sem] ty_sz97 ty_by97 ty_ki97 ty_ze97 ty_zz97 ty_sz98 ty_by98 ty_ki98 ty_sz99 ty_by99 ty_ki99 ty_ze99
attribute [go_sem] ty_zz99 ty_sz100 ty_by100 ty_ki100 ty_ze100 ty_zz100 ty_sz101 ty_by101 ty_ki101 ty_ze101 ty_fl101_0 ty_fl101_1
attribute [go_sem] ty_fl101_2 ty_fl101_3 ty_bz101 ty_zz101 ty_sz103 ty_by103 ty_ki103 ty_ze103 ty_sz104 ty_by104 ty_ki104 ty_ze104
attribute [go_sem] ty_fl104_0 ty_bz104 ty_sz108 ty_by108 ty_ki108 ty_ze108 ty_zz108 ty_sz109 ty_by109 ty_ki109 ty_ze109 ty_zz109
attribute [go_sem] ty_sz112 ty_by112 ty_ki112 ty_ze112 ty_fl112_0 ty_fl112_1 ty_fl112_2 ty_fl112_3 ty_fl112_4 ty_fl112_5 ty_fl112_6 ty_fl112_7
attribute [go_sem] ty_fl112_8 ty_fl112_9 ty_fl112_10 ty_bz112 ty_zz112 ty_sz114 ty_by114 ty_ki114 ty_ze114 ty_zz114
end Go.Proofs.Ytdmambkajegldaa
