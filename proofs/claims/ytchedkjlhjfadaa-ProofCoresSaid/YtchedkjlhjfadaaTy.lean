/- Facts on the types of this program. Conditions: none. -/
import Derived.Test.YtchedkjlhjfadaaAbX4
import Derived.Test.YtchedkjlhjfadaaProg
namespace Go.Proofs.Ytchedkjlhjfadaa
open Go.Ab
theorem ty_sz0 : szOf Try.prog 0 = some 1 := by kernel_rfl
theorem ty_by0 : bytesOf Try.prog 0 = some 0 := by kernel_rfl
theorem ty_ki0 : kindT Try.prog 0 = .other := by kernel_rfl
theorem ty_sz1 : szOf Try.prog 1 = some 1 := by kernel_rfl
theorem ty_by1 : bytesOf Try.prog 1 = some 8 := by kernel_rfl
theorem ty_ki1 : kindT Try.prog 1 = .other := by kernel_rfl
theorem ty_ze1 : zeroOf Try.prog 1 = some [.any] := by kernel_rfl
theorem ty_zz1 : szZ Try.prog 1 = some 1 := by kernel_rfl
theorem ty_sz2 : szOf Try.prog 2 = some 1 := by kernel_rfl
theorem ty_by2 : bytesOf Try.prog 2 = some 8 := by kernel_rfl
theorem ty_ki2 : kindT Try.prog 2 = .int .i64 := by kernel_rfl
theorem ty_ze2 : zeroOf Try.prog 2 = some [.d (.int .i64 0)] := by kernel_rfl
theorem ty_zz2 : szZ Try.prog 2 = some 1 := by kernel_rfl
theorem ty_sz3 : szOf Try.prog 3 = some 1 := by kernel_rfl
theorem ty_by3 : bytesOf Try.prog 3 = some 8 := by kernel_rfl
theorem ty_ki3 : kindT Try.prog 3 = .int .i64 := by kernel_rfl
theorem ty_ze3 : zeroOf Try.prog 3 = some [.d (.int .i64 0)] := by kernel_rfl
theorem ty_zz3 : szZ Try.prog 3 = some 1 := by kernel_rfl
theorem ty_sz4 : szOf Try.prog 4 = some 1 := by kernel_rfl
theorem ty_by4 : bytesOf Try.prog 4 = some 1 := by kernel_rfl
theorem ty_ki4 : kindT Try.prog 4 = .bool := by kernel_rfl
theorem ty_ze4 : zeroOf Try.prog 4 = some [.d (.bool false)] := by kernel_rfl
theorem ty_zz4 : szZ Try.prog 4 = some 1 := by kernel_rfl
theorem ty_sz5 : szOf Try.prog 5 = some 1 := by kernel_rfl
theorem ty_by5 : bytesOf Try.prog 5 = some 1 := by kernel_rfl
theorem ty_ki5 : kindT Try.prog 5 = .int .u8 := by kernel_rfl
theorem ty_ze5 : zeroOf Try.prog 5 = some [.d (.int .u8 0)] := by kernel_rfl
theorem ty_zz5 : szZ Try.prog 5 = some 1 := by kernel_rfl
theorem ty_sz7 : szOf Try.prog 7 = some 4 := by kernel_rfl
theorem ty_by7 : bytesOf Try.prog 7 = some 24 := by kernel_rfl
theorem ty_ki7 : kindT Try.prog 7 = .st := by kernel_rfl
theorem ty_ze7 : zeroOf Try.prog 7 = some [.d (.int .i64 0), .d (.int .i64 0), .d (.bool false), .d (.int .u8 0)] := by kernel_rfl
theorem ty_fl7_0 : fld Try.prog 7 0 = some (0, 1, 2) := by kernel_rfl
theorem ty_fl7_1 : fld Try.prog 7 1 = some (1, 1, 3) := by kernel_rfl
theorem ty_fl7_2 : fld Try.prog 7 2 = some (2, 1, 4) := by kernel_rfl
theorem ty_fl7_3 : fld Try.prog 7 3 = some (3, 1, 6) := by kernel_rfl
theorem ty_eq7 : eqFs Try.prog 7 = some [(2, 0), (3, 1), (4, 2), (6, 3)] := by kernel_rfl
theorem ty_bz7 : buildZ Try.prog 7 = some [.d (.int .i64 0), .d (.int .i64 0), .d (.bool false), .d (.int .u8 0)] := by kernel_rfl
theorem ty_zz7 : szZ Try.prog 7 = some 4 := by kernel_rfl
theorem ty_sz9 : szOf Try.prog 9 = some 1 := by kernel_rfl
theorem ty_by9 : bytesOf Try.prog 9 = some 16 := by kernel_rfl
theorem ty_ki9 : kindT Try.prog 9 = .str := by kernel_rfl
theorem ty_ze9 : zeroOf Try.prog 9 = some [.d (.str [])] := by kernel_rfl
theorem ty_zz9 : szZ Try.prog 9 = some 1 := by kernel_rfl
theorem ty_sz12 : szOf Try.prog 12 = some 1 := by kernel_rfl
theorem ty_by12 : bytesOf Try.prog 12 = some 8 := by kernel_rfl
theorem ty_ki12 : kindT Try.prog 12 = .int .u64 := by kernel_rfl
theorem ty_ze12 : zeroOf Try.prog 12 = some [.d (.int .u64 0)] := by kernel_rfl
theorem ty_zz12 : szZ Try.prog 12 = some 1 := by kernel_rfl
theorem ty_sz13 : szOf Try.prog 13 = some 2 := by kernel_rfl
theorem ty_by13 : bytesOf Try.prog 13 = some 24 := by kernel_rfl
theorem ty_ki13 : kindT Try.prog 13 = .st := by kernel_rfl
theorem ty_ze13 : zeroOf Try.prog 13 = some [.d (.str []), .d (.int .u64 0)] := by kernel_rfl
theorem ty_fl13_0 : fld Try.prog 13 0 = some (0, 1, 9) := by kernel_rfl
theorem ty_fl13_1 : fld Try.prog 13 1 = some (1, 1, 12) := by kernel_rfl
theorem ty_bz13 : buildZ Try.prog 13 = some [.d (.str []), .d (.int .u64 0)] := by kernel_rfl
theorem ty_zz13 : szZ Try.prog 13 = some 2 := by kernel_rfl
theorem ty_sz20 : szOf Try.prog 20 = some 1 := by kernel_rfl
theorem ty_by20 : bytesOf Try.prog 20 = some 16 := by kernel_rfl
theorem ty_ki20 : kindT Try.prog 20 = .ifc := by kernel_rfl
theorem ty_ze20 : zeroOf Try.prog 20 = some [.any] := by kernel_rfl
theorem ty_zz20 : szZ Try.prog 20 = some 1 := by kernel_rfl
theorem ty_sz21 : szOf Try.prog 21 = some 1 := by kernel_rfl
theorem ty_by21 : bytesOf Try.prog 21 = some 4 := by kernel_rfl
theorem ty_ki21 : kindT Try.prog 21 = .int .i32 := by kernel_rfl
theorem ty_ze21 : zeroOf Try.prog 21 = some [.d (.int .i32 0)] := by kernel_rfl
theorem ty_zz21 : szZ Try.prog 21 = some 1 := by kernel_rfl
theorem ty_sz22 : szOf Try.prog 22 = some 1 := by kernel_rfl
theorem ty_by22 : bytesOf Try.prog 22 = some 24 := by kernel_rfl
theorem ty_ki22 : kindT Try.prog 22 = .sl 43 := by kernel_rfl
theorem ty_ze22 : zeroOf Try.prog 22 = some [.full []] := by kernel_rfl
theorem ty_zz22 : szZ Try.prog 22 = some 1 := by kernel_rfl
theorem ty_sz23 : szOf Try.prog 23 = some 2 := by kernel_rfl
theorem ty_by23 : bytesOf Try.prog 23 = some 32 := by kernel_rfl
theorem ty_ki23 : kindT Try.prog 23 = .st := by kernel_rfl
theorem ty_ze23 : zeroOf Try.prog 23 = some [.d (.int .i64 0), .full []] := by kernel_rfl
theorem ty_fl23_0 : fld Try.prog 23 0 = some (0, 1, 3) := by kernel_rfl
theorem ty_fl23_1 : fld Try.prog 23 1 = some (1, 1, 22) := by kernel_rfl
theorem ty_eq23 : eqFs Try.prog 23 = some [(3, 0), (22, 1)] := by kernel_rfl
theorem ty_bz23 : buildZ Try.prog 23 = some [.d (.int .i64 0), .full []] := by kernel_rfl
theorem ty_zz23 : szZ Try.prog 23 = some 2 := by kernel_rfl
theorem ty_sz24 : szOf Try.prog 24 = some 2 := by kernel_rfl
theorem ty_by24 : bytesOf Try.prog 24 = some 32 := by kernel_rfl
theorem ty_ki24 : kindT Try.prog 24 = .st := by kernel_rfl
theorem ty_ze24 : zeroOf Try.prog 24 = some [.d (.int .i64 0), .full []] := by kernel_rfl
theorem ty_fl24_0 : fld Try.prog 24 0 = some (0, 1, 3) := by kernel_rfl
theorem ty_fl24_1 : fld Try.prog 24 1 = some (1, 1, 22) := by kernel_rfl
theorem ty_eq24 : eqFs Try.prog 24 = some [(3, 0), (22, 1)] := by kernel_rfl
theorem ty_bz24 : buildZ Try.prog 24 = some [.d (.int .i64 0), .full []] := by kernel_rfl
theorem ty_zz24 : szZ Try.prog 24 = some 2 := by kernel_rfl
theorem ty_sz25 : szOf Try.prog 25 = some 1 := by kernel_rfl
theorem ty_by25 : bytesOf Try.prog 25 = some 8 := by kernel_rfl
theorem ty_ki25 : kindT Try.prog 25 = .other := by kernel_rfl
theorem ty_ze25 : zeroOf Try.prog 25 = some [.any] := by kernel_rfl
theorem ty_zz25 : szZ Try.prog 25 = some 1 := by kernel_rfl
theorem ty_sz26 : szOf Try.prog 26 = some 1 := by kernel_rfl
theorem ty_by26 : bytesOf Try.prog 26 = some 8 := by kernel_rfl
theorem ty_ki26 : kindT Try.prog 26 = .other := by kernel_rfl
theorem ty_ze26 : zeroOf Try.prog 26 = some [.any] := by kernel_rfl
theorem ty_zz26 : szZ Try.prog 26 = some 1 := by kernel_rfl
theorem ty_sz27 : szOf Try.prog 27 = some 1 := by kernel_rfl
theorem ty_by27 : bytesOf Try.prog 27 = some 24 := by kernel_rfl
theorem ty_ki27 : kindT Try.prog 27 = .sl 67 := by kernel_rfl
theorem ty_ze27 : zeroOf Try.prog 27 = some [.full []] := by kernel_rfl
theorem ty_zz27 : szZ Try.prog 27 = some 1 := by kernel_rfl
theorem ty_sz28 : szOf Try.prog 28 = some 1 := by kernel_rfl
theorem ty_by28 : bytesOf Try.prog 28 = some 0 := by kernel_rfl
theorem ty_ki28 : kindT Try.prog 28 = .other := by kernel_rfl
theorem ty_sz29 : szOf Try.prog 29 = some 1 := by kernel_rfl
theorem ty_by29 : bytesOf Try.prog 29 = some 8 := by kernel_rfl
theorem ty_ki29 : kindT Try.prog 29 = .other := by kernel_rfl
theorem ty_ze29 : zeroOf Try.prog 29 = some [.any] := by kernel_rfl
theorem ty_zz29 : szZ Try.prog 29 = some 1 := by kernel_rfl
theorem ty_sz30 : szOf Try.prog 30 = some 2 := by kernel_rfl
theorem ty_by30 : bytesOf Try.prog 30 = some 32 := by kernel_rfl
theorem ty_ki30 : kindT Try.prog 30 = .st := by kernel_rfl
theorem ty_ze30 : zeroOf Try.prog 30 = some [.d (.int .i64 0), .full []] := by kernel_rfl
theorem ty_fl30_0 : fld Try.prog 30 0 = some (0, 1, 3) := by kernel_rfl
theorem ty_fl30_1 : fld Try.prog 30 1 = some (1, 1, 22) := by kernel_rfl
theorem ty_eq30 : eqFs Try.prog 30 = some [(3, 0), (22, 1)] := by kernel_rfl
theorem ty_bz30 : buildZ Try.prog 30 = some [.d (.int .i64 0), .full []] := by kernel_rfl
theorem ty_zz30 : szZ Try.prog 30 = some 2 := by kernel_rfl
theorem ty_sz31 : szOf Try.prog 31 = some 1 := by kernel_rfl
theorem ty_by31 : bytesOf Try.prog 31 = some 8 := by kernel_rfl
theorem ty_ki31 : kindT Try.prog 31 = .other := by kernel_rfl
theorem ty_ze31 : zeroOf Try.prog 31 = some [.any] := by kernel_rfl
theorem ty_zz31 : szZ Try.prog 31 = some 1 := by kernel_rfl
theorem ty_sz32 : szOf Try.prog 32 = some 1 := by kernel_rfl
theorem ty_by32 : bytesOf Try.prog 32 = some 8 := by kernel_rfl
theorem ty_ki32 : kindT Try.prog 32 = .other := by kernel_rfl
theorem ty_ze32 : zeroOf Try.prog 32 = some [.any] := by kernel_rfl
theorem ty_zz32 : szZ Try.prog 32 = some 1 := by kernel_rfl
theorem ty_sz33 : szOf Try.prog 33 = some 1 := by kernel_rfl
theorem ty_by33 : bytesOf Try.prog 33 = some 24 := by kernel_rfl
theorem ty_ki33 : kindT Try.prog 33 = .sl 37 := by kernel_rfl
theorem ty_ze33 : zeroOf Try.prog 33 = some [.full []] := by kernel_rfl
theorem ty_zz33 : szZ Try.prog 33 = some 1 := by kernel_rfl
theorem ty_sz34 : szOf Try.prog 34 = some 1 := by kernel_rfl
theorem ty_by34 : bytesOf Try.prog 34 = some 8 := by kernel_rfl
theorem ty_ki34 : kindT Try.prog 34 = .other := by kernel_rfl
theorem ty_ze34 : zeroOf Try.prog 34 = some [.any] := by kernel_rfl
theorem ty_zz34 : szZ Try.prog 34 = some 1 := by kernel_rfl
theorem ty_sz35 : szOf Try.prog 35 = some 1 := by kernel_rfl
theorem ty_by35 : bytesOf Try.prog 35 = some 24 := by kernel_rfl
theorem ty_ki35 : kindT Try.prog 35 = .sl 66 := by kernel_rfl
theorem ty_ze35 : zeroOf Try.prog 35 = some [.full []] := by kernel_rfl
theorem ty_zz35 : szZ Try.prog 35 = some 1 := by kernel_rfl
theorem ty_sz36 : szOf Try.prog 36 = some 1 := by kernel_rfl
theorem ty_by36 : bytesOf Try.prog 36 = some 8 := by kernel_rfl
theorem ty_ki36 : kindT Try.prog 36 = .other := by kernel_rfl
theorem ty_ze36 : zeroOf Try.prog 36 = some [.any] := by kernel_rfl
theorem ty_zz36 : szZ Try.prog 36 = some 1 := by kernel_rfl
theorem ty_sz37 : szOf Try.prog 37 = some 1 := by kernel_rfl
theorem ty_by37 : bytesOf Try.prog 37 = some 24 := by kernel_rfl
theorem ty_ki37 : kindT Try.prog 37 = .sl 4 := by kernel_rfl
theorem ty_ze37 : zeroOf Try.prog 37 = some [.full []] := by kernel_rfl
theorem ty_zz37 : szZ Try.prog 37 = some 1 := by kernel_rfl
theorem ty_sz38 : szOf Try.prog 38 = some 1 := by kernel_rfl
theorem ty_by38 : bytesOf Try.prog 38 = some 8 := by kernel_rfl
theorem ty_ki38 : kindT Try.prog 38 = .other := by kernel_rfl
theorem ty_ze38 : zeroOf Try.prog 38 = some [.any] := by kernel_rfl
theorem ty_zz38 : szZ Try.prog 38 = some 1 := by kernel_rfl
theorem ty_sz39 : szOf Try.prog 39 = some 1 := by kernel_rfl
theorem ty_by39 : bytesOf Try.prog 39 = some 8 := by kernel_rfl
theorem ty_ki39 : kindT Try.prog 39 = .other := by kernel_rfl
theorem ty_ze39 : zeroOf Try.prog 39 = some [.any] := by kernel_rfl
theorem ty_zz39 : szZ Try.prog 39 = some 1 := by kernel_rfl
theorem ty_sz40 : szOf Try.prog 40 = some 1 := by kernel_rfl
theorem ty_by40 : bytesOf Try.prog 40 = some 8 := by kernel_rfl
theorem ty_ki40 : kindT Try.prog 40 = .other := by kernel_rfl
theorem ty_ze40 : zeroOf Try.prog 40 = some [.any] := by kernel_rfl
theorem ty_zz40 : szZ Try.prog 40 = some 1 := by kernel_rfl
theorem ty_sz41 : szOf Try.prog 41 = some 1 := by kernel_rfl
theorem ty_by41 : bytesOf Try.prog 41 = some 8 := by kernel_rfl
theorem ty_ki41 : kindT Try.prog 41 = .other := by kernel_rfl
theorem ty_ze41 : zeroOf Try.prog 41 = some [.any] := by kernel_rfl
theorem ty_zz41 : szZ Try.prog 41 = some 1 := by kernel_rfl
theorem ty_sz42 : szOf Try.prog 42 = some 1 := by kernel_rfl
theorem ty_by42 : bytesOf Try.prog 42 = some 8 := by kernel_rfl
theorem ty_ki42 : kindT Try.prog 42 = .other := by kernel_rfl
theorem ty_ze42 : zeroOf Try.prog 42 = some [.any] := by kernel_rfl
theorem ty_zz42 : szZ Try.prog 42 = some 1 := by kernel_rfl
theorem ty_sz43 : szOf Try.prog 43 = some 1 := by kernel_rfl
theorem ty_by43 : bytesOf Try.prog 43 = some 24 := by kernel_rfl
theorem ty_ki43 : kindT Try.prog 43 = .sl 3 := by kernel_rfl
theorem ty_ze43 : zeroOf Try.prog 43 = some [.full []] := by kernel_rfl
theorem ty_zz43 : szZ Try.prog 43 = some 1 := by kernel_rfl
theorem ty_sz44 : szOf Try.prog 44 = some 1 := by kernel_rfl
theorem ty_by44 : bytesOf Try.prog 44 = some 8 := by kernel_rfl
theorem ty_ki44 : kindT Try.prog 44 = .other := by kernel_rfl
theorem ty_ze44 : zeroOf Try.prog 44 = some [.any] := by kernel_rfl
theorem ty_zz44 : szZ Try.prog 44 = some 1 := by kernel_rfl
theorem ty_sz45 : szOf Try.prog 45 = some 1 := by kernel_rfl
theorem ty_by45 : bytesOf Try.prog 45 = some 8 := by kernel_rfl
theorem ty_ki45 : kindT Try.prog 45 = .other := by kernel_rfl
theorem ty_ze45 : zeroOf Try.prog 45 = some [.any] := by kernel_rfl
theorem ty_zz45 : szZ Try.prog 45 = some 1 := by kernel_rfl
theorem ty_sz46 : szOf Try.prog 46 = some 1 := by kernel_rfl
theorem ty_by46 : bytesOf Try.prog 46 = some 8 := by kernel_rfl
theorem ty_ki46 : kindT Try.prog 46 = .other := by kernel_rfl
theorem ty_ze46 : zeroOf Try.prog 46 = some [.any] := by kernel_rfl
theorem ty_zz46 : szZ Try.prog 46 = some 1 := by kernel_rfl
theorem ty_sz47 : szOf Try.prog 47 = some 1 := by kernel_rfl
theorem ty_by47 : bytesOf Try.prog 47 = some 0 := by kernel_rfl
theorem ty_ki47 : kindT Try.prog 47 = .other := by kernel_rfl
theorem ty_sz48 : szOf Try.prog 48 = some 1 := by kernel_rfl
theorem ty_by48 : bytesOf Try.prog 48 = some 8 := by kernel_rfl
theorem ty_ki48 : kindT Try.prog 48 = .other := by kernel_rfl
theorem ty_ze48 : zeroOf Try.prog 48 = some [.any] := by kernel_rfl
theorem ty_zz48 : szZ Try.prog 48 = some 1 := by kernel_rfl
theorem ty_sz49 : szOf Try.prog 49 = some 1 := by kernel_rfl
theorem ty_by49 : bytesOf Try.prog 49 = some 8 := by kernel_rfl
theorem ty_ki49 : kindT Try.prog 49 = .other := by kernel_rfl
theorem ty_ze49 : zeroOf Try.prog 49 = some [.any] := by kernel_rfl
theorem ty_zz49 : szZ Try.prog 49 = some 1 := by kernel_rfl
theorem ty_sz50 : szOf Try.prog 50 = some 1 := by kernel_rfl
theorem ty_by50 : bytesOf Try.prog 50 = some 8 := by kernel_rfl
theorem ty_ki50 : kindT Try.prog 50 = .other := by kernel_rfl
theorem ty_ze50 : zeroOf Try.prog 50 = some [.any] := by kernel_rfl
theorem ty_zz50 : szZ Try.prog 50 = some 1 := by kernel_rfl
theorem ty_sz51 : szOf Try.prog 51 = some 1 := by kernel_rfl
theorem ty_by51 : bytesOf Try.prog 51 = some 8 := by kernel_rfl
theorem ty_ki51 : kindT Try.prog 51 = .other := by kernel_rfl
theorem ty_ze51 : zeroOf Try.prog 51 = some [.any] := by kernel_rfl
theorem ty_zz51 : szZ Try.prog 51 = some 1 := by kernel_rfl
theorem ty_sz52 : szOf Try.prog 52 = some 1 := by kernel_rfl
theorem ty_by52 : bytesOf Try.prog 52 = some 8 := by kernel_rfl
theorem ty_ki52 : kindT Try.prog 52 = .other := by kernel_rfl
theorem ty_ze52 : zeroOf Try.prog 52 = some [.any] := by kernel_rfl
theorem ty_zz52 : szZ Try.prog 52 = some 1 := by kernel_rfl
theorem ty_sz53 : szOf Try.prog 53 = some 1 := by kernel_rfl
theorem ty_by53 : bytesOf Try.prog 53 = some 8 := by kernel_rfl
theorem ty_ki53 : kindT Try.prog 53 = .ptr := by kernel_rfl
theorem ty_ze53 : zeroOf Try.prog 53 = some [.d .nilp] := by kernel_rfl
theorem ty_zz53 : szZ Try.prog 53 = some 1 := by kernel_rfl
theorem ty_sz54 : szOf Try.prog 54 = some 1 := by kernel_rfl
theorem ty_by54 : bytesOf Try.prog 54 = some 8 := by kernel_rfl
theorem ty_ki54 : kindT Try.prog 54 = .other := by kernel_rfl
theorem ty_ze54 : zeroOf Try.prog 54 = some [.any] := by kernel_rfl
theorem ty_zz54 : szZ Try.prog 54 = some 1 := by kernel_rfl
theorem ty_sz55 : szOf Try.prog 55 = some 1 := by kernel_rfl
theorem ty_by55 : bytesOf Try.prog 55 = some 8 := by kernel_rfl
theorem ty_ki55 : kindT Try.prog 55 = .other := by kernel_rfl
theorem ty_ze55 : zeroOf Try.prog 55 = some [.any] := by kernel_rfl
theorem ty_zz55 : szZ Try.prog 55 = some 1 := by kernel_rfl
theorem ty_sz56 : szOf Try.prog 56 = some 1 := by kernel_rfl
theorem ty_by56 : bytesOf Try.prog 56 = some 8 := by kernel_rfl
theorem ty_ki56 : kindT Try.prog 56 = .other := by kernel_rfl
theorem ty_ze56 : zeroOf Try.prog 56 = some [.any] := by kernel_rfl
theorem ty_zz56 : szZ Try.prog 56 = some 1 := by kernel_rfl
theorem ty_sz57 : szOf Try.prog 57 = some 1 := by kernel_rfl
theorem ty_by57 : bytesOf Try.prog 57 = some 8 := by kernel_rfl
theorem ty_ki57 : kindT Try.prog 57 = .other := by kernel_rfl
theorem ty_ze57 : zeroOf Try.prog 57 = some [.any] := by kernel_rfl
theorem ty_zz57 : szZ Try.prog 57 = some 1 := by kernel_rfl
theorem ty_sz58 : szOf Try.prog 58 = some 1 := by kernel_rfl
theorem ty_by58 : bytesOf Try.prog 58 = some 8 := by kernel_rfl
theorem ty_ki58 : kindT Try.prog 58 = .other := by kernel_rfl
theorem ty_ze58 : zeroOf Try.prog 58 = some [.any] := by kernel_rfl
theorem ty_zz58 : szZ Try.prog 58 = some 1 := by kernel_rfl
theorem ty_sz59 : szOf Try.prog 59 = some 1 := by kernel_rfl
theorem ty_by59 : bytesOf Try.prog 59 = some 8 := by kernel_rfl
theorem ty_ki59 : kindT Try.prog 59 = .other := by kernel_rfl
theorem ty_ze59 : zeroOf Try.prog 59 = some [.any] := by kernel_rfl
theorem ty_zz59 : szZ Try.prog 59 = some 1 := by kernel_rfl
theorem ty_sz60 : szOf Try.prog 60 = some 1 := by kernel_rfl
theorem ty_by60 : bytesOf Try.prog 60 = some 8 := by kernel_rfl
theorem ty_ki60 : kindT Try.prog 60 = .other := by kernel_rfl
theorem ty_ze60 : zeroOf Try.prog 60 = some [.any] := by kernel_rfl
theorem ty_zz60 : szZ Try.prog 60 = some 1 := by kernel_rfl
theorem ty_sz61 : szOf Try.prog 61 = some 1 := by kernel_rfl
theorem ty_by61 : bytesOf Try.prog 61 = some 0 := by kernel_rfl
theorem ty_ki61 : kindT Try.prog 61 = .other := by kernel_rfl
theorem ty_sz62 : szOf Try.prog 62 = some 1 := by kernel_rfl
theorem ty_by62 : bytesOf Try.prog 62 = some 8 := by kernel_rfl
theorem ty_ki62 : kindT Try.prog 62 = .other := by kernel_rfl
theorem ty_ze62 : zeroOf Try.prog 62 = some [.any] := by kernel_rfl
theorem ty_zz62 : szZ Try.prog 62 = some 1 := by kernel_rfl
theorem ty_sz63 : szOf Try.prog 63 = some 1 := by kernel_rfl
theorem ty_by63 : bytesOf Try.prog 63 = some 8 := by kernel_rfl
theorem ty_ki63 : kindT Try.prog 63 = .other := by kernel_rfl
theorem ty_ze63 : zeroOf Try.prog 63 = some [.any] := by kernel_rfl
theorem ty_zz63 : szZ Try.prog 63 = some 1 := by kernel_rfl
theorem ty_sz64 : szOf Try.prog 64 = some 1 := by kernel_rfl
theorem ty_by64 : bytesOf Try.prog 64 = some 8 := by kernel_rfl
theorem ty_ki64 : kindT Try.prog 64 = .other := by kernel_rfl
theorem ty_ze64 : zeroOf Try.prog 64 = some [.any] := by kernel_rfl
theorem ty_zz64 : szZ Try.prog 64 = some 1 := by kernel_rfl
theorem ty_sz65 : szOf Try.prog 65 = some 3 := by kernel_rfl
theorem ty_by65 : bytesOf Try.prog 65 = some 24 := by kernel_rfl
theorem ty_ki65 : kindT Try.prog 65 = .st := by kernel_rfl
theorem ty_ze65 : zeroOf Try.prog 65 = some [.d (.int .i64 0), .d (.int .i64 0), .d (.int .i64 0)] := by kernel_rfl
theorem ty_fl65_0 : fld Try.prog 65 0 = some (0, 1, 3) := by kernel_rfl
theorem ty_fl65_1 : fld Try.prog 65 1 = some (1, 1, 3) := by kernel_rfl
theorem ty_fl65_2 : fld Try.prog 65 2 = some (2, 1, 3) := by kernel_rfl
theorem ty_eq65 : eqFs Try.prog 65 = some [(3, 0), (3, 1), (3, 2)] := by kernel_rfl
theorem ty_bz65 : buildZ Try.prog 65 = some [.d (.int .i64 0), .d (.int .i64 0), .d (.int .i64 0)] := by kernel_rfl
theorem ty_zz65 : szZ Try.prog 65 = some 3 := by kernel_rfl
theorem ty_sz66 : szOf Try.prog 66 = some 3 := by kernel_rfl
theorem ty_by66 : bytesOf Try.prog 66 = some 24 := by kernel_rfl
theorem ty_ki66 : kindT Try.prog 66 = .st := by kernel_rfl
theorem ty_ze66 : zeroOf Try.prog 66 = some [.d (.int .i64 0), .d (.int .i64 0), .d (.int .i64 0)] := by kernel_rfl
theorem ty_fl66_0 : fld Try.prog 66 0 = some (0, 1, 3) := by kernel_rfl
theorem ty_fl66_1 : fld Try.prog 66 1 = some (1, 1, 3) := by kernel_rfl
theorem ty_fl66_2 : fld Try.prog 66 2 = some (2, 1, 3) := by kernel_rfl
theorem ty_eq66 : eqFs Try.prog 66 = some [(3, 0), (3, 1), (3, 2)] := by kernel_rfl
theorem ty_bz66 : buildZ Try.prog 66 = some [.d (.int .i64 0), .d (.int .i64 0), .d (.int .i64 0)] := by kernel_rfl
theorem ty_zz66 : szZ Try.prog 66 = some 3 := by kernel_rfl
theorem ty_sz67 : szOf Try.prog 67 = some 3 := by kernel_rfl
theorem ty_by67 : bytesOf Try.prog 67 = some 24 := by kernel_rfl
theorem ty_ki67 : kindT Try.prog 67 = .st := by kernel_rfl
theorem ty_ze67 : zeroOf Try.prog 67 = some [.d (.int .i64 0), .d (.int .i64 0), .d (.int .i64 0)] := by kernel_rfl
theorem ty_fl67_0 : fld Try.prog 67 0 = some (0, 1, 3) := by kernel_rfl
theorem ty_fl67_1 : fld Try.prog 67 1 = some (1, 1, 3) := by kernel_rfl
theorem ty_fl67_2 : fld Try.prog 67 2 = some (2, 1, 3) := by kernel_rfl
theorem ty_eq67 : eqFs Try.prog 67 = some [(3, 0), (3, 1), (3, 2)] := by kernel_rfl
theorem ty_bz67 : buildZ Try.prog 67 = some [.d (.int .i64 0), .d (.int .i64 0), .d (.int .i64 0)] := by kernel_rfl
theorem ty_zz67 : szZ Try.prog 67 = some 3 := by kernel_rfl
theorem ty_sz68 : szOf Try.prog 68 = some 1 := by kernel_rfl
theorem ty_by68 : bytesOf Try.prog 68 = some 8 := by kernel_rfl
theorem ty_ki68 : kindT Try.prog 68 = .other := by kernel_rfl
theorem ty_ze68 : zeroOf Try.prog 68 = some [.any] := by kernel_rfl
theorem ty_zz68 : szZ Try.prog 68 = some 1 := by kernel_rfl
theorem ty_sz69 : szOf Try.prog 69 = some 1 := by kernel_rfl
theorem ty_by69 : bytesOf Try.prog 69 = some 8 := by kernel_rfl
theorem ty_ki69 : kindT Try.prog 69 = .ptr := by kernel_rfl
theorem ty_ze69 : zeroOf Try.prog 69 = some [.d .nilp] := by kernel_rfl
theorem ty_zz69 : szZ Try.prog 69 = some 1 := by kernel_rfl
theorem ty_sz70 : szOf Try.prog 70 = some 1 := by kernel_rfl
theorem ty_by70 : bytesOf Try.prog 70 = some 8 := by kernel_rfl
theorem ty_ki70 : kindT Try.prog 70 = .other := by kernel_rfl
theorem ty_ze70 : zeroOf Try.prog 70 = some [.any] := by kernel_rfl
theorem ty_zz70 : szZ Try.prog 70 = some 1 := by kernel_rfl
theorem ty_sz71 : szOf Try.prog 71 = some 4 := by kernel_rfl
theorem ty_by71 : bytesOf Try.prog 71 = some 80 := by kernel_rfl
theorem ty_ki71 : kindT Try.prog 71 = .st := by kernel_rfl
theorem ty_ze71 : zeroOf Try.prog 71 = some [.d (.int .i64 0), .full [], .full [], .full []] := by kernel_rfl
theorem ty_fl71_0 : fld Try.prog 71 0 = some (0, 1, 3) := by kernel_rfl
theorem ty_fl71_1 : fld Try.prog 71 1 = some (1, 1, 22) := by kernel_rfl
theorem ty_fl71_2 : fld Try.prog 71 2 = some (2, 1, 27) := by kernel_rfl
theorem ty_fl71_3 : fld Try.prog 71 3 = some (3, 1, 43) := by kernel_rfl
theorem ty_eq71 : eqFs Try.prog 71 = some [(3, 0), (22, 1), (27, 2), (43, 3)] := by kernel_rfl
theorem ty_bz71 : buildZ Try.prog 71 = some [.d (.int .i64 0), .full [], .full [], .full []] := by kernel_rfl
theorem ty_zz71 : szZ Try.prog 71 = some 4 := by kernel_rfl
theorem ty_sz72 : szOf Try.prog 72 = some 4 := by kernel_rfl
theorem ty_by72 : bytesOf Try.prog 72 = some 80 := by kernel_rfl
theorem ty_ki72 : kindT Try.prog 72 = .st := by kernel_rfl
theorem ty_ze72 : zeroOf Try.prog 72 = some [.d (.int .i64 0), .full [], .full [], .full []] := by kernel_rfl
theorem ty_fl72_0 : fld Try.prog 72 0 = some (0, 1, 3) := by kernel_rfl
theorem ty_fl72_1 : fld Try.prog 72 1 = some (1, 1, 22) := by kernel_rfl
theorem ty_fl72_2 : fld Try.prog 72 2 = some (2, 1, 27) := by kernel_rfl
theorem ty_fl72_3 : fld Try.prog 72 3 = some (3, 1, 43) := by kernel_rfl
theorem ty_eq72 : eqFs Try.prog 72 = some [(3, 0), (22, 1), (27, 2), (43, 3)] := by kernel_rfl
theorem ty_bz72 : buildZ Try.prog 72 = some [.d (.int .i64 0), .full [], .full [], .full []] := by kernel_rfl
theorem ty_zz72 : szZ Try.prog 72 = some 4 := by kernel_rfl
theorem ty_sz73 : szOf Try.prog 73 = some 1 := by kernel_rfl
theorem ty_by73 : bytesOf Try.prog 73 = some 8 := by kernel_rfl
theorem ty_ki73 : kindT Try.prog 73 = .other := by kernel_rfl
theorem ty_ze73 : zeroOf Try.prog 73 = some [.any] := by kernel_rfl
theorem ty_zz73 : szZ Try.prog 73 = some 1 := by kernel_rfl
theorem ty_sz74 : szOf Try.prog 74 = some 1 := by kernel_rfl
theorem ty_by74 : bytesOf Try.prog 74 = some 8 := by kernel_rfl
theorem ty_ki74 : kindT Try.prog 74 = .other := by kernel_rfl
theorem ty_ze74 : zeroOf Try.prog 74 = some [.any] := by kernel_rfl
theorem ty_zz74 : szZ Try.prog 74 = some 1 := by kernel_rfl
theorem ty_sz75 : szOf Try.prog 75 = some 1 := by kernel_rfl
theorem ty_by75 : bytesOf Try.prog 75 = some 8 := by kernel_rfl
theorem ty_ki75 : kindT Try.prog 75 = .other := by kernel_rfl
theorem ty_ze75 : zeroOf Try.prog 75 = some [.any] := by kernel_rfl
theorem ty_zz75 : szZ Try.prog 75 = some 1 := by kernel_rfl
theorem ty_sz76 : szOf Try.prog 76 = some 1 := by kernel_rfl
theorem ty_by76 : bytesOf Try.prog 76 = some 8 := by kernel_rfl
theorem ty_ki76 : kindT Try.prog 76 = .other := by kernel_rfl
theorem ty_ze76 : zeroOf Try.prog 76 = some [.any] := by kernel_rfl
theorem ty_zz76 : szZ Try.prog 76 = some 1 := by kernel_rfl
theorem ty_sz77 : szOf Try.prog 77 = some 1 := by kernel_rfl
theorem ty_by77 : bytesOf Try.prog 77 = some 8 := by kernel_rfl
theorem ty_ki77 : kindT Try.prog 77 = .other := by kernel_rfl
theorem ty_ze77 : zeroOf Try.prog 77 = some [.any] := by kernel_rfl
theorem ty_zz77 : szZ Try.prog 77 = some 1 := by kernel_rfl
theorem ty_sz78 : szOf Try.prog 78 = some 1 := by kernel_rfl
theorem ty_by78 : bytesOf Try.prog 78 = some 8 := by kernel_rfl
theorem ty_ki78 : kindT Try.prog 78 = .other := by kernel_rfl
theorem ty_ze78 : zeroOf Try.prog 78 = some [.nilm] := by kernel_rfl
theorem ty_zz78 : szZ Try.prog 78 = some 1 := by kernel_rfl
theorem ty_mt78 : mapT Try.prog 78 = some (3, 4) := by kernel_rfl
theorem ty_zv4 : zeroV Try.prog 4 = some (.d (.bool false)) := by kernel_rfl
theorem ty_sz79 : szOf Try.prog 79 = some 1 := by kernel_rfl
theorem ty_by79 : bytesOf Try.prog 79 = some 8 := by kernel_rfl
theorem ty_ki79 : kindT Try.prog 79 = .other := by kernel_rfl
theorem ty_ze79 : zeroOf Try.prog 79 = some [.any] := by kernel_rfl
theorem ty_zz79 : szZ Try.prog 79 = some 1 := by kernel_rfl
theorem ty_sz80 : szOf Try.prog 80 = some 1 := by kernel_rfl
theorem ty_by80 : bytesOf Try.prog 80 = some 8 := by kernel_rfl
theorem ty_ki80 : kindT Try.prog 80 = .other := by kernel_rfl
theorem ty_ze80 : zeroOf Try.prog 80 = some [.nilm] := by kernel_rfl
theorem ty_zz80 : szZ Try.prog 80 = some 1 := by kernel_rfl
theorem ty_mt80 : mapT Try.prog 80 = some (3, 3) := by kernel_rfl
theorem ty_zv3 : zeroV Try.prog 3 = some (.d (.int .i64 0)) := by kernel_rfl
theorem ty_sz81 : szOf Try.prog 81 = some 1 := by kernel_rfl
theorem ty_by81 : bytesOf Try.prog 81 = some 8 := by kernel_rfl
theorem ty_ki81 : kindT Try.prog 81 = .other := by kernel_rfl
theorem ty_ze81 : zeroOf Try.prog 81 = some [.any] := by kernel_rfl
theorem ty_zz81 : szZ Try.prog 81 = some 1 := by kernel_rfl
theorem ty_sz82 : szOf Try.prog 82 = some 1 := by kernel_rfl
theorem ty_by82 : bytesOf Try.prog 82 = some 8 := by kernel_rfl
theorem ty_ki82 : kindT Try.prog 82 = .ptr := by kernel_rfl
theorem ty_ze82 : zeroOf Try.prog 82 = some [.d .nilp] := by kernel_rfl
theorem ty_zz82 : szZ Try.prog 82 = some 1 := by kernel_rfl
theorem ty_sz83 : szOf Try.prog 83 = some 1 := by kernel_rfl
theorem ty_by83 : bytesOf Try.prog 83 = some 8 := by kernel_rfl
theorem ty_ki83 : kindT Try.prog 83 = .other := by kernel_rfl
theorem ty_ze83 : zeroOf Try.prog 83 = some [.any] := by kernel_rfl
theorem ty_zz83 : szZ Try.prog 83 = some 1 := by kernel_rfl
theorem ty_sz84 : szOf Try.prog 84 = some 1 := by kernel_rfl
theorem ty_by84 : bytesOf Try.prog 84 = some 24 := by kernel_rfl
theorem ty_ki84 : kindT Try.prog 84 = .sl 130 := by kernel_rfl
theorem ty_ze84 : zeroOf Try.prog 84 = some [.full []] := by kernel_rfl
theorem ty_zz84 : szZ Try.prog 84 = some 1 := by kernel_rfl
theorem ty_sz85 : szOf Try.prog 85 = some 5 := by kernel_rfl
theorem ty_by85 : bytesOf Try.prog 85 = some 88 := by kernel_rfl
theorem ty_ki85 : kindT Try.prog 85 = .st := by kernel_rfl
theorem ty_ze85 : zeroOf Try.prog 85 = some [.d (.int .i64 0), .full [], .full [], .full [], .d (.int .i64 0)] := by kernel_rfl
theorem ty_fl85_0 : fld Try.prog 85 0 = some (0, 2, 30) := by kernel_rfl
theorem ty_fl85_1 : fld Try.prog 85 1 = some (2, 1, 43) := by kernel_rfl
theorem ty_fl85_2 : fld Try.prog 85 2 = some (3, 1, 84) := by kernel_rfl
theorem ty_fl85_3 : fld Try.prog 85 3 = some (4, 1, 3) := by kernel_rfl
theorem ty_eq85 : eqFs Try.prog 85 = some [(30, 0), (43, 2), (84, 3), (3, 4)] := by kernel_rfl
theorem ty_bz85 : buildZ Try.prog 85 = some [.d (.int .i64 0), .full [], .full [], .full [], .d (.int .i64 0)] := by kernel_rfl
theorem ty_zz85 : szZ Try.prog 85 = some 5 := by kernel_rfl
theorem ty_sz86 : szOf Try.prog 86 = some 5 := by kernel_rfl
theorem ty_by86 : bytesOf Try.prog 86 = some 88 := by kernel_rfl
theorem ty_ki86 : kindT Try.prog 86 = .st := by kernel_rfl
theorem ty_ze86 : zeroOf Try.prog 86 = some [.d (.int .i64 0), .full [], .full [], .full [], .d (.int .i64 0)] := by kernel_rfl
theorem ty_fl86_0 : fld Try.prog 86 0 = some (0, 2, 30) := by kernel_rfl
theorem ty_fl86_1 : fld Try.prog 86 1 = some (2, 1, 43) := by kernel_rfl
theorem ty_fl86_2 : fld Try.prog 86 2 = some (3, 1, 84) := by kernel_rfl
theorem ty_fl86_3 : fld Try.prog 86 3 = some (4, 1, 3) := by kernel_rfl
theorem ty_eq86 : eqFs Try.prog 86 = some [(30, 0), (43, 2), (84, 3), (3, 4)] := by kernel_rfl
theorem ty_bz86 : buildZ Try.prog 86 = some [.d (.int .i64 0), .full [], .full [], .full [], .d (.int .i64 0)] := by kernel_rfl
theorem ty_zz86 : szZ Try.prog 86 = some 5 := by kernel_rfl
theorem ty_sz87 : szOf Try.prog 87 = some 1 := by kernel_rfl
theorem ty_by87 : bytesOf Try.prog 87 = some 8 := by kernel_rfl
theorem ty_ki87 : kindT Try.prog 87 = .other := by kernel_rfl
theorem ty_ze87 : zeroOf Try.prog 87 = some [.any] := by kernel_rfl
theorem ty_zz87 : szZ Try.prog 87 = some 1 := by kernel_rfl
theorem ty_sz88 : szOf Try.prog 88 = some 1 := by kernel_rfl
theorem ty_by88 : bytesOf Try.prog 88 = some 8 := by kernel_rfl
theorem ty_ki88 : kindT Try.prog 88 = .other := by kernel_rfl
theorem ty_ze88 : zeroOf Try.prog 88 = some [.any] := by kernel_rfl
theorem ty_zz88 : szZ Try.prog 88 = some 1 := by kernel_rfl
theorem ty_sz89 : szOf Try.prog 89 = some 1 := by kernel_rfl
theorem ty_by89 : bytesOf Try.prog 89 = some 8 := by kernel_rfl
theorem ty_ki89 : kindT Try.prog 89 = .other := by kernel_rfl
theorem ty_ze89 : zeroOf Try.prog 89 = some [.any] := by kernel_rfl
theorem ty_zz89 : szZ Try.prog 89 = some 1 := by kernel_rfl
theorem ty_sz90 : szOf Try.prog 90 = some 5 := by kernel_rfl
theorem ty_by90 : bytesOf Try.prog 90 = some 72 := by kernel_rfl
theorem ty_ki90 : kindT Try.prog 90 = .st := by kernel_rfl
theorem ty_ze90 : zeroOf Try.prog 90 = some [.d (.int .i64 0), .full [], .d (.bool false), .full [], .d (.int .i64 0)] := by kernel_rfl
theorem ty_fl90_0 : fld Try.prog 90 0 = some (0, 2, 30) := by kernel_rfl
theorem ty_fl90_1 : fld Try.prog 90 1 = some (2, 1, 4) := by kernel_rfl
theorem ty_fl90_2 : fld Try.prog 90 2 = some (3, 1, 43) := by kernel_rfl
theorem ty_fl90_3 : fld Try.prog 90 3 = some (4, 1, 3) := by kernel_rfl
theorem ty_eq90 : eqFs Try.prog 90 = some [(30, 0), (4, 2), (43, 3), (3, 4)] := by kernel_rfl
theorem ty_bz90 : buildZ Try.prog 90 = some [.d (.int .i64 0), .full [], .d (.bool false), .full [], .d (.int .i64 0)] := by kernel_rfl
theorem ty_zz90 : szZ Try.prog 90 = some 5 := by kernel_rfl
theorem ty_sz91 : szOf Try.prog 91 = some 5 := by kernel_rfl
theorem ty_by91 : bytesOf Try.prog 91 = some 72 := by kernel_rfl
theorem ty_ki91 : kindT Try.prog 91 = .st := by kernel_rfl
theorem ty_ze91 : zeroOf Try.prog 91 = some [.d (.int .i64 0), .full [], .d (.bool false), .full [], .d (.int .i64 0)] := by kernel_rfl
theorem ty_fl91_0 : fld Try.prog 91 0 = some (0, 2, 30) := by kernel_rfl
theorem ty_fl91_1 : fld Try.prog 91 1 = some (2, 1, 4) := by kernel_rfl
theorem ty_fl91_2 : fld Try.prog 91 2 = some (3, 1, 43) := by kernel_rfl
theorem ty_fl91_3 : fld Try.prog 91 3 = some (4, 1, 3) := by kernel_rfl
theorem ty_eq91 : eqFs Try.prog 91 = some [(30, 0), (4, 2), (43, 3), (3, 4)] := by kernel_rfl
theorem ty_bz91 : buildZ Try.prog 91 = some [.d (.int .i64 0), .full [], .d (.bool false), .full [], .d (.int .i64 0)] := by kernel_rfl
theorem ty_zz91 : szZ Try.prog 91 = some 5 := by kernel_rfl
theorem ty_sz92 : szOf Try.prog 92 = some 1 := by kernel_rfl
theorem ty_by92 : bytesOf Try.prog 92 = some 8 := by kernel_rfl
theorem ty_ki92 : kindT Try.prog 92 = .other := by kernel_rfl
theorem ty_ze92 : zeroOf Try.prog 92 = some [.any] := by kernel_rfl
theorem ty_zz92 : szZ Try.prog 92 = some 1 := by kernel_rfl
theorem ty_sz93 : szOf Try.prog 93 = some 1 := by kernel_rfl
theorem ty_by93 : bytesOf Try.prog 93 = some 8 := by kernel_rfl
theorem ty_ki93 : kindT Try.prog 93 = .other := by kernel_rfl
theorem ty_ze93 : zeroOf Try.prog 93 = some [.any] := by kernel_rfl
theorem ty_zz93 : szZ Try.prog 93 = some 1 := by kernel_rfl
theorem ty_sz94 : szOf Try.prog 94 = some 1 := by kernel_rfl
theorem ty_by94 : bytesOf Try.prog 94 = some 8 := by kernel_rfl
theorem ty_ki94 : kindT Try.prog 94 = .other := by kernel_rfl
theorem ty_ze94 : zeroOf Try.prog 94 = some [.any] := by kernel_rfl
theorem ty_zz94 : szZ Try.prog 94 = some 1 := by kernel_rfl
theorem ty_sz95 : szOf Try.prog 95 = some 1 := by kernel_rfl
theorem ty_by95 : bytesOf Try.prog 95 = some 8 := by kernel_rfl
theorem ty_ki95 : kindT Try.prog 95 = .other := by kernel_rfl
theorem ty_ze95 : zeroOf Try.prog 95 = some [.any] := by kernel_rfl
theorem ty_zz95 : szZ Try.prog 95 = some 1 := by kernel_rfl
theorem ty_sz96 : szOf Try.prog 96 = some 1 := by kernel_rfl
theorem ty_by96 : bytesOf Try.prog 96 = some 8 := by kernel_rfl
theorem ty_ki96 : kindT Try.prog 96 = .other := by kernel_rfl
theorem ty_ze96 : zeroOf Try.prog 96 = some [.any] := by kernel_rfl
theorem ty_zz96 : szZ Try.prog 96 = some 1 := by kernel_rfl
theorem ty_sz97 : szOf Try.prog 97 = some 1 := by kernel_rfl
theorem ty_by97 : bytesOf Try.prog 97 = some 8 := by kernel_rfl
theorem ty_ki97 : kindT Try.prog 97 = .other := by kernel_rfl
theorem ty_ze97 : zeroOf Try.prog 97 = some [.any] := by kernel_rfl
theorem ty_zz97 : szZ Try.prog 97 = some 1 := by kernel_rfl
theorem ty_sz98 : szOf Try.prog 98 = some 1 := by kernel_rfl
theorem ty_by98 : bytesOf Try.prog 98 = some 8 := by kernel_rfl
theorem ty_ki98 : kindT Try.prog 98 = .other := by kernel_rfl
theorem ty_ze98 : zeroOf Try.prog 98 = some [.any] := by kernel_rfl
theorem ty_zz98 : szZ Try.prog 98 = some 1 := by kernel_rfl
theorem ty_sz99 : szOf Try.prog 99 = some 1 := by kernel_rfl
theorem ty_by99 : bytesOf Try.prog 99 = some 24 := by kernel_rfl
theorem ty_ki99 : kindT Try.prog 99 = .sl 118 := by kernel_rfl
theorem ty_ze99 : zeroOf Try.prog 99 = some [.full []] := by kernel_rfl
theorem ty_zz99 : szZ Try.prog 99 = some 1 := by kernel_rfl
theorem ty_sz100 : szOf Try.prog 100 = some 1 := by kernel_rfl
theorem ty_by100 : bytesOf Try.prog 100 = some 0 := by kernel_rfl
theorem ty_ki100 : kindT Try.prog 100 = .other := by kernel_rfl
theorem ty_sz101 : szOf Try.prog 101 = some 1 := by kernel_rfl
theorem ty_by101 : bytesOf Try.prog 101 = some 8 := by kernel_rfl
theorem ty_ki101 : kindT Try.prog 101 = .other := by kernel_rfl
theorem ty_ze101 : zeroOf Try.prog 101 = some [.any] := by kernel_rfl
theorem ty_zz101 : szZ Try.prog 101 = some 1 := by kernel_rfl
theorem ty_sz102 : szOf Try.prog 102 = some 1 := by kernel_rfl
theorem ty_by102 : bytesOf Try.prog 102 = some 8 := by kernel_rfl
theorem ty_ki102 : kindT Try.prog 102 = .other := by kernel_rfl
theorem ty_ze102 : zeroOf Try.prog 102 = some [.any] := by kernel_rfl
theorem ty_zz102 : szZ Try.prog 102 = some 1 := by kernel_rfl
theorem ty_sz103 : szOf Try.prog 103 = some 1 := by kernel_rfl
theorem ty_by103 : bytesOf Try.prog 103 = some 0 := by kernel_rfl
theorem ty_ki103 : kindT Try.prog 103 = .other := by kernel_rfl
theorem ty_sz104 : szOf Try.prog 104 = some 1 := by kernel_rfl
theorem ty_by104 : bytesOf Try.prog 104 = some 8 := by kernel_rfl
theorem ty_ki104 : kindT Try.prog 104 = .other := by kernel_rfl
theorem ty_ze104 : zeroOf Try.prog 104 = some [.any] := by kernel_rfl
theorem ty_zz104 : szZ Try.prog 104 = some 1 := by kernel_rfl
theorem ty_sz105 : szOf Try.prog 105 = some 1 := by kernel_rfl
theorem ty_by105 : bytesOf Try.prog 105 = some 8 := by kernel_rfl
theorem ty_ki105 : kindT Try.prog 105 = .other := by kernel_rfl
theorem ty_ze105 : zeroOf Try.prog 105 = some [.any] := by kernel_rfl
theorem ty_zz105 : szZ Try.prog 105 = some 1 := by kernel_rfl
theorem ty_sz106 : szOf Try.prog 106 = some 1 := by kernel_rfl
theorem ty_by106 : bytesOf Try.prog 106 = some 8 := by kernel_rfl
theorem ty_ki106 : kindT Try.prog 106 = .other := by kernel_rfl
theorem ty_ze106 : zeroOf Try.prog 106 = some [.any] := by kernel_rfl
theorem ty_zz106 : szZ Try.prog 106 = some 1 := by kernel_rfl
theorem ty_sz107 : szOf Try.prog 107 = some 1 := by kernel_rfl
theorem ty_by107 : bytesOf Try.prog 107 = some 8 := by kernel_rfl
theorem ty_ki107 : kindT Try.prog 107 = .other := by kernel_rfl
theorem ty_ze107 : zeroOf Try.prog 107 = some [.any] := by kernel_rfl
theorem ty_zz107 : szZ Try.prog 107 = some 1 := by kernel_rfl
theorem ty_sz108 : szOf Try.prog 108 = some 1 := by kernel_rfl
theorem ty_by108 : bytesOf Try.prog 108 = some 8 := by kernel_rfl
theorem ty_ki108 : kindT Try.prog 108 = .other := by kernel_rfl
theorem ty_ze108 : zeroOf Try.prog 108 = some [.any] := by kernel_rfl
theorem ty_zz108 : szZ Try.prog 108 = some 1 := by kernel_rfl
theorem ty_sz109 : szOf Try.prog 109 = some 1 := by kernel_rfl
theorem ty_by109 : bytesOf Try.prog 109 = some 8 := by kernel_rfl
theorem ty_ki109 : kindT Try.prog 109 = .other := by kernel_rfl
theorem ty_ze109 : zeroOf Try.prog 109 = some [.any] := by kernel_rfl
theorem ty_zz109 : szZ Try.prog 109 = some 1 := by kernel_rfl
theorem ty_sz110 : szOf Try.prog 110 = some 1 := by kernel_rfl
theorem ty_by110 : bytesOf Try.prog 110 = some 8 := by kernel_rfl
theorem ty_ki110 : kindT Try.prog 110 = .other := by kernel_rfl
theorem ty_ze110 : zeroOf Try.prog 110 = some [.any] := by kernel_rfl
theorem ty_zz110 : szZ Try.prog 110 = some 1 := by kernel_rfl
theorem ty_sz111 : szOf Try.prog 111 = some 1 := by kernel_rfl
theorem ty_by111 : bytesOf Try.prog 111 = some 8 := by kernel_rfl
theorem ty_ki111 : kindT Try.prog 111 = .other := by kernel_rfl
theorem ty_ze111 : zeroOf Try.prog 111 = some [.any] := by kernel_rfl
theorem ty_zz111 : szZ Try.prog 111 = some 1 := by kernel_rfl
theorem ty_sz112 : szOf Try.prog 112 = some 1 := by kernel_rfl
theorem ty_by112 : bytesOf Try.prog 112 = some 8 := by kernel_rfl
theorem ty_ki112 : kindT Try.prog 112 = .other := by kernel_rfl
theorem ty_ze112 : zeroOf Try.prog 112 = some [.any] := by kernel_rfl
theorem ty_zz112 : szZ Try.prog 112 = some 1 := by kernel_rfl
theorem ty_sz113 : szOf Try.prog 113 = some 1 := by kernel_rfl
theorem ty_by113 : bytesOf Try.prog 113 = some 0 := by kernel_rfl
theorem ty_ki113 : kindT Try.prog 113 = .other := by kernel_rfl
theorem ty_sz114 : szOf Try.prog 114 = some 1 := by kernel_rfl
theorem ty_by114 : bytesOf Try.prog 114 = some 8 := by kernel_rfl
theorem ty_ki114 : kindT Try.prog 114 = .other := by kernel_rfl
theorem ty_ze114 : zeroOf Try.prog 114 = some [.any] := by kernel_rfl
theorem ty_zz114 : szZ Try.prog 114 = some 1 := by kernel_rfl
theorem ty_sz115 : szOf Try.prog 115 = some 1 := by kernel_rfl
theorem ty_by115 : bytesOf Try.prog 115 = some 8 := by kernel_rfl
theorem ty_ki115 : kindT Try.prog 115 = .other := by kernel_rfl
theorem ty_ze115 : zeroOf Try.prog 115 = some [.any] := by kernel_rfl
theorem ty_zz115 : szZ Try.prog 115 = some 1 := by kernel_rfl
theorem ty_sz116 : szOf Try.prog 116 = some 1 := by kernel_rfl
theorem ty_by116 : bytesOf Try.prog 116 = some 8 := by kernel_rfl
theorem ty_ki116 : kindT Try.prog 116 = .other := by kernel_rfl
theorem ty_ze116 : zeroOf Try.prog 116 = some [.any] := by kernel_rfl
theorem ty_zz116 : szZ Try.prog 116 = some 1 := by kernel_rfl
theorem ty_sz117 : szOf Try.prog 117 = some 2 := by kernel_rfl
theorem ty_by117 : bytesOf Try.prog 117 = some 16 := by kernel_rfl
theorem ty_ki117 : kindT Try.prog 117 = .st := by kernel_rfl
theorem ty_ze117 : zeroOf Try.prog 117 = some [.d (.int .i64 0), .d (.int .i64 0)] := by kernel_rfl
theorem ty_fl117_0 : fld Try.prog 117 0 = some (0, 1, 3) := by kernel_rfl
theorem ty_fl117_1 : fld Try.prog 117 1 = some (1, 1, 3) := by kernel_rfl
theorem ty_eq117 : eqFs Try.prog 117 = some [(3, 0), (3, 1)] := by kernel_rfl
theorem ty_bz117 : buildZ Try.prog 117 = some [.d (.int .i64 0), .d (.int .i64 0)] := by kernel_rfl
theorem ty_zz117 : szZ Try.prog 117 = some 2 := by kernel_rfl
theorem ty_sz118 : szOf Try.prog 118 = some 2 := by kernel_rfl
theorem ty_by118 : bytesOf Try.prog 118 = some 16 := by kernel_rfl
theorem ty_ki118 : kindT Try.prog 118 = .st := by kernel_rfl
theorem ty_ze118 : zeroOf Try.prog 118 = some [.d (.int .i64 0), .d (.int .i64 0)] := by kernel_rfl
theorem ty_fl118_0 : fld Try.prog 118 0 = some (0, 1, 3) := by kernel_rfl
theorem ty_fl118_1 : fld Try.prog 118 1 = some (1, 1, 3) := by kernel_rfl
theorem ty_eq118 : eqFs Try.prog 118 = some [(3, 0), (3, 1)] := by kernel_rfl
theorem ty_bz118 : buildZ Try.prog 118 = some [.d (.int .i64 0), .d (.int .i64 0)] := by kernel_rfl
theorem ty_zz118 : szZ Try.prog 118 = some 2 := by kernel_rfl
theorem ty_sz119 : szOf Try.prog 119 = some 1 := by kernel_rfl
theorem ty_by119 : bytesOf Try.prog 119 = some 8 := by kernel_rfl
theorem ty_ki119 : kindT Try.prog 119 = .other := by kernel_rfl
theorem ty_ze119 : zeroOf Try.prog 119 = some [.any] := by kernel_rfl
theorem ty_zz119 : szZ Try.prog 119 = some 1 := by kernel_rfl
theorem ty_sz120 : szOf Try.prog 120 = some 2 := by kernel_rfl
theorem ty_by120 : bytesOf Try.prog 120 = some 16 := by kernel_rfl
theorem ty_ki120 : kindT Try.prog 120 = .arr 2 3 := by kernel_rfl
theorem ty_ze120 : zeroOf Try.prog 120 = some [.d (.int .i64 0), .d (.int .i64 0)] := by kernel_rfl
theorem ty_bz120 : buildZ Try.prog 120 = some [.d (.int .i64 0), .d (.int .i64 0)] := by kernel_rfl
theorem ty_zz120 : szZ Try.prog 120 = some 2 := by kernel_rfl
theorem ty_sz121 : szOf Try.prog 121 = some 1 := by kernel_rfl
theorem ty_by121 : bytesOf Try.prog 121 = some 8 := by kernel_rfl
theorem ty_ki121 : kindT Try.prog 121 = .other := by kernel_rfl
theorem ty_ze121 : zeroOf Try.prog 121 = some [.any] := by kernel_rfl
theorem ty_zz121 : szZ Try.prog 121 = some 1 := by kernel_rfl
theorem ty_sz122 : szOf Try.prog 122 = some 1 := by kernel_rfl
theorem ty_by122 : bytesOf Try.prog 122 = some 8 := by kernel_rfl
theorem ty_ki122 : kindT Try.prog 122 = .other := by kernel_rfl
theorem ty_ze122 : zeroOf Try.prog 122 = some [.any] := by kernel_rfl
theorem ty_zz122 : szZ Try.prog 122 = some 1 := by kernel_rfl
theorem ty_sz123 : szOf Try.prog 123 = some 1 := by kernel_rfl
theorem ty_by123 : bytesOf Try.prog 123 = some 8 := by kernel_rfl
theorem ty_ki123 : kindT Try.prog 123 = .other := by kernel_rfl
theorem ty_ze123 : zeroOf Try.prog 123 = some [.any] := by kernel_rfl
theorem ty_zz123 : szZ Try.prog 123 = some 1 := by kernel_rfl
theorem ty_sz124 : szOf Try.prog 124 = some 1 := by kernel_rfl
theorem ty_by124 : bytesOf Try.prog 124 = some 8 := by kernel_rfl
theorem ty_ki124 : kindT Try.prog 124 = .other := by kernel_rfl
theorem ty_ze124 : zeroOf Try.prog 124 = some [.any] := by kernel_rfl
theorem ty_zz124 : szZ Try.prog 124 = some 1 := by kernel_rfl
theorem ty_sz125 : szOf Try.prog 125 = some 1 := by kernel_rfl
theorem ty_by125 : bytesOf Try.prog 125 = some 8 := by kernel_rfl
theorem ty_ki125 : kindT Try.prog 125 = .other := by kernel_rfl
theorem ty_ze125 : zeroOf Try.prog 125 = some [.any] := by kernel_rfl
theorem ty_zz125 : szZ Try.prog 125 = some 1 := by kernel_rfl
theorem ty_sz126 : szOf Try.prog 126 = some 1 := by kernel_rfl
theorem ty_by126 : bytesOf Try.prog 126 = some 24 := by kernel_rfl
theorem ty_ki126 : kindT Try.prog 126 = .sl 22 := by kernel_rfl
theorem ty_ze126 : zeroOf Try.prog 126 = some [.full []] := by kernel_rfl
theorem ty_zz126 : szZ Try.prog 126 = some 1 := by kernel_rfl
theorem ty_sz127 : szOf Try.prog 127 = some 1 := by kernel_rfl
theorem ty_by127 : bytesOf Try.prog 127 = some 8 := by kernel_rfl
theorem ty_ki127 : kindT Try.prog 127 = .other := by kernel_rfl
theorem ty_ze127 : zeroOf Try.prog 127 = some [.any] := by kernel_rfl
theorem ty_zz127 : szZ Try.prog 127 = some 1 := by kernel_rfl
theorem ty_sz128 : szOf Try.prog 128 = some 1 := by kernel_rfl
theorem ty_by128 : bytesOf Try.prog 128 = some 8 := by kernel_rfl
theorem ty_ki128 : kindT Try.prog 128 = .other := by kernel_rfl
theorem ty_ze128 : zeroOf Try.prog 128 = some [.any] := by kernel_rfl
theorem ty_zz128 : szZ Try.prog 128 = some 1 := by kernel_rfl
theorem ty_sz129 : szOf Try.prog 129 = some 2 := by kernel_rfl
theorem ty_by129 : bytesOf Try.prog 129 = some 16 := by kernel_rfl
theorem ty_ki129 : kindT Try.prog 129 = .st := by kernel_rfl
theorem ty_ze129 : zeroOf Try.prog 129 = some [.d (.int .i64 0), .d (.int .i64 0)] := by kernel_rfl
theorem ty_fl129_0 : fld Try.prog 129 0 = some (0, 1, 3) := by kernel_rfl
theorem ty_fl129_1 : fld Try.prog 129 1 = some (1, 1, 3) := by kernel_rfl
theorem ty_eq129 : eqFs Try.prog 129 = some [(3, 0), (3, 1)] := by kernel_rfl
theorem ty_bz129 : buildZ Try.prog 129 = some [.d (.int .i64 0), .d (.int .i64 0)] := by kernel_rfl
theorem ty_zz129 : szZ Try.prog 129 = some 2 := by kernel_rfl
theorem ty_sz130 : szOf Try.prog 130 = some 2 := by kernel_rfl
theorem ty_by130 : bytesOf Try.prog 130 = some 16 := by kernel_rfl
theorem ty_ki130 : kindT Try.prog 130 = .st := by kernel_rfl
theorem ty_ze130 : zeroOf Try.prog 130 = some [.d (.int .i64 0), .d (.int .i64 0)] := by kernel_rfl
theorem ty_fl130_0 : fld Try.prog 130 0 = some (0, 1, 3) := by kernel_rfl
theorem ty_fl130_1 : fld Try.prog 130 1 = some (1, 1, 3) := by kernel_rfl
theorem ty_eq130 : eqFs Try.prog 130 = some [(3, 0), (3, 1)] := by kernel_rfl
theorem ty_bz130 : buildZ Try.prog 130 = some [.d (.int .i64 0), .d (.int .i64 0)] := by kernel_rfl
theorem ty_zz130 : szZ Try.prog 130 = some 2 := by kernel_rfl
theorem ty_sz131 : szOf Try.prog 131 = some 1 := by kernel_rfl
theorem ty_by131 : bytesOf Try.prog 131 = some 8 := by kernel_rfl
theorem ty_ki131 : kindT Try.prog 131 = .other := by kernel_rfl
theorem ty_ze131 : zeroOf Try.prog 131 = some [.any] := by kernel_rfl
theorem ty_zz131 : szZ Try.prog 131 = some 1 := by kernel_rfl
theorem ty_sz132 : szOf Try.prog 132 = some 1 := by kernel_rfl
theorem ty_by132 : bytesOf Try.prog 132 = some 8 := by kernel_rfl
theorem ty_ki132 : kindT Try.prog 132 = .other := by kernel_rfl
theorem ty_ze132 : zeroOf Try.prog 132 = some [.any] := by kernel_rfl
theorem ty_zz132 : szZ Try.prog 132 = some 1 := by kernel_rfl
theorem ty_sz133 : szOf Try.prog 133 = some 1 := by kernel_rfl
theorem ty_by133 : bytesOf Try.prog 133 = some 8 := by kernel_rfl
theorem ty_ki133 : kindT Try.prog 133 = .other := by kernel_rfl
theorem ty_ze133 : zeroOf Try.prog 133 = some [.any] := by kernel_rfl
theorem ty_zz133 : szZ Try.prog 133 = some 1 := by kernel_rfl
theorem ty_sz134 : szOf Try.prog 134 = some 1 := by kernel_rfl
theorem ty_by134 : bytesOf Try.prog 134 = some 8 := by kernel_rfl
theorem ty_ki134 : kindT Try.prog 134 = .other := by kernel_rfl
theorem ty_ze134 : zeroOf Try.prog 134 = some [.any] := by kernel_rfl
theorem ty_zz134 : szZ Try.prog 134 = some 1 := by kernel_rfl
theorem ty_sz135 : szOf Try.prog 135 = some 1 := by kernel_rfl
theorem ty_by135 : bytesOf Try.prog 135 = some 8 := by kernel_rfl
theorem ty_ki135 : kindT Try.prog 135 = .other := by kernel_rfl
theorem ty_ze135 : zeroOf Try.prog 135 = some [.any] := by kernel_rfl
theorem ty_zz135 : szZ Try.prog 135 = some 1 := by kernel_rfl
theorem ty_sz136 : szOf Try.prog 136 = some 1 := by kernel_rfl
theorem ty_by136 : bytesOf Try.prog 136 = some 8 := by kernel_rfl
theorem ty_ki136 : kindT Try.prog 136 = .other := by kernel_rfl
theorem ty_ze136 : zeroOf Try.prog 136 = some [.any] := by kernel_rfl
theorem ty_zz136 : szZ Try.prog 136 = some 1 := by kernel_rfl
theorem ty_sz137 : szOf Try.prog 137 = some 1 := by kernel_rfl
theorem ty_by137 : bytesOf Try.prog 137 = some 8 := by kernel_rfl
theorem ty_ki137 : kindT Try.prog 137 = .other := by kernel_rfl
theorem ty_ze137 : zeroOf Try.prog 137 = some [.any] := by kernel_rfl
theorem ty_zz137 : szZ Try.prog 137 = some 1 := by kernel_rfl
theorem ty_sz138 : szOf Try.prog 138 = some 1 := by kernel_rfl
theorem ty_by138 : bytesOf Try.prog 138 = some 8 := by kernel_rfl
theorem ty_ki138 : kindT Try.prog 138 = .other := by kernel_rfl
theorem ty_ze138 : zeroOf Try.prog 138 = some [.any] := by kernel_rfl
theorem ty_zz138 : szZ Try.prog 138 = some 1 := by kernel_rfl
theorem ty_sz139 : szOf Try.prog 139 = some 1 := by kernel_rfl
theorem ty_by139 : bytesOf Try.prog 139 = some 8 := by kernel_rfl
theorem ty_ki139 : kindT Try.prog 139 = .int .u64 := by kernel_rfl
theorem ty_ze139 : zeroOf Try.prog 139 = some [.d (.int .u64 0)] := by kernel_rfl
theorem ty_zz139 : szZ Try.prog 139 = some 1 := by kernel_rfl
theorem ty_sz140 : szOf Try.prog 140 = some 1 := by kernel_rfl
theorem ty_by140 : bytesOf Try.prog 140 = some 8 := by kernel_rfl
theorem ty_ki140 : kindT Try.prog 140 = .other := by kernel_rfl
theorem ty_ze140 : zeroOf Try.prog 140 = some [.any] := by kernel_rfl
theorem ty_zz140 : szZ Try.prog 140 = some 1 := by kernel_rfl
theorem ty_sz141 : szOf Try.prog 141 = some 1 := by kernel_rfl
theorem ty_by141 : bytesOf Try.prog 141 = some 8 := by kernel_rfl
theorem ty_ki141 : kindT Try.prog 141 = .other := by kernel_rfl
theorem ty_ze141 : zeroOf Try.prog 141 = some [.any] := by kernel_rfl
theorem ty_zz141 : szZ Try.prog 141 = some 1 := by kernel_rfl
theorem ty_sz142 : szOf Try.prog 142 = some 1 := by kernel_rfl
theorem ty_by142 : bytesOf Try.prog 142 = some 8 := by kernel_rfl
theorem ty_ki142 : kindT Try.prog 142 = .int .i64 := by kernel_rfl
theorem ty_ze142 : zeroOf Try.prog 142 = some [.d (.int .i64 0)] := by kernel_rfl
theorem ty_zz142 : szZ Try.prog 142 = some 1 := by kernel_rfl
theorem ty_sz143 : szOf Try.prog 143 = some 1 := by kernel_rfl
theorem ty_by143 : bytesOf Try.prog 143 = some 0 := by kernel_rfl
theorem ty_ki143 : kindT Try.prog 143 = .other := by kernel_rfl
theorem ty_sz144 : szOf Try.prog 144 = some 1 := by kernel_rfl
theorem ty_by144 : bytesOf Try.prog 144 = some 8 := by kernel_rfl
theorem ty_ki144 : kindT Try.prog 144 = .other := by kernel_rfl
theorem ty_ze144 : zeroOf Try.prog 144 = some [.any] := by kernel_rfl
theorem ty_zz144 : szZ Try.prog 144 = some 1 := by kernel_rfl
theorem ty_sz145 : szOf Try.prog 145 = some 1 := by kernel_rfl
theorem ty_by145 : bytesOf Try.prog 145 = some 8 := by kernel_rfl
theorem ty_ki145 : kindT Try.prog 145 = .other := by kernel_rfl
theorem ty_ze145 : zeroOf Try.prog 145 = some [.any] := by kernel_rfl
theorem ty_zz145 : szZ Try.prog 145 = some 1 := by kernel_rfl
theorem ty_sz146 : szOf Try.prog 146 = some 1 := by kernel_rfl
theorem ty_by146 : bytesOf Try.prog 146 = some 8 := by kernel_rfl
theorem ty_ki146 : kindT Try.prog 146 = .other := by kernel_rfl
theorem ty_ze146 : zeroOf Try.prog 146 = some [.any] := by kernel_rfl
theorem ty_zz146 : szZ Try.prog 146 = some 1 := by kernel_rfl
theorem ty_sz147 : szOf Try.prog 147 = some 1 := by kernel_rfl
theorem ty_by147 : bytesOf Try.prog 147 = some 8 := by kernel_rfl
theorem ty_ki147 : kindT Try.prog 147 = .other := by kernel_rfl
theorem ty_ze147 : zeroOf Try.prog 147 = some [.any] := by kernel_rfl
theorem ty_zz147 : szZ Try.prog 147 = some 1 := by kernel_rfl
theorem ty_sz148 : szOf Try.prog 148 = some 1 := by kernel_rfl
theorem ty_by148 : bytesOf Try.prog 148 = some 8 := by kernel_rfl
theorem ty_ki148 : kindT Try.prog 148 = .other := by kernel_rfl
theorem ty_ze148 : zeroOf Try.prog 148 = some [.any] := by kernel_rfl
theorem ty_zz148 : szZ Try.prog 148 = some 1 := by kernel_rfl
theorem ty_sz149 : szOf Try.prog 149 = some 1 := by kernel_rfl
theorem ty_by149 : bytesOf Try.prog 149 = some 4 := by kernel_rfl
theorem ty_ki149 : kindT Try.prog 149 = .int .u32 := by kernel_rfl
theorem ty_ze149 : zeroOf Try.prog 149 = some [.d (.int .u32 0)] := by kernel_rfl
theorem ty_zz149 : szZ Try.prog 149 = some 1 := by kernel_rfl
theorem ty_sz150 : szOf Try.prog 150 = some 1 := by kernel_rfl
theorem ty_by150 : bytesOf Try.prog 150 = some 8 := by kernel_rfl
theorem ty_ki150 : kindT Try.prog 150 = .other := by kernel_rfl
theorem ty_ze150 : zeroOf Try.prog 150 = some [.any] := by kernel_rfl
theorem ty_zz150 : szZ Try.prog 150 = some 1 := by kernel_rfl
theorem ty_sz151 : szOf Try.prog 151 = some 1 := by kernel_rfl
theorem ty_by151 : bytesOf Try.prog 151 = some 8 := by kernel_rfl
theorem ty_ki151 : kindT Try.prog 151 = .int .u64 := by kernel_rfl
theorem ty_ze151 : zeroOf Try.prog 151 = some [.d (.int .u64 0)] := by kernel_rfl
theorem ty_zz151 : szZ Try.prog 151 = some 1 := by kernel_rfl
theorem ty_sz152 : szOf Try.prog 152 = some 1 := by kernel_rfl
theorem ty_by152 : bytesOf Try.prog 152 = some 8 := by kernel_rfl
theorem ty_ki152 : kindT Try.prog 152 = .int .u64 := by kernel_rfl
theorem ty_ze152 : zeroOf Try.prog 152 = some [.d (.int .u64 0)] := by kernel_rfl
theorem ty_zz152 : szZ Try.prog 152 = some 1 := by kernel_rfl
theorem ty_sz153 : szOf Try.prog 153 = some 1 := by kernel_rfl
theorem ty_by153 : bytesOf Try.prog 153 = some 8 := by kernel_rfl
theorem ty_ki153 : kindT Try.prog 153 = .other := by kernel_rfl
theorem ty_ze153 : zeroOf Try.prog 153 = some [.any] := by kernel_rfl
theorem ty_zz153 : szZ Try.prog 153 = some 1 := by kernel_rfl
theorem ty_sz154 : szOf Try.prog 154 = some 1 := by kernel_rfl
theorem ty_by154 : bytesOf Try.prog 154 = some 8 := by kernel_rfl
theorem ty_ki154 : kindT Try.prog 154 = .other := by kernel_rfl
theorem ty_ze154 : zeroOf Try.prog 154 = some [.any] := by kernel_rfl
theorem ty_zz154 : szZ Try.prog 154 = some 1 := by kernel_rfl
theorem ty_sz155 : szOf Try.prog 155 = some 1 := by kernel_rfl
theorem ty_by155 : bytesOf Try.prog 155 = some 8 := by kernel_rfl
theorem ty_ki155 : kindT Try.prog 155 = .other := by kernel_rfl
theorem ty_ze155 : zeroOf Try.prog 155 = some [.any] := by kernel_rfl
theorem ty_zz155 : szZ Try.prog 155 = some 1 := by kernel_rfl
theorem ty_sz156 : szOf Try.prog 156 = some 1 := by kernel_rfl
theorem ty_by156 : bytesOf Try.prog 156 = some 8 := by kernel_rfl
theorem ty_ki156 : kindT Try.prog 156 = .ptr := by kernel_rfl
theorem ty_ze156 : zeroOf Try.prog 156 = some [.d .nilp] := by kernel_rfl
theorem ty_zz156 : szZ Try.prog 156 = some 1 := by kernel_rfl
theorem ty_sz157 : szOf Try.prog 157 = some 1 := by kernel_rfl
theorem ty_by157 : bytesOf Try.prog 157 = some 8 := by kernel_rfl
theorem ty_ki157 : kindT Try.prog 157 = .other := by kernel_rfl
theorem ty_ze157 : zeroOf Try.prog 157 = some [.any] := by kernel_rfl
theorem ty_zz157 : szZ Try.prog 157 = some 1 := by kernel_rfl
theorem ty_sz158 : szOf Try.prog 158 = some 1 := by kernel_rfl
theorem ty_by158 : bytesOf Try.prog 158 = some 8 := by kernel_rfl
theorem ty_ki158 : kindT Try.prog 158 = .ptr := by kernel_rfl
theorem ty_ze158 : zeroOf Try.prog 158 = some [.d .nilp] := by kernel_rfl
theorem ty_zz158 : szZ Try.prog 158 = some 1 := by kernel_rfl
theorem ty_sz159 : szOf Try.prog 159 = some 1 := by kernel_rfl
theorem ty_by159 : bytesOf Try.prog 159 = some 0 := by kernel_rfl
theorem ty_ki159 : kindT Try.prog 159 = .other := by kernel_rfl
theorem ty_sz160 : szOf Try.prog 160 = some 1 := by kernel_rfl
theorem ty_by160 : bytesOf Try.prog 160 = some 8 := by kernel_rfl
theorem ty_ki160 : kindT Try.prog 160 = .other := by kernel_rfl
theorem ty_ze160 : zeroOf Try.prog 160 = some [.any] := by kernel_rfl
theorem ty_zz160 : szZ Try.prog 160 = some 1 := by kernel_rfl
theorem ty_sz161 : szOf Try.prog 161 = some 1 := by kernel_rfl
theorem ty_by161 : bytesOf Try.prog 161 = some 8 := by kernel_rfl
theorem ty_ki161 : kindT Try.prog 161 = .other := by kernel_rfl
theorem ty_ze161 : zeroOf Try.prog 161 = some [.any] := by kernel_rfl
theorem ty_zz161 : szZ Try.prog 161 = some 1 := by kernel_rfl
theorem ty_sz162 : szOf Try.prog 162 = some 4 := by kernel_rfl
theorem ty_by162 : bytesOf Try.prog 162 = some 40 := by kernel_rfl
theorem ty_ki162 : kindT Try.prog 162 = .st := by kernel_rfl
theorem ty_ze162 : zeroOf Try.prog 162 = some [.d .nilp, .d .nilp, .d .nilp, .d (.str [])] := by kernel_rfl
theorem ty_fl162_0 : fld Try.prog 162 0 = some (0, 1, 17) := by kernel_rfl
theorem ty_fl162_1 : fld Try.prog 162 1 = some (1, 1, 17) := by kernel_rfl
theorem ty_fl162_2 : fld Try.prog 162 2 = some (2, 1, 17) := by kernel_rfl
theorem ty_fl162_3 : fld Try.prog 162 3 = some (3, 1, 9) := by kernel_rfl
theorem ty_bz162 : buildZ Try.prog 162 = some [.d .nilp, .d .nilp, .d .nilp, .d (.str [])] := by kernel_rfl
theorem ty_zz162 : szZ Try.prog 162 = some 4 := by kernel_rfl
theorem ty_sz164 : szOf Try.prog 164 = some 0 := by kernel_rfl
theorem ty_by164 : bytesOf Try.prog 164 = some 0 := by kernel_rfl
theorem ty_ki164 : kindT Try.prog 164 = .arr 0 16 := by kernel_rfl
theorem ty_ze164 : zeroOf Try.prog 164 = some [] := by kernel_rfl
theorem ty_bz164 : buildZ Try.prog 164 = some [] := by kernel_rfl
theorem ty_sz165 : szOf Try.prog 165 = some 0 := by kernel_rfl
theorem ty_by165 : bytesOf Try.prog 165 = some 0 := by kernel_rfl
theorem ty_ki165 : kindT Try.prog 165 = .st := by kernel_rfl
theorem ty_ze165 : zeroOf Try.prog 165 = some [] := by kernel_rfl
theorem ty_fl165_0 : fld Try.prog 165 0 = some (0, 0, 164) := by kernel_rfl
theorem ty_bz165 : buildZ Try.prog 165 = some [] := by kernel_rfl
theorem ty_sz169 : szOf Try.prog 169 = some 1 := by kernel_rfl
theorem ty_by169 : bytesOf Try.prog 169 = some 8 := by kernel_rfl
theorem ty_ki169 : kindT Try.prog 169 = .other := by kernel_rfl
theorem ty_ze169 : zeroOf Try.prog 169 = some [.any] := by kernel_rfl
theorem ty_zz169 : szZ Try.prog 169 = some 1 := by kernel_rfl
theorem ty_sz170 : szOf Try.prog 170 = some 1 := by kernel_rfl
theorem ty_by170 : bytesOf Try.prog 170 = some 8 := by kernel_rfl
theorem ty_ki170 : kindT Try.prog 170 = .ptr := by kernel_rfl
theorem ty_ze170 : zeroOf Try.prog 170 = some [.d .nilp] := by kernel_rfl
theorem ty_zz170 : szZ Try.prog 170 = some 1 := by kernel_rfl
theorem ty_sz173 : szOf Try.prog 173 = some 11 := by kernel_rfl
theorem ty_by173 : bytesOf Try.prog 173 = some 48 := by kernel_rfl
theorem ty_ki173 : kindT Try.prog 173 = .st := by kernel_rfl
theorem ty_ze173 : zeroOf Try.prog 173 = some [.d (.int .u64 0), .d (.int .u64 0), .d (.int .u32 0), .d (.int .u8 0), .d (.int .u8 0), .d (.int .u8 0), .d (.int .u8 0), .any, .d .nilp, .d (.int .i32 0), .d (.int .i32 0)] := by kernel_rfl
theorem ty_fl173_0 : fld Try.prog 173 0 = some (0, 1, 12) := by kernel_rfl
theorem ty_fl173_1 : fld Try.prog 173 1 = some (1, 1, 12) := by kernel_rfl
theorem ty_fl173_2 : fld Try.prog 173 2 = some (2, 1, 149) := by kernel_rfl
theorem ty_fl173_3 : fld Try.prog 173 3 = some (3, 1, 167) := by kernel_rfl
theorem ty_fl173_4 : fld Try.prog 173 4 = some (4, 1, 5) := by kernel_rfl
theorem ty_fl173_5 : fld Try.prog 173 5 = some (5, 1, 5) := by kernel_rfl
theorem ty_fl173_6 : fld Try.prog 173 6 = some (6, 1, 168) := by kernel_rfl
theorem ty_fl173_7 : fld Try.prog 173 7 = some (7, 1, 169) := by kernel_rfl
theorem ty_fl173_8 : fld Try.prog 173 8 = some (8, 1, 170) := by kernel_rfl
theorem ty_fl173_9 : fld Try.prog 173 9 = some (9, 1, 171) := by kernel_rfl
theorem ty_fl173_10 : fld Try.prog 173 10 = some (10, 1, 172) := by kernel_rfl
theorem ty_bz173 : buildZ Try.prog 173 = some [.d (.int .u64 0), .d (.int .u64 0), .d (.int .u32 0), .d (.int .u8 0), .d (.int .u8 0), .d (.int .u8 0), .d (.int .u8 0), .any, .d .nilp, .d (.int .i32 0), .d (.int .i32 0)] := by kernel_rfl
theorem ty_zz173 : szZ Try.prog 173 = some 11 := by kernel_rfl
theorem ty_sz175 : szOf Try.prog 175 = some 1 := by kernel_rfl
theorem ty_by175 : bytesOf Try.prog 175 = some 8 := by kernel_rfl
theorem ty_ki175 : kindT Try.prog 175 = .other := by kernel_rfl
theorem ty_ze175 : zeroOf Try.prog 175 = some [.d .nilp] := by kernel_rfl
theorem ty_zz175 : szZ Try.prog 175 = some 1 := by kernel_rfl
attribute [go_sem] ty_sz0 ty_by0 ty_ki0 ty_sz1 ty_by1 ty_ki1 ty_ze1 ty_zz1 ty_sz2 ty_by2 ty_ki2 ty_ze2
attribute [go_sem] ty_zz2 ty_sz3 ty_by3 ty_ki3 ty_ze3 ty_zz3 ty_sz4 ty_by4 ty_ki4 ty_ze4 ty_zz4 ty_sz5
attribute [go_sem] ty_by5 ty_ki5 ty_ze5 ty_zz5 ty_sz7 ty_by7 ty_ki7 ty_ze7 ty_fl7_0 ty_fl7_1 ty_fl7_2 ty_fl7_3
attribute [go_sem] ty_eq7 ty_bz7 ty_zz7 ty_sz9 ty_by9 ty_ki9 ty_ze9 ty_zz9 ty_sz12 ty_by12 ty_ki12 ty_ze12
attribute [go_sem] ty_zz12 ty_sz13 ty_by13 ty_ki13 ty_ze13 ty_fl13_0 ty_fl13_1 ty_bz13 ty_zz13 ty_sz20 ty_by20 ty_ki20
attribute [go_sem] ty_ze20 ty_zz20 ty_sz21 ty_by21 ty_ki21 ty_ze21 ty_zz21 ty_sz22 ty_by22 ty_ki22 ty_ze22 ty_zz22
attribute [go_sem] ty_sz23 ty_by23 ty_ki23 ty_ze23 ty_fl23_0 ty_fl23_1 ty_eq23 ty_bz23 ty_zz23 ty_sz24 ty_by24 ty_ki24
attribute [go_sem] ty_ze24 ty_fl24_0 ty_fl24_1 ty_eq24 ty_bz24 ty_zz24 ty_sz25 ty_by25 ty_ki25 ty_ze25 ty_zz25 ty_sz26
attribute [go_sem] ty_by26 ty_ki26 ty_ze26 ty_zz26 ty_sz27 ty_by27 ty_ki27 ty_ze27 ty_zz27 ty_sz28 ty_by28 ty_ki28
attribute [go_sem] ty_sz29 ty_by29 ty_ki29 ty_ze29 ty_zz29 ty_sz30 ty_by30 ty_ki30 ty_ze30 ty_fl30_0 ty_fl30_1 ty_eq30
attribute [go_sem] ty_bz30 ty_zz30 ty_sz31 ty_by31 ty_ki31 ty_ze31 ty_zz31 ty_sz32 ty_by32 ty_ki32 ty_ze32 ty_zz32
attribute [go_sem] ty_sz33 ty_by33 ty_ki33 ty_ze33 ty_zz33 ty_sz34 ty_by34 ty_ki34 ty_ze34 ty_zz34 ty_sz35 ty_by35
attribute [go_sem] ty_ki35 ty_ze35 ty_zz35 ty_sz36 ty_by36 ty_ki36 ty_ze36 ty_zz36 ty_sz37 ty_by37 ty_ki37 ty_ze37
attribute [go_sem] ty_zz37 ty_sz38 ty_by38 ty_ki38 ty_ze38 ty_zz38 ty_sz39 ty_by39 ty_ki39 ty_ze39 ty_zz39 ty_sz40
attribute [go_sem] ty_by40 ty_ki40 ty_ze40 ty_zz40 ty_sz41 ty_by41 ty_ki41 ty_ze41 ty_zz41 ty_sz42 ty_by42 ty_ki42
attribute [go_sem] ty_ze42 ty_zz42 ty_sz43 ty_by43 ty_ki43 ty_ze43 ty_zz43 ty_sz44 ty_by44 ty_ki44 ty_ze44 ty_zz44
attribute [go_sem] ty_sz45 ty_by45 ty_ki45 ty_ze45 ty_zz45 ty_sz46 ty_by46 ty_ki46 ty_ze46 ty_zz46 ty_sz47 ty_by47
attribute [go_sem] ty_ki47 ty_sz48 ty_by48 ty_ki48 ty_ze48 ty_zz48 ty_sz49 ty_by49 ty_ki49 ty_ze49 ty_zz49 ty_sz50
attribute [go_sem] ty_by50 ty_ki50 ty_ze50 ty_zz50 ty_sz51 ty_by51 ty_ki51 ty_ze51 ty_zz51 ty_sz52 ty_by52 ty_ki52
attribute [go_sem] ty_ze52 ty_zz52 ty_sz53 ty_by53 ty_ki53 ty_ze53 ty_zz53 ty_sz54 ty_by54 ty_ki54 ty_ze54 ty_zz54
attribute [go_sem] ty_sz55 ty_by55 ty_ki55 ty_ze55 ty_zz55 ty_sz56 ty_by56 ty_ki56 ty_ze56 ty_zz56 ty_sz57 ty_by57
attribute [go_sem] ty_ki57 ty_ze57 ty_zz57 ty_sz58 ty_by58 ty_ki58 ty_ze58 ty_zz58 ty_sz59 ty_by59 ty_ki59 ty_ze59
attribute [go_sem] ty_zz59 ty_sz60 ty_by60 ty_ki60 ty_ze60 ty_zz60 ty_sz61 ty_by61 ty_ki61 ty_sz62 ty_by62 ty_ki62
attribute [go_sem] ty_ze62 ty_zz62 ty_sz63 ty_by63 ty_ki63 ty_ze63 ty_zz63 ty_sz64 ty_by64 ty_ki64 ty_ze64 ty_zz64
attribute [go_sem] ty_sz65 ty_by65 ty_ki65 ty_ze65 ty_fl65_0 ty_fl65_1 ty_fl65_2 ty_eq65 ty_bz65 ty_zz65 ty_sz66 ty_by66
attribute [go_sem] ty_ki66 ty_ze66 ty_fl66_0 ty_fl66_1 ty_fl66_2 ty_eq66 ty_bz66 ty_zz66 ty_sz67 ty_by67 ty_ki67 ty_ze67
attribute [go_sem] ty_fl67_0 ty_fl67_1 ty_fl67_2 ty_eq67 ty_bz67 ty_zz67 ty_sz68 ty_by68 ty_ki68 ty_ze68 ty_zz68 ty_sz69
attribute [go_sem] ty_by69 ty_ki69 ty_ze69 ty_zz69 ty_sz70 ty_by70 ty_ki70 ty_ze70 ty_zz70 ty_sz71 ty_by71 ty_ki71
attribute [go_sem] ty_ze71 ty_fl71_0 ty_fl71_1 ty_fl71_2 ty_fl71_3 ty_eq71 ty_bz71 ty_zz71 ty_sz72 ty_by72 ty_ki72 ty_ze72
attribute [go_sem] ty_fl72_0 ty_fl72_1 ty_fl72_2 ty_fl72_3 ty_eq72 ty_bz72 ty_zz72 ty_sz73 ty_by73 ty_ki73 ty_ze73 ty_zz73
attribute [go_sem] ty_sz74 ty_by74 ty_ki74 ty_ze74 ty_zz74 ty_sz75 ty_by75 ty_ki75 ty_ze75 ty_zz75 ty_sz76 ty_by76
attribute [go_sem] ty_ki76 ty_ze76 ty_zz76 ty_sz77 ty_by77 ty_ki77 ty_ze77 ty_zz77 ty_sz78 ty_by78 ty_ki78 ty_ze78
attribute [go_sem] ty_zz78 ty_mt78 ty_zv4 ty_sz79 ty_by79 ty_ki79 ty_ze79 ty_zz79 ty_sz80 ty_by80 ty_ki80 ty_ze80
attribute [go_sem] ty_zz80 ty_mt80 ty_zv3 ty_sz81 ty_by81 ty_ki81 ty_ze81 ty_zz81 ty_sz82 ty_by82 ty_ki82 ty_ze82
attribute [go_sem] ty_zz82 ty_sz83 ty_by83 ty_ki83 ty_ze83 ty_zz83 ty_sz84 ty_by84 ty_ki84 ty_ze84 ty_zz84 ty_sz85
attribute [go_sem] ty_by85 ty_ki85 ty_ze85 ty_fl85_0 ty_fl85_1 ty_fl85_2 ty_fl85_3 ty_eq85 ty_bz85 ty_zz85 ty_sz86 ty_by86
attribute [go_sem] ty_ki86 ty_ze86 ty_fl86_0 ty_fl86_1 ty_fl86_2 ty_fl86_3 ty_eq86 ty_bz86 ty_zz86 ty_sz87 ty_by87 ty_ki87
attribute [go_sem] ty_ze87 ty_zz87 ty_sz88 ty_by88 ty_ki88 ty_ze88 ty_zz88 ty_sz89 ty_by89 ty_ki89 ty_ze89 ty_zz89
attribute [go_sem] ty_sz90 ty_by90 ty_ki90 ty_ze90 ty_fl90_0 ty_fl90_1 ty_fl90_2 ty_fl90_3 ty_eq90 ty_bz90 ty_zz90 ty_sz91
attribute [go_sem] ty_by91 ty_ki91 ty_ze91 ty_fl91_0 ty_fl91_1 ty_fl91_2 ty_fl91_3 ty_eq91 ty_bz91 ty_zz91 ty_sz92 ty_by92
attribute [go_sem] ty_ki92 ty_ze92 ty_zz92 ty_sz93 ty_by93 ty_ki93 ty_ze93 ty_zz93 ty_sz94 ty_by94 ty_ki94 ty_ze94
attribute [go_sem] ty_zz94 ty_sz95 ty_by95 ty_ki95 ty_ze95 ty_zz95 ty_sz96 ty_by96 ty_ki96 ty_ze96 ty_zz96 ty_sz97
attribute [go_sem] ty_by97 ty_ki97 ty_ze97 ty_zz97 ty_sz98 ty_by98 ty_ki98 ty_ze98 ty_zz98 ty_sz99 ty_by99 ty_ki99
attribute [go_sem] ty_ze99 ty_zz99 ty_sz100 ty_by100 ty_ki100 ty_sz101 ty_by101 ty_ki101 ty_ze101 ty_zz101 ty_sz102 ty_by102
attribute [go_sem] ty_ki102 ty_ze102 ty_zz102 ty_sz103 ty_by103 ty_ki103 ty_sz104 ty_by104 ty_ki104 ty_ze104 ty_zz104 ty_sz105
attribute [go_sem] ty_by105 ty_ki105 ty_ze105 ty_zz105 ty_sz106 ty_by106 ty_ki106 ty_ze106 ty_zz106 ty_sz107 ty_by107 ty_ki107
attribute [go_sem] ty_ze107 ty_zz107 ty_sz108 ty_by108 ty_ki108 ty_ze108 ty_zz108 ty_sz109 ty_by109 ty_ki109 ty_ze109 ty_zz109
attribute [go_sem] ty_sz110 ty_by110 ty_ki110 ty_ze110 ty_zz110 ty_sz111 ty_by111 ty_ki111 ty_ze111 ty_zz111 ty_sz112 ty_by112
attribute [go_sem] ty_ki112 ty_ze112 ty_zz112 ty_sz113 ty_by113 ty_ki113 ty_sz114 ty_by114 ty_ki114 ty_ze114 ty_zz114 ty_sz115
attribute [go_sem] ty_by115 ty_ki115 ty_ze115 ty_zz115 ty_sz116 ty_by116 ty_ki116 ty_ze116 ty_zz116 ty_sz117 ty_by117 ty_ki117
attribute [go_sem] ty_ze117 ty_fl117_0 ty_fl117_1 ty_eq117 ty_bz117 ty_zz117 ty_sz118 ty_by118 ty_ki118 ty_ze118 ty_fl118_0 ty_fl118_1
attribute [go_sem] ty_eq118 ty_bz118 ty_zz118 ty_sz119 ty_by119 ty_ki119 ty_ze119 ty_zz119 ty_sz120 ty_by120 ty_ki120 ty_ze120
attribute [go_sem] ty_bz120 ty_zz120 ty_sz121 ty_by121 ty_ki121 ty_ze121 ty_zz121 ty_sz122 ty_by122 ty_ki122 ty_ze122 ty_zz122
attribute [go_sem] ty_sz123 ty_by123 ty_ki123 ty_ze123 ty_zz123 ty_sz124 ty_by124 ty_ki124 ty_ze124 ty_zz124 ty_sz125 ty_by125
attribute [go_sem] ty_ki125 ty_ze125 ty_zz125 ty_sz126 ty_by126 ty_ki126 ty_ze126 ty_zz126 ty_sz127 ty_by127 ty_ki127 ty_ze127
attribute [go_sem] ty_zz127 ty_sz128 ty_by128 ty_ki128 ty_ze128 ty_zz128 ty_sz129 ty_by129 ty_ki129 ty_ze129 ty_fl129_0 ty_fl129_1
attribute [go_sem] ty_eq129 ty_bz129 ty_zz129 ty_sz130 ty_by130 ty_ki130 ty_ze130 ty_fl130_0 ty_fl130_1 ty_eq130 ty_bz130 ty_zz130
attribute [go_sem] ty_sz131 ty_by131 ty_ki131 ty_ze131 ty_zz131 ty_sz132 ty_by132 ty_ki132 ty_ze132 ty_zz132 ty_sz133 ty_by133
attribute [go_sem] ty_ki133 ty_ze133 ty_zz133 ty_sz134 ty_by134 ty_ki134 ty_ze134 ty_zz134 ty_sz135 ty_by135 ty_ki135 ty_ze135
attribute [go_sem] ty_zz135 ty_sz136 ty_by136 ty_ki136 ty_ze136 ty_zz136 ty_sz137 ty_by137 ty_ki137 ty_ze137 ty_zz137 ty_sz138
attribute [go_sem] ty_by138 ty_ki138 ty_ze138 ty_zz138 ty_sz139 ty_by139 ty_ki139 ty_ze139 ty_zz139 ty_sz140 ty_by140 ty_ki140
attribute [go_sem] ty_ze140 ty_zz140 ty_sz141 ty_by141 ty_ki141 ty_ze141 ty_zz141 ty_sz142 ty_by142 ty_ki142 ty_ze142 ty_zz142
attribute [go_sem] ty_sz143 ty_by143 ty_ki143 ty_sz144 ty_by144 ty_ki144 ty_ze144 ty_zz144 ty_sz145 ty_by145 ty_ki145 ty_ze145
attribute [go_sem] ty_zz145 ty_sz146 ty_by146 ty_ki146 ty_ze146 ty_zz146 ty_sz147 ty_by147 ty_ki147 ty_ze147 ty_zz147 ty_sz148
attribute [go_sem] ty_by148 ty_ki148 ty_ze148 ty_zz148 ty_sz149 ty_by149 ty_ki149 ty_ze149 ty_zz149 ty_sz150 ty_by150 ty_ki150
attribute [go_sem] ty_ze150 ty_zz150 ty_sz151 ty_by151 ty_ki151 ty_ze151 ty_zz151 ty_sz152 ty_by152 ty_ki152 ty_ze152 ty_zz152
attribute [go_sem] ty_sz153 ty_by153 ty_ki153 ty_ze153 ty_zz153 ty_sz154 ty_by154 ty_ki154 ty_ze154 ty_zz154 ty_sz155 ty_by155
attribute [go_sem] ty_ki155 ty_ze155 ty_zz155 ty_sz156 ty_by156 ty_ki156 ty_ze156 ty_zz156 ty_sz157 ty_by157 ty_ki157 ty_ze157
attribute [go_sem] ty_zz157 ty_sz158 ty_by158 ty_ki158 ty_ze158 ty_zz158 ty_sz159 ty_by159 ty_ki159 ty_sz160 ty_by160 ty_ki160
attribute [go_sem] ty_ze160 ty_zz160 ty_sz161 ty_by161 ty_ki161 ty_ze161 ty_zz161 ty_sz162 ty_by162 ty_ki162 ty_ze162 ty_fl162_0
attribute [go_sem] ty_fl162_1 ty_fl162_2 ty_fl162_3 ty_bz162 ty_zz162 ty_sz164 ty_by164 ty_ki164 ty_ze164 ty_bz164 ty_sz165 ty_by165
attribute [go_sem] ty_ki165 ty_ze165 ty_fl165_0 ty_bz165 ty_sz169 ty_by169 ty_ki169 ty_ze169 ty_zz169 ty_sz170 ty_by170 ty_ki170
attribute [go_sem] ty_ze170 ty_zz170 ty_sz173 ty_by173 ty_ki173 ty_ze173 ty_fl173_0 ty_fl173_1 ty_fl173_2 ty_fl173_3 ty_fl173_4 ty_fl173_5
attribute [go_sem] ty_fl173_6 ty_fl173_7 ty_fl173_8 ty_fl173_9 ty_fl173_10 ty_bz173 ty_zz173 ty_sz175 ty_by175 ty_ki175 ty_ze175 ty_zz175
end Go.Proofs.Ytchedkjlhjfadaa
