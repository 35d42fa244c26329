/- A part of the proof: functions of the program, walked, or what operations come to. -/
import Derived.Test.YtaglagcanhiemaaDoorPvGen
import Derived.Test.YtaglagcanhiemaaDoorPvApp
import Derived.Test.YtaglagcanhiemaaDoorPvN1
import Derived.Test.YtaglagcanhiemaaDoorProg
import Derived.KernelRfl
namespace Go.Pv
open Go.Proofs
/-! What is known of the types. -/
@[simp] theorem sz1 : szOf @Tryd.prog 1 = 1 := by kernel_rfl
@[simp] theorem zd1 : zeroD @Tryd.prog 1 = some [.val .nilFunc] := by kernel_rfl
@[simp] theorem ze1 : zeroElem @Tryd.prog 1 = some (.val .nilFunc) := by kernel_rfl
@[simp] theorem sz2 : szOf @Tryd.prog 2 = 1 := by kernel_rfl
@[simp] theorem zd2 : zeroD @Tryd.prog 2 = some [.val (.int .i64 0)] := by kernel_rfl
@[simp] theorem ze2 : zeroElem @Tryd.prog 2 = some (.val (.int .i64 0)) := by kernel_rfl
@[simp] theorem sz3 : szOf @Tryd.prog 3 = 1 := by kernel_rfl
@[simp] theorem zd3 : zeroD @Tryd.prog 3 = some [.val (.int .i64 0)] := by kernel_rfl
@[simp] theorem ze3 : zeroElem @Tryd.prog 3 = some (.val (.int .i64 0)) := by kernel_rfl
@[simp] theorem sz4 : szOf @Tryd.prog 4 = 1 := by kernel_rfl
@[simp] theorem zd4 : zeroD @Tryd.prog 4 = some [.val (.bool false)] := by kernel_rfl
@[simp] theorem ze4 : zeroElem @Tryd.prog 4 = some (.val (.bool false)) := by kernel_rfl
@[simp] theorem sz5 : szOf @Tryd.prog 5 = 1 := by kernel_rfl
@[simp] theorem zd5 : zeroD @Tryd.prog 5 = some [.val (.int .u8 0)] := by kernel_rfl
@[simp] theorem ze5 : zeroElem @Tryd.prog 5 = some (.val (.int .u8 0)) := by kernel_rfl
@[simp] theorem sz6 : szOf @Tryd.prog 6 = 1 := by kernel_rfl
@[simp] theorem zd6 : zeroD @Tryd.prog 6 = some [.val (.int .u8 0)] := by kernel_rfl
@[simp] theorem ze6 : zeroElem @Tryd.prog 6 = some (.val (.int .u8 0)) := by kernel_rfl
@[simp] theorem sz7 : szOf @Tryd.prog 7 = 4 := by kernel_rfl
@[simp] theorem zd7 : zeroD @Tryd.prog 7 = some [.val (.int .i64 0), .val (.int .i64 0), .val (.bool false), .val (.int .u8 0)] := by kernel_rfl
@[simp] theorem ze7 : zeroElem @Tryd.prog 7 = some (.agg [.val (.int .i64 0), .val (.int .i64 0), .val (.bool false), .val (.int .u8 0)]) := by kernel_rfl
@[simp] theorem places7 : placesOf @Tryd.prog 7 = some [(0, 1), (1, 1), (2, 1), (3, 1)] := by kernel_rfl
@[simp] theorem sz8 : szOf @Tryd.prog 8 = 4 := by kernel_rfl
@[simp] theorem zd8 : zeroD @Tryd.prog 8 = some [.val (.int .i64 0), .val (.int .i64 0), .val (.bool false), .val (.int .u8 0)] := by kernel_rfl
@[simp] theorem ze8 : zeroElem @Tryd.prog 8 = some (.agg [.val (.int .i64 0), .val (.int .i64 0), .val (.bool false), .val (.int .u8 0)]) := by kernel_rfl
@[simp] theorem places8 : placesOf @Tryd.prog 8 = some [(0, 1), (1, 1), (2, 1), (3, 1)] := by kernel_rfl
@[simp] theorem sz9 : szOf @Tryd.prog 9 = 1 := by kernel_rfl
@[simp] theorem zd9 : zeroD @Tryd.prog 9 = some [.val (.string ⟨#[]⟩)] := by kernel_rfl
@[simp] theorem ze9 : zeroElem @Tryd.prog 9 = some (.val (.string ⟨#[]⟩)) := by kernel_rfl
@[simp] theorem sz10 : szOf @Tryd.prog 10 = 1 := by kernel_rfl
@[simp] theorem zd10 : zeroD @Tryd.prog 10 = some [.val (.string ⟨#[]⟩)] := by kernel_rfl
@[simp] theorem ze10 : zeroElem @Tryd.prog 10 = some (.val (.string ⟨#[]⟩)) := by kernel_rfl
@[simp] theorem sz11 : szOf @Tryd.prog 11 = 1 := by kernel_rfl
@[simp] theorem zd11 : zeroD @Tryd.prog 11 = some [.val (.string ⟨#[]⟩)] := by kernel_rfl
@[simp] theorem ze11 : zeroElem @Tryd.prog 11 = some (.val (.string ⟨#[]⟩)) := by kernel_rfl
@[simp] theorem sz12 : szOf @Tryd.prog 12 = 1 := by kernel_rfl
@[simp] theorem zd12 : zeroD @Tryd.prog 12 = some [.val (.int .u64 0)] := by kernel_rfl
@[simp] theorem ze12 : zeroElem @Tryd.prog 12 = some (.val (.int .u64 0)) := by kernel_rfl
@[simp] theorem sz13 : szOf @Tryd.prog 13 = 2 := by kernel_rfl
@[simp] theorem zd13 : zeroD @Tryd.prog 13 = some [.val (.string ⟨#[]⟩), .val (.int .u64 0)] := by kernel_rfl
@[simp] theorem ze13 : zeroElem @Tryd.prog 13 = some (.agg [.val (.string ⟨#[]⟩), .val (.int .u64 0)]) := by kernel_rfl
@[simp] theorem places13 : placesOf @Tryd.prog 13 = some [(0, 1), (1, 1)] := by kernel_rfl
@[simp] theorem sz14 : szOf @Tryd.prog 14 = 2 := by kernel_rfl
@[simp] theorem zd14 : zeroD @Tryd.prog 14 = some [.val (.string ⟨#[]⟩), .val (.int .u64 0)] := by kernel_rfl
@[simp] theorem ze14 : zeroElem @Tryd.prog 14 = some (.agg [.val (.string ⟨#[]⟩), .val (.int .u64 0)]) := by kernel_rfl
@[simp] theorem places14 : placesOf @Tryd.prog 14 = some [(0, 1), (1, 1)] := by kernel_rfl
@[simp] theorem sz15 : szOf @Tryd.prog 15 = 1 := by kernel_rfl
@[simp] theorem zd15 : zeroD @Tryd.prog 15 = some [.val (.pointer none)] := by kernel_rfl
@[simp] theorem ze15 : zeroElem @Tryd.prog 15 = some (.val (.pointer none)) := by kernel_rfl
@[simp] theorem sz16 : szOf @Tryd.prog 16 = 1 := by kernel_rfl
@[simp] theorem zd16 : zeroD @Tryd.prog 16 = some [.val (.pointer none)] := by kernel_rfl
@[simp] theorem ze16 : zeroElem @Tryd.prog 16 = some (.val (.pointer none)) := by kernel_rfl
@[simp] theorem sz17 : szOf @Tryd.prog 17 = 1 := by kernel_rfl
@[simp] theorem zd17 : zeroD @Tryd.prog 17 = some [.val (.pointer none)] := by kernel_rfl
@[simp] theorem ze17 : zeroElem @Tryd.prog 17 = some (.val (.pointer none)) := by kernel_rfl
@[simp] theorem sz18 : szOf @Tryd.prog 18 = 1 := by kernel_rfl
@[simp] theorem zd18 : zeroD @Tryd.prog 18 = some [.val (.pointer none)] := by kernel_rfl
@[simp] theorem ze18 : zeroElem @Tryd.prog 18 = some (.agg [.val (.pointer none)]) := by kernel_rfl
@[simp] theorem places18 : placesOf @Tryd.prog 18 = some [(0, 1)] := by kernel_rfl
@[simp] theorem sz19 : szOf @Tryd.prog 19 = 1 := by kernel_rfl
@[simp] theorem zd19 : zeroD @Tryd.prog 19 = some [.val (.pointer none)] := by kernel_rfl
@[simp] theorem ze19 : zeroElem @Tryd.prog 19 = some (.agg [.val (.pointer none)]) := by kernel_rfl
@[simp] theorem places19 : placesOf @Tryd.prog 19 = some [(0, 1)] := by kernel_rfl
@[simp] theorem sz20 : szOf @Tryd.prog 20 = 1 := by kernel_rfl
@[simp] theorem zd20 : zeroD @Tryd.prog 20 = some [.val .nilIface] := by kernel_rfl
@[simp] theorem ze20 : zeroElem @Tryd.prog 20 = some (.val .nilIface) := by kernel_rfl
@[simp] theorem sz21 : szOf @Tryd.prog 21 = 1 := by kernel_rfl
@[simp] theorem zd21 : zeroD @Tryd.prog 21 = some [.val (.int .i32 0)] := by kernel_rfl
@[simp] theorem ze21 : zeroElem @Tryd.prog 21 = some (.val (.int .i32 0)) := by kernel_rfl
@[simp] theorem sz22 : szOf @Tryd.prog 22 = 1 := by kernel_rfl
@[simp] theorem zd22 : zeroD @Tryd.prog 22 = some [.val .nilFunc] := by kernel_rfl
@[simp] theorem ze22 : zeroElem @Tryd.prog 22 = some (.val .nilFunc) := by kernel_rfl
@[simp] theorem sz23 : szOf @Tryd.prog 23 = 1 := by kernel_rfl
@[simp] theorem zd23 : zeroD @Tryd.prog 23 = some [.slice 1 0 []] := by kernel_rfl
@[simp] theorem ze23 : zeroElem @Tryd.prog 23 = some (.slice 1 0 []) := by kernel_rfl
@[simp] theorem sz24 : szOf @Tryd.prog 24 = 1 := by kernel_rfl
@[simp] theorem zd24 : zeroD @Tryd.prog 24 = some [.val (.int .i64 0)] := by kernel_rfl
@[simp] theorem ze24 : zeroElem @Tryd.prog 24 = some (.val (.int .i64 0)) := by kernel_rfl
@[simp] theorem sz26 : szOf @Tryd.prog 26 = 1 := by kernel_rfl
@[simp] theorem zd26 : zeroD @Tryd.prog 26 = some [.val .nilFunc] := by kernel_rfl
@[simp] theorem ze26 : zeroElem @Tryd.prog 26 = some (.val .nilFunc) := by kernel_rfl
@[simp] theorem sz28 : szOf @Tryd.prog 28 = 1 := by kernel_rfl
@[simp] theorem zd28 : zeroD @Tryd.prog 28 = some [.val .nilFunc] := by kernel_rfl
@[simp] theorem ze28 : zeroElem @Tryd.prog 28 = some (.val .nilFunc) := by kernel_rfl
@[simp] theorem sz29 : szOf @Tryd.prog 29 = 1 := by kernel_rfl
@[simp] theorem zd29 : zeroD @Tryd.prog 29 = some [.val .nilFunc] := by kernel_rfl
@[simp] theorem ze29 : zeroElem @Tryd.prog 29 = some (.val .nilFunc) := by kernel_rfl
@[simp] theorem sz31 : szOf @Tryd.prog 31 = 1 := by kernel_rfl
@[simp] theorem zd31 : zeroD @Tryd.prog 31 = some [.val .nilFunc] := by kernel_rfl
@[simp] theorem ze31 : zeroElem @Tryd.prog 31 = some (.val .nilFunc) := by kernel_rfl
@[simp] theorem sz33 : szOf @Tryd.prog 33 = 1 := by kernel_rfl
@[simp] theorem zd33 : zeroD @Tryd.prog 33 = some [.val .nilFunc] := by kernel_rfl
@[simp] theorem ze33 : zeroElem @Tryd.prog 33 = some (.val .nilFunc) := by kernel_rfl
@[simp] theorem sz34 : szOf @Tryd.prog 34 = 1 := by kernel_rfl
@[simp] theorem zd34 : zeroD @Tryd.prog 34 = some [.val .nilFunc] := by kernel_rfl
@[simp] theorem ze34 : zeroElem @Tryd.prog 34 = some (.val .nilFunc) := by kernel_rfl
@[simp] theorem sz35 : szOf @Tryd.prog 35 = 1 := by kernel_rfl
@[simp] theorem zd35 : zeroD @Tryd.prog 35 = some [.val .nilFunc] := by kernel_rfl
@[simp] theorem ze35 : zeroElem @Tryd.prog 35 = some (.val .nilFunc) := by kernel_rfl
@[simp] theorem sz36 : szOf @Tryd.prog 36 = 1 := by kernel_rfl
@[simp] theorem zd36 : zeroD @Tryd.prog 36 = some [.slice 1 0 []] := by kernel_rfl
@[simp] theorem ze36 : zeroElem @Tryd.prog 36 = some (.slice 1 0 []) := by kernel_rfl
@[simp] theorem sz38 : szOf @Tryd.prog 38 = 1 := by kernel_rfl
@[simp] theorem zd38 : zeroD @Tryd.prog 38 = some [.val .nilFunc] := by kernel_rfl
@[simp] theorem ze38 : zeroElem @Tryd.prog 38 = some (.val .nilFunc) := by kernel_rfl
@[simp] theorem sz39 : szOf @Tryd.prog 39 = 1 := by kernel_rfl
@[simp] theorem zd39 : zeroD @Tryd.prog 39 = some [.val .nilFunc] := by kernel_rfl
@[simp] theorem ze39 : zeroElem @Tryd.prog 39 = some (.val .nilFunc) := by kernel_rfl
@[simp] theorem sz40 : szOf @Tryd.prog 40 = 1 := by kernel_rfl
@[simp] theorem zd40 : zeroD @Tryd.prog 40 = some [.val .nilFunc] := by kernel_rfl
@[simp] theorem ze40 : zeroElem @Tryd.prog 40 = some (.val .nilFunc) := by kernel_rfl
@[simp] theorem sz41 : szOf @Tryd.prog 41 = 1 := by kernel_rfl
@[simp] theorem zd41 : zeroD @Tryd.prog 41 = some [.val .nilFunc] := by kernel_rfl
@[simp] theorem ze41 : zeroElem @Tryd.prog 41 = some (.val .nilFunc) := by kernel_rfl
@[simp] theorem sz42 : szOf @Tryd.prog 42 = 1 := by kernel_rfl
@[simp] theorem zd42 : zeroD @Tryd.prog 42 = some [.slice 1 0 []] := by kernel_rfl
@[simp] theorem ze42 : zeroElem @Tryd.prog 42 = some (.slice 1 0 []) := by kernel_rfl
@[simp] theorem sz44 : szOf @Tryd.prog 44 = 1 := by kernel_rfl
@[simp] theorem zd44 : zeroD @Tryd.prog 44 = some [.val .nilFunc] := by kernel_rfl
@[simp] theorem ze44 : zeroElem @Tryd.prog 44 = some (.val .nilFunc) := by kernel_rfl
@[simp] theorem sz45 : szOf @Tryd.prog 45 = 1 := by kernel_rfl
@[simp] theorem zd45 : zeroD @Tryd.prog 45 = some [.val .nilFunc] := by kernel_rfl
@[simp] theorem ze45 : zeroElem @Tryd.prog 45 = some (.val .nilFunc) := by kernel_rfl
@[simp] theorem sz46 : szOf @Tryd.prog 46 = 1 := by kernel_rfl
@[simp] theorem zd46 : zeroD @Tryd.prog 46 = some [.val .nilFunc] := by kernel_rfl
@[simp] theorem ze46 : zeroElem @Tryd.prog 46 = some (.val .nilFunc) := by kernel_rfl
@[simp] theorem sz47 : szOf @Tryd.prog 47 = 1 := by kernel_rfl
@[simp] theorem zd47 : zeroD @Tryd.prog 47 = some [.val (.int .u64 0)] := by kernel_rfl
@[simp] theorem ze47 : zeroElem @Tryd.prog 47 = some (.val (.int .u64 0)) := by kernel_rfl
@[simp] theorem sz48 : szOf @Tryd.prog 48 = 1 := by kernel_rfl
@[simp] theorem zd48 : zeroD @Tryd.prog 48 = some [.val .nilFunc] := by kernel_rfl
@[simp] theorem ze48 : zeroElem @Tryd.prog 48 = some (.val .nilFunc) := by kernel_rfl
@[simp] theorem sz49 : szOf @Tryd.prog 49 = 1 := by kernel_rfl
@[simp] theorem zd49 : zeroD @Tryd.prog 49 = some [.val .nilFunc] := by kernel_rfl
@[simp] theorem ze49 : zeroElem @Tryd.prog 49 = some (.val .nilFunc) := by kernel_rfl
@[simp] theorem sz50 : szOf @Tryd.prog 50 = 1 := by kernel_rfl
@[simp] theorem zd50 : zeroD @Tryd.prog 50 = some [.val .nilFunc] := by kernel_rfl
@[simp] theorem ze50 : zeroElem @Tryd.prog 50 = some (.val .nilFunc) := by kernel_rfl
@[simp] theorem sz51 : szOf @Tryd.prog 51 = 1 := by kernel_rfl
@[simp] theorem zd51 : zeroD @Tryd.prog 51 = some [.val .nilFunc] := by kernel_rfl
@[simp] theorem ze51 : zeroElem @Tryd.prog 51 = some (.val .nilFunc) := by kernel_rfl
@[simp] theorem sz52 : szOf @Tryd.prog 52 = 1 := by kernel_rfl
@[simp] theorem zd52 : zeroD @Tryd.prog 52 = some [.val .nilFunc] := by kernel_rfl
@[simp] theorem ze52 : zeroElem @Tryd.prog 52 = some (.val .nilFunc) := by kernel_rfl
@[simp] theorem sz53 : szOf @Tryd.prog 53 = 1 := by kernel_rfl
@[simp] theorem zd53 : zeroD @Tryd.prog 53 = some [.val (.map none)] := by kernel_rfl
@[simp] theorem ze53 : zeroElem @Tryd.prog 53 = some (.val (.map none)) := by kernel_rfl
@[simp] theorem sz54 : szOf @Tryd.prog 54 = 1 := by kernel_rfl
@[simp] theorem zd54 : zeroD @Tryd.prog 54 = some [.val .nilFunc] := by kernel_rfl
@[simp] theorem ze54 : zeroElem @Tryd.prog 54 = some (.val .nilFunc) := by kernel_rfl
@[simp] theorem sz55 : szOf @Tryd.prog 55 = 1 := by kernel_rfl
@[simp] theorem zd55 : zeroD @Tryd.prog 55 = some [.val .nilFunc] := by kernel_rfl
@[simp] theorem ze55 : zeroElem @Tryd.prog 55 = some (.val .nilFunc) := by kernel_rfl
@[simp] theorem sz57 : szOf @Tryd.prog 57 = 1 := by kernel_rfl
@[simp] theorem zd57 : zeroD @Tryd.prog 57 = some [.val .nilFunc] := by kernel_rfl
@[simp] theorem ze57 : zeroElem @Tryd.prog 57 = some (.val .nilFunc) := by kernel_rfl
@[simp] theorem sz58 : szOf @Tryd.prog 58 = 1 := by kernel_rfl
@[simp] theorem zd58 : zeroD @Tryd.prog 58 = some [.val (.pointer none)] := by kernel_rfl
@[simp] theorem ze58 : zeroElem @Tryd.prog 58 = some (.val (.pointer none)) := by kernel_rfl
@[simp] theorem sz59 : szOf @Tryd.prog 59 = 2 := by kernel_rfl
@[simp] theorem zd59 : zeroD @Tryd.prog 59 = some [.val (.pointer none), .slice 1 0 []] := by kernel_rfl
@[simp] theorem ze59 : zeroElem @Tryd.prog 59 = some (.agg [.val (.pointer none), .slice 1 0 []]) := by kernel_rfl
@[simp] theorem places59 : placesOf @Tryd.prog 59 = some [(0, 1), (1, 1)] := by kernel_rfl
@[simp] theorem sz60 : szOf @Tryd.prog 60 = 2 := by kernel_rfl
@[simp] theorem zd60 : zeroD @Tryd.prog 60 = some [.val (.pointer none), .slice 1 0 []] := by kernel_rfl
@[simp] theorem ze60 : zeroElem @Tryd.prog 60 = some (.agg [.val (.pointer none), .slice 1 0 []]) := by kernel_rfl
@[simp] theorem places60 : placesOf @Tryd.prog 60 = some [(0, 1), (1, 1)] := by kernel_rfl
@[simp] theorem sz61 : szOf @Tryd.prog 61 = 1 := by kernel_rfl
@[simp] theorem zd61 : zeroD @Tryd.prog 61 = some [.val .nilFunc] := by kernel_rfl
@[simp] theorem ze61 : zeroElem @Tryd.prog 61 = some (.val .nilFunc) := by kernel_rfl
@[simp] theorem sz62 : szOf @Tryd.prog 62 = 1 := by kernel_rfl
@[simp] theorem zd62 : zeroD @Tryd.prog 62 = some [.val .nilIface] := by kernel_rfl
@[simp] theorem ze62 : zeroElem @Tryd.prog 62 = some (.val .nilIface) := by kernel_rfl
@[simp] theorem sz63 : szOf @Tryd.prog 63 = 1 := by kernel_rfl
@[simp] theorem zd63 : zeroD @Tryd.prog 63 = some [.val .nilIface] := by kernel_rfl
@[simp] theorem ze63 : zeroElem @Tryd.prog 63 = some (.val .nilIface) := by kernel_rfl
@[simp] theorem sz65 : szOf @Tryd.prog 65 = 1 := by kernel_rfl
@[simp] theorem zd65 : zeroD @Tryd.prog 65 = some [.val .nilFunc] := by kernel_rfl
@[simp] theorem ze65 : zeroElem @Tryd.prog 65 = some (.val .nilFunc) := by kernel_rfl
@[simp] theorem sz66 : szOf @Tryd.prog 66 = 1 := by kernel_rfl
@[simp] theorem zd66 : zeroD @Tryd.prog 66 = some [.val .nilFunc] := by kernel_rfl
@[simp] theorem ze66 : zeroElem @Tryd.prog 66 = some (.val .nilFunc) := by kernel_rfl
@[simp] theorem sz67 : szOf @Tryd.prog 67 = 1 := by kernel_rfl
@[simp] theorem zd67 : zeroD @Tryd.prog 67 = some [.val .nilFunc] := by kernel_rfl
@[simp] theorem ze67 : zeroElem @Tryd.prog 67 = some (.val .nilFunc) := by kernel_rfl
@[simp] theorem sz68 : szOf @Tryd.prog 68 = 1 := by kernel_rfl
@[simp] theorem zd68 : zeroD @Tryd.prog 68 = some [.val .nilFunc] := by kernel_rfl
@[simp] theorem ze68 : zeroElem @Tryd.prog 68 = some (.val .nilFunc) := by kernel_rfl
@[simp] theorem sz69 : szOf @Tryd.prog 69 = 1 := by kernel_rfl
@[simp] theorem zd69 : zeroD @Tryd.prog 69 = some [.val .nilFunc] := by kernel_rfl
@[simp] theorem ze69 : zeroElem @Tryd.prog 69 = some (.val .nilFunc) := by kernel_rfl
@[simp] theorem sz70 : szOf @Tryd.prog 70 = 1 := by kernel_rfl
@[simp] theorem zd70 : zeroD @Tryd.prog 70 = some [.val (.pointer none)] := by kernel_rfl
@[simp] theorem ze70 : zeroElem @Tryd.prog 70 = some (.val (.pointer none)) := by kernel_rfl
@[simp] theorem sz71 : szOf @Tryd.prog 71 = 1 := by kernel_rfl
@[simp] theorem zd71 : zeroD @Tryd.prog 71 = some [.val .nilFunc] := by kernel_rfl
@[simp] theorem ze71 : zeroElem @Tryd.prog 71 = some (.val .nilFunc) := by kernel_rfl
@[simp] theorem sz72 : szOf @Tryd.prog 72 = 1 := by kernel_rfl
@[simp] theorem zd72 : zeroD @Tryd.prog 72 = some [.val .nilFunc] := by kernel_rfl
@[simp] theorem ze72 : zeroElem @Tryd.prog 72 = some (.val .nilFunc) := by kernel_rfl
@[simp] theorem sz73 : szOf @Tryd.prog 73 = 1 := by kernel_rfl
@[simp] theorem zd73 : zeroD @Tryd.prog 73 = some [.val .nilFunc] := by kernel_rfl
@[simp] theorem ze73 : zeroElem @Tryd.prog 73 = some (.val .nilFunc) := by kernel_rfl
@[simp] theorem sz74 : szOf @Tryd.prog 74 = 1 := by kernel_rfl
@[simp] theorem zd74 : zeroD @Tryd.prog 74 = some [.val (.int .i64 0)] := by kernel_rfl
@[simp] theorem ze74 : zeroElem @Tryd.prog 74 = some (.val (.int .i64 0)) := by kernel_rfl
@[simp] theorem sz76 : szOf @Tryd.prog 76 = 1 := by kernel_rfl
@[simp] theorem zd76 : zeroD @Tryd.prog 76 = some [.val .nilFunc] := by kernel_rfl
@[simp] theorem ze76 : zeroElem @Tryd.prog 76 = some (.val .nilFunc) := by kernel_rfl
@[simp] theorem sz77 : szOf @Tryd.prog 77 = 1 := by kernel_rfl
@[simp] theorem zd77 : zeroD @Tryd.prog 77 = some [.val .nilFunc] := by kernel_rfl
@[simp] theorem ze77 : zeroElem @Tryd.prog 77 = some (.val .nilFunc) := by kernel_rfl
@[simp] theorem sz78 : szOf @Tryd.prog 78 = 1 := by kernel_rfl
@[simp] theorem zd78 : zeroD @Tryd.prog 78 = some [.val .nilFunc] := by kernel_rfl
@[simp] theorem ze78 : zeroElem @Tryd.prog 78 = some (.val .nilFunc) := by kernel_rfl
@[simp] theorem sz79 : szOf @Tryd.prog 79 = 1 := by kernel_rfl
@[simp] theorem zd79 : zeroD @Tryd.prog 79 = some [.val .nilFunc] := by kernel_rfl
@[simp] theorem ze79 : zeroElem @Tryd.prog 79 = some (.val .nilFunc) := by kernel_rfl
@[simp] theorem sz80 : szOf @Tryd.prog 80 = 1 := by kernel_rfl
@[simp] theorem zd80 : zeroD @Tryd.prog 80 = some [.val .nilFunc] := by kernel_rfl
@[simp] theorem ze80 : zeroElem @Tryd.prog 80 = some (.val .nilFunc) := by kernel_rfl
@[simp] theorem sz81 : szOf @Tryd.prog 81 = 1 := by kernel_rfl
@[simp] theorem zd81 : zeroD @Tryd.prog 81 = some [.val (.int .u32 0)] := by kernel_rfl
@[simp] theorem ze81 : zeroElem @Tryd.prog 81 = some (.val (.int .u32 0)) := by kernel_rfl
@[simp] theorem sz82 : szOf @Tryd.prog 82 = 1 := by kernel_rfl
@[simp] theorem zd82 : zeroD @Tryd.prog 82 = some [.val .nilFunc] := by kernel_rfl
@[simp] theorem ze82 : zeroElem @Tryd.prog 82 = some (.val .nilFunc) := by kernel_rfl
@[simp] theorem sz83 : szOf @Tryd.prog 83 = 1 := by kernel_rfl
@[simp] theorem zd83 : zeroD @Tryd.prog 83 = some [.val (.int .u64 0)] := by kernel_rfl
@[simp] theorem ze83 : zeroElem @Tryd.prog 83 = some (.val (.int .u64 0)) := by kernel_rfl
@[simp] theorem sz84 : szOf @Tryd.prog 84 = 1 := by kernel_rfl
@[simp] theorem zd84 : zeroD @Tryd.prog 84 = some [.val (.pointer none)] := by kernel_rfl
@[simp] theorem ze84 : zeroElem @Tryd.prog 84 = some (.val (.pointer none)) := by kernel_rfl
@[simp] theorem sz85 : szOf @Tryd.prog 85 = 1 := by kernel_rfl
@[simp] theorem zd85 : zeroD @Tryd.prog 85 = some [.val .nilFunc] := by kernel_rfl
@[simp] theorem ze85 : zeroElem @Tryd.prog 85 = some (.val .nilFunc) := by kernel_rfl
@[simp] theorem sz86 : szOf @Tryd.prog 86 = 1 := by kernel_rfl
@[simp] theorem zd86 : zeroD @Tryd.prog 86 = some [.val .nilFunc] := by kernel_rfl
@[simp] theorem ze86 : zeroElem @Tryd.prog 86 = some (.val .nilFunc) := by kernel_rfl
@[simp] theorem sz88 : szOf @Tryd.prog 88 = 1 := by kernel_rfl
@[simp] theorem zd88 : zeroD @Tryd.prog 88 = some [.val .nilFunc] := by kernel_rfl
@[simp] theorem ze88 : zeroElem @Tryd.prog 88 = some (.val .nilFunc) := by kernel_rfl
@[simp] theorem sz89 : szOf @Tryd.prog 89 = 1 := by kernel_rfl
@[simp] theorem zd89 : zeroD @Tryd.prog 89 = some [.val .nilFunc] := by kernel_rfl
@[simp] theorem ze89 : zeroElem @Tryd.prog 89 = some (.val .nilFunc) := by kernel_rfl
@[simp] theorem sz90 : szOf @Tryd.prog 90 = 1 := by kernel_rfl
@[simp] theorem zd90 : zeroD @Tryd.prog 90 = some [.val (.int .u64 0)] := by kernel_rfl
@[simp] theorem ze90 : zeroElem @Tryd.prog 90 = some (.val (.int .u64 0)) := by kernel_rfl
@[simp] theorem sz91 : szOf @Tryd.prog 91 = 1 := by kernel_rfl
@[simp] theorem zd91 : zeroD @Tryd.prog 91 = some [.val .nilFunc] := by kernel_rfl
@[simp] theorem ze91 : zeroElem @Tryd.prog 91 = some (.val .nilFunc) := by kernel_rfl
@[simp] theorem sz92 : szOf @Tryd.prog 92 = 1 := by kernel_rfl
@[simp] theorem zd92 : zeroD @Tryd.prog 92 = some [.val .nilFunc] := by kernel_rfl
@[simp] theorem ze92 : zeroElem @Tryd.prog 92 = some (.val .nilFunc) := by kernel_rfl
@[simp] theorem sz93 : szOf @Tryd.prog 93 = 1 := by kernel_rfl
@[simp] theorem zd93 : zeroD @Tryd.prog 93 = some [.val .nilFunc] := by kernel_rfl
@[simp] theorem ze93 : zeroElem @Tryd.prog 93 = some (.val .nilFunc) := by kernel_rfl
@[simp] theorem sz94 : szOf @Tryd.prog 94 = 1 := by kernel_rfl
@[simp] theorem zd94 : zeroD @Tryd.prog 94 = some [.val (.pointer none)] := by kernel_rfl
@[simp] theorem ze94 : zeroElem @Tryd.prog 94 = some (.val (.pointer none)) := by kernel_rfl
@[simp] theorem sz95 : szOf @Tryd.prog 95 = 1 := by kernel_rfl
@[simp] theorem zd95 : zeroD @Tryd.prog 95 = some [.val .nilFunc] := by kernel_rfl
@[simp] theorem ze95 : zeroElem @Tryd.prog 95 = some (.val .nilFunc) := by kernel_rfl
@[simp] theorem sz96 : szOf @Tryd.prog 96 = 1 := by kernel_rfl
@[simp] theorem zd96 : zeroD @Tryd.prog 96 = some [.val .nilFunc] := by kernel_rfl
@[simp] theorem ze96 : zeroElem @Tryd.prog 96 = some (.val .nilFunc) := by kernel_rfl
@[simp] theorem sz97 : szOf @Tryd.prog 97 = 1 := by kernel_rfl
@[simp] theorem zd97 : zeroD @Tryd.prog 97 = some [.val (.pointer none)] := by kernel_rfl
@[simp] theorem ze97 : zeroElem @Tryd.prog 97 = some (.val (.pointer none)) := by kernel_rfl
@[simp] theorem sz99 : szOf @Tryd.prog 99 = 1 := by kernel_rfl
@[simp] theorem zd99 : zeroD @Tryd.prog 99 = some [.val .nilFunc] := by kernel_rfl
@[simp] theorem ze99 : zeroElem @Tryd.prog 99 = some (.val .nilFunc) := by kernel_rfl
@[simp] theorem sz100 : szOf @Tryd.prog 100 = 256 := by kernel_rfl
@[simp] theorem sz101 : szOf @Tryd.prog 101 = 2 := by kernel_rfl
@[simp] theorem zd101 : zeroD @Tryd.prog 101 = some [.val (.int .u8 0), .val (.int .u8 0)] := by kernel_rfl
@[simp] theorem ze101 : zeroElem @Tryd.prog 101 = some (.agg [.val (.int .u8 0), .val (.int .u8 0)]) := by kernel_rfl
@[simp] theorem places101 : placesOf @Tryd.prog 101 = some [(0, 1), (1, 1)] := by kernel_rfl
@[simp] theorem sz102 : szOf @Tryd.prog 102 = 2 := by kernel_rfl
@[simp] theorem zd102 : zeroD @Tryd.prog 102 = some [.val (.int .u8 0), .val (.int .u8 0)] := by kernel_rfl
@[simp] theorem ze102 : zeroElem @Tryd.prog 102 = some (.agg [.val (.int .u8 0), .val (.int .u8 0)]) := by kernel_rfl
@[simp] theorem places102 : placesOf @Tryd.prog 102 = some [(0, 1), (1, 1)] := by kernel_rfl
@[simp] theorem sz103 : szOf @Tryd.prog 103 = 32 := by kernel_rfl
@[simp] theorem zd103 : zeroD @Tryd.prog 103 = some [.val (.int .u8 0), .val (.int .u8 0), .val (.int .u8 0), .val (.int .u8 0), .val (.int .u8 0), .val (.int .u8 0), .val (.int .u8 0), .val (.int .u8 0), .val (.int .u8 0), .val (.int .u8 0), .val (.int .u8 0), .val (.int .u8 0), .val (.int .u8 0), .val (.int .u8 0), .val (.int .u8 0), .val (.int .u8 0), .val (.int .u8 0), .val (.int .u8 0), .val (.int .u8 0), .val (.int .u8 0), .val (.int .u8 0), .val (.int .u8 0), .val (.int .u8 0), .val (.int .u8 0), .val (.int .u8 0), .val (.int .u8 0), .val (.int .u8 0), .val (.int .u8 0), .val (.int .u8 0), .val (.int .u8 0), .val (.int .u8 0), .val (.int .u8 0)] := by kernel_rfl
@[simp] theorem ze103 : zeroElem @Tryd.prog 103 = some (.agg [.val (.int .u8 0), .val (.int .u8 0), .val (.int .u8 0), .val (.int .u8 0), .val (.int .u8 0), .val (.int .u8 0), .val (.int .u8 0), .val (.int .u8 0), .val (.int .u8 0), .val (.int .u8 0), .val (.int .u8 0), .val (.int .u8 0), .val (.int .u8 0), .val (.int .u8 0), .val (.int .u8 0), .val (.int .u8 0), .val (.int .u8 0), .val (.int .u8 0), .val (.int .u8 0), .val (.int .u8 0), .val (.int .u8 0), .val (.int .u8 0), .val (.int .u8 0), .val (.int .u8 0), .val (.int .u8 0), .val (.int .u8 0), .val (.int .u8 0), .val (.int .u8 0), .val (.int .u8 0), .val (.int .u8 0), .val (.int .u8 0), .val (.int .u8 0)]) := by kernel_rfl
@[simp] theorem sz105 : szOf @Tryd.prog 105 = 1 := by kernel_rfl
@[simp] theorem zd105 : zeroD @Tryd.prog 105 = some [.val .nilFunc] := by kernel_rfl
@[simp] theorem ze105 : zeroElem @Tryd.prog 105 = some (.val .nilFunc) := by kernel_rfl
@[simp] theorem sz106 : szOf @Tryd.prog 106 = 4 := by kernel_rfl
@[simp] theorem zd106 : zeroD @Tryd.prog 106 = some [.val (.pointer none), .val (.pointer none), .val (.pointer none), .val (.string ⟨#[]⟩)] := by kernel_rfl
@[simp] theorem ze106 : zeroElem @Tryd.prog 106 = some (.agg [.val (.pointer none), .val (.pointer none), .val (.pointer none), .val (.string ⟨#[]⟩)]) := by kernel_rfl
@[simp] theorem places106 : placesOf @Tryd.prog 106 = some [(0, 1), (1, 1), (2, 1), (3, 1)] := by kernel_rfl
@[simp] theorem sz107 : szOf @Tryd.prog 107 = 4 := by kernel_rfl
@[simp] theorem zd107 : zeroD @Tryd.prog 107 = some [.val (.pointer none), .val (.pointer none), .val (.pointer none), .val (.string ⟨#[]⟩)] := by kernel_rfl
@[simp] theorem ze107 : zeroElem @Tryd.prog 107 = some (.agg [.val (.pointer none), .val (.pointer none), .val (.pointer none), .val (.string ⟨#[]⟩)]) := by kernel_rfl
@[simp] theorem places107 : placesOf @Tryd.prog 107 = some [(0, 1), (1, 1), (2, 1), (3, 1)] := by kernel_rfl
@[simp] theorem sz108 : szOf @Tryd.prog 108 = 0 := by kernel_rfl
@[simp] theorem zd108 : zeroD @Tryd.prog 108 = some [] := by kernel_rfl
@[simp] theorem sz109 : szOf @Tryd.prog 109 = 0 := by kernel_rfl
@[simp] theorem zd109 : zeroD @Tryd.prog 109 = some [] := by kernel_rfl
@[simp] theorem sz110 : szOf @Tryd.prog 110 = 0 := by kernel_rfl
@[simp] theorem zd110 : zeroD @Tryd.prog 110 = some [] := by kernel_rfl
@[simp] theorem sz111 : szOf @Tryd.prog 111 = 1 := by kernel_rfl
@[simp] theorem zd111 : zeroD @Tryd.prog 111 = some [.val .nilFunc] := by kernel_rfl
@[simp] theorem ze111 : zeroElem @Tryd.prog 111 = some (.val .nilFunc) := by kernel_rfl
@[simp] theorem sz112 : szOf @Tryd.prog 112 = 1 := by kernel_rfl
@[simp] theorem zd112 : zeroD @Tryd.prog 112 = some [.val (.int .u8 0)] := by kernel_rfl
@[simp] theorem ze112 : zeroElem @Tryd.prog 112 = some (.val (.int .u8 0)) := by kernel_rfl
@[simp] theorem sz113 : szOf @Tryd.prog 113 = 1 := by kernel_rfl
@[simp] theorem zd113 : zeroD @Tryd.prog 113 = some [.val (.int .u8 0)] := by kernel_rfl
@[simp] theorem ze113 : zeroElem @Tryd.prog 113 = some (.val (.int .u8 0)) := by kernel_rfl
@[simp] theorem sz114 : szOf @Tryd.prog 114 = 1 := by kernel_rfl
@[simp] theorem zd114 : zeroD @Tryd.prog 114 = some [.val .nilFunc] := by kernel_rfl
@[simp] theorem ze114 : zeroElem @Tryd.prog 114 = some (.val .nilFunc) := by kernel_rfl
@[simp] theorem sz115 : szOf @Tryd.prog 115 = 1 := by kernel_rfl
@[simp] theorem zd115 : zeroD @Tryd.prog 115 = some [.val (.int .i32 0)] := by kernel_rfl
@[simp] theorem ze115 : zeroElem @Tryd.prog 115 = some (.val (.int .i32 0)) := by kernel_rfl
@[simp] theorem sz116 : szOf @Tryd.prog 116 = 1 := by kernel_rfl
@[simp] theorem zd116 : zeroD @Tryd.prog 116 = some [.val (.int .i32 0)] := by kernel_rfl
@[simp] theorem ze116 : zeroElem @Tryd.prog 116 = some (.val (.int .i32 0)) := by kernel_rfl
@[simp] theorem sz117 : szOf @Tryd.prog 117 = 11 := by kernel_rfl
@[simp] theorem zd117 : zeroD @Tryd.prog 117 = some [.val (.int .u64 0), .val (.int .u64 0), .val (.int .u32 0), .val (.int .u8 0), .val (.int .u8 0), .val (.int .u8 0), .val (.int .u8 0), .val .nilFunc, .val (.pointer none), .val (.int .i32 0), .val (.int .i32 0)] := by kernel_rfl
@[simp] theorem ze117 : zeroElem @Tryd.prog 117 = some (.agg [.val (.int .u64 0), .val (.int .u64 0), .val (.int .u32 0), .val (.int .u8 0), .val (.int .u8 0), .val (.int .u8 0), .val (.int .u8 0), .val .nilFunc, .val (.pointer none), .val (.int .i32 0), .val (.int .i32 0)]) := by kernel_rfl
@[simp] theorem places117 : placesOf @Tryd.prog 117 = some [(0, 1), (1, 1), (2, 1), (3, 1), (4, 1), (5, 1), (6, 1), (7, 1), (8, 1), (9, 1), (10, 1)] := by kernel_rfl
@[simp] theorem sz118 : szOf @Tryd.prog 118 = 11 := by kernel_rfl
@[simp] theorem zd118 : zeroD @Tryd.prog 118 = some [.val (.int .u64 0), .val (.int .u64 0), .val (.int .u32 0), .val (.int .u8 0), .val (.int .u8 0), .val (.int .u8 0), .val (.int .u8 0), .val .nilFunc, .val (.pointer none), .val (.int .i32 0), .val (.int .i32 0)] := by kernel_rfl
@[simp] theorem ze118 : zeroElem @Tryd.prog 118 = some (.agg [.val (.int .u64 0), .val (.int .u64 0), .val (.int .u32 0), .val (.int .u8 0), .val (.int .u8 0), .val (.int .u8 0), .val (.int .u8 0), .val .nilFunc, .val (.pointer none), .val (.int .i32 0), .val (.int .i32 0)]) := by kernel_rfl
@[simp] theorem places118 : placesOf @Tryd.prog 118 = some [(0, 1), (1, 1), (2, 1), (3, 1), (4, 1), (5, 1), (6, 1), (7, 1), (8, 1), (9, 1), (10, 1)] := by kernel_rfl
@[simp ↓] theorem append23 (s x : D) (H : Heap) : eAppend @Tryd.prog 23 23 s x H = appK 5 1 s (news @Tryd.prog H 5 23 x) H := eAppend_of @Tryd.underlying23 (show @Tryd.prog.info? 5 = some @Tryd.t5 from rfl) (show @Tryd.t5.zero = some _ from rfl) (by kernel_rfl) (by decide) (by decide) (by kernel_rfl) s x H
@[simp ↓] theorem append36 (s x : D) (H : Heap) : eAppend @Tryd.prog 36 36 s x H = appK 9 16 s (news @Tryd.prog H 9 36 x) H := eAppend_of @Tryd.underlying36 (show @Tryd.prog.info? 9 = some @Tryd.t9 from rfl) (show @Tryd.t9.zero = some _ from rfl) (by kernel_rfl) (by decide) (by decide) (by kernel_rfl) s x H
@[simp ↓] theorem append42 (s x : D) (H : Heap) : eAppend @Tryd.prog 42 42 s x H = appK 3 8 s (news @Tryd.prog H 3 42 x) H := eAppend_of @Tryd.underlying42 (show @Tryd.prog.info? 3 = some @Tryd.t3 from rfl) (show @Tryd.t3.zero = some _ from rfl) (by kernel_rfl) (by decide) (by decide) (by kernel_rfl) s x H
@[simp ↓] theorem make23 (a c : D) (H : Heap) : eMakeSlice @Tryd.prog 23 a c H = mkK 5 1 (.val (.int .u8 0)) a c H := eMake_of @Tryd.underlying23 (show @Tryd.prog.info? 5 = some @Tryd.t5 from rfl) ze5 (by kernel_rfl) (by decide) a c H
@[simp ↓] theorem make36 (a c : D) (H : Heap) : eMakeSlice @Tryd.prog 36 a c H = mkK 9 16 (.val (.string ⟨#[]⟩)) a c H := eMake_of @Tryd.underlying36 (show @Tryd.prog.info? 9 = some @Tryd.t9 from rfl) ze9 (by kernel_rfl) (by decide) a c H
@[simp ↓] theorem make42 (a c : D) (H : Heap) : eMakeSlice @Tryd.prog 42 a c H = mkK 3 8 (.val (.int .i64 0)) a c H := eMake_of @Tryd.underlying42 (show @Tryd.prog.info? 3 = some @Tryd.t3 from rfl) ze3 (by kernel_rfl) (by decide) a c H
@[simp] theorem lenT9 (s : ByteArray) (H : Heap) : eLen @Tryd.prog 9 (.val (.string s)) H = some (.val (.int .i64 s.data.toList.length)) := by unfold eLen; rw [@Tryd.underlying9]
@[simp] theorem lenT10 (s : ByteArray) (H : Heap) : eLen @Tryd.prog 10 (.val (.string s)) H = some (.val (.int .i64 s.data.toList.length)) := by unfold eLen; rw [@Tryd.underlying10]
@[simp] theorem lenT11 (s : ByteArray) (H : Heap) : eLen @Tryd.prog 11 (.val (.string s)) H = some (.val (.int .i64 s.data.toList.length)) := by unfold eLen; rw [@Tryd.underlying11]
@[simp] theorem lenS23 (g e : Nat) (l : List D) (H : Heap) : eLen @Tryd.prog 23 (.slice g e l) H = some (.val (.int .i64 l.length)) := by unfold eLen; rw [@Tryd.underlying23]
@[simp] theorem lenR23 (i e o m : Nat) (H : Heap) : eLen @Tryd.prog 23 (.row i e o m) H = some (.val (.int .i64 m)) := by unfold eLen; rw [@Tryd.underlying23]
@[simp] theorem lenA23 (i e o m : Nat) (H : Heap) : eLen @Tryd.prog 23 (.arr i e o m) H = some (.val (.int .i64 m)) := by unfold eLen; rw [@Tryd.underlying23]
theorem lenG23 {H : Heap} {x : D} {e : Nat} {l : List D} (h : Grow H x e l) (H2 : Heap) : eLen @Tryd.prog 23 x H2 = some (.val (.int .i64 l.length)) := by rcases h with ⟨rfl, rfl⟩ | ⟨i, _, rfl, _⟩ <;> simp
@[simp] theorem lenS36 (g e : Nat) (l : List D) (H : Heap) : eLen @Tryd.prog 36 (.slice g e l) H = some (.val (.int .i64 l.length)) := by unfold eLen; rw [@Tryd.underlying36]
@[simp] theorem lenR36 (i e o m : Nat) (H : Heap) : eLen @Tryd.prog 36 (.row i e o m) H = some (.val (.int .i64 m)) := by unfold eLen; rw [@Tryd.underlying36]
@[simp] theorem lenA36 (i e o m : Nat) (H : Heap) : eLen @Tryd.prog 36 (.arr i e o m) H = some (.val (.int .i64 m)) := by unfold eLen; rw [@Tryd.underlying36]
theorem lenG36 {H : Heap} {x : D} {e : Nat} {l : List D} (h : Grow H x e l) (H2 : Heap) : eLen @Tryd.prog 36 x H2 = some (.val (.int .i64 l.length)) := by rcases h with ⟨rfl, rfl⟩ | ⟨i, _, rfl, _⟩ <;> simp
@[simp] theorem lenS42 (g e : Nat) (l : List D) (H : Heap) : eLen @Tryd.prog 42 (.slice g e l) H = some (.val (.int .i64 l.length)) := by unfold eLen; rw [@Tryd.underlying42]
@[simp] theorem lenR42 (i e o m : Nat) (H : Heap) : eLen @Tryd.prog 42 (.row i e o m) H = some (.val (.int .i64 m)) := by unfold eLen; rw [@Tryd.underlying42]
@[simp] theorem lenA42 (i e o m : Nat) (H : Heap) : eLen @Tryd.prog 42 (.arr i e o m) H = some (.val (.int .i64 m)) := by unfold eLen; rw [@Tryd.underlying42]
theorem lenG42 {H : Heap} {x : D} {e : Nat} {l : List D} (h : Grow H x e l) (H2 : Heap) : eLen @Tryd.prog 42 x H2 = some (.val (.int .i64 l.length)) := by rcases h with ⟨rfl, rfl⟩ | ⟨i, _, rfl, _⟩ <;> simp
@[simp] theorem lenY100 (x : D) (H : Heap) : (eLen @Tryd.prog 100 x H).isSome = (eLen @Tryd.prog 100 x H).isSome := rfl
@[simp] theorem lenY103 (x : D) (H : Heap) : (eLen @Tryd.prog 103 x H).isSome = (eLen @Tryd.prog 103 x H).isSome := rfl
@[simp] theorem lenY108 (x : D) (H : Heap) : (eLen @Tryd.prog 108 x H).isSome = (eLen @Tryd.prog 108 x H).isSome := rfl
attribute [-simp] eLen
attribute [simp] mkK eBuildSlice Heap.new_get Heap.put_get
theorem mixedO : @Tryd.prog.follows .mixedOrders = true := by kernel_rfl
end Go.Pv
