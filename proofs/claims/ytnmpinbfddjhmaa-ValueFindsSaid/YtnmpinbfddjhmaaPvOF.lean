/- A part of the proof: functions of the program, walked, or what operations come to. -/
import Derived.Test.YtnmpinbfddjhmaaPvGen
import Derived.Test.YtnmpinbfddjhmaaPvApp
import Derived.Test.YtnmpinbfddjhmaaPvN2
import Derived.Test.YtnmpinbfddjhmaaProg
import Derived.KernelRfl
set_option maxRecDepth 100000
namespace Go.Pv
open Go.Proofs
/-! What is known of the types. -/
@[simp] theorem sz1 : szOf @Try.prog 1 = 1 := by kernel_rfl
@[simp] theorem zd1 : zeroD @Try.prog 1 = some [.val .nilFunc] := by kernel_rfl
@[simp] theorem ze1 : zeroElem @Try.prog 1 = some (.val .nilFunc) := by kernel_rfl
@[simp] theorem bld1 : isBld @Try.prog 1 = false := by kernel_rfl
@[simp] theorem sz2 : szOf @Try.prog 2 = 1 := by kernel_rfl
@[simp] theorem zd2 : zeroD @Try.prog 2 = some [.val (.int .i64 0)] := by kernel_rfl
@[simp] theorem ze2 : zeroElem @Try.prog 2 = some (.val (.int .i64 0)) := by kernel_rfl
@[simp] theorem bld2 : isBld @Try.prog 2 = false := by kernel_rfl
@[simp] theorem sz3 : szOf @Try.prog 3 = 1 := by kernel_rfl
@[simp] theorem zd3 : zeroD @Try.prog 3 = some [.val (.int .i64 0)] := by kernel_rfl
@[simp] theorem ze3 : zeroElem @Try.prog 3 = some (.val (.int .i64 0)) := by kernel_rfl
@[simp] theorem bld3 : isBld @Try.prog 3 = false := by kernel_rfl
@[simp] theorem sz4 : szOf @Try.prog 4 = 1 := by kernel_rfl
@[simp] theorem zd4 : zeroD @Try.prog 4 = some [.val (.bool false)] := by kernel_rfl
@[simp] theorem ze4 : zeroElem @Try.prog 4 = some (.val (.bool false)) := by kernel_rfl
@[simp] theorem bld4 : isBld @Try.prog 4 = false := by kernel_rfl
@[simp] theorem sz5 : szOf @Try.prog 5 = 1 := by kernel_rfl
@[simp] theorem zd5 : zeroD @Try.prog 5 = some [.val (.int .u8 0)] := by kernel_rfl
@[simp] theorem ze5 : zeroElem @Try.prog 5 = some (.val (.int .u8 0)) := by kernel_rfl
@[simp] theorem bld5 : isBld @Try.prog 5 = false := by kernel_rfl
@[simp] theorem sz6 : szOf @Try.prog 6 = 1 := by kernel_rfl
@[simp] theorem zd6 : zeroD @Try.prog 6 = some [.val (.int .u8 0)] := by kernel_rfl
@[simp] theorem ze6 : zeroElem @Try.prog 6 = some (.val (.int .u8 0)) := by kernel_rfl
@[simp] theorem bld6 : isBld @Try.prog 6 = false := by kernel_rfl
@[simp] theorem sz7 : szOf @Try.prog 7 = 4 := by kernel_rfl
@[simp] theorem zd7 : zeroD @Try.prog 7 = some [.val (.int .i64 0), .val (.int .i64 0), .val (.bool false), .val (.int .u8 0)] := by kernel_rfl
@[simp] theorem ze7 : zeroElem @Try.prog 7 = some (.agg [.val (.int .i64 0), .val (.int .i64 0), .val (.bool false), .val (.int .u8 0)]) := by kernel_rfl
@[simp] theorem bld7 : isBld @Try.prog 7 = false := by kernel_rfl
@[simp] theorem places7 : placesOf @Try.prog 7 = some [(0, 1), (1, 1), (2, 1), (3, 1)] := by kernel_rfl
@[simp] theorem sz8 : szOf @Try.prog 8 = 4 := by kernel_rfl
@[simp] theorem zd8 : zeroD @Try.prog 8 = some [.val (.int .i64 0), .val (.int .i64 0), .val (.bool false), .val (.int .u8 0)] := by kernel_rfl
@[simp] theorem ze8 : zeroElem @Try.prog 8 = some (.agg [.val (.int .i64 0), .val (.int .i64 0), .val (.bool false), .val (.int .u8 0)]) := by kernel_rfl
@[simp] theorem bld8 : isBld @Try.prog 8 = false := by kernel_rfl
@[simp] theorem places8 : placesOf @Try.prog 8 = some [(0, 1), (1, 1), (2, 1), (3, 1)] := by kernel_rfl
@[simp] theorem sz9 : szOf @Try.prog 9 = 1 := by kernel_rfl
@[simp] theorem zd9 : zeroD @Try.prog 9 = some [.val (.string ⟨#[]⟩)] := by kernel_rfl
@[simp] theorem ze9 : zeroElem @Try.prog 9 = some (.val (.string ⟨#[]⟩)) := by kernel_rfl
@[simp] theorem bld9 : isBld @Try.prog 9 = false := by kernel_rfl
@[simp] theorem sz10 : szOf @Try.prog 10 = 1 := by kernel_rfl
@[simp] theorem zd10 : zeroD @Try.prog 10 = some [.val (.string ⟨#[]⟩)] := by kernel_rfl
@[simp] theorem ze10 : zeroElem @Try.prog 10 = some (.val (.string ⟨#[]⟩)) := by kernel_rfl
@[simp] theorem bld10 : isBld @Try.prog 10 = false := by kernel_rfl
@[simp] theorem sz11 : szOf @Try.prog 11 = 1 := by kernel_rfl
@[simp] theorem zd11 : zeroD @Try.prog 11 = some [.val (.string ⟨#[]⟩)] := by kernel_rfl
@[simp] theorem ze11 : zeroElem @Try.prog 11 = some (.val (.string ⟨#[]⟩)) := by kernel_rfl
@[simp] theorem bld11 : isBld @Try.prog 11 = false := by kernel_rfl
@[simp] theorem sz12 : szOf @Try.prog 12 = 1 := by kernel_rfl
@[simp] theorem zd12 : zeroD @Try.prog 12 = some [.val (.int .u64 0)] := by kernel_rfl
@[simp] theorem ze12 : zeroElem @Try.prog 12 = some (.val (.int .u64 0)) := by kernel_rfl
@[simp] theorem bld12 : isBld @Try.prog 12 = false := by kernel_rfl
@[simp] theorem sz13 : szOf @Try.prog 13 = 2 := by kernel_rfl
@[simp] theorem zd13 : zeroD @Try.prog 13 = some [.val (.string ⟨#[]⟩), .val (.int .u64 0)] := by kernel_rfl
@[simp] theorem ze13 : zeroElem @Try.prog 13 = some (.agg [.val (.string ⟨#[]⟩), .val (.int .u64 0)]) := by kernel_rfl
@[simp] theorem bld13 : isBld @Try.prog 13 = false := by kernel_rfl
@[simp] theorem places13 : placesOf @Try.prog 13 = some [(0, 1), (1, 1)] := by kernel_rfl
@[simp] theorem sz14 : szOf @Try.prog 14 = 2 := by kernel_rfl
@[simp] theorem zd14 : zeroD @Try.prog 14 = some [.val (.string ⟨#[]⟩), .val (.int .u64 0)] := by kernel_rfl
@[simp] theorem ze14 : zeroElem @Try.prog 14 = some (.agg [.val (.string ⟨#[]⟩), .val (.int .u64 0)]) := by kernel_rfl
@[simp] theorem bld14 : isBld @Try.prog 14 = false := by kernel_rfl
@[simp] theorem places14 : placesOf @Try.prog 14 = some [(0, 1), (1, 1)] := by kernel_rfl
@[simp] theorem sz15 : szOf @Try.prog 15 = 1 := by kernel_rfl
@[simp] theorem zd15 : zeroD @Try.prog 15 = some [.val (.pointer none)] := by kernel_rfl
@[simp] theorem ze15 : zeroElem @Try.prog 15 = some (.val (.pointer none)) := by kernel_rfl
@[simp] theorem bld15 : isBld @Try.prog 15 = false := by kernel_rfl
@[simp] theorem sz16 : szOf @Try.prog 16 = 1 := by kernel_rfl
@[simp] theorem zd16 : zeroD @Try.prog 16 = some [.val (.pointer none)] := by kernel_rfl
@[simp] theorem ze16 : zeroElem @Try.prog 16 = some (.val (.pointer none)) := by kernel_rfl
@[simp] theorem bld16 : isBld @Try.prog 16 = false := by kernel_rfl
@[simp] theorem sz17 : szOf @Try.prog 17 = 1 := by kernel_rfl
@[simp] theorem zd17 : zeroD @Try.prog 17 = some [.val (.pointer none)] := by kernel_rfl
@[simp] theorem ze17 : zeroElem @Try.prog 17 = some (.val (.pointer none)) := by kernel_rfl
@[simp] theorem bld17 : isBld @Try.prog 17 = false := by kernel_rfl
@[simp] theorem sz18 : szOf @Try.prog 18 = 1 := by kernel_rfl
@[simp] theorem zd18 : zeroD @Try.prog 18 = some [.val (.pointer none)] := by kernel_rfl
@[simp] theorem ze18 : zeroElem @Try.prog 18 = some (.agg [.val (.pointer none)]) := by kernel_rfl
@[simp] theorem bld18 : isBld @Try.prog 18 = false := by kernel_rfl
@[simp] theorem places18 : placesOf @Try.prog 18 = some [(0, 1)] := by kernel_rfl
@[simp] theorem sz19 : szOf @Try.prog 19 = 1 := by kernel_rfl
@[simp] theorem zd19 : zeroD @Try.prog 19 = some [.val (.pointer none)] := by kernel_rfl
@[simp] theorem ze19 : zeroElem @Try.prog 19 = some (.agg [.val (.pointer none)]) := by kernel_rfl
@[simp] theorem bld19 : isBld @Try.prog 19 = false := by kernel_rfl
@[simp] theorem places19 : placesOf @Try.prog 19 = some [(0, 1)] := by kernel_rfl
@[simp] theorem sz20 : szOf @Try.prog 20 = 1 := by kernel_rfl
@[simp] theorem zd20 : zeroD @Try.prog 20 = some [.val .nilIface] := by kernel_rfl
@[simp] theorem ze20 : zeroElem @Try.prog 20 = some (.val .nilIface) := by kernel_rfl
@[simp] theorem bld20 : isBld @Try.prog 20 = false := by kernel_rfl
@[simp] theorem sz21 : szOf @Try.prog 21 = 1 := by kernel_rfl
@[simp] theorem zd21 : zeroD @Try.prog 21 = some [.val (.int .i32 0)] := by kernel_rfl
@[simp] theorem ze21 : zeroElem @Try.prog 21 = some (.val (.int .i32 0)) := by kernel_rfl
@[simp] theorem bld21 : isBld @Try.prog 21 = false := by kernel_rfl
@[simp] theorem sz23 : szOf @Try.prog 23 = 1 := by kernel_rfl
@[simp] theorem zd23 : zeroD @Try.prog 23 = some [.val .nilFunc] := by kernel_rfl
@[simp] theorem ze23 : zeroElem @Try.prog 23 = some (.val .nilFunc) := by kernel_rfl
@[simp] theorem bld23 : isBld @Try.prog 23 = false := by kernel_rfl
@[simp] theorem sz24 : szOf @Try.prog 24 = 1 := by kernel_rfl
@[simp] theorem zd24 : zeroD @Try.prog 24 = some [.slice 1 0 []] := by kernel_rfl
@[simp] theorem ze24 : zeroElem @Try.prog 24 = some (.slice 1 0 []) := by kernel_rfl
@[simp] theorem bld24 : isBld @Try.prog 24 = false := by kernel_rfl
@[simp] theorem sz25 : szOf @Try.prog 25 = 3 := by kernel_rfl
@[simp] theorem zd25 : zeroD @Try.prog 25 = some [.val (.string ⟨#[]⟩), .val (.string ⟨#[]⟩), .slice 1 0 []] := by kernel_rfl
@[simp] theorem ze25 : zeroElem @Try.prog 25 = some (.agg [.val (.string ⟨#[]⟩), .val (.string ⟨#[]⟩), .slice 1 0 []]) := by kernel_rfl
@[simp] theorem bld25 : isBld @Try.prog 25 = false := by kernel_rfl
@[simp] theorem places25 : placesOf @Try.prog 25 = some [(0, 1), (1, 1), (2, 1)] := by kernel_rfl
@[simp] theorem sz26 : szOf @Try.prog 26 = 3 := by kernel_rfl
@[simp] theorem zd26 : zeroD @Try.prog 26 = some [.val (.string ⟨#[]⟩), .val (.string ⟨#[]⟩), .slice 1 0 []] := by kernel_rfl
@[simp] theorem ze26 : zeroElem @Try.prog 26 = some (.agg [.val (.string ⟨#[]⟩), .val (.string ⟨#[]⟩), .slice 1 0 []]) := by kernel_rfl
@[simp] theorem bld26 : isBld @Try.prog 26 = false := by kernel_rfl
@[simp] theorem places26 : placesOf @Try.prog 26 = some [(0, 1), (1, 1), (2, 1)] := by kernel_rfl
@[simp] theorem sz28 : szOf @Try.prog 28 = 1 := by kernel_rfl
@[simp] theorem zd28 : zeroD @Try.prog 28 = some [.val .nilFunc] := by kernel_rfl
@[simp] theorem ze28 : zeroElem @Try.prog 28 = some (.val .nilFunc) := by kernel_rfl
@[simp] theorem bld28 : isBld @Try.prog 28 = false := by kernel_rfl
@[simp] theorem sz29 : szOf @Try.prog 29 = 1 := by kernel_rfl
@[simp] theorem zd29 : zeroD @Try.prog 29 = some [.val .nilFunc] := by kernel_rfl
@[simp] theorem ze29 : zeroElem @Try.prog 29 = some (.val .nilFunc) := by kernel_rfl
@[simp] theorem bld29 : isBld @Try.prog 29 = false := by kernel_rfl
@[simp] theorem sz30 : szOf @Try.prog 30 = 3 := by kernel_rfl
@[simp] theorem zd30 : zeroD @Try.prog 30 = some [.val (.string ⟨#[]⟩), .val (.string ⟨#[]⟩), .val (.string ⟨#[]⟩)] := by kernel_rfl
@[simp] theorem ze30 : zeroElem @Try.prog 30 = some (.agg [.val (.string ⟨#[]⟩), .val (.string ⟨#[]⟩), .val (.string ⟨#[]⟩)]) := by kernel_rfl
@[simp] theorem bld30 : isBld @Try.prog 30 = false := by kernel_rfl
@[simp] theorem sz32 : szOf @Try.prog 32 = 1 := by kernel_rfl
@[simp] theorem zd32 : zeroD @Try.prog 32 = some [.val .nilFunc] := by kernel_rfl
@[simp] theorem ze32 : zeroElem @Try.prog 32 = some (.val .nilFunc) := by kernel_rfl
@[simp] theorem bld32 : isBld @Try.prog 32 = false := by kernel_rfl
@[simp] theorem sz33 : szOf @Try.prog 33 = 1 := by kernel_rfl
@[simp] theorem zd33 : zeroD @Try.prog 33 = some [.val .nilFunc] := by kernel_rfl
@[simp] theorem ze33 : zeroElem @Try.prog 33 = some (.val .nilFunc) := by kernel_rfl
@[simp] theorem bld33 : isBld @Try.prog 33 = false := by kernel_rfl
@[simp] theorem sz34 : szOf @Try.prog 34 = 1 := by kernel_rfl
@[simp] theorem zd34 : zeroD @Try.prog 34 = some [.val .nilFunc] := by kernel_rfl
@[simp] theorem ze34 : zeroElem @Try.prog 34 = some (.val .nilFunc) := by kernel_rfl
@[simp] theorem bld34 : isBld @Try.prog 34 = false := by kernel_rfl
@[simp] theorem sz35 : szOf @Try.prog 35 = 2 := by kernel_rfl
@[simp] theorem zd35 : zeroD @Try.prog 35 = some [.val (.string ⟨#[]⟩), .val (.bool false)] := by kernel_rfl
@[simp] theorem ze35 : zeroElem @Try.prog 35 = some (.agg [.val (.string ⟨#[]⟩), .val (.bool false)]) := by kernel_rfl
@[simp] theorem bld35 : isBld @Try.prog 35 = false := by kernel_rfl
@[simp] theorem places35 : placesOf @Try.prog 35 = some [(0, 1), (1, 1)] := by kernel_rfl
@[simp] theorem sz36 : szOf @Try.prog 36 = 2 := by kernel_rfl
@[simp] theorem zd36 : zeroD @Try.prog 36 = some [.val (.string ⟨#[]⟩), .val (.bool false)] := by kernel_rfl
@[simp] theorem ze36 : zeroElem @Try.prog 36 = some (.agg [.val (.string ⟨#[]⟩), .val (.bool false)]) := by kernel_rfl
@[simp] theorem bld36 : isBld @Try.prog 36 = false := by kernel_rfl
@[simp] theorem places36 : placesOf @Try.prog 36 = some [(0, 1), (1, 1)] := by kernel_rfl
@[simp] theorem sz37 : szOf @Try.prog 37 = 1 := by kernel_rfl
@[simp] theorem zd37 : zeroD @Try.prog 37 = some [.val .nilFunc] := by kernel_rfl
@[simp] theorem ze37 : zeroElem @Try.prog 37 = some (.val .nilFunc) := by kernel_rfl
@[simp] theorem bld37 : isBld @Try.prog 37 = false := by kernel_rfl
@[simp] theorem sz38 : szOf @Try.prog 38 = 1 := by kernel_rfl
@[simp] theorem zd38 : zeroD @Try.prog 38 = some [.val .nilIface] := by kernel_rfl
@[simp] theorem ze38 : zeroElem @Try.prog 38 = some (.val .nilIface) := by kernel_rfl
@[simp] theorem bld38 : isBld @Try.prog 38 = false := by kernel_rfl
@[simp] theorem sz39 : szOf @Try.prog 39 = 1 := by kernel_rfl
@[simp] theorem zd39 : zeroD @Try.prog 39 = some [.val .nilIface] := by kernel_rfl
@[simp] theorem ze39 : zeroElem @Try.prog 39 = some (.val .nilIface) := by kernel_rfl
@[simp] theorem bld39 : isBld @Try.prog 39 = false := by kernel_rfl
@[simp] theorem sz41 : szOf @Try.prog 41 = 1 := by kernel_rfl
@[simp] theorem zd41 : zeroD @Try.prog 41 = some [.val .nilFunc] := by kernel_rfl
@[simp] theorem ze41 : zeroElem @Try.prog 41 = some (.val .nilFunc) := by kernel_rfl
@[simp] theorem bld41 : isBld @Try.prog 41 = false := by kernel_rfl
@[simp] theorem sz42 : szOf @Try.prog 42 = 1 := by kernel_rfl
@[simp] theorem zd42 : zeroD @Try.prog 42 = some [.val .nilFunc] := by kernel_rfl
@[simp] theorem ze42 : zeroElem @Try.prog 42 = some (.val .nilFunc) := by kernel_rfl
@[simp] theorem bld42 : isBld @Try.prog 42 = false := by kernel_rfl
@[simp] theorem sz43 : szOf @Try.prog 43 = 1 := by kernel_rfl
@[simp] theorem zd43 : zeroD @Try.prog 43 = some [.val .nilFunc] := by kernel_rfl
@[simp] theorem ze43 : zeroElem @Try.prog 43 = some (.val .nilFunc) := by kernel_rfl
@[simp] theorem bld43 : isBld @Try.prog 43 = false := by kernel_rfl
@[simp] theorem sz44 : szOf @Try.prog 44 = 1 := by kernel_rfl
@[simp] theorem zd44 : zeroD @Try.prog 44 = some [.val .nilFunc] := by kernel_rfl
@[simp] theorem ze44 : zeroElem @Try.prog 44 = some (.val .nilFunc) := by kernel_rfl
@[simp] theorem bld44 : isBld @Try.prog 44 = false := by kernel_rfl
@[simp] theorem sz45 : szOf @Try.prog 45 = 1 := by kernel_rfl
@[simp] theorem zd45 : zeroD @Try.prog 45 = some [.val .nilFunc] := by kernel_rfl
@[simp] theorem ze45 : zeroElem @Try.prog 45 = some (.val .nilFunc) := by kernel_rfl
@[simp] theorem bld45 : isBld @Try.prog 45 = false := by kernel_rfl
@[simp] theorem sz46 : szOf @Try.prog 46 = 1 := by kernel_rfl
@[simp] theorem zd46 : zeroD @Try.prog 46 = some [.val .nilFunc] := by kernel_rfl
@[simp] theorem ze46 : zeroElem @Try.prog 46 = some (.val .nilFunc) := by kernel_rfl
@[simp] theorem bld46 : isBld @Try.prog 46 = false := by kernel_rfl
@[simp] theorem sz47 : szOf @Try.prog 47 = 1 := by kernel_rfl
@[simp] theorem zd47 : zeroD @Try.prog 47 = some [.val .nilFunc] := by kernel_rfl
@[simp] theorem ze47 : zeroElem @Try.prog 47 = some (.val .nilFunc) := by kernel_rfl
@[simp] theorem bld47 : isBld @Try.prog 47 = false := by kernel_rfl
@[simp] theorem sz48 : szOf @Try.prog 48 = 0 := by kernel_rfl
@[simp] theorem zd48 : zeroD @Try.prog 48 = some [] := by kernel_rfl
@[simp] theorem places48 : placesOf @Try.prog 48 = some [] := by kernel_rfl
@[simp] theorem sz49 : szOf @Try.prog 49 = 0 := by kernel_rfl
@[simp] theorem zd49 : zeroD @Try.prog 49 = some [] := by kernel_rfl
@[simp] theorem places49 : placesOf @Try.prog 49 = some [] := by kernel_rfl
@[simp] theorem sz50 : szOf @Try.prog 50 = 0 := by kernel_rfl
@[simp] theorem zd50 : zeroD @Try.prog 50 = some [] := by kernel_rfl
@[simp] theorem places50 : placesOf @Try.prog 50 = some [(0, 0)] := by kernel_rfl
@[simp] theorem sz51 : szOf @Try.prog 51 = 0 := by kernel_rfl
@[simp] theorem zd51 : zeroD @Try.prog 51 = some [] := by kernel_rfl
@[simp] theorem places51 : placesOf @Try.prog 51 = some [(0, 0)] := by kernel_rfl
@[simp] theorem sz52 : szOf @Try.prog 52 = 0 := by kernel_rfl
@[simp] theorem zd52 : zeroD @Try.prog 52 = some [] := by kernel_rfl
@[simp] theorem places52 : placesOf @Try.prog 52 = some [(0, 0)] := by kernel_rfl
@[simp] theorem sz53 : szOf @Try.prog 53 = 0 := by kernel_rfl
@[simp] theorem zd53 : zeroD @Try.prog 53 = some [] := by kernel_rfl
@[simp] theorem places53 : placesOf @Try.prog 53 = some [(0, 0)] := by kernel_rfl
@[simp] theorem sz54 : szOf @Try.prog 54 = 0 := by kernel_rfl
@[simp] theorem zd54 : zeroD @Try.prog 54 = some [] := by kernel_rfl
@[simp] theorem places54 : placesOf @Try.prog 54 = some [(0, 0)] := by kernel_rfl
@[simp] theorem sz55 : szOf @Try.prog 55 = 0 := by kernel_rfl
@[simp] theorem zd55 : zeroD @Try.prog 55 = some [] := by kernel_rfl
@[simp] theorem places55 : placesOf @Try.prog 55 = some [(0, 0)] := by kernel_rfl
@[simp] theorem sz56 : szOf @Try.prog 56 = 0 := by kernel_rfl
@[simp] theorem zd56 : zeroD @Try.prog 56 = some [] := by kernel_rfl
@[simp] theorem places56 : placesOf @Try.prog 56 = some [(0, 0)] := by kernel_rfl
@[simp] theorem sz57 : szOf @Try.prog 57 = 0 := by kernel_rfl
@[simp] theorem zd57 : zeroD @Try.prog 57 = some [] := by kernel_rfl
@[simp] theorem places57 : placesOf @Try.prog 57 = some [(0, 0)] := by kernel_rfl
@[simp] theorem sz58 : szOf @Try.prog 58 = 0 := by kernel_rfl
@[simp] theorem zd58 : zeroD @Try.prog 58 = some [] := by kernel_rfl
@[simp] theorem places58 : placesOf @Try.prog 58 = some [(0, 0)] := by kernel_rfl
@[simp] theorem sz59 : szOf @Try.prog 59 = 0 := by kernel_rfl
@[simp] theorem zd59 : zeroD @Try.prog 59 = some [] := by kernel_rfl
@[simp] theorem places59 : placesOf @Try.prog 59 = some [(0, 0)] := by kernel_rfl
@[simp] theorem sz60 : szOf @Try.prog 60 = 1 := by kernel_rfl
@[simp] theorem zd60 : zeroD @Try.prog 60 = some [.val .nilFunc] := by kernel_rfl
@[simp] theorem ze60 : zeroElem @Try.prog 60 = some (.val .nilFunc) := by kernel_rfl
@[simp] theorem bld60 : isBld @Try.prog 60 = false := by kernel_rfl
@[simp] theorem sz61 : szOf @Try.prog 61 = 1 := by kernel_rfl
@[simp] theorem zd61 : zeroD @Try.prog 61 = some [.val .nilFunc] := by kernel_rfl
@[simp] theorem ze61 : zeroElem @Try.prog 61 = some (.val .nilFunc) := by kernel_rfl
@[simp] theorem bld61 : isBld @Try.prog 61 = false := by kernel_rfl
@[simp] theorem sz62 : szOf @Try.prog 62 = 1 := by kernel_rfl
@[simp] theorem zd62 : zeroD @Try.prog 62 = some [.val (.int .u64 0)] := by kernel_rfl
@[simp] theorem ze62 : zeroElem @Try.prog 62 = some (.val (.int .u64 0)) := by kernel_rfl
@[simp] theorem bld62 : isBld @Try.prog 62 = false := by kernel_rfl
@[simp] theorem sz63 : szOf @Try.prog 63 = 1 := by kernel_rfl
@[simp] theorem zd63 : zeroD @Try.prog 63 = some [.val (.int .u32 0)] := by kernel_rfl
@[simp] theorem ze63 : zeroElem @Try.prog 63 = some (.val (.int .u32 0)) := by kernel_rfl
@[simp] theorem bld63 : isBld @Try.prog 63 = false := by kernel_rfl
@[simp] theorem sz65 : szOf @Try.prog 65 = 1 := by kernel_rfl
@[simp] theorem zd65 : zeroD @Try.prog 65 = some [.val .nilFunc] := by kernel_rfl
@[simp] theorem ze65 : zeroElem @Try.prog 65 = some (.val .nilFunc) := by kernel_rfl
@[simp] theorem bld65 : isBld @Try.prog 65 = false := by kernel_rfl
@[simp] theorem sz66 : szOf @Try.prog 66 = 1 := by kernel_rfl
@[simp] theorem zd66 : zeroD @Try.prog 66 = some [.val .nilFunc] := by kernel_rfl
@[simp] theorem ze66 : zeroElem @Try.prog 66 = some (.val .nilFunc) := by kernel_rfl
@[simp] theorem bld66 : isBld @Try.prog 66 = false := by kernel_rfl
@[simp] theorem sz67 : szOf @Try.prog 67 = 4 := by kernel_rfl
@[simp] theorem zd67 : zeroD @Try.prog 67 = some [.val (.pointer none), .val (.pointer none), .val (.pointer none), .val (.string ⟨#[]⟩)] := by kernel_rfl
@[simp] theorem ze67 : zeroElem @Try.prog 67 = some (.agg [.val (.pointer none), .val (.pointer none), .val (.pointer none), .val (.string ⟨#[]⟩)]) := by kernel_rfl
@[simp] theorem bld67 : isBld @Try.prog 67 = false := by kernel_rfl
@[simp] theorem places67 : placesOf @Try.prog 67 = some [(0, 1), (1, 1), (2, 1), (3, 1)] := by kernel_rfl
@[simp] theorem sz68 : szOf @Try.prog 68 = 4 := by kernel_rfl
@[simp] theorem zd68 : zeroD @Try.prog 68 = some [.val (.pointer none), .val (.pointer none), .val (.pointer none), .val (.string ⟨#[]⟩)] := by kernel_rfl
@[simp] theorem ze68 : zeroElem @Try.prog 68 = some (.agg [.val (.pointer none), .val (.pointer none), .val (.pointer none), .val (.string ⟨#[]⟩)]) := by kernel_rfl
@[simp] theorem bld68 : isBld @Try.prog 68 = false := by kernel_rfl
@[simp] theorem places68 : placesOf @Try.prog 68 = some [(0, 1), (1, 1), (2, 1), (3, 1)] := by kernel_rfl
@[simp] theorem sz69 : szOf @Try.prog 69 = 0 := by kernel_rfl
@[simp] theorem zd69 : zeroD @Try.prog 69 = some [] := by kernel_rfl
@[simp] theorem sz70 : szOf @Try.prog 70 = 0 := by kernel_rfl
@[simp] theorem zd70 : zeroD @Try.prog 70 = some [] := by kernel_rfl
@[simp] theorem places70 : placesOf @Try.prog 70 = some [(0, 0)] := by kernel_rfl
@[simp] theorem sz71 : szOf @Try.prog 71 = 0 := by kernel_rfl
@[simp] theorem zd71 : zeroD @Try.prog 71 = some [] := by kernel_rfl
@[simp] theorem places71 : placesOf @Try.prog 71 = some [(0, 0)] := by kernel_rfl
@[simp] theorem sz72 : szOf @Try.prog 72 = 1 := by kernel_rfl
@[simp] theorem zd72 : zeroD @Try.prog 72 = some [.val .nilFunc] := by kernel_rfl
@[simp] theorem ze72 : zeroElem @Try.prog 72 = some (.val .nilFunc) := by kernel_rfl
@[simp] theorem bld72 : isBld @Try.prog 72 = false := by kernel_rfl
@[simp] theorem sz73 : szOf @Try.prog 73 = 1 := by kernel_rfl
@[simp] theorem zd73 : zeroD @Try.prog 73 = some [.val (.int .u8 0)] := by kernel_rfl
@[simp] theorem ze73 : zeroElem @Try.prog 73 = some (.val (.int .u8 0)) := by kernel_rfl
@[simp] theorem bld73 : isBld @Try.prog 73 = false := by kernel_rfl
@[simp] theorem sz74 : szOf @Try.prog 74 = 1 := by kernel_rfl
@[simp] theorem zd74 : zeroD @Try.prog 74 = some [.val (.int .u8 0)] := by kernel_rfl
@[simp] theorem ze74 : zeroElem @Try.prog 74 = some (.val (.int .u8 0)) := by kernel_rfl
@[simp] theorem bld74 : isBld @Try.prog 74 = false := by kernel_rfl
@[simp] theorem sz75 : szOf @Try.prog 75 = 1 := by kernel_rfl
@[simp] theorem zd75 : zeroD @Try.prog 75 = some [.val .nilFunc] := by kernel_rfl
@[simp] theorem ze75 : zeroElem @Try.prog 75 = some (.val .nilFunc) := by kernel_rfl
@[simp] theorem bld75 : isBld @Try.prog 75 = false := by kernel_rfl
@[simp] theorem sz76 : szOf @Try.prog 76 = 1 := by kernel_rfl
@[simp] theorem zd76 : zeroD @Try.prog 76 = some [.val (.pointer none)] := by kernel_rfl
@[simp] theorem ze76 : zeroElem @Try.prog 76 = some (.val (.pointer none)) := by kernel_rfl
@[simp] theorem bld76 : isBld @Try.prog 76 = false := by kernel_rfl
@[simp] theorem sz77 : szOf @Try.prog 77 = 1 := by kernel_rfl
@[simp] theorem zd77 : zeroD @Try.prog 77 = some [.val (.int .i32 0)] := by kernel_rfl
@[simp] theorem ze77 : zeroElem @Try.prog 77 = some (.val (.int .i32 0)) := by kernel_rfl
@[simp] theorem bld77 : isBld @Try.prog 77 = false := by kernel_rfl
@[simp] theorem sz78 : szOf @Try.prog 78 = 1 := by kernel_rfl
@[simp] theorem zd78 : zeroD @Try.prog 78 = some [.val (.int .i32 0)] := by kernel_rfl
@[simp] theorem ze78 : zeroElem @Try.prog 78 = some (.val (.int .i32 0)) := by kernel_rfl
@[simp] theorem bld78 : isBld @Try.prog 78 = false := by kernel_rfl
@[simp] theorem sz79 : szOf @Try.prog 79 = 11 := by kernel_rfl
@[simp] theorem zd79 : zeroD @Try.prog 79 = some [.val (.int .u64 0), .val (.int .u64 0), .val (.int .u32 0), .val (.int .u8 0), .val (.int .u8 0), .val (.int .u8 0), .val (.int .u8 0), .val .nilFunc, .val (.pointer none), .val (.int .i32 0), .val (.int .i32 0)] := by kernel_rfl
@[simp] theorem ze79 : zeroElem @Try.prog 79 = some (.agg [.val (.int .u64 0), .val (.int .u64 0), .val (.int .u32 0), .val (.int .u8 0), .val (.int .u8 0), .val (.int .u8 0), .val (.int .u8 0), .val .nilFunc, .val (.pointer none), .val (.int .i32 0), .val (.int .i32 0)]) := by kernel_rfl
@[simp] theorem bld79 : isBld @Try.prog 79 = false := by kernel_rfl
@[simp] theorem places79 : placesOf @Try.prog 79 = some [(0, 1), (1, 1), (2, 1), (3, 1), (4, 1), (5, 1), (6, 1), (7, 1), (8, 1), (9, 1), (10, 1)] := by kernel_rfl
@[simp] theorem sz80 : szOf @Try.prog 80 = 11 := by kernel_rfl
@[simp] theorem zd80 : zeroD @Try.prog 80 = some [.val (.int .u64 0), .val (.int .u64 0), .val (.int .u32 0), .val (.int .u8 0), .val (.int .u8 0), .val (.int .u8 0), .val (.int .u8 0), .val .nilFunc, .val (.pointer none), .val (.int .i32 0), .val (.int .i32 0)] := by kernel_rfl
@[simp] theorem ze80 : zeroElem @Try.prog 80 = some (.agg [.val (.int .u64 0), .val (.int .u64 0), .val (.int .u32 0), .val (.int .u8 0), .val (.int .u8 0), .val (.int .u8 0), .val (.int .u8 0), .val .nilFunc, .val (.pointer none), .val (.int .i32 0), .val (.int .i32 0)]) := by kernel_rfl
@[simp] theorem bld80 : isBld @Try.prog 80 = false := by kernel_rfl
@[simp] theorem places80 : placesOf @Try.prog 80 = some [(0, 1), (1, 1), (2, 1), (3, 1), (4, 1), (5, 1), (6, 1), (7, 1), (8, 1), (9, 1), (10, 1)] := by kernel_rfl
@[simp] theorem sz81 : szOf @Try.prog 81 = 1 := by kernel_rfl
@[simp] theorem zd81 : zeroD @Try.prog 81 = some [.val .nilFunc] := by kernel_rfl
@[simp] theorem ze81 : zeroElem @Try.prog 81 = some (.val .nilFunc) := by kernel_rfl
@[simp] theorem bld81 : isBld @Try.prog 81 = false := by kernel_rfl
@[simp] theorem sz82 : szOf @Try.prog 82 = 1 := by kernel_rfl
@[simp] theorem zd82 : zeroD @Try.prog 82 = some [.val .nilFunc] := by kernel_rfl
@[simp] theorem ze82 : zeroElem @Try.prog 82 = some (.val .nilFunc) := by kernel_rfl
@[simp] theorem bld82 : isBld @Try.prog 82 = false := by kernel_rfl
@[simp] theorem sz83 : szOf @Try.prog 83 = 1 := by kernel_rfl
@[simp] theorem zd83 : zeroD @Try.prog 83 = some [.val .nilFunc] := by kernel_rfl
@[simp] theorem ze83 : zeroElem @Try.prog 83 = some (.val .nilFunc) := by kernel_rfl
@[simp] theorem bld83 : isBld @Try.prog 83 = false := by kernel_rfl
@[simp] theorem sz84 : szOf @Try.prog 84 = 1 := by kernel_rfl
@[simp] theorem zd84 : zeroD @Try.prog 84 = some [.val .nilFunc] := by kernel_rfl
@[simp] theorem ze84 : zeroElem @Try.prog 84 = some (.val .nilFunc) := by kernel_rfl
@[simp] theorem bld84 : isBld @Try.prog 84 = false := by kernel_rfl
@[simp] theorem sz85 : szOf @Try.prog 85 = 1 := by kernel_rfl
@[simp] theorem zd85 : zeroD @Try.prog 85 = some [.val (.pointer none)] := by kernel_rfl
@[simp] theorem ze85 : zeroElem @Try.prog 85 = some (.val (.pointer none)) := by kernel_rfl
@[simp] theorem bld85 : isBld @Try.prog 85 = false := by kernel_rfl
@[simp] theorem sz86 : szOf @Try.prog 86 = 1 := by kernel_rfl
@[simp] theorem zd86 : zeroD @Try.prog 86 = some [.slice 1 0 []] := by kernel_rfl
@[simp] theorem ze86 : zeroElem @Try.prog 86 = some (.slice 1 0 []) := by kernel_rfl
@[simp] theorem bld86 : isBld @Try.prog 86 = false := by kernel_rfl
@[simp] theorem sz87 : szOf @Try.prog 87 = 2 := by kernel_rfl
@[simp] theorem zd87 : zeroD @Try.prog 87 = some [.val (.pointer none), .slice 1 0 []] := by kernel_rfl
@[simp] theorem ze87 : zeroElem @Try.prog 87 = some (.agg [.val (.pointer none), .slice 1 0 []]) := by kernel_rfl
@[simp] theorem bld87 : isBld @Try.prog 87 = false := by kernel_rfl
@[simp] theorem places87 : placesOf @Try.prog 87 = some [(0, 1), (1, 1)] := by kernel_rfl
@[simp] theorem sz88 : szOf @Try.prog 88 = 2 := by kernel_rfl
@[simp] theorem zd88 : zeroD @Try.prog 88 = some [.val (.pointer none), .slice 1 0 []] := by kernel_rfl
@[simp] theorem ze88 : zeroElem @Try.prog 88 = some (.agg [.val (.pointer none), .slice 1 0 []]) := by kernel_rfl
@[simp] theorem bld88 : isBld @Try.prog 88 = true := by kernel_rfl
@[simp] theorem places88 : placesOf @Try.prog 88 = some [(0, 1), (1, 1)] := by kernel_rfl
@[simp] theorem sz90 : szOf @Try.prog 90 = 1 := by kernel_rfl
@[simp] theorem zd90 : zeroD @Try.prog 90 = some [.val .nilFunc] := by kernel_rfl
@[simp] theorem ze90 : zeroElem @Try.prog 90 = some (.val .nilFunc) := by kernel_rfl
@[simp] theorem bld90 : isBld @Try.prog 90 = false := by kernel_rfl
@[simp] theorem sz91 : szOf @Try.prog 91 = 1 := by kernel_rfl
@[simp] theorem zd91 : zeroD @Try.prog 91 = some [.val .nilFunc] := by kernel_rfl
@[simp] theorem ze91 : zeroElem @Try.prog 91 = some (.val .nilFunc) := by kernel_rfl
@[simp] theorem bld91 : isBld @Try.prog 91 = false := by kernel_rfl
@[simp] theorem sz92 : szOf @Try.prog 92 = 1 := by kernel_rfl
@[simp] theorem zd92 : zeroD @Try.prog 92 = some [.val .nilIface] := by kernel_rfl
@[simp] theorem ze92 : zeroElem @Try.prog 92 = some (.val .nilIface) := by kernel_rfl
@[simp] theorem bld92 : isBld @Try.prog 92 = false := by kernel_rfl
@[simp] theorem sz93 : szOf @Try.prog 93 = 1 := by kernel_rfl
@[simp] theorem zd93 : zeroD @Try.prog 93 = some [.val .nilIface] := by kernel_rfl
@[simp] theorem ze93 : zeroElem @Try.prog 93 = some (.val .nilIface) := by kernel_rfl
@[simp] theorem bld93 : isBld @Try.prog 93 = false := by kernel_rfl
@[simp] theorem sz95 : szOf @Try.prog 95 = 1 := by kernel_rfl
@[simp] theorem zd95 : zeroD @Try.prog 95 = some [.val .nilFunc] := by kernel_rfl
@[simp] theorem ze95 : zeroElem @Try.prog 95 = some (.val .nilFunc) := by kernel_rfl
@[simp] theorem bld95 : isBld @Try.prog 95 = false := by kernel_rfl
@[simp] theorem sz96 : szOf @Try.prog 96 = 1 := by kernel_rfl
@[simp] theorem zd96 : zeroD @Try.prog 96 = some [.val .nilFunc] := by kernel_rfl
@[simp] theorem ze96 : zeroElem @Try.prog 96 = some (.val .nilFunc) := by kernel_rfl
@[simp] theorem bld96 : isBld @Try.prog 96 = false := by kernel_rfl
@[simp] theorem sz98 : szOf @Try.prog 98 = 1 := by kernel_rfl
@[simp] theorem zd98 : zeroD @Try.prog 98 = some [.val .nilFunc] := by kernel_rfl
@[simp] theorem ze98 : zeroElem @Try.prog 98 = some (.val .nilFunc) := by kernel_rfl
@[simp] theorem bld98 : isBld @Try.prog 98 = false := by kernel_rfl
@[simp] theorem sz99 : szOf @Try.prog 99 = 1 := by kernel_rfl
@[simp] theorem zd99 : zeroD @Try.prog 99 = some [.val (.pointer none)] := by kernel_rfl
@[simp] theorem ze99 : zeroElem @Try.prog 99 = some (.val (.pointer none)) := by kernel_rfl
@[simp] theorem bld99 : isBld @Try.prog 99 = false := by kernel_rfl
@[simp] theorem sz100 : szOf @Try.prog 100 = 1 := by kernel_rfl
@[simp] theorem zd100 : zeroD @Try.prog 100 = some [.val .nilFunc] := by kernel_rfl
@[simp] theorem ze100 : zeroElem @Try.prog 100 = some (.val .nilFunc) := by kernel_rfl
@[simp] theorem bld100 : isBld @Try.prog 100 = false := by kernel_rfl
@[simp] theorem sz101 : szOf @Try.prog 101 = 3 := by kernel_rfl
@[simp] theorem zd101 : zeroD @Try.prog 101 = some [.val (.bool false), .val (.int .i64 0), .val (.string ⟨#[]⟩)] := by kernel_rfl
@[simp] theorem ze101 : zeroElem @Try.prog 101 = some (.agg [.val (.bool false), .val (.int .i64 0), .val (.string ⟨#[]⟩)]) := by kernel_rfl
@[simp] theorem bld101 : isBld @Try.prog 101 = false := by kernel_rfl
@[simp] theorem places101 : placesOf @Try.prog 101 = some [(0, 1), (1, 1), (2, 1)] := by kernel_rfl
@[simp] theorem sz102 : szOf @Try.prog 102 = 3 := by kernel_rfl
@[simp] theorem zd102 : zeroD @Try.prog 102 = some [.val (.bool false), .val (.int .i64 0), .val (.string ⟨#[]⟩)] := by kernel_rfl
@[simp] theorem ze102 : zeroElem @Try.prog 102 = some (.agg [.val (.bool false), .val (.int .i64 0), .val (.string ⟨#[]⟩)]) := by kernel_rfl
@[simp] theorem bld102 : isBld @Try.prog 102 = false := by kernel_rfl
@[simp] theorem places102 : placesOf @Try.prog 102 = some [(0, 1), (1, 1), (2, 1)] := by kernel_rfl
@[simp] theorem sz104 : szOf @Try.prog 104 = 1 := by kernel_rfl
@[simp] theorem zd104 : zeroD @Try.prog 104 = some [.val .nilFunc] := by kernel_rfl
@[simp] theorem ze104 : zeroElem @Try.prog 104 = some (.val .nilFunc) := by kernel_rfl
@[simp] theorem bld104 : isBld @Try.prog 104 = false := by kernel_rfl
@[simp] theorem sz105 : szOf @Try.prog 105 = 1 := by kernel_rfl
@[simp] theorem zd105 : zeroD @Try.prog 105 = some [.val .nilFunc] := by kernel_rfl
@[simp] theorem ze105 : zeroElem @Try.prog 105 = some (.val .nilFunc) := by kernel_rfl
@[simp] theorem bld105 : isBld @Try.prog 105 = false := by kernel_rfl
@[simp] theorem sz106 : szOf @Try.prog 106 = 1 := by kernel_rfl
@[simp] theorem zd106 : zeroD @Try.prog 106 = some [.val .nilFunc] := by kernel_rfl
@[simp] theorem ze106 : zeroElem @Try.prog 106 = some (.val .nilFunc) := by kernel_rfl
@[simp] theorem bld106 : isBld @Try.prog 106 = false := by kernel_rfl
@[simp] theorem sz107 : szOf @Try.prog 107 = 256 := by kernel_rfl
@[simp] theorem sz108 : szOf @Try.prog 108 = 256 := by kernel_rfl
@[simp] theorem sz110 : szOf @Try.prog 110 = 1 := by kernel_rfl
@[simp] theorem zd110 : zeroD @Try.prog 110 = some [.val .nilFunc] := by kernel_rfl
@[simp] theorem ze110 : zeroElem @Try.prog 110 = some (.val .nilFunc) := by kernel_rfl
@[simp] theorem bld110 : isBld @Try.prog 110 = false := by kernel_rfl
@[simp] theorem sz111 : szOf @Try.prog 111 = 1 := by kernel_rfl
@[simp] theorem zd111 : zeroD @Try.prog 111 = some [.val .nilFunc] := by kernel_rfl
@[simp] theorem ze111 : zeroElem @Try.prog 111 = some (.val .nilFunc) := by kernel_rfl
@[simp] theorem bld111 : isBld @Try.prog 111 = false := by kernel_rfl
@[simp] theorem sz112 : szOf @Try.prog 112 = 1 := by kernel_rfl
@[simp] theorem zd112 : zeroD @Try.prog 112 = some [.val (.pointer none)] := by kernel_rfl
@[simp] theorem ze112 : zeroElem @Try.prog 112 = some (.val (.pointer none)) := by kernel_rfl
@[simp] theorem bld112 : isBld @Try.prog 112 = false := by kernel_rfl
@[simp] theorem sz113 : szOf @Try.prog 113 = 1 := by kernel_rfl
@[simp] theorem zd113 : zeroD @Try.prog 113 = some [.val .nilFunc] := by kernel_rfl
@[simp] theorem ze113 : zeroElem @Try.prog 113 = some (.val .nilFunc) := by kernel_rfl
@[simp] theorem bld113 : isBld @Try.prog 113 = false := by kernel_rfl
@[simp] theorem sz114 : szOf @Try.prog 114 = 1 := by kernel_rfl
@[simp] theorem zd114 : zeroD @Try.prog 114 = some [.val .nilFunc] := by kernel_rfl
@[simp] theorem ze114 : zeroElem @Try.prog 114 = some (.val .nilFunc) := by kernel_rfl
@[simp] theorem bld114 : isBld @Try.prog 114 = false := by kernel_rfl
@[simp] theorem sz115 : szOf @Try.prog 115 = 1 := by kernel_rfl
@[simp] theorem zd115 : zeroD @Try.prog 115 = some [.val .nilFunc] := by kernel_rfl
@[simp] theorem ze115 : zeroElem @Try.prog 115 = some (.val .nilFunc) := by kernel_rfl
@[simp] theorem bld115 : isBld @Try.prog 115 = false := by kernel_rfl
@[simp] theorem sz116 : szOf @Try.prog 116 = 256 := by kernel_rfl
@[simp] theorem sz117 : szOf @Try.prog 117 = 2 := by kernel_rfl
@[simp] theorem zd117 : zeroD @Try.prog 117 = some [.val (.int .u8 0), .val (.int .u8 0)] := by kernel_rfl
@[simp] theorem ze117 : zeroElem @Try.prog 117 = some (.agg [.val (.int .u8 0), .val (.int .u8 0)]) := by kernel_rfl
@[simp] theorem bld117 : isBld @Try.prog 117 = false := by kernel_rfl
@[simp] theorem places117 : placesOf @Try.prog 117 = some [(0, 1), (1, 1)] := by kernel_rfl
@[simp] theorem sz118 : szOf @Try.prog 118 = 2 := by kernel_rfl
@[simp] theorem zd118 : zeroD @Try.prog 118 = some [.val (.int .u8 0), .val (.int .u8 0)] := by kernel_rfl
@[simp] theorem ze118 : zeroElem @Try.prog 118 = some (.agg [.val (.int .u8 0), .val (.int .u8 0)]) := by kernel_rfl
@[simp] theorem bld118 : isBld @Try.prog 118 = false := by kernel_rfl
@[simp] theorem places118 : placesOf @Try.prog 118 = some [(0, 1), (1, 1)] := by kernel_rfl
@[simp] theorem sz119 : szOf @Try.prog 119 = 32 := by kernel_rfl
@[simp] theorem zd119 : zeroD @Try.prog 119 = some [.val (.int .u8 0), .val (.int .u8 0), .val (.int .u8 0), .val (.int .u8 0), .val (.int .u8 0), .val (.int .u8 0), .val (.int .u8 0), .val (.int .u8 0), .val (.int .u8 0), .val (.int .u8 0), .val (.int .u8 0), .val (.int .u8 0), .val (.int .u8 0), .val (.int .u8 0), .val (.int .u8 0), .val (.int .u8 0), .val (.int .u8 0), .val (.int .u8 0), .val (.int .u8 0), .val (.int .u8 0), .val (.int .u8 0), .val (.int .u8 0), .val (.int .u8 0), .val (.int .u8 0), .val (.int .u8 0), .val (.int .u8 0), .val (.int .u8 0), .val (.int .u8 0), .val (.int .u8 0), .val (.int .u8 0), .val (.int .u8 0), .val (.int .u8 0)] := by kernel_rfl
@[simp] theorem ze119 : zeroElem @Try.prog 119 = some (.agg [.val (.int .u8 0), .val (.int .u8 0), .val (.int .u8 0), .val (.int .u8 0), .val (.int .u8 0), .val (.int .u8 0), .val (.int .u8 0), .val (.int .u8 0), .val (.int .u8 0), .val (.int .u8 0), .val (.int .u8 0), .val (.int .u8 0), .val (.int .u8 0), .val (.int .u8 0), .val (.int .u8 0), .val (.int .u8 0), .val (.int .u8 0), .val (.int .u8 0), .val (.int .u8 0), .val (.int .u8 0), .val (.int .u8 0), .val (.int .u8 0), .val (.int .u8 0), .val (.int .u8 0), .val (.int .u8 0), .val (.int .u8 0), .val (.int .u8 0), .val (.int .u8 0), .val (.int .u8 0), .val (.int .u8 0), .val (.int .u8 0), .val (.int .u8 0)]) := by kernel_rfl
@[simp] theorem bld119 : isBld @Try.prog 119 = false := by kernel_rfl
@[simp] theorem sz120 : szOf @Try.prog 120 = 1 := by kernel_rfl
@[simp] theorem zd120 : zeroD @Try.prog 120 = some [.val .nilFunc] := by kernel_rfl
@[simp] theorem ze120 : zeroElem @Try.prog 120 = some (.val .nilFunc) := by kernel_rfl
@[simp] theorem bld120 : isBld @Try.prog 120 = false := by kernel_rfl
@[simp] theorem sz121 : szOf @Try.prog 121 = 1 := by kernel_rfl
@[simp] theorem zd121 : zeroD @Try.prog 121 = some [.val .nilFunc] := by kernel_rfl
@[simp] theorem ze121 : zeroElem @Try.prog 121 = some (.val .nilFunc) := by kernel_rfl
@[simp] theorem bld121 : isBld @Try.prog 121 = false := by kernel_rfl
@[simp] theorem sz122 : szOf @Try.prog 122 = 1 := by kernel_rfl
@[simp] theorem zd122 : zeroD @Try.prog 122 = some [.val .nilFunc] := by kernel_rfl
@[simp] theorem ze122 : zeroElem @Try.prog 122 = some (.val .nilFunc) := by kernel_rfl
@[simp] theorem bld122 : isBld @Try.prog 122 = false := by kernel_rfl
@[simp] theorem sz123 : szOf @Try.prog 123 = 1 := by kernel_rfl
@[simp] theorem zd123 : zeroD @Try.prog 123 = some [.val .nilFunc] := by kernel_rfl
@[simp] theorem ze123 : zeroElem @Try.prog 123 = some (.val .nilFunc) := by kernel_rfl
@[simp] theorem bld123 : isBld @Try.prog 123 = false := by kernel_rfl
@[simp] theorem sz124 : szOf @Try.prog 124 = 1 := by kernel_rfl
@[simp] theorem zd124 : zeroD @Try.prog 124 = some [.val .nilFunc] := by kernel_rfl
@[simp] theorem ze124 : zeroElem @Try.prog 124 = some (.val .nilFunc) := by kernel_rfl
@[simp] theorem bld124 : isBld @Try.prog 124 = false := by kernel_rfl
@[simp] theorem sz125 : szOf @Try.prog 125 = 1 := by kernel_rfl
@[simp] theorem sz127 : szOf @Try.prog 127 = 1 := by kernel_rfl
@[simp] theorem zd127 : zeroD @Try.prog 127 = some [.val .nilFunc] := by kernel_rfl
@[simp] theorem ze127 : zeroElem @Try.prog 127 = some (.val .nilFunc) := by kernel_rfl
@[simp] theorem bld127 : isBld @Try.prog 127 = false := by kernel_rfl
@[simp] theorem sz128 : szOf @Try.prog 128 = 1 := by kernel_rfl
@[simp] theorem zd128 : zeroD @Try.prog 128 = some [.val .nilFunc] := by kernel_rfl
@[simp] theorem ze128 : zeroElem @Try.prog 128 = some (.val .nilFunc) := by kernel_rfl
@[simp] theorem bld128 : isBld @Try.prog 128 = false := by kernel_rfl
@[simp] theorem sz129 : szOf @Try.prog 129 = 1 := by kernel_rfl
@[simp] theorem zd129 : zeroD @Try.prog 129 = some [.val .nilFunc] := by kernel_rfl
@[simp] theorem ze129 : zeroElem @Try.prog 129 = some (.val .nilFunc) := by kernel_rfl
@[simp] theorem bld129 : isBld @Try.prog 129 = false := by kernel_rfl
@[simp] theorem sz130 : szOf @Try.prog 130 = 1 := by kernel_rfl
@[simp] theorem zd130 : zeroD @Try.prog 130 = some [.val (.int .u64 0)] := by kernel_rfl
@[simp] theorem ze130 : zeroElem @Try.prog 130 = some (.val (.int .u64 0)) := by kernel_rfl
@[simp] theorem bld130 : isBld @Try.prog 130 = false := by kernel_rfl
@[simp] theorem sz132 : szOf @Try.prog 132 = 1 := by kernel_rfl
@[simp] theorem zd132 : zeroD @Try.prog 132 = some [.val .nilFunc] := by kernel_rfl
@[simp] theorem ze132 : zeroElem @Try.prog 132 = some (.val .nilFunc) := by kernel_rfl
@[simp] theorem bld132 : isBld @Try.prog 132 = false := by kernel_rfl
@[simp] theorem sz133 : szOf @Try.prog 133 = 1 := by kernel_rfl
@[simp] theorem zd133 : zeroD @Try.prog 133 = some [.val .nilFunc] := by kernel_rfl
@[simp] theorem ze133 : zeroElem @Try.prog 133 = some (.val .nilFunc) := by kernel_rfl
@[simp] theorem bld133 : isBld @Try.prog 133 = false := by kernel_rfl
@[simp] theorem sz134 : szOf @Try.prog 134 = 1 := by kernel_rfl
@[simp] theorem zd134 : zeroD @Try.prog 134 = some [.val .nilFunc] := by kernel_rfl
@[simp] theorem ze134 : zeroElem @Try.prog 134 = some (.val .nilFunc) := by kernel_rfl
@[simp] theorem bld134 : isBld @Try.prog 134 = false := by kernel_rfl
@[simp] theorem sz135 : szOf @Try.prog 135 = 1 := by kernel_rfl
@[simp] theorem zd135 : zeroD @Try.prog 135 = some [.val .nilFunc] := by kernel_rfl
@[simp] theorem ze135 : zeroElem @Try.prog 135 = some (.val .nilFunc) := by kernel_rfl
@[simp] theorem bld135 : isBld @Try.prog 135 = false := by kernel_rfl
@[simp] theorem sz136 : szOf @Try.prog 136 = 16 := by kernel_rfl
@[simp] theorem zd136 : zeroD @Try.prog 136 = some [.val (.int .u8 0), .val (.int .u8 0), .val (.int .u8 0), .val (.int .u8 0), .val (.int .u8 0), .val (.int .u8 0), .val (.int .u8 0), .val (.int .u8 0), .val (.int .u8 0), .val (.int .u8 0), .val (.int .u8 0), .val (.int .u8 0), .val (.int .u8 0), .val (.int .u8 0), .val (.int .u8 0), .val (.int .u8 0)] := by kernel_rfl
@[simp] theorem ze136 : zeroElem @Try.prog 136 = some (.agg [.val (.int .u8 0), .val (.int .u8 0), .val (.int .u8 0), .val (.int .u8 0), .val (.int .u8 0), .val (.int .u8 0), .val (.int .u8 0), .val (.int .u8 0), .val (.int .u8 0), .val (.int .u8 0), .val (.int .u8 0), .val (.int .u8 0), .val (.int .u8 0), .val (.int .u8 0), .val (.int .u8 0), .val (.int .u8 0)]) := by kernel_rfl
@[simp] theorem bld136 : isBld @Try.prog 136 = false := by kernel_rfl
@[simp] theorem sz137 : szOf @Try.prog 137 = 1 := by kernel_rfl
@[simp] theorem zd137 : zeroD @Try.prog 137 = some [.val .nilFunc] := by kernel_rfl
@[simp] theorem ze137 : zeroElem @Try.prog 137 = some (.val .nilFunc) := by kernel_rfl
@[simp] theorem bld137 : isBld @Try.prog 137 = false := by kernel_rfl
@[simp] theorem sz138 : szOf @Try.prog 138 = 6 := by kernel_rfl
@[simp] theorem zd138 : zeroD @Try.prog 138 = some [.val (.string ⟨#[]⟩), .val (.string ⟨#[]⟩), .val (.string ⟨#[]⟩), .val (.int .i64 0), .slice 1 0 [], .slice 1 0 []] := by kernel_rfl
@[simp] theorem ze138 : zeroElem @Try.prog 138 = some (.agg [.val (.string ⟨#[]⟩), .val (.string ⟨#[]⟩), .val (.string ⟨#[]⟩), .val (.int .i64 0), .slice 1 0 [], .slice 1 0 []]) := by kernel_rfl
@[simp] theorem bld138 : isBld @Try.prog 138 = false := by kernel_rfl
@[simp] theorem places138 : placesOf @Try.prog 138 = some [(0, 1), (1, 1), (2, 1), (3, 1), (4, 1), (5, 1)] := by kernel_rfl
@[simp] theorem sz139 : szOf @Try.prog 139 = 6 := by kernel_rfl
@[simp] theorem zd139 : zeroD @Try.prog 139 = some [.val (.string ⟨#[]⟩), .val (.string ⟨#[]⟩), .val (.string ⟨#[]⟩), .val (.int .i64 0), .slice 1 0 [], .slice 1 0 []] := by kernel_rfl
@[simp] theorem ze139 : zeroElem @Try.prog 139 = some (.agg [.val (.string ⟨#[]⟩), .val (.string ⟨#[]⟩), .val (.string ⟨#[]⟩), .val (.int .i64 0), .slice 1 0 [], .slice 1 0 []]) := by kernel_rfl
@[simp] theorem bld139 : isBld @Try.prog 139 = false := by kernel_rfl
@[simp] theorem places139 : placesOf @Try.prog 139 = some [(0, 1), (1, 1), (2, 1), (3, 1), (4, 1), (5, 1)] := by kernel_rfl
@[simp] theorem sz141 : szOf @Try.prog 141 = 1 := by kernel_rfl
@[simp] theorem zd141 : zeroD @Try.prog 141 = some [.val .nilFunc] := by kernel_rfl
@[simp] theorem ze141 : zeroElem @Try.prog 141 = some (.val .nilFunc) := by kernel_rfl
@[simp] theorem bld141 : isBld @Try.prog 141 = false := by kernel_rfl
@[simp] theorem sz142 : szOf @Try.prog 142 = 1 := by kernel_rfl
@[simp] theorem zd142 : zeroD @Try.prog 142 = some [.slice 1 0 []] := by kernel_rfl
@[simp] theorem ze142 : zeroElem @Try.prog 142 = some (.slice 1 0 []) := by kernel_rfl
@[simp] theorem bld142 : isBld @Try.prog 142 = false := by kernel_rfl
@[simp] theorem sz143 : szOf @Try.prog 143 = 1 := by kernel_rfl
@[simp] theorem zd143 : zeroD @Try.prog 143 = some [.val .nilFunc] := by kernel_rfl
@[simp] theorem ze143 : zeroElem @Try.prog 143 = some (.val .nilFunc) := by kernel_rfl
@[simp] theorem bld143 : isBld @Try.prog 143 = false := by kernel_rfl
@[simp] theorem sz144 : szOf @Try.prog 144 = 1 := by kernel_rfl
@[simp] theorem zd144 : zeroD @Try.prog 144 = some [.slice 1 0 []] := by kernel_rfl
@[simp] theorem ze144 : zeroElem @Try.prog 144 = some (.slice 1 0 []) := by kernel_rfl
@[simp] theorem bld144 : isBld @Try.prog 144 = false := by kernel_rfl
@[simp] theorem sz146 : szOf @Try.prog 146 = 1 := by kernel_rfl
@[simp] theorem zd146 : zeroD @Try.prog 146 = some [.val .nilFunc] := by kernel_rfl
@[simp] theorem ze146 : zeroElem @Try.prog 146 = some (.val .nilFunc) := by kernel_rfl
@[simp] theorem bld146 : isBld @Try.prog 146 = false := by kernel_rfl
@[simp] theorem sz147 : szOf @Try.prog 147 = 60 := by kernel_rfl
@[simp] theorem zd147 : zeroD @Try.prog 147 = some [.val (.string ⟨#[]⟩), .val (.string ⟨#[]⟩), .val (.string ⟨#[]⟩), .val (.int .i64 0), .slice 1 0 [], .slice 1 0 [], .val (.string ⟨#[]⟩), .val (.string ⟨#[]⟩), .val (.string ⟨#[]⟩), .val (.int .i64 0), .slice 1 0 [], .slice 1 0 [], .val (.string ⟨#[]⟩), .val (.string ⟨#[]⟩), .val (.string ⟨#[]⟩), .val (.int .i64 0), .slice 1 0 [], .slice 1 0 [], .val (.string ⟨#[]⟩), .val (.string ⟨#[]⟩), .val (.string ⟨#[]⟩), .val (.int .i64 0), .slice 1 0 [], .slice 1 0 [], .val (.string ⟨#[]⟩), .val (.string ⟨#[]⟩), .val (.string ⟨#[]⟩), .val (.int .i64 0), .slice 1 0 [], .slice 1 0 [], .val (.string ⟨#[]⟩), .val (.string ⟨#[]⟩), .val (.string ⟨#[]⟩), .val (.int .i64 0), .slice 1 0 [], .slice 1 0 [], .val (.string ⟨#[]⟩), .val (.string ⟨#[]⟩), .val (.string ⟨#[]⟩), .val (.int .i64 0), .slice 1 0 [], .slice 1 0 [], .val (.string ⟨#[]⟩), .val (.string ⟨#[]⟩), .val (.string ⟨#[]⟩), .val (.int .i64 0), .slice 1 0 [], .slice 1 0 [], .val (.string ⟨#[]⟩), .val (.string ⟨#[]⟩), .val (.string ⟨#[]⟩), .val (.int .i64 0), .slice 1 0 [], .slice 1 0 [], .val (.string ⟨#[]⟩), .val (.string ⟨#[]⟩), .val (.string ⟨#[]⟩), .val (.int .i64 0), .slice 1 0 [], .slice 1 0 []] := by kernel_rfl
@[simp] theorem ze147 : zeroElem @Try.prog 147 = some (.agg [.val (.string ⟨#[]⟩), .val (.string ⟨#[]⟩), .val (.string ⟨#[]⟩), .val (.int .i64 0), .slice 1 0 [], .slice 1 0 [], .val (.string ⟨#[]⟩), .val (.string ⟨#[]⟩), .val (.string ⟨#[]⟩), .val (.int .i64 0), .slice 1 0 [], .slice 1 0 [], .val (.string ⟨#[]⟩), .val (.string ⟨#[]⟩), .val (.string ⟨#[]⟩), .val (.int .i64 0), .slice 1 0 [], .slice 1 0 [], .val (.string ⟨#[]⟩), .val (.string ⟨#[]⟩), .val (.string ⟨#[]⟩), .val (.int .i64 0), .slice 1 0 [], .slice 1 0 [], .val (.string ⟨#[]⟩), .val (.string ⟨#[]⟩), .val (.string ⟨#[]⟩), .val (.int .i64 0), .slice 1 0 [], .slice 1 0 [], .val (.string ⟨#[]⟩), .val (.string ⟨#[]⟩), .val (.string ⟨#[]⟩), .val (.int .i64 0), .slice 1 0 [], .slice 1 0 [], .val (.string ⟨#[]⟩), .val (.string ⟨#[]⟩), .val (.string ⟨#[]⟩), .val (.int .i64 0), .slice 1 0 [], .slice 1 0 [], .val (.string ⟨#[]⟩), .val (.string ⟨#[]⟩), .val (.string ⟨#[]⟩), .val (.int .i64 0), .slice 1 0 [], .slice 1 0 [], .val (.string ⟨#[]⟩), .val (.string ⟨#[]⟩), .val (.string ⟨#[]⟩), .val (.int .i64 0), .slice 1 0 [], .slice 1 0 [], .val (.string ⟨#[]⟩), .val (.string ⟨#[]⟩), .val (.string ⟨#[]⟩), .val (.int .i64 0), .slice 1 0 [], .slice 1 0 []]) := by kernel_rfl
@[simp] theorem bld147 : isBld @Try.prog 147 = false := by kernel_rfl
@[simp] theorem sz148 : szOf @Try.prog 148 = 1 := by kernel_rfl
@[simp] theorem zd148 : zeroD @Try.prog 148 = some [.val .nilFunc] := by kernel_rfl
@[simp] theorem ze148 : zeroElem @Try.prog 148 = some (.val .nilFunc) := by kernel_rfl
@[simp] theorem bld148 : isBld @Try.prog 148 = false := by kernel_rfl
@[simp] theorem sz149 : szOf @Try.prog 149 = 1 := by kernel_rfl
@[simp] theorem zd149 : zeroD @Try.prog 149 = some [.val .nilFunc] := by kernel_rfl
@[simp] theorem ze149 : zeroElem @Try.prog 149 = some (.val .nilFunc) := by kernel_rfl
@[simp] theorem bld149 : isBld @Try.prog 149 = false := by kernel_rfl
@[simp] theorem sz150 : szOf @Try.prog 150 = 1 := by kernel_rfl
@[simp] theorem zd150 : zeroD @Try.prog 150 = some [.val .nilFunc] := by kernel_rfl
@[simp] theorem ze150 : zeroElem @Try.prog 150 = some (.val .nilFunc) := by kernel_rfl
@[simp] theorem bld150 : isBld @Try.prog 150 = false := by kernel_rfl
@[simp] theorem sz151 : szOf @Try.prog 151 = 1 := by kernel_rfl
@[simp] theorem zd151 : zeroD @Try.prog 151 = some [.val .nilFunc] := by kernel_rfl
@[simp] theorem ze151 : zeroElem @Try.prog 151 = some (.val .nilFunc) := by kernel_rfl
@[simp] theorem bld151 : isBld @Try.prog 151 = false := by kernel_rfl
@[simp ↓] theorem append24 (s x : D) (H : Heap) : eAppend @Try.prog 24 24 s x H = appK 9 16 s (news @Try.prog H 9 24 x) H := eAppend_of @Try.underlying24 (show @Try.prog.info? 9 = some @Try.t9 from rfl) (show @Try.t9.zero = some _ from rfl) (by kernel_rfl) (by decide) (by decide) (by kernel_rfl) s x H
@[simp ↓] theorem append86 (s x : D) (H : Heap) : eAppend @Try.prog 86 86 s x H = appK 5 1 s (news @Try.prog H 5 86 x) H := eAppend_of @Try.underlying86 (show @Try.prog.info? 5 = some @Try.t5 from rfl) (show @Try.t5.zero = some _ from rfl) (by kernel_rfl) (by decide) (by decide) (by kernel_rfl) s x H
@[simp ↓] theorem append142 (s x : D) (H : Heap) : eAppend @Try.prog 142 142 s x H = appK 139 104 s (news @Try.prog H 139 142 x) H := eAppend_of @Try.underlying142 (show @Try.prog.info? 139 = some @Try.t139 from rfl) (show @Try.t139.zero = some _ from rfl) (by kernel_rfl) (by decide) (by decide) (by kernel_rfl) s x H
@[simp ↓] theorem append144 (s x : D) (H : Heap) : eAppend @Try.prog 144 144 s x H = appK 3 8 s (news @Try.prog H 3 144 x) H := eAppend_of @Try.underlying144 (show @Try.prog.info? 3 = some @Try.t3 from rfl) (show @Try.t3.zero = some _ from rfl) (by kernel_rfl) (by decide) (by decide) (by kernel_rfl) s x H
@[simp ↓] theorem append86_9 (s x : D) (H : Heap) : eAppend @Try.prog 86 9 s x H = appK 5 1 s (news @Try.prog H 5 9 x) H := eAppend_of @Try.underlying86 (show @Try.prog.info? 5 = some @Try.t5 from rfl) (show @Try.t5.zero = some _ from rfl) (by kernel_rfl) (by decide) (by decide) (by kernel_rfl) s x H
@[simp ↓] theorem append86_10 (s x : D) (H : Heap) : eAppend @Try.prog 86 10 s x H = appK 5 1 s (news @Try.prog H 5 10 x) H := eAppend_of @Try.underlying86 (show @Try.prog.info? 5 = some @Try.t5 from rfl) (show @Try.t5.zero = some _ from rfl) (by kernel_rfl) (by decide) (by decide) (by kernel_rfl) s x H
@[simp ↓] theorem append86_11 (s x : D) (H : Heap) : eAppend @Try.prog 86 11 s x H = appK 5 1 s (news @Try.prog H 5 11 x) H := eAppend_of @Try.underlying86 (show @Try.prog.info? 5 = some @Try.t5 from rfl) (show @Try.t5.zero = some _ from rfl) (by kernel_rfl) (by decide) (by decide) (by kernel_rfl) s x H
@[simp ↓] theorem make24 (a c : D) (H : Heap) : eMakeSlice @Try.prog 24 a c H = mkK 9 16 (.val (.string ⟨#[]⟩)) a c H := eMake_of @Try.underlying24 (show @Try.prog.info? 9 = some @Try.t9 from rfl) ze9 (by kernel_rfl) (by decide) a c H
@[simp ↓] theorem make86 (a c : D) (H : Heap) : eMakeSlice @Try.prog 86 a c H = mkK 5 1 (.val (.int .u8 0)) a c H := eMake_of @Try.underlying86 (show @Try.prog.info? 5 = some @Try.t5 from rfl) ze5 (by kernel_rfl) (by decide) a c H
@[simp ↓] theorem make142 (a c : D) (H : Heap) : eMakeSlice @Try.prog 142 a c H = mkK 139 104 (.agg [.val (.string ⟨#[]⟩), .val (.string ⟨#[]⟩), .val (.string ⟨#[]⟩), .val (.int .i64 0), .slice 1 0 [], .slice 1 0 []]) a c H := eMake_of @Try.underlying142 (show @Try.prog.info? 139 = some @Try.t139 from rfl) ze139 (by kernel_rfl) (by decide) a c H
@[simp ↓] theorem make144 (a c : D) (H : Heap) : eMakeSlice @Try.prog 144 a c H = mkK 3 8 (.val (.int .i64 0)) a c H := eMake_of @Try.underlying144 (show @Try.prog.info? 3 = some @Try.t3 from rfl) ze3 (by kernel_rfl) (by decide) a c H
@[simp] theorem lenT9 (s : ByteArray) (H : Heap) : eLen @Try.prog 9 (.val (.string s)) H = some (.val (.int .i64 s.data.toList.length)) := by unfold eLen; rw [@Try.underlying9]
@[simp] theorem lenT10 (s : ByteArray) (H : Heap) : eLen @Try.prog 10 (.val (.string s)) H = some (.val (.int .i64 s.data.toList.length)) := by unfold eLen; rw [@Try.underlying10]
@[simp] theorem lenT11 (s : ByteArray) (H : Heap) : eLen @Try.prog 11 (.val (.string s)) H = some (.val (.int .i64 s.data.toList.length)) := by unfold eLen; rw [@Try.underlying11]
@[simp] theorem lenS24 (g e : Nat) (l : List D) (H : Heap) : eLen @Try.prog 24 (.slice g e l) H = some (.val (.int .i64 l.length)) := by unfold eLen; rw [@Try.underlying24]
@[simp] theorem lenR24 (i e o m : Nat) (H : Heap) : eLen @Try.prog 24 (.row i e o m) H = some (.val (.int .i64 m)) := by unfold eLen; rw [@Try.underlying24]
@[simp] theorem lenA24 (i e o m : Nat) (H : Heap) : eLen @Try.prog 24 (.arr i e o m) H = some (.val (.int .i64 m)) := by unfold eLen; rw [@Try.underlying24]
theorem lenG24 {H : Heap} {x : D} {e : Nat} {l : List D} (h : Grow H x e l) (H2 : Heap) : eLen @Try.prog 24 x H2 = some (.val (.int .i64 l.length)) := by rcases h with ⟨rfl, rfl⟩ | ⟨i, _, rfl, _⟩ <;> simp
@[simp] theorem lenY30 (x : D) (H : Heap) : (eLen @Try.prog 30 x H).isSome = (eLen @Try.prog 30 x H).isSome := rfl
@[simp] theorem lenY69 (x : D) (H : Heap) : (eLen @Try.prog 69 x H).isSome = (eLen @Try.prog 69 x H).isSome := rfl
@[simp] theorem lenS86 (g e : Nat) (l : List D) (H : Heap) : eLen @Try.prog 86 (.slice g e l) H = some (.val (.int .i64 l.length)) := by unfold eLen; rw [@Try.underlying86]
@[simp] theorem lenR86 (i e o m : Nat) (H : Heap) : eLen @Try.prog 86 (.row i e o m) H = some (.val (.int .i64 m)) := by unfold eLen; rw [@Try.underlying86]
@[simp] theorem lenA86 (i e o m : Nat) (H : Heap) : eLen @Try.prog 86 (.arr i e o m) H = some (.val (.int .i64 m)) := by unfold eLen; rw [@Try.underlying86]
theorem lenG86 {H : Heap} {x : D} {e : Nat} {l : List D} (h : Grow H x e l) (H2 : Heap) : eLen @Try.prog 86 x H2 = some (.val (.int .i64 l.length)) := by rcases h with ⟨rfl, rfl⟩ | ⟨i, _, rfl, _⟩ <;> simp
@[simp] theorem lenY107 (x : D) (H : Heap) : (eLen @Try.prog 107 x H).isSome = (eLen @Try.prog 107 x H).isSome := rfl
@[simp] theorem lenY108 (x : D) (H : Heap) : (eLen @Try.prog 108 x H).isSome = (eLen @Try.prog 108 x H).isSome := rfl
@[simp] theorem lenY116 (x : D) (H : Heap) : (eLen @Try.prog 116 x H).isSome = (eLen @Try.prog 116 x H).isSome := rfl
@[simp] theorem lenY119 (x : D) (H : Heap) : (eLen @Try.prog 119 x H).isSome = (eLen @Try.prog 119 x H).isSome := rfl
@[simp] theorem lenY136 (x : D) (H : Heap) : (eLen @Try.prog 136 x H).isSome = (eLen @Try.prog 136 x H).isSome := rfl
@[simp] theorem lenS142 (g e : Nat) (l : List D) (H : Heap) : eLen @Try.prog 142 (.slice g e l) H = some (.val (.int .i64 l.length)) := by unfold eLen; rw [@Try.underlying142]
@[simp] theorem lenR142 (i e o m : Nat) (H : Heap) : eLen @Try.prog 142 (.row i e o m) H = some (.val (.int .i64 m)) := by unfold eLen; rw [@Try.underlying142]
@[simp] theorem lenA142 (i e o m : Nat) (H : Heap) : eLen @Try.prog 142 (.arr i e o m) H = some (.val (.int .i64 m)) := by unfold eLen; rw [@Try.underlying142]
theorem lenG142 {H : Heap} {x : D} {e : Nat} {l : List D} (h : Grow H x e l) (H2 : Heap) : eLen @Try.prog 142 x H2 = some (.val (.int .i64 l.length)) := by rcases h with ⟨rfl, rfl⟩ | ⟨i, _, rfl, _⟩ <;> simp
@[simp] theorem lenS144 (g e : Nat) (l : List D) (H : Heap) : eLen @Try.prog 144 (.slice g e l) H = some (.val (.int .i64 l.length)) := by unfold eLen; rw [@Try.underlying144]
@[simp] theorem lenR144 (i e o m : Nat) (H : Heap) : eLen @Try.prog 144 (.row i e o m) H = some (.val (.int .i64 m)) := by unfold eLen; rw [@Try.underlying144]
@[simp] theorem lenA144 (i e o m : Nat) (H : Heap) : eLen @Try.prog 144 (.arr i e o m) H = some (.val (.int .i64 m)) := by unfold eLen; rw [@Try.underlying144]
theorem lenG144 {H : Heap} {x : D} {e : Nat} {l : List D} (h : Grow H x e l) (H2 : Heap) : eLen @Try.prog 144 x H2 = some (.val (.int .i64 l.length)) := by rcases h with ⟨rfl, rfl⟩ | ⟨i, _, rfl, _⟩ <;> simp
@[simp] theorem lenY147 (x : D) (H : Heap) : (eLen @Try.prog 147 x H).isSome = (eLen @Try.prog 147 x H).isSome := rfl
attribute [-simp] eLen
attribute [simp] mkK eBuildSlice Heap.new_get Heap.put_get
theorem mixedO : @Try.prog.follows .mixedOrders = true := by kernel_rfl
end Go.Pv
